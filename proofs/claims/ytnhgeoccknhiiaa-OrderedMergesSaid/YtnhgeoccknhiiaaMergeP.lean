/- Merged lists, plainly. -/
import Derived.Test.YtnhgeoccknhiiaaIt
namespace Go.Proofs.Ytnhgeoccknhiiaa
namespace OrdI

/-- No element is less than the one ahead. -/
def Rises (L : List It) : Prop := ∀ (i : Nat) (x y : It), L[i]? = some x → L[i + 1]? = some y → ¬ y.k < x.k

/-- Two lists in one: of those that are one the left list's come first. -/
def merge2 : List It → List It → List It
  | r, [] => r
  | [], l => l
  | a :: r, b :: l => if a.k ≤ b.k then a :: merge2 r (b :: l) else b :: merge2 (a :: r) l
termination_by r l => r.length + l.length

theorem merge2_nil (r : List It) : merge2 r [] = r := by unfold merge2; rfl
theorem merge2_left (l : List It) : merge2 [] l = l := by
  cases l with
  | nil => exact merge2_nil []
  | cons b l => unfold merge2; rfl
theorem merge2_le {a b : It} {r l : List It} (h : a.k ≤ b.k) : merge2 (a :: r) (b :: l) = a :: merge2 r (b :: l) := by
  rw [merge2, if_pos h]
theorem merge2_gt {a b : It} {r l : List It} (h : ¬ a.k ≤ b.k) : merge2 (a :: r) (b :: l) = b :: merge2 (a :: r) l := by
  rw [merge2, if_neg h]
theorem merge2_len (r l : List It) : (merge2 r l).length = r.length + l.length := by
  fun_induction merge2 r l with
  | case1 r => simp
  | case2 l => simp
  | case3 a r b l h ih => simp [ih]; omega
  | case4 a r b l h ih => simp [ih]; omega

def mergeAll (ls : List (List It)) : List It := ls.foldl merge2 []
def total (ls : List (List It)) : Nat := ls.foldl (fun n l => n + l.length) 0
theorem fold_total (ls : List (List It)) : ∀ n : Nat, ls.foldl (fun n l => n + l.length) n = n + total ls := by
  unfold total
  induction ls with
  | nil => intro n; rfl
  | cons l ls ih =>
    intro n
    rw [List.foldl_cons, List.foldl_cons, ih, ih (0 + l.length)]
    omega
theorem total_cons (l : List It) (ls : List (List It)) : total (l :: ls) = l.length + total ls := by
  show List.foldl _ (0 + l.length) ls = _
  rw [fold_total]
  omega
theorem total_append (us bs : List (List It)) : total (us ++ bs) = total us + total bs := by
  induction us with
  | nil => simp [total]
  | cons a us ih => rw [List.cons_append, total_cons, total_cons, ih]; omega
theorem total_take_succ {ls : List (List It)} {i : Nat} {l : List It} (h : ls[i]? = some l) : total (ls.take (i + 1)) = total (ls.take i) + l.length := by
  rw [List.take_add_one, h, total_append]
  simp [total]
theorem total_take_le (ls : List (List It)) (i : Nat) : total (ls.take i) ≤ total ls := by
  have := total_append (ls.take i) (ls.drop i)
  rw [List.take_append_drop] at this
  omega
theorem fold_len (ls : List (List It)) : ∀ r : List It, (ls.foldl merge2 r).length = r.length + total ls := by
  induction ls with
  | nil => intro r; rfl
  | cons l ls ih => intro r; rw [List.foldl_cons, ih, merge2_len, total_cons]; omega
theorem mergeAll_len (ls : List (List It)) : (mergeAll ls).length = total ls := by
  unfold mergeAll
  rw [fold_len]
  simp

/-- What stands first stands first. -/
theorem fold_head {x : It} (ls : List (List It)) : ∀ r : List It, (∀ l ∈ ls, ∀ y t, l = y :: t → x.k ≤ y.k) → ls.foldl merge2 (x :: r) = x :: ls.foldl merge2 r := by
  induction ls with
  | nil => intro r _; rfl
  | cons l ls ih =>
    intro r h
    rw [List.foldl_cons, List.foldl_cons]
    cases l with
    | nil => rw [merge2_nil, merge2_nil]; exact ih r (fun l hl => h l (List.mem_cons_of_mem _ hl))
    | cons y t =>
      rw [merge2_le (h _ List.mem_cons_self y t rfl)]
      exact ih _ (fun l hl => h l (List.mem_cons_of_mem _ hl))
/-- Heads above x stay above x. -/
theorem fold_above {x : It} (ls : List (List It)) : ∀ r : List It, (∀ y t, r = y :: t → x.k < y.k) → (∀ l ∈ ls, ∀ y t, l = y :: t → x.k < y.k) → ∀ y t, ls.foldl merge2 r = y :: t → x.k < y.k := by
  induction ls with
  | nil => intro r hr _ y t h; exact hr y t h
  | cons l ls ih =>
    intro r hr h
    rw [List.foldl_cons]
    refine ih _ ?_ (fun l hl => h l (List.mem_cons_of_mem _ hl))
    intro y t e
    cases l with
    | nil => rw [merge2_nil] at e; exact hr y t e
    | cons b l =>
      have hb := h _ List.mem_cons_self b l rfl
      cases r with
      | nil => rw [merge2_left] at e; cases e; exact hb
      | cons a r =>
        have ha := hr a r rfl
        by_cases hab : a.k ≤ b.k
        · rw [merge2_le hab] at e; cases e; exact ha
        · rw [merge2_gt hab] at e; cases e; exact hb
theorem merge2_take {x : It} {r t : List It} (h : ∀ y s, r = y :: s → x.k < y.k) : merge2 r (x :: t) = x :: merge2 r t := by
  cases r with
  | nil => rw [merge2_left, merge2_left]
  | cons a r => rw [merge2_gt (by have := h a r rfl; omega)]

/-- The first of the least heads is what the merged list begins with. -/
theorem merge_step (us bs : List (List It)) (x : It) (t : List It) (ha : ∀ l ∈ us, ∀ y s, l = y :: s → x.k < y.k) (hb : ∀ l ∈ bs, ∀ y s, l = y :: s → x.k ≤ y.k) :
    mergeAll (us ++ (x :: t) :: bs) = x :: mergeAll (us ++ t :: bs) := by
  unfold mergeAll
  rw [List.foldl_append, List.foldl_append, List.foldl_cons, List.foldl_cons]
  rw [merge2_take (fold_above us [] (fun y s h => by cases h) ha), fold_head bs _ hb]
theorem merge_none (ls : List (List It)) (h : ∀ l ∈ ls, l = []) : mergeAll ls = [] := by
  have : (mergeAll ls).length = 0 := by
    rw [mergeAll_len]
    induction ls with
    | nil => rfl
    | cons l ls ih => rw [total_cons, h l List.mem_cons_self, ih (fun l hl => h l (List.mem_cons_of_mem _ hl))]; rfl
  exact List.eq_nil_of_length_eq_zero this

/-- Those of the first list that the second one has. -/
def bothL : List It → List It → List It
  | [], _ => []
  | x :: a, b => (match b.dropWhile (fun y => decide (y.k < x.k)) with
      | y :: _ => if y.k = x.k then [x] else []
      | [] => []) ++ bothL a (b.dropWhile (fun y => decide (y.k < x.k)))
theorem bothL_len (a : List It) : ∀ b, (bothL a b).length ≤ a.length := by
  induction a with
  | nil => intro b; simp [bothL]
  | cons x a ih =>
    intro b
    rw [bothL, List.length_append, List.length_cons]
    have := ih (b.dropWhile (fun y => decide (y.k < x.k)))
    split
    · split <;> simp <;> omega
    · simp; omega
/-- A step past one that is less. -/
theorem bothL_less {x y : It} {a b : List It} (h : y.k < x.k) : bothL (x :: a) (y :: b) = bothL (x :: a) b := by
  rw [bothL, bothL, List.dropWhile_cons_of_pos (by simp [h])]
theorem bothL_hit {x y : It} {a b : List It} (h : y.k = x.k) : bothL (x :: a) (y :: b) = x :: bothL a (y :: b) := by
  rw [bothL, List.dropWhile_cons_of_neg (by simp [h])]
  simp [h]
theorem bothL_miss {x y : It} {a b : List It} (h : x.k < y.k) : bothL (x :: a) (y :: b) = bothL a (y :: b) := by
  rw [bothL, List.dropWhile_cons_of_neg (by simp; omega)]
  simp only
  rw [if_neg (by omega), List.nil_append]
theorem bothL_end {x : It} {a : List It} : bothL (x :: a) [] = bothL a [] := by
  rw [bothL]
  rfl

/-! ### The program's way: the first of the least heads. -/
def rests (ls : List (List It)) (N : List Nat) : List (List It) := List.zipWith (fun l n => l.drop n) ls N
theorem rests_get {ls : List (List It)} {N : List Nat} {j : Nat} {l : List It} {n : Nat} (h : ls[j]? = some l) (k : N[j]? = some n) : (rests ls N)[j]? = some (l.drop n) := by
  unfold rests
  rw [List.getElem?_zipWith, h, k]
theorem rests_len {ls : List (List It)} {N : List Nat} (h : N.length = ls.length) : (rests ls N).length = ls.length := by
  unfold rests
  rw [List.length_zipWith, h, Nat.min_self]
theorem rests_zero (ls : List (List It)) : rests ls (List.replicate ls.length 0) = ls := by
  unfold rests
  induction ls with
  | nil => rfl
  | cons l ls ih => rw [List.length_cons, List.replicate_succ, List.zipWith_cons_cons, ih, List.drop_zero]
theorem rests_set {ls : List (List It)} {N : List Nat} {b : Nat} {l : List It} {n : Nat} (h : ls[b]? = some l) (k : N[b]? = some n) : rests ls (N.set b (n + 1)) = (rests ls N).set b (l.drop (n + 1)) := by
  unfold rests
  apply List.ext_getElem?
  intro i
  rw [List.getElem?_zipWith, List.getElem?_set, List.getElem?_set, List.getElem?_zipWith]
  by_cases e : b = i
  · subst e
    have h1 := (List.getElem?_eq_some_iff.1 k).1
    have h2 := (List.getElem?_eq_some_iff.1 h).1
    rw [if_pos rfl, if_pos h1, if_pos rfl, if_pos (by rw [List.length_zipWith]; omega), h]
  · rw [if_neg e, if_neg e]

def NoneOf (R : List (List It)) (i : Nat) : Prop := ∀ (j : Nat) (r : List It), R[j]? = some r → j < i → r = []
structure BestOf (R : List (List It)) (i b : Nat) (x : It) (t : List It) : Prop where
  at_ : R[b]? = some (x :: t)
  lt : b < i
  left : ∀ (j : Nat) (y : It) (s : List It), R[j]? = some (y :: s) → j < b → x.k < y.k
  right : ∀ (j : Nat) (y : It) (s : List It), R[j]? = some (y :: s) → b < j → j < i → x.k ≤ y.k
theorem NoneOf.skip {R : List (List It)} {i : Nat} (h : NoneOf R i) (hi : R[i]? = some []) : NoneOf R (i + 1) := by
  intro j r hr hj
  by_cases e : j = i
  · subst e
    rw [hi] at hr
    exact (Option.some.inj hr).symm
  · exact h j r hr (by omega)
theorem NoneOf.first {R : List (List It)} {i : Nat} (h : NoneOf R i) {x : It} {t : List It} (hi : R[i]? = some (x :: t)) : BestOf R (i + 1) i x t :=
  ⟨hi, by omega, fun j y s hr hj => (by have := h j _ hr hj; cases this), fun j y s _ h1 h2 => by omega⟩
theorem BestOf.skip {R : List (List It)} {i b : Nat} {x : It} {t : List It} (h : BestOf R i b x t) (hi : R[i]? = some []) : BestOf R (i + 1) b x t :=
  ⟨h.at_, by have := h.lt; omega, h.left, fun j y s hr h1 h2 => by
    by_cases e : j = i
    · subst e
      rw [hi] at hr
      cases hr
    · exact h.right j y s hr h1 (by omega)⟩
theorem BestOf.keep {R : List (List It)} {i b : Nat} {x y : It} {t s : List It} (h : BestOf R i b x t) (hi : R[i]? = some (y :: s)) (hle : ¬ y.k < x.k) : BestOf R (i + 1) b x t :=
  ⟨h.at_, by have := h.lt; omega, h.left, fun j z s' hr h1 h2 => by
    by_cases e : j = i
    · subst e
      rw [hi] at hr
      cases hr
      omega
    · exact h.right j z s' hr h1 (by omega)⟩
theorem BestOf.new {R : List (List It)} {i b : Nat} {x y : It} {t s : List It} (h : BestOf R i b x t) (hi : R[i]? = some (y :: s)) (hlt : y.k < x.k) : BestOf R (i + 1) i y s :=
  ⟨hi, by omega, fun j z s' hr hj => by
    rcases Nat.lt_trichotomy j b with e | e | e
    · have := h.left j z s' hr e
      omega
    · subst e
      rw [h.at_] at hr
      cases hr
      exact hlt
    · have := h.right j z s' hr e hj
      omega, fun j z s' _ h1 h2 => by omega⟩
theorem split_at {α : Type} {R : List α} {b : Nat} {r : α} (h : R[b]? = some r) : R = R.take b ++ r :: R.drop (b + 1) := by
  obtain ⟨hb, e⟩ := List.getElem?_eq_some_iff.1 h
  rw [← e, ← List.drop_eq_getElem_cons hb, List.take_append_drop]
theorem BestOf.step {R : List (List It)} {b : Nat} {x : It} {t : List It} (h : BestOf R R.length b x t) : mergeAll R = x :: mergeAll (R.set b t) := by
  have hb := (List.getElem?_eq_some_iff.1 h.at_).1
  have e1 := split_at h.at_
  have e2 : R.set b t = R.take b ++ t :: R.drop (b + 1) := by
    apply List.ext_getElem?
    intro i
    rw [List.getElem?_set]
    have hl : (R.take b).length = b := by rw [List.length_take]; omega
    rcases Nat.lt_trichotomy i b with e | e | e
    · rw [if_neg (by omega), List.getElem?_append_left (by omega), List.getElem?_take_of_lt e]
    · subst e
      rw [if_pos rfl, if_pos hb, List.getElem?_append_right (by omega), hl, Nat.sub_self]
      rfl
    · rw [if_neg (by omega), List.getElem?_append_right (by omega), hl, show i - b = (i - b - 1) + 1 by omega, List.getElem?_cons_succ, List.getElem?_drop, show b + 1 + (i - b - 1) = i by omega]
  rw [e2]
  conv => lhs; rw [e1]
  refine merge_step _ _ x t (fun l hl y s e => ?_) (fun l hl y s e => ?_)
  · obtain ⟨j, hj⟩ := List.mem_iff_getElem?.1 hl
    subst e
    have hjb : j < b := by
      have := (List.getElem?_eq_some_iff.1 hj).1
      rw [List.length_take] at this
      omega
    rw [List.getElem?_take_of_lt hjb] at hj
    exact h.left j y s hj hjb
  · obtain ⟨j, hj⟩ := List.mem_iff_getElem?.1 hl
    subst e
    rw [List.getElem?_drop] at hj
    exact h.right _ y s hj (by omega) (List.getElem?_eq_some_iff.1 hj).1
theorem NoneOf.done {R : List (List It)} (h : NoneOf R R.length) : mergeAll R = [] :=
  merge_none R (fun l hl => by
    obtain ⟨j, hj⟩ := List.mem_iff_getElem?.1 hl
    exact h j l hj (List.getElem?_eq_some_iff.1 hj).1)
end OrdI
end Go.Proofs.Ytnhgeoccknhiiaa
