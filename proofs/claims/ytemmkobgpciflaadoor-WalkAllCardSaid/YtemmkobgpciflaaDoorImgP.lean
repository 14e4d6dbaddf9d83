/- Images in plain: slots, what is wrong with one, trees of indexes; how a document is loaded. No program. -/
import Derived.Test.YtemmkobgpciflaaDoorTrP
namespace Go.Proofs.YtemmkobgpciflaaDoor
namespace Im
open Ch

/-- A slot. -/
structure Sl where
  g : Nat
  lv : Bool
  k : Int
  n : ByteArray
  al : List Att
  t : ByteArray
  p : Nat
  ks : List Nat

/-- A tree of indexes. -/
inductive LT where
  | mk (i : Nat) (ks : List LT)
def LT.i : LT → Nat | .mk i _ => i
def LT.ks : LT → List LT | .mk _ l => l
theorem LT.ind {M : LT → Prop} (h : ∀ i ks, (∀ x ∈ ks, M x) → M (.mk i ks)) : ∀ t, M t := by
  intro t
  refine LT.rec (motive_1 := M) (motive_2 := fun l => ∀ x ∈ l, M x) ?_ ?_ ?_ t
  · intro i ks ih
    exact h i ks ih
  · intro x hx
    cases hx
  · intro x l h1 h2 y hy
    rcases List.mem_cons.1 hy with rfl | hy
    · exact h1
    · exact h2 y hy
mutual
/-- Indexes in document order. -/
def pre : LT → List Nat
  | .mk i ks => i :: preL ks
def preL : List LT → List Nat
  | [] => []
  | t :: l => pre t ++ preL l
end
theorem preL_append : ∀ (a b : List LT), preL (a ++ b) = preL a ++ preL b
  | [], b => by simp [preL]
  | t :: a, b => by rw [List.cons_append, preL, preL, preL_append a b, List.append_assoc]

def dead1 (g : Nat) : Sl := ⟨g, false, 0, ⟨#[]⟩, [], ⟨#[]⟩, 0, []⟩
/-- A slot in what its kind uses. -/
def tidy (s : Sl) : Sl := if s.lv = true then (if s.k = 2 then { s with n := ⟨#[]⟩, al := [], ks := [] } else { s with t := ⟨#[]⟩ }) else dead1 s.g
/-- Whether a slot can be. -/
def slotB (s : Sl) : Bool := decide (1 ≤ s.g) && (!s.lv || (decide (ownE s.k s.n s.al s.t = 0) && (decide (s.k = 1) || s.ks.isEmpty)))

def handG (g i : Nat) : Nat := g * 4294967296 + (i + 1)
/-- The index of a live handle. -/
def atP (S : List Sl) (h : Nat) : Option Nat :=
  if h % 4294967296 = 0 then none else
  match S[h % 4294967296 - 1]? with
  | none => none
  | some s => if s.lv = true ∧ handG s.g (h % 4294967296 - 1) = h then some (h % 4294967296 - 1) else none
theorem atP_some {S : List Sl} {h i : Nat} (e : atP S h = some i) : ∃ s, S[i]? = some s ∧ s.lv = true ∧ handG s.g i = h := by
  unfold atP at e
  split at e
  · cases e
  · split at e
    · cases e
    · rename_i s hs
      split at e
      · rename_i h1
        have e := Option.some.inj e
        rw [← e]
        exact ⟨s, hs, h1⟩
      · cases e

def parOf (S : List Sl) (i : Nat) : Nat := (S[i]?.map (·.p)).getD 0
def kidsOf (S : List Sl) (i : Nat) : List Nat := (S[i]?.map (·.ks)).getD []

mutual
/-- The nodes that hang under one: fuel is how many levels may still come; those that have been seen; what hangs. -/
def hang (S : List Sl) : Nat → List Nat → Nat → List Nat → Option (List Nat × List LT)
  | _, [], _, seen => some (seen, [])
  | f, h :: r, p, seen =>
    match hang1 S f h p seen with
    | none => none
    | some (s1, t) =>
      match hang S f r p s1 with
      | none => none
      | some (s2, l) => some (s2, t :: l)
termination_by f l => (f, l.length, 0)
/-- One node, and all under it. -/
def hang1 (S : List Sl) : Nat → Nat → Nat → List Nat → Option (List Nat × LT)
  | 0, _, _, _ => none
  | f + 1, h, p, seen =>
    match atP S h with
    | none => none
    | some i =>
      if i ∈ seen ∨ parOf S i ≠ p then none else
      match hang S f (kidsOf S i) h (i :: seen) with
      | none => none
      | some (s1, k) => some (s1, .mk i k)
termination_by f => (f, 0, 1)
end

theorem hang_nil (S : List Sl) (f p : Nat) (seen : List Nat) : hang S f [] p seen = some (seen, []) := by rw [hang]
theorem hang_cons (S : List Sl) (f h : Nat) (r : List Nat) (p : Nat) (seen : List Nat) : hang S f (h :: r) p seen = match hang1 S f h p seen with
    | none => none
    | some (s1, t) => match hang S f r p s1 with
      | none => none
      | some (s2, l) => some (s2, t :: l) := by rw [hang]
theorem hang_append (S : List Sl) (f p : Nat) : ∀ (a b : List Nat) (seen : List Nat), hang S f (a ++ b) p seen = match hang S f a p seen with
    | none => none
    | some (s1, l1) => match hang S f b p s1 with
      | none => none
      | some (s2, l2) => some (s2, l1 ++ l2)
  | [], b, seen => by
    rw [List.nil_append, hang_nil]
    dsimp only
    cases hang S f b p seen with
    | none => rfl
    | some x => rfl
  | h :: r, b, seen => by
    rw [List.cons_append, hang_cons, hang_cons]
    cases hang1 S f h p seen with
    | none => rfl
    | some x =>
      obtain ⟨s1, t⟩ := x
      dsimp only
      rw [hang_append S f p r b s1]
      cases hang S f r p s1 with
      | none => rfl
      | some y =>
        obtain ⟨s2, l⟩ := y
        dsimp only
        cases hang S f b p s2 with
        | none => rfl
        | some z => rfl
/-- Nothing is seen twice. -/
def Sound (S : List Sl) (seen : List Nat) : Prop := seen.Nodup ∧ ∀ i ∈ seen, i < S.length
theorem holes : ∀ (n : Nat) (l : List Nat), l.Nodup → (∀ i ∈ l, i < n) → l.length ≤ n
  | 0, [], _, _ => Nat.le_refl _
  | 0, i :: l, _, h => absurd (h i (by simp)) (by omega)
  | n + 1, l, hn, h => by
    have h1 := holes n (l.erase n) (hn.erase n) (fun i hi => by
      have h2 := (List.Nodup.mem_erase_iff hn).1 hi
      have := h i h2.2
      have := h2.1
      omega)
    have h2 := List.length_erase (a := n) (l := l)
    split at h2 <;> omega
theorem Sound.len {S : List Sl} {seen : List Nat} (h : Sound S seen) : seen.length ≤ S.length := holes _ _ h.1 h.2
theorem hang_inv (S : List Sl) : ∀ (f : Nat), (∀ (l : List Nat) (p : Nat) (seen s' : List Nat) (ts : List LT), Sound S seen → hang S f l p seen = some (s', ts) → Sound S s' ∧ s'.length = seen.length + (preL ts).length) ∧ (∀ (h p : Nat) (seen s' : List Nat) (t : LT), Sound S seen → hang1 S f h p seen = some (s', t) → Sound S s' ∧ s'.length = seen.length + (pre t).length) := by
  intro f
  have list : (∀ (h p : Nat) (seen s' : List Nat) (t : LT), Sound S seen → hang1 S f h p seen = some (s', t) → Sound S s' ∧ s'.length = seen.length + (pre t).length) → ∀ (l : List Nat) (p : Nat) (seen s' : List Nat) (ts : List LT), Sound S seen → hang S f l p seen = some (s', ts) → Sound S s' ∧ s'.length = seen.length + (preL ts).length := by
    intro H l
    induction l with
    | nil =>
      intro p seen s' ts hs e
      rw [hang_nil] at e
      simp only [Option.some.injEq, Prod.mk.injEq] at e
      obtain ⟨rfl, rfl⟩ := e
      exact ⟨hs, by simp [preL]⟩
    | cons h r ih =>
      intro p seen s' ts hs e
      rw [hang_cons] at e
      cases h1 : hang1 S f h p seen with
      | none => rw [h1] at e; cases e
      | some x =>
        obtain ⟨s1, t⟩ := x
        rw [h1] at e
        dsimp only at e
        cases h2 : hang S f r p s1 with
        | none => rw [h2] at e; cases e
        | some y =>
          obtain ⟨s2, l⟩ := y
          rw [h2] at e
          simp only [Option.some.injEq, Prod.mk.injEq] at e
          obtain ⟨rfl, rfl⟩ := e
          obtain ⟨a1, a2⟩ := H h p seen s1 t hs h1
          obtain ⟨b1, b2⟩ := ih p s1 s2 l a1 h2
          exact ⟨b1, by rw [b2, a2, preL, List.length_append]; omega⟩
  induction f with
  | zero =>
    have h1 : ∀ (h p : Nat) (seen s' : List Nat) (t : LT), Sound S seen → hang1 S 0 h p seen = some (s', t) → Sound S s' ∧ s'.length = seen.length + (pre t).length := by
      intro h p seen s' t hs e
      rw [hang1] at e
      cases e
    exact ⟨list h1, h1⟩
  | succ f ih =>
    have listf : ∀ (l : List Nat) (p : Nat) (seen s' : List Nat) (ts : List LT), Sound S seen → hang S f l p seen = some (s', ts) → Sound S s' ∧ s'.length = seen.length + (preL ts).length := by
      refine (ih ?_).1
      intro H l
      induction l with
      | nil =>
        intro p seen s' ts hs e
        rw [hang_nil] at e
        simp only [Option.some.injEq, Prod.mk.injEq] at e
        obtain ⟨rfl, rfl⟩ := e
        exact ⟨hs, by simp [preL]⟩
      | cons h r ih =>
        intro p seen s' ts hs e
        rw [hang_cons] at e
        cases h1 : hang1 S f h p seen with
        | none => rw [h1] at e; cases e
        | some x =>
          obtain ⟨s1, t⟩ := x
          rw [h1] at e
          dsimp only at e
          cases h2 : hang S f r p s1 with
          | none => rw [h2] at e; cases e
          | some y =>
            obtain ⟨s2, l⟩ := y
            rw [h2] at e
            simp only [Option.some.injEq, Prod.mk.injEq] at e
            obtain ⟨rfl, rfl⟩ := e
            obtain ⟨a1, a2⟩ := H h p seen s1 t hs h1
            obtain ⟨b1, b2⟩ := ih p s1 s2 l a1 h2
            exact ⟨b1, by rw [b2, a2, preL, List.length_append]; omega⟩
    have h1 : ∀ (h p : Nat) (seen s' : List Nat) (t : LT), Sound S seen → hang1 S (f + 1) h p seen = some (s', t) → Sound S s' ∧ s'.length = seen.length + (pre t).length := by
      intro h p seen s' t hs e
      rw [hang1] at e
      cases ha : atP S h with
      | none => rw [ha] at e; cases e
      | some i =>
        rw [ha] at e
        dsimp only at e
        split at e
        · cases e
        · rename_i hc
          cases hk : hang S f (kidsOf S i) h (i :: seen) with
          | none => rw [hk] at e; cases e
          | some y =>
            obtain ⟨s1, k⟩ := y
            rw [hk] at e
            simp only [Option.some.injEq, Prod.mk.injEq] at e
            obtain ⟨rfl, rfl⟩ := e
            obtain ⟨s, hsl, _⟩ := atP_some ha
            have hi := (List.getElem?_eq_some_iff.1 hsl).1
            have hs2 : Sound S (i :: seen) := ⟨List.nodup_cons.2 ⟨fun hm => hc (Or.inl hm), hs.1⟩, fun j hj => by
              rcases List.mem_cons.1 hj with rfl | hj
              · exact hi
              · exact hs.2 j hj⟩
            obtain ⟨a1, a2⟩ := listf _ _ _ _ _ hs2 hk
            exact ⟨a1, by rw [a2, pre, List.length_cons, List.length_cons]; omega⟩
    exact ⟨list h1, h1⟩

def lives (S : List Sl) : Nat := (S.filter (·.lv)).length
/-- What is loaded of an image: its slots in what their kinds use, its trees. -/
def load (S : List Sl) (roots : List Nat) : Option (List Sl × List LT) :=
  if 4096 < S.length then none else
  if S.all slotB = false then none else
  match hang (S.map tidy) 64 roots 0 [] with
  | none => none
  | some (seen, l) => if seen.length = lives S then some (S.map tidy, l) else none

mutual
/-- A tree of indexes that stands so in slots. -/
def Stands (S : List Sl) : LT → Nat → Prop
  | .mk i ks, p => ∃ s, S[i]? = some s ∧ s.lv = true ∧ s.p = p ∧ s.ks = ks.map (fun t => handG (S[t.i]?.map (·.g) |>.getD 0) t.i) ∧ StandsL S ks (handG s.g i)
def StandsL (S : List Sl) : List LT → Nat → Prop
  | [], _ => True
  | t :: l, p => Stands S t p ∧ StandsL S l p
end

end Im
end Go.Proofs.YtemmkobgpciflaaDoor
