/- Trees in plain, and what is wrong with one: no program, no memory. -/
import Derived.Test.YtemmkobgpciflaaDoorUtf
namespace Go.Proofs.YtemmkobgpciflaaDoor

abbrev Att := ByteArray × ByteArray

/-- A tree: kind, name, attributes, text, children. -/
inductive T where
  | mk (k : Int) (n : ByteArray) (al : List Att) (t : ByteArray) (ks : List T)

namespace T
def kind : T → Int | .mk k _ _ _ _ => k
def name : T → ByteArray | .mk _ n _ _ _ => n
def atts : T → List Att | .mk _ _ a _ _ => a
def text : T → ByteArray | .mk _ _ _ t _ => t
def kids : T → List T | .mk _ _ _ _ l => l

theorem ind {M : T → Prop} (h : ∀ k n al t ks, (∀ x ∈ ks, M x) → M (.mk k n al t ks)) : ∀ t, M t := by
  intro t
  refine T.rec (motive_1 := M) (motive_2 := fun l => ∀ x ∈ l, M x) ?_ ?_ ?_ t
  · intro k n al t ks ih
    exact h k n al t ks ih
  · intro x hx
    cases hx
  · intro x l h1 h2 y hy
    rcases List.mem_cons.1 hy with rfl | hy
    · exact h1
    · exact h2 y hy

mutual
/-- How many nodes; an element's children alone count. -/
def size : T → Nat
  | .mk k _ _ _ ks => if k = 1 then sizeL ks + 1 else 1
def sizeL : List T → Nat
  | [] => 0
  | t :: l => size t + sizeL l
end
mutual
def height : T → Nat
  | .mk k _ _ _ ks => if k = 1 then heightL ks + 1 else 1
def heightL : List T → Nat
  | [] => 0
  | t :: l => max (height t) (heightL l)
end

theorem sizeL_append : ∀ (a b : List T), sizeL (a ++ b) = sizeL a + sizeL b
  | [], b => by simp [sizeL]
  | t :: a, b => by simp only [List.cons_append, sizeL, sizeL_append a b]; omega
theorem heightL_append : ∀ (a b : List T), heightL (a ++ b) = max (heightL a) (heightL b)
  | [], b => by simp [heightL]
  | t :: a, b => by simp only [List.cons_append, heightL, heightL_append a b]; omega
theorem size_pos (t : T) : 1 ≤ size t := by
  cases t
  unfold size
  split <;> omega
theorem height_pos (t : T) : 1 ≤ height t := by
  cases t
  unfold height
  split <;> omega
end T

namespace Ch
/-- a <= b of texts, byte by byte, as the walk spells it. -/
def leB (a b : ByteArray) : Bool := Op.bytesLess a.toList b.toList || a.toList == b.toList

def stale (p : Option ByteArray) (x : ByteArray) : Bool := match p with | none => false | some q => leB x q
/-- What is wrong with attributes behind one of that name. -/
def attrsGo : Option ByteArray → List Att → Int
  | _, [] => 0
  | p, a :: l => if nameB a.1 = false then 6 else if stale p a.1 = true then 6 else if textE a.2 ≠ 0 then textE a.2 else attrsGo (some a.1) l
def attrsE (l : List Att) : Int := if 32 < l.length then 2 else attrsGo none l
def prev (l : List Att) : Nat → Option ByteArray
  | 0 => none
  | i + 1 => (l[i]?).map (·.1)

theorem drop_at {α : Type} {l : List α} {i : Nat} {a : α} (h : l[i]? = some a) : l.drop i = a :: l.drop (i + 1) := by
  have hi := (List.getElem?_eq_some_iff.1 h).1
  rw [List.drop_eq_getElem_cons hi]
  congr 1
  rw [List.getElem?_eq_getElem hi] at h
  exact Option.some.inj h
theorem take_at {α : Type} {l : List α} {i : Nat} {a : α} (h : l[i]? = some a) : l.take (i + 1) = l.take i ++ [a] := by
  rw [List.take_add_one, h]
  rfl

section
variable {l : List Att} {i : Nat} {a : Att}
theorem attrs_end (h : ¬ i < l.length) (p : Option ByteArray) : attrsGo p (l.drop i) = 0 := by
  rw [List.drop_eq_nil_of_le (by omega)]
  rfl
theorem attrs_name (h : l[i]? = some a) (hn : nameB a.1 = false) (p : Option ByteArray) : attrsGo p (l.drop i) = 6 := by
  rw [drop_at h, attrsGo, if_pos hn]
theorem attrs_rise {p : Option ByteArray} (h : l[i]? = some a) (hn : nameB a.1 = true) (hq : stale p a.1 = true) : attrsGo p (l.drop i) = 6 := by
  rw [drop_at h, attrsGo, if_neg (by simp [hn]), if_pos hq]
theorem attrs_text (h : l[i]? = some a) (hn : nameB a.1 = true) {p : Option ByteArray} (hp : stale p a.1 = false) (ht : textE a.2 ≠ 0) : attrsGo p (l.drop i) = textE a.2 := by
  rw [drop_at h, attrsGo, if_neg (by simp [hn]), if_neg (by simp [hp]), if_pos ht]
theorem attrs_on (h : l[i]? = some a) (hn : nameB a.1 = true) {p : Option ByteArray} (hp : stale p a.1 = false) (ht : textE a.2 = 0) : attrsGo p (l.drop i) = attrsGo (prev l (i + 1)) (l.drop (i + 1)) := by
  rw [drop_at h, attrsGo, if_neg (by simp [hn]), if_neg (by simp [hp]), if_neg (by simp [ht])]
  have e : prev l (i + 1) = some a.1 := by simp [prev, h]
  rw [e]
end

/-- What is wrong with a node itself. -/
def ownE (k : Int) (n : ByteArray) (al : List Att) (t : ByteArray) : Int := if k = 1 then (if nameB n = true then attrsE al else 6) else if k = 2 then textE t else 1

open T in
mutual
/-- What is wrong with a tree that lies so deep, so many nodes ahead. -/
def chk : T → Nat → Nat → Int
  | .mk k n al t ks, deep, m => if 64 < deep ∨ 4096 ≤ m then 2 else if ownE k n al t ≠ 0 then ownE k n al t else if k = 1 then chkL ks (deep + 1) (m + 1) else 0
def chkL : List T → Nat → Nat → Int
  | [], _, _ => 0
  | t :: l, deep, m => if chk t deep m ≠ 0 then chk t deep m else chkL l deep (m + T.size t)
end

theorem chkL_at {l : List T} {i : Nat} {t : T} (h : l[i]? = some t) (deep m : Nat) : chkL (l.drop i) deep m = if chk t deep m ≠ 0 then chk t deep m else chkL (l.drop (i + 1)) deep (m + T.size t) := by
  rw [drop_at h, chkL]
theorem chkL_end {l : List T} {i : Nat} (h : ¬ i < l.length) (deep m : Nat) : chkL (l.drop i) deep m = 0 := by
  rw [List.drop_eq_nil_of_le (by omega)]
  rfl
theorem sizeL_at {l : List T} {i : Nat} {t : T} (h : l[i]? = some t) : T.sizeL (l.take (i + 1)) = T.sizeL (l.take i) + T.size t := by
  rw [take_at h, T.sizeL_append]
  simp [T.sizeL]
theorem heightL_at {l : List T} {i : Nat} {t : T} (h : l[i]? = some t) : T.heightL (l.take (i + 1)) = max (T.heightL (l.take i)) (T.height t) := by
  rw [take_at h, T.heightL_append]
  simp [T.heightL]

theorem own_kind {k : Int} {n : ByteArray} {al : List Att} {t : ByteArray} (h : ownE k n al t = 0) : k = 1 ∨ k = 2 := by
  unfold ownE at h
  split at h
  · left; assumption
  · split at h
    · right; assumption
    · cases h

/-- A tree that can be is no greater, nor deeper, than may be. -/
theorem chk_size : ∀ t deep m, chk t deep m = 0 → m + T.size t ≤ 4096 ∧ deep + T.height t ≤ 65 := by
  refine T.ind ?_
  intro k n al t ks ih deep m h
  rw [chk] at h
  split at h
  · cases h
  · rename_i h1
    split at h
    · rename_i h2
      exact absurd h h2
    · rw [T.size, T.height]
      split at h
      · rename_i h3
        rw [if_pos h3, if_pos h3]
        have key : ∀ (l : List T), (∀ x ∈ l, x ∈ ks) → ∀ m', m' ≤ 4096 → chkL l (deep + 1) m' = 0 → m' + T.sizeL l ≤ 4096 ∧ deep + 1 + T.heightL l ≤ 65 := by
          intro l
          induction l with
          | nil => intro _ m' hm _; simp [T.sizeL, T.heightL]; omega
          | cons x l ihl =>
            intro hl m' hm h
            rw [chkL] at h
            split at h
            · rename_i h4
              exact absurd h h4
            · rename_i h4
              obtain ⟨a, b⟩ := ih x (hl x (by simp)) (deep + 1) m' (by simpa using h4)
              obtain ⟨c, d⟩ := ihl (fun y hy => hl y (by simp [hy])) (m' + T.size x) a h
              rw [T.sizeL, T.heightL]
              omega
        obtain ⟨a, b⟩ := key ks (fun _ h => h) (m + 1) (by omega) h
        omega
      · rename_i h3
        rw [if_neg h3, if_neg h3]
        omega
end Ch
end Go.Proofs.YtemmkobgpciflaaDoor
