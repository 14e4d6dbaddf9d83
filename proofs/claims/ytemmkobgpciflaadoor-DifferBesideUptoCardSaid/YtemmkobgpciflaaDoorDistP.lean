/- Distances of forests, in plain: nodes as they end, and what becomes of the last ones. No program, no memory. -/
import Derived.Test.YtemmkobgpciflaaDoorTrP
namespace Go.Proofs.YtemmkobgpciflaaDoor
namespace Df

/-- A node as it ends: the tree, and the place of the first one that ends within it. -/
abbrev Nd := T × Nat

mutual
def postT : T → List Nd → List Nd
  | .mk k n al t ks, l => (if k = 1 then postL ks l else l) ++ [(.mk k n al t ks, l.length)]
def postL : List T → List Nd → List Nd
  | [], l => l
  | t :: r, l => postL r (postT t l)
end

theorem postT_eq (t : T) (l : List Nd) : postT t l = (if t.kind = 1 then postL t.kids l else l) ++ [(t, l.length)] := by
  cases t
  rw [postT]
  rfl

theorem post_size : (∀ t l, (postT t l).length = l.length + T.size t) := by
  refine T.ind ?_
  intro k n al t ks ih l
  rw [postT, T.size]
  have key : ∀ (r : List T), (∀ x ∈ r, x ∈ ks) → ∀ l, (postL r l).length = l.length + T.sizeL r := by
    intro r
    induction r with
    | nil => intro _ l; simp [postL, T.sizeL]
    | cons x r ihr =>
      intro hr l
      rw [postL, T.sizeL, ihr (fun y hy => hr y (by simp [hy])), ih x (hr x (by simp))]
      omega
  split
  · rw [List.length_append, key ks (fun _ h => h)]
    simp; omega
  · simp
theorem postL_size : ∀ (r : List T) (l : List Nd), (postL r l).length = l.length + T.sizeL r
  | [], l => by simp [postL, T.sizeL]
  | x :: r, l => by rw [postL, T.sizeL, postL_size r, post_size]; omega

/-- Nodes whose own parts lie ahead of them, one within another. -/
def Good (A : List Nd) : Prop := ∀ (p : Nat) (x : Nd), A[p]? = some x → x.2 ≤ p ∧ ∀ (q : Nat) (y : Nd), A[q]? = some y → x.2 ≤ q → q ≤ p → x.2 ≤ y.2

theorem Good.nil : Good [] := fun p x h => by simp at h
/-- A node behind others whose last ones, from a place on, begin no earlier. -/
theorem Good.snoc {A : List Nd} (h : Good A) {t : T} {f : Nat} (hf : f ≤ A.length) (hq : ∀ (q : Nat) (y : Nd), A[q]? = some y → f ≤ q → f ≤ y.2) : Good (A ++ [(t, f)]) := by
  intro p x hx
  have hp := (List.getElem?_eq_some_iff.1 hx).1
  rw [List.length_append, List.length_singleton] at hp
  by_cases e : p < A.length
  · rw [List.getElem?_append_left e] at hx
    obtain ⟨h1, h2⟩ := h p x hx
    refine ⟨h1, fun q y hy a b => ?_⟩
    rw [List.getElem?_append_left (by omega)] at hy
    exact h2 q y hy a b
  · obtain rfl : p = A.length := by omega
    simp at hx
    subst hx
    refine ⟨hf, fun q y hy a b => ?_⟩
    by_cases e : q < A.length
    · rw [List.getElem?_append_left e] at hy
      exact hq q y hy a
    · obtain rfl : q = A.length := by omega
      simp at hy
      subst hy
      exact Nat.le_refl _

/-- What is put behind a list keeps it, and begins no earlier than it ends. -/
def Ext (l l' : List Nd) : Prop := Good l' ∧ (∃ m, l' = l ++ m) ∧ ∀ (q : Nat) (y : Nd), l'[q]? = some y → l.length ≤ q → l.length ≤ y.2
theorem Ext.trans {a b c : List Nd} (h : Ext a b) (k : Ext b c) : Ext a c := by
  obtain ⟨_, ⟨m, rfl⟩, h3⟩ := h
  obtain ⟨k1, ⟨n, rfl⟩, k3⟩ := k
  refine ⟨k1, ⟨m ++ n, by rw [List.append_assoc]⟩, fun q y hy hq => ?_⟩
  by_cases e : (a ++ m).length ≤ q
  · have := k3 q y hy e
    rw [List.length_append] at this
    omega
  · rw [List.getElem?_append_left (by omega)] at hy
    exact h3 q y hy hq
theorem Ext.refl {a : List Nd} (h : Good a) : Ext a a := ⟨h, ⟨[], by simp⟩, fun q y hy hq => by
  have := (List.getElem?_eq_some_iff.1 hy).1
  omega⟩

theorem post_ext : ∀ t l, Good l → Ext l (postT t l) := by
  refine T.ind ?_
  intro k n al t ks ih l hl
  rw [postT]
  have key : ∀ (r : List T), (∀ x ∈ r, x ∈ ks) → ∀ l, Good l → Ext l (postL r l) := by
    intro r
    induction r with
    | nil => intro _ l hl; rw [postL]; exact Ext.refl hl
    | cons x r ihr =>
      intro hr l hl
      rw [postL]
      have h1 := ih x (hr x (by simp)) l hl
      exact h1.trans (ihr (fun y hy => hr y (by simp [hy])) _ h1.1)
  have h1 : Ext l (if k = 1 then postL ks l else l) := by
    split
    · exact key ks (fun _ h => h) l hl
    · exact Ext.refl hl
  generalize (if k = 1 then postL ks l else l) = l' at h1
  obtain ⟨g, ⟨m, rfl⟩, h3⟩ := h1
  refine ⟨g.snoc (by rw [List.length_append]; omega) h3, ⟨m ++ [_], by rw [List.append_assoc]⟩, fun q y hy hq => ?_⟩
  by_cases e : q < (l ++ m).length
  · rw [List.getElem?_append_left e] at hy
    exact h3 q y hy hq
  · have := (List.getElem?_eq_some_iff.1 hy).1
    obtain rfl : q = (l ++ m).length := by
      rw [List.length_append, List.length_singleton] at this
      omega
    simp at hy
    subst hy
    exact Nat.le_refl _
theorem postL_ext : ∀ (r : List T) (l : List Nd), Good l → Ext l (postL r l)
  | [], l, h => by rw [postL]; exact Ext.refl h
  | x :: r, l, h => by
    rw [postL]
    have h1 := post_ext x l h
    exact h1.trans (postL_ext r _ h1.1)

/-- Whether two nodes are the same within a forest. -/
def oneB (a b : T) : Bool := decide (a.kind = b.kind) && (if a.kind = 1 then a.name == b.name && a.atts == b.atts else a.text == b.text)
def turnN (a b : T) : Nat := if oneB a b then 0 else 1

def at_ (A : List Nd) (m : Nat) : Nd := A.getD (m - 1) (.mk 0 ⟨#[]⟩ [] ⟨#[]⟩ [], 0)

/-- The distance of the nodes i.. ahead of m, and k.. ahead of n. -/
def far (A B : List Nd) (i m k n : Nat) : Nat :=
  if h : i ≥ m ∨ k ≥ n then (m - i) + (n - k)
  else min (min (far A B i (m - 1) k n) (far A B i m k (n - 1)) + 1)
    (far A B i (min (at_ A m).2 (m - 1)) k (min (at_ B n).2 (n - 1)) + far A B (min (at_ A m).2 (m - 1)) (m - 1) (min (at_ B n).2 (n - 1)) (n - 1) + turnN (at_ A m).1 (at_ B n).1)
termination_by m + n
decreasing_by all_goals omega

/-- The nodes of a part begin no earlier than it. -/
def Part (A : List Nd) (i m : Nat) : Prop := i ≤ m ∧ m ≤ A.length ∧ ∀ (q : Nat) (y : Nd), A[q]? = some y → i ≤ q → q < m → i ≤ y.2

theorem Part.whole (A : List Nd) : Part A 0 A.length := ⟨Nat.zero_le _, Nat.le_refl _, fun _ _ _ _ _ => Nat.zero_le _⟩
theorem Part.less {A : List Nd} {i m : Nat} (h : Part A i m) (hi : i < m) : Part A i (m - 1) := ⟨by omega, by have := h.2.1; omega, fun q y hy a b => h.2.2 q y hy a (by omega)⟩
theorem at_get {A : List Nd} {m : Nat} (h : 0 < m) (hm : m ≤ A.length) : A[m - 1]? = some (at_ A m) := by
  unfold at_
  rw [List.getD, List.getElem?_eq_getElem (by omega)]
  rfl
theorem Part.first {A : List Nd} (g : Good A) {i m : Nat} (h : Part A i m) (hi : i < m) : i ≤ (at_ A m).2 ∧ (at_ A m).2 ≤ m - 1 ∧ Part A i (at_ A m).2 ∧ Part A (at_ A m).2 (m - 1) := by
  have hx := at_get (A := A) (m := m) (by omega) h.2.1
  obtain ⟨g1, g2⟩ := g _ _ hx
  have h1 := h.2.2 _ _ hx (by omega) (by omega)
  have := h.2.1
  exact ⟨h1, g1, ⟨h1, by omega, fun q y hy a b => h.2.2 q y hy a (by omega)⟩, ⟨g1, by omega, fun q y hy a b => g2 q y hy a (by omega)⟩⟩

theorem far_end (A B : List Nd) {i m k n : Nat} (h : i ≥ m ∨ k ≥ n) : far A B i m k n = (m - i) + (n - k) := by rw [far, dif_pos h]
theorem far_on {A B : List Nd} (ga : Good A) (gb : Good B) {i m k n : Nat} (ha : Part A i m) (hb : Part B k n) (h1 : i < m) (h2 : k < n) :
    far A B i m k n = min (min (far A B i (m - 1) k n) (far A B i m k (n - 1)) + 1) (far A B i (at_ A m).2 k (at_ B n).2 + far A B (at_ A m).2 (m - 1) (at_ B n).2 (n - 1) + turnN (at_ A m).1 (at_ B n).1) := by
  obtain ⟨_, a2, _⟩ := ha.first ga h1
  obtain ⟨_, b2, _⟩ := hb.first gb h2
  rw [far, dif_neg (by omega), Nat.min_eq_left a2, Nat.min_eq_left b2]
theorem far_le (A B : List Nd) : ∀ (s i m k n : Nat), m + n ≤ s → far A B i m k n ≤ m + n
  | 0, i, m, k, n, h => by rw [far_end A B (by omega)]; omega
  | s + 1, i, m, k, n, h => by
    by_cases hc : i ≥ m ∨ k ≥ n
    · rw [far_end A B hc]; omega
    · rw [far, dif_neg hc]
      have := far_le A B s i (m - 1) k n (by omega)
      omega

/-- The distance of two forests that can be, of not too many nodes. -/
def distN (f g : List T) : Nat := far (postL f []) (postL g []) 0 (postL f []).length 0 (postL g []).length

end Df

namespace Ch
/-- What is wrong with a forest. -/
def canGo : List T → Nat → Int
  | [], n => if 4096 < n then 2 else 0
  | t :: l, n => if chk t 1 0 ≠ 0 then chk t 1 0 else canGo l (n + T.size t)
def canE (f : List T) : Int := canGo f 0
theorem canGo_over : ∀ (f : List T) (n m : Nat), 4096 < n → 4096 < m → canGo f n = canGo f m
  | [], n, m, h1, h2 => by rw [canGo, canGo, if_pos h1, if_pos h2]
  | t :: l, n, m, h1, h2 => by rw [canGo, canGo, canGo_over l (n + T.size t) (m + T.size t) (by omega) (by omega)]
theorem canGo_at {l : List T} {i : Nat} {t : T} (h : l[i]? = some t) (n : Nat) : canGo (l.drop i) n = if chk t 1 0 ≠ 0 then chk t 1 0 else canGo (l.drop (i + 1)) (n + T.size t) := by
  rw [drop_at h, canGo]
theorem canGo_end {l : List T} {i : Nat} (h : ¬ i < l.length) (n : Nat) : canGo (l.drop i) n = if 4096 < n then 2 else 0 := by
  rw [List.drop_eq_nil_of_le (by omega), canGo]
theorem canGo_ok : ∀ (f : List T) (n : Nat), canGo f n = 0 → n + T.sizeL f ≤ 4096 ∧ ∀ t ∈ f, chk t 1 0 = 0
  | [], n, h => by
    rw [canGo] at h
    split at h
    · cases h
    · simp [T.sizeL]; omega
  | t :: l, n, h => by
    rw [canGo] at h
    split at h
    · rename_i h1
      exact absurd h h1
    · rename_i h1
      obtain ⟨a, b⟩ := canGo_ok l _ h
      rw [T.sizeL]
      refine ⟨by omega, fun x hx => ?_⟩
      rcases List.mem_cons.1 hx with rfl | hx
      · simpa using h1
      · exact b x hx
end Ch
end Go.Proofs.YtemmkobgpciflaaDoor
