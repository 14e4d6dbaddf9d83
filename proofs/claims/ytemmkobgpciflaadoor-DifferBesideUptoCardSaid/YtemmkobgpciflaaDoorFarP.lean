/- What distances hang on: nodes that read, nodes that can be. -/
import Derived.Test.YtemmkobgpciflaaDoorMemo
namespace Go.Proofs.YtemmkobgpciflaaDoor
open Go.RowKit
open Ch
namespace Df

/-- A node that can be. -/
def Fine (A : List Nd) : Prop := ∀ x ∈ A, (x.1.kind = 1 ∨ x.1.kind = 2) ∧ Fits x.1

theorem post_fine : ∀ t deep m l, chk t deep m = 0 → Fits t → Fine l → Fine (postT t l) := by
  refine T.ind ?_
  intro k n al t ks ih deep m l h hF hl
  rw [chk] at h
  split at h
  · cases h
  · split at h
    · rename_i h2
      exact absurd h h2
    · rename_i h2
      have hk := own_kind (by simpa using h2)
      rw [postT]
      have key : ∀ (r : List T), (∀ x ∈ r, x ∈ ks) → ∀ m' l, chkL r (deep + 1) m' = 0 → Fine l → Fine (postL r l) := by
        intro r
        induction r with
        | nil => intro _ m' l _ hl; rw [postL]; exact hl
        | cons x r ihr =>
          intro hr m' l h hl
          rw [chkL] at h
          split at h
          · rename_i h4
            exact absurd h h4
          · rename_i h4
            rw [postL]
            exact ihr (fun y hy => hr y (by simp [hy])) (m' + T.size x) _ h (ih x (hr x (by simp)) (deep + 1) m' l (by simpa using h4) (hF.kid x (hr x (by simp))) hl)
      have h1 : Fine (if k = 1 then postL ks l else l) := by
        split
        · rename_i hk1
          rw [if_pos hk1] at h
          exact key ks (fun _ h => h) _ l h hl
        · exact hl
      intro x hx
      rcases List.mem_append.1 hx with hx | hx
      · exact h1 x hx
      · simp at hx
        subst hx
        exact ⟨hk, hF⟩
theorem postL_fine : ∀ (f : List T) (l : List Nd), (∀ t ∈ f, chk t 1 0 = 0) → (∀ t ∈ f, Fits t) → Fine l → Fine (postL f l)
  | [], l, _, _, hl => by rw [postL]; exact hl
  | t :: f, l, h, hF, hl => by
    rw [postL]
    exact postL_fine f _ (fun x hx => h x (by simp [hx])) (fun x hx => hF x (by simp [hx])) (post_fine t 1 0 l (h t (by simp)) (hF t (by simp)) hl)
theorem Fine.nil : Fine [] := fun x h => by cases h
theorem Fine.get {A : List Nd} (h : Fine A) {p : Nat} {x : Nd} (hx : A[p]? = some x) : (x.1.kind = 1 ∨ x.1.kind = 2) ∧ Fits x.1 := h x (List.mem_of_getElem? hx)

/-- Nodes that read, their blocks of P. -/
def NodesRd (w : World) (P : Nat → Prop) (A : List Nd) (v : Value) : Prop := ∃ xs, Rd w v A.length 6 xs ∧ NodesAt w P A xs ∧ ∀ g, v.ownBlock = some g → P g
theorem NodesRd.keep {w w' : World} {P : Nat → Prop} {A : List Nd} {v : Value} (h : NodesRd w P A v) {F : Nat → Prop} (hU : Upd w w' F) (hF : ∀ g, P g → ¬ F g) : NodesRd w' P A v := by
  obtain ⟨xs, h1, h2, h3⟩ := h
  exact ⟨xs, h1.keep hU (fun g hg => hF g (h3 g hg)), h2.keep hU hF, h3⟩
theorem NodesRd.node {w : World} {P : Nat → Prop} {A : List Nd} {a : Option Addr} {m c : Nat} (h : NodesRd w P A (.slice a m c)) {p : Nat} {x : Nd} (hx : A[p]? = some x) :
    ∃ g off k n aa ca t ak ck, a = some ⟨g, off, none⟩ ∧ m ≤ c ∧ P g ∧ w.cell? ⟨g, off + p * 6, none⟩ = some (.int .i64 k) ∧ w.cell? ⟨g, off + p * 6 + 1, none⟩ = some (.string n) ∧ w.cell? ⟨g, off + p * 6 + 2, none⟩ = some (.slice aa x.1.atts.length ca) ∧
      w.cell? ⟨g, off + p * 6 + 3, none⟩ = some (.string t) ∧ w.cell? ⟨g, off + p * 6 + 4, none⟩ = some (.slice ak x.1.kids.length ck) ∧ w.cell? ⟨g, off + p * 6 + 5, none⟩ = some (.int .i64 (x.2 : Nat)) ∧ TreeAt w P x.1 [.int .i64 k, .string n, .slice aa x.1.atts.length ca, .string t, .slice ak x.1.kids.length ck] := by
  obtain ⟨xs, hR, hN, hP⟩ := h
  obtain ⟨c5, h1, h2, h3⟩ := hN.get hx
  obtain ⟨y, f⟩ := x
  cases y with
  | mk k n al t ks =>
  obtain ⟨aa, ca, ak, ck, ys, rfl, _⟩ := TreeAt.parts h1
  have hi := (List.getElem?_eq_some_iff.1 hx).1
  obtain ⟨hl, a', c', e, hc, hn, h0 | ⟨g, off, rfl, hr⟩⟩ := hR
  · omega
  · simp only [Value.slice.injEq] at e
    obtain ⟨rfl, rfl, rfl⟩ := e
    refine ⟨g, off, k, n, aa, ca, t, ak, ck, rfl, hc, hP g rfl, hr (p * 6) _ (h2 0 (by omega)), ?_, ?_, ?_, ?_, ?_, h1⟩
    · rw [Nat.add_assoc]; exact hr _ _ (h2 1 (by omega))
    · rw [Nat.add_assoc]; exact hr _ _ (h2 2 (by omega))
    · rw [Nat.add_assoc]; exact hr _ _ (h2 3 (by omega))
    · rw [Nat.add_assoc]; exact hr _ _ (h2 4 (by omega))
    · rw [Nat.add_assoc]; exact hr _ _ h3

end Df
end Go.Proofs.YtemmkobgpciflaaDoor
