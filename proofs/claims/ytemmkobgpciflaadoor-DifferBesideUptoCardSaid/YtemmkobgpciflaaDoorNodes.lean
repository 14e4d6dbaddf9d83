/- Nodes as they end, in memory: six cells each. -/
import Derived.Test.YtemmkobgpciflaaDoorCopyF
namespace Go.Proofs.YtemmkobgpciflaaDoor
open Go.RowKit
open Ch
namespace Df

theorem postL_append : ∀ (a b : List T) (l : List Nd), postL (a ++ b) l = postL b (postL a l)
  | [], b, l => by rw [List.nil_append, postL]
  | x :: a, b, l => by rw [List.cons_append, postL, postL, postL_append a b]
theorem postL_at {f : List T} {i : Nat} {x : T} (h : f[i]? = some x) (l : List Nd) : postL (f.take (i + 1)) l = postT x (postL (f.take i) l) := by
  rw [take_at h, postL_append, postL, postL]

def NodesAt (w : World) (P : Nat → Prop) : List Nd → List Value → Prop
  | [], xs => xs = []
  | x :: l, xs => ∃ c d, xs = c ++ Value.int .i64 (x.2 : Nat) :: d ∧ TreeAt w P x.1 c ∧ NodesAt w P l d

theorem TreeAt.len5 {w : World} {P : Nat → Prop} {t : T} {c : List Value} (h : TreeAt w P t c) : c.length = 5 := TreeIs.len h
theorem NodesAt.len {w : World} {P : Nat → Prop} : ∀ {l : List Nd} {xs : List Value}, NodesAt w P l xs → xs.length = l.length * 6
  | [], xs, h => by have : xs = [] := h; subst this; rfl
  | x :: l, xs, h => by
    obtain ⟨c, d, rfl, h1, h2⟩ := h
    rw [List.length_append, List.length_cons, TreeAt.len5 h1, h2.len, List.length_cons]
    omega
theorem NodesAt.get {w : World} {P : Nat → Prop} : ∀ {l : List Nd} {xs : List Value} {i : Nat} {x : Nd}, NodesAt w P l xs → l[i]? = some x → ∃ c, TreeAt w P x.1 c ∧ (∀ j, j < 5 → xs[i * 6 + j]? = c[j]?) ∧ xs[i * 6 + 5]? = some (.int .i64 (x.2 : Nat))
  | [], _, _, _, _, h => by simp at h
  | y :: l, xs, 0, x, h, hx => by
    obtain ⟨c, d, rfl, h1, h2⟩ := h
    simp at hx
    subst hx
    have := TreeAt.len5 h1
    refine ⟨c, h1, fun j hj => ?_, ?_⟩
    · rw [List.getElem?_append_left (by omega)]; simp
    · rw [List.getElem?_append_right (by omega), this]; simp
  | y :: l, xs, i + 1, x, h, hx => by
    obtain ⟨c, d, rfl, h1, h2⟩ := h
    obtain ⟨c', h3, h4, h5⟩ := h2.get (i := i) (by simpa using hx)
    have := TreeAt.len5 h1
    refine ⟨c', h3, fun j hj => ?_, ?_⟩
    · rw [List.getElem?_append_right (by omega), this, show (i + 1) * 6 + j - 5 = (i * 6 + j) + 1 by omega, List.getElem?_cons_succ]
      exact h4 j hj
    · rw [List.getElem?_append_right (by omega), this, show (i + 1) * 6 + 5 - 5 = (i * 6 + 5) + 1 by omega, List.getElem?_cons_succ]
      exact h5
theorem NodesAt.snoc {w : World} {P : Nat → Prop} : ∀ {l : List Nd} {xs : List Value} {x : Nd} {c : List Value}, NodesAt w P l xs → TreeAt w P x.1 c → NodesAt w P (l ++ [x]) (xs ++ (c ++ [.int .i64 (x.2 : Nat)]))
  | [], xs, x, c, h, hc => by
    have : xs = [] := h
    subst this
    exact ⟨c, [], rfl, hc, rfl⟩
  | y :: l, xs, x, c, h, hc => by
    obtain ⟨a, d, rfl, h1, h2⟩ := h
    exact ⟨a, d ++ (c ++ [.int .i64 (x.2 : Nat)]), by simp, h1, h2.snoc hc⟩
theorem NodesAt.keep {w w' : World} {P : Nat → Prop} {F : Nat → Prop} (hU : Upd w w' F) (hF : ∀ g, P g → ¬ F g) : ∀ {l : List Nd} {xs : List Value}, NodesAt w P l xs → NodesAt w' P l xs
  | [], _, h => h
  | y :: l, xs, h => by
    obtain ⟨a, d, e, h1, h2⟩ := h
    exact ⟨a, d, e, h1.keep hU hF, NodesAt.keep hU hF h2⟩
theorem NodesAt.one {w : World} {P : Nat → Prop} : ∀ {l : List Nd} {xs : List Value}, NodesAt w P l xs → True := fun _ => trivial

theorem elemNode : Elem Tryd.prog 139 6 96 (.agg #[.int .i64 0, .string ⟨#[]⟩, .slice none 0 0, .string ⟨#[]⟩, .slice none 0 0, .int .i64 0]) := Elem.mk' (by kernel_rfl) rfl (by omega) (by omega)

/-- Nodes that a call has made. -/
structure NodesOwn (w : World) (B : Nat) (l : List Nd) (v : Value) : Prop where
  own : ∃ xs, w.ownsRow 0 139 6 v l.length xs ∧ NodesAt w (· < B) l xs
  low : ∀ g, v.ownBlock = some g → B ≤ g
theorem NodesOwn.nil (w : World) (B : Nat) : NodesOwn w B [] (.slice none 0 0) := ⟨⟨[], own_none, rfl⟩, fun g hg => by cases hg⟩
theorem NodesOwn.keep {w w' : World} {B : Nat} {l : List Nd} {v : Value} (h : NodesOwn w B l v) {F : Nat → Prop} (hU : Upd w w' F) (hF : ∀ g, F g → B ≤ g ∧ v.ownBlock ≠ some g) : NodesOwn w' B l v := by
  obtain ⟨⟨xs, h1, h2⟩, h3⟩ := h
  exact ⟨⟨xs, own_keep h1 hU (fun g hg hf => (hF g hf).2 hg), h2.keep hU (fun g hg hf => by have := (hF g hf).1; omega)⟩, h3⟩
theorem NodesOwn.below {w w' : World} {B : Nat} {l : List Nd} {v : Value} (h : NodesOwn w B l v) (hB : Below w.heap.size w w') : NodesOwn w' B l v := h.keep (Upd.ofBelow (F := fun _ => False) hB) (fun _ h => h.elim)
theorem NodesOwn.lt {w : World} {B : Nat} {l : List Nd} {v : Value} (h : NodesOwn w B l v) {g : Nat} (hg : v.ownBlock = some g) : g < w.heap.size := by
  obtain ⟨⟨xs, h1, _⟩, _⟩ := h
  exact own_lt h1 hg
theorem NodesOwn.form {w : World} {B : Nat} {l : List Nd} {v : Value} (h : NodesOwn w B l v) : ∃ a c, v = .slice a l.length c ∧ l.length ≤ c := by
  obtain ⟨⟨xs, h1, _⟩, _⟩ := h
  exact (Rd.ofOwn h1).form
/-- One more behind them. -/
theorem NodesOwn.app {w w' : World} {B : Nat} {l : List Nd} {v v' : Value} {xs : List Value} (h1 : w.ownsRow 0 139 6 v l.length xs) (h2 : NodesAt w (· < B) l xs) (h3 : ∀ g, v.ownBlock = some g → B ≤ g) (hB : B ≤ w.heap.size) {x : Nd} {c : List Value} (hc : TreeAt w (· < B) x.1 c)
    (hA : AppPost w 139 6 v l.length xs 1 (c ++ [.int .i64 (x.2 : Nat)]) v' w') : NodesOwn w' B (l ++ [x]) v' ∧ Below B w w' := by
  obtain ⟨o, u, b⟩ := hA
  have hF : ∀ g, g < B → ¬ (v.ownBlock = some g) := fun g hg e => by have := h3 g e; omega
  refine ⟨⟨⟨_, by rw [List.length_append]; exact o, (h2.snoc hc).keep u hF⟩, fun g hg => ?_⟩, u.below hB (fun i hi => hF i hi)⟩
  rcases b with e | e
  · exact h3 g (e ▸ hg)
  · have := ob_some (e.symm.trans hg)
    omega

end Df
end Go.Proofs.YtemmkobgpciflaaDoor
