/- Slices of acts and of items that come in as arguments: they read as lists. -/
import Derived.Test.YtnhgeoccknhiiaaActsI
import Derived.Deep.Slices
import Derived.ProofKit
import Derived.SizedLaws
namespace Go.Proofs.Ytnhgeoccknhiiaa
open Go.ChangeShapes Go.WideShapes Go.ChangeAt Go.RowKit Go.Deep
namespace OrdI

section
variable {H : Type} {enc : TypeId × Value → H} {w : World} {base : Nat} {spare : Nat → Bool} {held : Bool}

theorem take_one {α : Type} {cs : List α} {j : Nat} {x : α} (h : (cs.drop j).take 1 = [x]) : cs[j]? = some x := by
  have : ((cs.drop j).take 1)[0]? = some x := by rw [h]; rfl
  simpa using this
theorem take_two {α : Type} {cs : List α} {j : Nat} {x y : α} (h : (cs.drop j).take 2 = [x, y]) : cs[j]? = some x ∧ cs[j + 1]? = some y := by
  have h0 : ((cs.drop j).take 2)[0]? = some x := by rw [h]; rfl
  have h1 : ((cs.drop j).take 2)[1]? = some y := by rw [h]; rfl
  exact ⟨by simpa using h0, by simpa using h1⟩
theorem list_two {α : Type} {cs : List α} {a b : α} (hlen : cs.length = 2) (e0 : cs[0]? = some a) (e1 : cs[1]? = some b) : cs = [a, b] := by
  apply List.ext_getElem?
  intro i
  match i with
  | 0 => exact e0
  | 1 => exact e1
  | i + 2 => rw [List.getElem?_eq_none (by omega), List.getElem?_eq_none (by simp)]
theorem list_four {α : Type} {cs : List α} {a b c d : α} (hlen : cs.length = 4) (e0 : cs[0]? = some a) (e1 : cs[1]? = some b) (e2 : cs[2]? = some c) (e3 : cs[3]? = some d) : cs = [a, b, c, d] := by
  apply List.ext_getElem?
  intro i
  match i with
  | 0 => exact e0
  | 1 => exact e1
  | 2 => exact e2
  | 3 => exact e3
  | i + 4 => rw [List.getElem?_eq_none (by omega), List.getElem?_eq_none (by simp)]

theorem open_item {fuel : Nat} {cs : List Value} {x : DataW H × List MemPlace} (h : DataW.trod enc Try.prog w base spare held fuel 36 cs = some x) : ∃ a : It, cs = icells a := by
  obtain ⟨xs, n, _, _, hlen, hxs, hf⟩ := DataW.trod_struct Try.underlying36 h
  have c3 : Try.prog.cellsOf 3 = 1 := by kernel_rfl
  have cA : Try.prog.cellsOf 36 = 2 := by kernel_rfl
  rw [cA] at hlen
  have hxs : xs.length = 2 := hxs
  have g0 := hf 0 _ rfl
  have g1 := hf 1 _ rfl
  rw [List.getElem?_eq_getElem (by omega)] at g0 g1
  obtain ⟨z0, e0, _, _⟩ := DataW.trod_int Try.underlying3 g0
  obtain ⟨z1, e1, _, _⟩ := DataW.trod_int Try.underlying3 g1
  have e0 : (cs.drop 0).take (Try.prog.cellsOf 3) = [_] := e0
  rw [c3] at e0
  have e1 : (cs.drop 1).take (Try.prog.cellsOf 3) = [_] := e1
  rw [c3] at e1
  exact ⟨⟨z0, z1⟩, list_two hlen (take_one e0) (take_one e1)⟩

theorem open_act {fuel : Nat} {cs : List Value} {x : DataW H × List MemPlace} (h : DataW.trod enc Try.prog w base spare held fuel 104 cs = some x) : ∃ a : AI, cs = acells a := by
  obtain ⟨xs, n, _, _, hlen, hxs, hf⟩ := DataW.trod_struct Try.underlying104 h
  have c3 : Try.prog.cellsOf 3 = 1 := by kernel_rfl
  have cT : Try.prog.cellsOf 36 = 2 := by kernel_rfl
  have cA : Try.prog.cellsOf 104 = 4 := by kernel_rfl
  rw [cA] at hlen
  have hxs : xs.length = 3 := hxs
  have g0 := hf 0 _ rfl
  have g1 := hf 1 _ rfl
  have g2 := hf 2 _ rfl
  rw [List.getElem?_eq_getElem (by omega)] at g0 g1 g2
  obtain ⟨z0, e0, _, _⟩ := DataW.trod_int Try.underlying3 g0
  obtain ⟨z1, e1, _, _⟩ := DataW.trod_int Try.underlying3 g1
  obtain ⟨x2, e2⟩ := open_item g2
  have e0 : (cs.drop 0).take (Try.prog.cellsOf 3) = [_] := e0
  rw [c3] at e0
  have e1 : (cs.drop 1).take (Try.prog.cellsOf 3) = [_] := e1
  rw [c3] at e1
  have e2 : (cs.drop 2).take (Try.prog.cellsOf 36) = [_, _] := e2
  rw [cT] at e2
  obtain ⟨e2, e3⟩ := take_two e2
  exact ⟨⟨z0, z1, x2⟩, list_four hlen (take_one e0) (take_one e1) e2 e3⟩

instance : Inhabited It := ⟨⟨0, 0⟩⟩
instance : Inhabited AI := ⟨⟨0, 0, ⟨0, 0⟩⟩⟩
theorem acells_len (L : List AI) : (L.flatMap acells).length = L.length * 4 := by
  induction L with
  | nil => rfl
  | cons b L ih => rw [List.flatMap_cons, List.length_append, ih, List.length_cons]; simp [acells]; omega

/-- The acts, in the world in which the call begins. -/
theorem open_acts {v : Value} {d : DataW H} {ps : List MemPlace} (h : DataW.Trod enc Try.prog w base (fun _ => true) held 98 v d ps) (hval : ∃ a n c, v = .slice a n c) :
    ∃ l, AActs w v l ∧ ((l = [] ∧ d = .nil) ∨ ∃ xs ys, d = .slice xs ys ∧ xs.length = l.length) := by
  obtain ⟨fuel, h⟩ := h
  obtain ⟨a0, n0, c0, rfl⟩ := hval
  have cA : Try.prog.cellsOf 104 = 4 := by kernel_rfl
  rcases open_slice Try.underlying98 h with ⟨h0, hx⟩ | ⟨a, len, cap, m, n, D, Pl, hcs, hb, hl, hm, hmm, hx, hc⟩
  · simp [Value.cells] at h0
    obtain ⟨rfl, rfl, rfl⟩ := h0
    simp only [Prod.mk.injEq] at hx
    exact ⟨[], Rd.nil w 4, Or.inl ⟨rfl, hx.1⟩⟩
  · simp [Value.cells] at hcs
    obtain ⟨rfl, rfl, rfl⟩ := hcs
    simp only [if_true] at hmm
    simp only [Prod.mk.injEq] at hx
    obtain ⟨A, hA⟩ := choose_lt (α := AI) (p := fun i (b : AI) => w.cells? base (a.add (i * 4)) 4 = some (acells b)) (n := n0) (fun i hi => by
      obtain ⟨cs', h1, h2⟩ := hc i (by omega)
      rw [cA] at h1
      obtain ⟨b, hb2⟩ := open_act h2
      exact ⟨b, by rw [h1, hb2]⟩)
    refine ⟨(List.range n0).map A, ?_, Or.inr ⟨_, _, hx.1, by simp⟩⟩
    have hlen : ((List.range n0).map A).length = n0 := by simp
    unfold AActs
    rw [hlen]
    refine ⟨by rw [acells_len, hlen], some a, c0, rfl, hl, (fun h => nomatch h), ?_⟩
    by_cases hn0 : n0 = 0
    · exact Or.inl hn0
    · right
      obtain ⟨_, _, hcell⟩ := World.cells?_some (hA 0 (by omega))
      have hs := World.cell?_spot ((hcell 0 (by omega)).trans rfl)
      obtain ⟨b, off, spot⟩ := a
      have hspot : spot = none := by simpa [Addr.add] using hs
      subst hspot
      refine ⟨b, off, rfl, fun j u hu => ?_⟩
      have hj : j / 4 < n0 := by
        have hl2 := (List.getElem?_eq_some_iff.1 hu).1
        rw [acells_len, hlen] at hl2
        omega
      have e : j = j / 4 * 4 + j % 4 := by omega
      have hm : j % 4 < 4 := by omega
      rw [e, flatA (a := A (j / 4)) (by simp [hj]) _ hm] at hu
      obtain ⟨_, _, hcell⟩ := World.cells?_some (hA (j / 4) hj)
      have := (hcell (j % 4) hm).trans hu
      rw [add_add, add_plain] at this
      rw [← e] at this
      exact this

/-- The items, in the world in which the call begins. -/
theorem open_items {v : Value} {d : DataW H} {ps : List MemPlace} (h : DataW.Trod enc Try.prog w base (fun _ => true) held 30 v d ps) (hval : ∃ a n c, v = .slice a n c) :
    ∃ l, Rd w v l.length 2 (cells l) ∧ ((l = [] ∧ d = .nil) ∨ ∃ xs ys, d = .slice xs ys ∧ xs.length = l.length) := by
  obtain ⟨fuel, h⟩ := h
  obtain ⟨a0, n0, c0, rfl⟩ := hval
  have cA : Try.prog.cellsOf 36 = 2 := by kernel_rfl
  rcases open_slice Try.underlying30 h with ⟨h0, hx⟩ | ⟨a, len, cap, m, n, D, Pl, hcs, hb, hl, hm, hmm, hx, hc⟩
  · simp [Value.cells] at h0
    obtain ⟨rfl, rfl, rfl⟩ := h0
    simp only [Prod.mk.injEq] at hx
    exact ⟨[], Rd.nil w 2, Or.inl ⟨rfl, hx.1⟩⟩
  · simp [Value.cells] at hcs
    obtain ⟨rfl, rfl, rfl⟩ := hcs
    simp only [if_true] at hmm
    simp only [Prod.mk.injEq] at hx
    obtain ⟨A, hA⟩ := choose_lt (α := It) (p := fun i (b : It) => w.cells? base (a.add (i * 2)) 2 = some (icells b)) (n := n0) (fun i hi => by
      obtain ⟨cs', h1, h2⟩ := hc i (by omega)
      rw [cA] at h1
      obtain ⟨b, hb2⟩ := open_item h2
      exact ⟨b, by rw [h1, hb2]⟩)
    refine ⟨(List.range n0).map A, ?_, Or.inr ⟨_, _, hx.1, by simp⟩⟩
    have hlen : ((List.range n0).map A).length = n0 := by simp
    rw [hlen]
    refine ⟨by rw [cells_len, hlen], some a, c0, rfl, hl, (fun h => nomatch h), ?_⟩
    by_cases hn0 : n0 = 0
    · exact Or.inl hn0
    · right
      obtain ⟨_, _, hcell⟩ := World.cells?_some (hA 0 (by omega))
      have hs := World.cell?_spot ((hcell 0 (by omega)).trans rfl)
      obtain ⟨b, off, spot⟩ := a
      have hspot : spot = none := by simpa [Addr.add] using hs
      subst hspot
      refine ⟨b, off, rfl, fun j u hu => ?_⟩
      have hj : j / 2 < n0 := by
        have hl2 := (List.getElem?_eq_some_iff.1 hu).1
        rw [cells_len, hlen] at hl2
        omega
      have e : j = j / 2 * 2 + j % 2 := by omega
      have hm : j % 2 < 2 := by omega
      rw [e, cells_at (x := A (j / 2)) (by simp [hj]) _ hm] at hu
      obtain ⟨_, _, hcell⟩ := World.cells?_some (hA (j / 2) hj)
      have := (hcell (j % 2) hm).trans hu
      rw [add_add, add_plain] at this
      rw [← e] at this
      exact this

end
end OrdI
end Go.Proofs.Ytnhgeoccknhiiaa
