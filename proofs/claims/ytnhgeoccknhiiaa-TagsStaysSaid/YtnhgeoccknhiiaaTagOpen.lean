/- A slice of acts that comes in as an argument: it reads as a list of acts. -/
import Derived.Test.YtnhgeoccknhiiaaTagActs
import Derived.Deep.Slices
import Derived.ProofKit
import Derived.SizedLaws
namespace Go.Proofs.Ytnhgeoccknhiiaa
open Go.ChangeShapes Go.WideShapes Go.ChangeAt Go.RowKit Go.Deep

theorem wf_i64 {z : Int} (h : (Lit.int .i64 z).wf = true) : -9223372036854775808 ≤ z ∧ z ≤ 9223372036854775807 := by
  have h1 : IntKind.i64.min = -9223372036854775808 := rfl
  have h2 : IntKind.i64.max = 9223372036854775807 := rfl
  simp only [Lit.wf, Bool.and_eq_true, decide_eq_true_eq] at h
  omega
theorem wf_u64 {z : Int} (h : (Lit.int .u64 z).wf = true) : 0 ≤ z ∧ z < 18446744073709551616 := by
  have h1 : IntKind.u64.min = 0 := rfl
  have h2 : IntKind.u64.max = 18446744073709551615 := rfl
  simp only [Lit.wf, Bool.and_eq_true, decide_eq_true_eq] at h
  omega

section
variable {H : Type} {enc : TypeId × Value → H} {w : World} {base : Nat} {spare : Nat → Bool} {held : Bool}

theorem take_one {α : Type} {cs : List α} {j : Nat} {x : α} (h : (cs.drop j).take 1 = [x]) : cs[j]? = some x := by
  have : ((cs.drop j).take 1)[0]? = some x := by rw [h]; rfl
  simpa using this

theorem list_four {α : Type} {cs : List α} {a b c d : α} (hlen : cs.length = 4) (e0 : cs[0]? = some a) (e1 : cs[1]? = some b) (e2 : cs[2]? = some c) (e3 : cs[3]? = some d) : cs = [a, b, c, d] := by
  apply List.ext_getElem?
  intro i
  match i with
  | 0 => exact e0
  | 1 => exact e1
  | 2 => exact e2
  | 3 => exact e3
  | i + 4 => rw [List.getElem?_eq_none (by omega), List.getElem?_eq_none (by simp)]

theorem open_act {fuel : Nat} {cs : List Value} {x : DataW H × List MemPlace} (h : DataW.trod enc Try.prog w base spare held fuel 89 cs = some x) : ∃ a : ActD, a.ok ∧ cs = a.cells := by
  obtain ⟨xs, n, _, _, hlen, hxs, hf⟩ := DataW.trod_struct Try.underlying89 h
  have c3 : Try.prog.cellsOf 3 = 1 := by kernel_rfl
  have cT : Try.prog.cellsOf 74 = 1 := by kernel_rfl
  have cA : Try.prog.cellsOf 89 = 4 := by kernel_rfl
  rw [cA] at hlen
  have hxs : xs.length = 4 := hxs
  have g0 := hf 0 _ rfl
  have g1 := hf 1 _ rfl
  have g2 := hf 2 _ rfl
  have g3 := hf 3 _ rfl
  rw [List.getElem?_eq_getElem (by omega)] at g0 g1 g2 g3
  obtain ⟨z0, e0, _, _⟩ := DataW.trod_int Try.underlying3 g0
  obtain ⟨z1, e1, _, _⟩ := DataW.trod_int Try.underlying3 g1
  obtain ⟨z2, e2, _, w2⟩ := DataW.trod_int Try.underlying74 g2
  obtain ⟨z3, e3, _, w3⟩ := DataW.trod_int Try.underlying74 g3
  have e0 : (cs.drop 0).take (Try.prog.cellsOf 3) = [_] := e0
  rw [c3] at e0
  have e0 := take_one e0
  have e1 : (cs.drop 1).take (Try.prog.cellsOf 3) = [_] := e1
  rw [c3] at e1
  have e1 := take_one e1
  have e2 : (cs.drop 2).take (Try.prog.cellsOf 74) = [_] := e2
  rw [cT] at e2
  have e2 := take_one e2
  have e3 : (cs.drop 3).take (Try.prog.cellsOf 74) = [_] := e3
  rw [cT] at e3
  have e3 := take_one e3
  obtain ⟨l2, u2⟩ := wf_u64 w2
  obtain ⟨l3, u3⟩ := wf_u64 w3
  refine ⟨⟨z0, z1, z2.toNat, z3.toNat⟩, by show z2.toNat < _; omega, ?_⟩
  rw [list_four hlen e0 e1 e2 e3]
  show _ = [Value.int .i64 z0, .int .i64 z1, .int .u64 (z2.toNat : Int), .int .u64 (z3.toNat : Int)]
  rw [Int.toNat_of_nonneg l2, Int.toNat_of_nonneg l3]

instance : Inhabited ActD := ⟨⟨0, 0, 0, 0⟩⟩

theorem cells_len (L : List ActD) : (L.flatMap ActD.cells).length = L.length * 4 := by
  induction L with
  | nil => rfl
  | cons b L ih => rw [List.flatMap_cons, List.length_append, ih, List.length_cons]; simp [ActD.cells]; omega

/-- The acts, in the world in which the call begins. -/
theorem open_acts {v : Value} {d : DataW H} {ps : List MemPlace} (h : DataW.Trod enc Try.prog w base (fun _ => true) held 82 v d ps) (hval : ∃ a n c, v = .slice a n c) :
    ∃ l, ActsAt w v l ∧ ((l = [] ∧ d = .nil) ∨ ∃ xs ys, d = .slice xs ys ∧ xs.length = l.length) := by
  obtain ⟨fuel, h⟩ := h
  obtain ⟨a0, n0, c0, rfl⟩ := hval
  have cA : Try.prog.cellsOf 89 = 4 := by kernel_rfl
  rcases open_slice Try.underlying82 h with ⟨h0, hx⟩ | ⟨a, len, cap, m, n, D, Pl, hcs, hb, hl, hm, hmm, hx, hc⟩
  · simp [Value.cells] at h0
    obtain ⟨rfl, rfl, rfl⟩ := h0
    simp only [Prod.mk.injEq] at hx
    exact ⟨[], ⟨Rd.nil w 4, fun _ h => nomatch h⟩, Or.inl ⟨rfl, hx.1⟩⟩
  · simp [Value.cells] at hcs
    obtain ⟨rfl, rfl, rfl⟩ := hcs
    simp only [if_true] at hmm
    simp only [Prod.mk.injEq] at hx
    obtain ⟨A, hA⟩ := choose_lt (α := ActD) (p := fun i (b : ActD) => b.ok ∧ w.cells? base (a.add (i * 4)) 4 = some b.cells) (n := n0) (fun i hi => by
      obtain ⟨cs', h1, h2⟩ := hc i (by omega)
      rw [cA] at h1
      obtain ⟨b, hb1, hb2⟩ := open_act h2
      exact ⟨b, hb1, by rw [h1, hb2]⟩)
    refine ⟨(List.range n0).map A, ⟨?_, ?_⟩, Or.inr ⟨_, _, hx.1, by simp⟩⟩
    · have hlen : ((List.range n0).map A).length = n0 := by simp
      rw [hlen]
      refine ⟨by rw [cells_len, hlen], some a, c0, rfl, hl, (fun h => nomatch h), ?_⟩
      by_cases hn0 : n0 = 0
      · exact Or.inl hn0
      · right
        obtain ⟨_, _, hcell⟩ := World.cells?_some (hA 0 (by omega)).2
        have hs := World.cell?_spot ((hcell 0 (by omega)).trans rfl)
        obtain ⟨b, off, spot⟩ := a
        have hspot : spot = none := by simpa [Addr.add] using hs
        subst hspot
        refine ⟨b, off, rfl, fun j u hu => ?_⟩
        have hj : j / 4 < n0 := by
          have hl2 := (List.getElem?_eq_some_iff.1 hu).1
          rw [cells_len, hlen] at hl2
          omega
        have e : j = 4 * (j / 4) + j % 4 := by omega
        have hm : j % 4 < 4 := by omega
        rw [e, flat4 (a := A (j / 4)) (by simp [hj]) _ hm] at hu
        obtain ⟨_, _, hcell⟩ := World.cells?_some (hA (j / 4) hj).2
        have := (hcell (j % 4) hm).trans hu
        rw [add_add, add_plain] at this
        rw [Nat.mul_comm (j / 4) 4, ← e] at this
        exact this
    · intro b hb
      obtain ⟨i, hi, rfl⟩ := List.mem_map.1 hb
      exact (hA i (by simpa using hi)).1

end
end Go.Proofs.Ytnhgeoccknhiiaa
