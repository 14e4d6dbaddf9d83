/- Small words for the rows. -/
import Derived.Test.YtemmkobgpciflaaDoorSlice
import Derived.Test.YtemmkobgpciflaaDoorRows
import Derived.Deep.Slices
import Derived.ProofKit
import Derived.SizedLaws
namespace Go.Proofs.YtemmkobgpciflaaDoor
open Go.ChangeShapes Go.WideShapes Go.ChangeAt Go.RowKit Go.Deep

theorem Tryd.own : ownKnob Tryd.prog.godebug = none := by kernel_rfl
theorem Tryd.laidOut : laidOutB Tryd.prog = true := by kernel_rfl

theorem wf_u16 {z : Int} (h : (Lit.int .u16 z).wf = true) : 0 ≤ z ∧ z < 65536 := by
  have h1 : IntKind.u16.min = 0 := rfl
  have h2 : IntKind.u16.max = 65535 := rfl
  simp only [Lit.wf, Bool.and_eq_true, decide_eq_true_eq] at h
  omega
theorem wf_u8 {z : Int} (h : (Lit.int .u8 z).wf = true) : 0 ≤ z ∧ z < 256 := by
  have h1 : IntKind.u8.min = 0 := rfl
  have h2 : IntKind.u8.max = 255 := rfl
  simp only [Lit.wf, Bool.and_eq_true, decide_eq_true_eq] at h
  omega

section
variable {H : Type} {enc : TypeId × Value → H} {w : World} {base : Nat} {held : Bool}

/-- A slice of numbers that comes in as an argument: it reads as a list of numbers. -/
theorem open_nums {t e : TypeId} {k : IntKind} {v : Value} {d : DataW H} {ps : List MemPlace} (ht : Tryd.prog.underlying t = some (.slice e)) (he : Tryd.prog.underlying e = some (.int k)) (hc : Tryd.prog.cellsOf e = 1)
    (h : DataW.Trod enc Tryd.prog w base (fun _ => true) held t v d ps) (hval : ∃ a n c, v = .slice a n c) :
    ∃ zs : List Int, Rd w v zs.length 1 (zs.map fun z => Value.int k z) ∧ (∀ z ∈ zs, (Lit.int k z).wf = true) ∧ ((zs = [] ∧ d = .nil) ∨ ∃ xs ys, d = .slice xs ys ∧ xs.length = zs.length) := by
  obtain ⟨fuel, h⟩ := h
  obtain ⟨a0, n0, c0, rfl⟩ := hval
  rcases open_ints ht he hc h with ⟨h0, hx⟩ | ⟨a, len, cap, zs, hcs, hb, hl, hm, hz, hx, hcell, hwf⟩
  · simp [Value.cells] at h0
    obtain ⟨rfl, rfl, rfl⟩ := h0
    simp only [Prod.mk.injEq] at hx
    exact ⟨[], Rd.nil w 1, (fun _ h => nomatch h), Or.inl ⟨rfl, hx.1⟩⟩
  · simp [Value.cells] at hcs
    obtain ⟨rfl, rfl, rfl⟩ := hcs
    simp only [if_true] at hz
    simp only [Prod.mk.injEq] at hx
    have hlen : (zs.take n0).length = n0 := by simp; omega
    refine ⟨zs.take n0, ?_, fun z hz => hwf z (List.mem_of_mem_take hz), Or.inr ⟨_, _, hx.1, by simp [lits]⟩⟩
    rw [hlen]
    refine ⟨by simp; omega, some a, c0, rfl, hl, (fun h => nomatch h), ?_⟩
    by_cases hn0 : n0 = 0
    · exact Or.inl hn0
    · right
      have hs := World.cell?_spot (hcell 0 (by omega))
      obtain ⟨b, off, spot⟩ := a
      have hspot : spot = none := by simpa [Addr.add] using hs
      subst hspot
      refine ⟨b, off, rfl, fun j u hu => ?_⟩
      have hj := (List.getElem?_eq_some_iff.1 hu).1
      rw [List.length_map, hlen] at hj
      have h1 := hcell j (by omega)
      rw [add_plain] at h1
      rw [h1, ← hu]
      simp [List.getElem?_take, hj, List.getD, List.getElem?_eq_getElem (show j < zs.length by omega)]

end
end Go.Proofs.YtemmkobgpciflaaDoor
