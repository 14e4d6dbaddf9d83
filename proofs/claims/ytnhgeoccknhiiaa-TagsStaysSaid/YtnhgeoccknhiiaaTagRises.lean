/- Labels rise, and are written not too often. -/
import Derived.Test.YtnhgeoccknhiiaaTagDoes
import Derived.StillTactics
namespace Go.Proofs.Ytnhgeoccknhiiaa
open Go.RowKit

def LabelP (B p d : Nat) (N : List Nd) (g nw : Nat) (x y : Int) (w : World) (e : Ending) (w' : World) : Prop :=
  e = .returned (.tuple #[.int .u64 x, .int .i64 y]) ∧ Pair B w' p d N g nw ∧ Below B w w' ∧ ∃ m hd, TagsAt w' p m hd N g nw

theorem label_at (B p d : Nat) (N : List Nd) (g nw k : Nat) (w : World) (h : Pair B w p d N g nw) (hk : k ≤ N.length) :
    Calls Try.prog 38 #[.pointer (some ⟨p, 0, none⟩), .int .u64 (nameAt N k : Nat)] w (LabelP B p d N g nw (labAt N k : Nat) 0 w) := by
  refine (label_any p (nameAt N k) N g nw w h.tags.is).mono ?_
  rintro e w' ⟨⟨m, hd, hB⟩, hx⟩
  have hU := hB.tf h.tags
  have hS : Stands N (nameAt N k) k := by
    refine ⟨hk, rfl, fun e => by subst e; rfl, fun e => ?_⟩
    cases k with
    | zero => rfl
    | succ k =>
      have hlt : k < N.length := by omega
      simp only [nameAt, List.getElem?_eq_getElem hlt, Option.map_some, Option.getD_some] at e
      have := (h.inv.name _ (List.getElem_mem hlt)).1
      omega
  refine ⟨?_, ⟨hB.is h.tags, h.ref.keep hU, h.inv, h.low⟩, below_tf h.lt hU, m, hd, hB.1⟩
  rcases hx with ⟨k', hS', rfl⟩ | ⟨hG, _⟩
  · rw [StandsL.uniq h.nd (standsL_iff.2 hS) (standsL_iff.2 hS')]
  · exact ((goneL_iff.2 hG).not (standsL_iff.2 hS)).elim

theorem label_gone (B p d : Nat) (N : List Nd) (g nw t : Nat) (w : World) (h : Pair B w p d N g nw) (ht : g < t) :
    Calls Try.prog 38 #[.pointer (some ⟨p, 0, none⟩), .int .u64 t] w (LabelP B p d N g nw 0 10 w) := by
  refine (label_any p t N g nw w h.tags.is).mono ?_
  rintro e w' ⟨⟨m, hd, hB⟩, hx⟩
  have hU := hB.tf h.tags
  have hG : Gone N t := ⟨by omega, fun n hn e => by have := (h.inv.name n hn).2; omega⟩
  refine ⟨?_, ⟨hB.is h.tags, h.ref.keep hU, h.inv, h.low⟩, below_tf h.lt hU, m, hd, hB.1⟩
  rcases hx with ⟨k', hS', rfl⟩ | ⟨_, rfl⟩
  · exact ((goneL_iff.2 hG).not (standsL_iff.2 hS')).elim
  · rfl

def RisesPost (B p d : Nat) (N : List Nd) (g nw : Nat) (w : World) (e : Ending) (w' : World) : Prop := e = .returned (.bool true) ∧ Pair B w' p d N g nw ∧ Below B w w'

set_option maxRecDepth 20000 in
set_option maxHeartbeats 2000000 in
theorem rises_any (B p d : Nat) (N : List Nd) (g nw : Nat) (w : World) (h : Pair B w p d N g nw) (hg : g < 4503599627370496) :
    Calls Try.prog 46 #[.pointer (some ⟨p, 0, none⟩), .pointer (some ⟨d, 0, none⟩)] w (RisesPost B p d N g nw w) := by
  have HL := Lib.hid (label_at B p d N g nw 0 w h (Nat.zero_le _))
  clear h
  go_enter Try.func46, Try.ntmps46
  go_wp2_with fail
  refine HL.out.mono ?_
  clear HL
  rintro e w1 ⟨rfl, hP, hL, m, hd, hT⟩
  have hwr := hP.inv.writes
  have hlen := hP.inv.len
  have C1 : Hid (Calls Try.prog 40 #[.pointer (some ⟨p, 0, none⟩)] w1.drew fun e w'' => e = .returned (.int .i64 (nms N).length) ∧ w'' = w1.drew) :=
    Lib.hid ((len_old p m hd N g nw w1.drew (hT.same rfl) hlen).mono fun e w' ⟨he, hw⟩ => ⟨by rw [he, nms_len], hw.symm⟩)
  have C2 : Hid (Calls Try.prog 42 #[.pointer (some ⟨p, 0, none⟩)] w1.drew fun e w'' => e = .returned (.int .u64 g) ∧ w'' = w1.drew) :=
    Lib.hid ((given_any p N g nw w1.drew (Or.inr ⟨m, hd, hT.same rfl⟩)).mono fun e w' ⟨he, hw⟩ => ⟨he, hw.symm⟩)
  have C3 : Hid (Calls Try.prog 41 #[.pointer (some ⟨p, 0, none⟩)] w1.drew fun e w'' => e = .returned (.int .u64 nw) ∧ w'' = w1.drew) :=
    Lib.hid ((writes_any p N g nw w1.drew (Or.inr ⟨m, hd, hT.same rfl⟩)).mono fun e w' ⟨he, hw⟩ => ⟨he, hw.symm⟩)
  obtain ⟨v, hB, hO⟩ := hP.ref
  obtain ⟨a, c, rfl, hc⟩ := (Rd.ofOwn hO).form
  have h0 : w1.cell? ⟨d, 0, none⟩ = some (.slice a (nms N).length c) := hB.cell 0
  have h1 : w1.cell? ⟨d, 1, none⟩ = some (.int .u64 g) := hB.cell 1
  have t1 : decide ((nw : Int) < (g : Int)) = false := decide_eq_false (by omega)
  have t2 : decide ((nw : Int) / 496 > (g : Int)) = false := decide_eq_false (by omega)
  have t3 : decide ((nw : Int) > 496 * (g : Int)) = false := decide_eq_false (by omega)
  have n1 : decide (nw < g) = false := decide_eq_false (by omega)
  have n2 : decide (g < nw / 496) = false := decide_eq_false (by omega)
  have n3 : decide (496 * g < nw) = false := decide_eq_false (by omega)
  have n4 : decide ((g : Int) < (nw : Int) / 496) = false := decide_eq_false (by omega)
  have n5 : decide (496 * (g : Int) < (nw : Int)) = false := decide_eq_false (by omega)
  have hnw : nw < 4611686018427387904 := by omega
  have S1 := Lib.hid (And.intro hP hL)
  clear hP hL hT hB hO hwr
  rw [show ((labAt N 0 : Nat) : Int) = 0 from rfl]
  go_wp2
  have w1e : IntKind.u64.wrap ((nw : Int) / 496) = (nw : Int) / 496 := IntWalk.u64_in _ (by omega)
  have w2e : IntKind.u64.wrap (496 * (g : Int)) = 496 * (g : Int) := IntWalk.u64_in _ (by omega)
  refine stillA (by kernel_rfl) (by kernel_rfl) ?_
  repeat (first | still_step | still_call C1.out | still_call C2.out | still_call C3.out)
  refine wpStill_nil ?_
  clear w1e w2e
  go_wp2
  clear h0 h1 hc C1 C2 C3
  obtain ⟨lab0, hlab0⟩ : ∃ l : Nat, l = 0 := ⟨0, rfl⟩
  have HLAB0 := Lib.hid hlab0
  clear hlab0
  go_loopg [5, 7] N.length (fun kq v5 v7 w' => ∃ i last : Nat, v5 = .int .u64 last ∧ v7 = .int .i64 i ∧ Hid (last = labAt N i) ∧ Hid (kq = N.length - i ∧ i ≤ N.length) ∧ Hid (Pair B w' p d N g nw ∧ Below B w w'))
  case atStart => exact ⟨0, 0, rfl, rfl, Lib.hid rfl, Lib.hid ⟨rfl, Nat.zero_le _⟩, Lib.hid ⟨S1.out.1.upd0 ((Upd.refl _ _).drew), S1.out.2.drew⟩⟩
  case round =>
    obtain ⟨i, last, rfl, rfl, HLA, HI, HS⟩ := hrel
    obtain ⟨hP, hL⟩ := HS.out
    obtain ⟨v, hB, hO⟩ := hP.ref
    have hR := Rd.ofOwn hO
    obtain ⟨a, c, rfl, hc⟩ := hR.form
    have h0 : wr.cell? ⟨d, 0, none⟩ = some (.slice a (nms N).length c) := hB.cell 0
    have h1 : wr.cell? ⟨d, 1, none⟩ = some (.int .u64 g) := hB.cell 1
    by_cases hi : i < N.length
    · obtain ⟨gb, off, c', e1, _, hcell⟩ := hR.at_ (j := i) (u := .int .u64 (nameL (nms N) (i + 1) : Nat)) (by rw [ns_get, nameL_get (by rw [nms_len]; exact hi)]; rfl)
      cases e1
      rw [nameL_nms] at hcell
      have hi0 : (0 : Int) ≤ (i : Int) := by omega
      have hi1 : (i : Int) < ((nms N).length : Int) := by rw [nms_len]; omega
      have hi2 : decide (i < (nms N).length) = true := decide_eq_true (by rw [nms_len]; exact hi)
      have r1 := hP.inv.rise i (by omega)
      have r2 := hP.inv.rise (i + 1) (by omega)
      obtain ⟨lab, hlab⟩ : ∃ l, l = labAt N (i + 1) := ⟨_, rfl⟩
      rw [← hlab] at r1 r2
      have HLB := Lib.hid hlab
      have hll : last < lab := by rw [HLA.out]; exact r1.1
      have hlm : lab < 4611686018427387904 := by omega
      have u1 : decide ((lab : Int) ≤ (last : Int)) = false := decide_eq_false (by omega)
      have u2 : decide (lab ≤ last) = false := decide_eq_false (by omega)
      have u3 : decide ((lab : Int) ≥ 4611686018427387904) = false := decide_eq_false (by omega)
      have HC := Lib.hid (label_at B p d N g nw (i + 1) wr hP (by omega))
      rw [← hlab] at HC
      have HL := Lib.hid hL
      clear hP hL hB hO hR r1 r2 hlab hc h1
      go_wp2_with fail
      refine HC.out.mono ?_
      rintro e w2 ⟨rfl, hP, hL, _⟩
      have HS2 := Lib.hid (And.intro hP (HL.out.trans hL))
      clear hP hL HC h0 hcell
      go_wp2
      go_roundg (N.length - (i + 1))
      case rel => exact ⟨i + 1, lab, rfl, by go_num, HLB, Lib.hid ⟨rfl, by omega⟩, HS2⟩
      case measure => have := HI.out; omega
    · have hi2 : decide (i < (nms N).length) = false := decide_eq_false (by rw [nms_len]; exact hi)
      have HC := Lib.hid (label_gone B p d N g nw (g + 1) wr hP (by omega))
      have HL := Lib.hid hL
      clear hP hL hB hO hR
      go_wp2_with fail
      refine HC.out.mono ?_
      rintro e w2 ⟨rfl, hP, hL, _⟩
      have HS2 := Lib.hid (And.intro hP (HL.out.trans hL))
      clear hP hL HC h0
      go_wp2
      go_ret
      exact ⟨rfl, HS2.out⟩

end Go.Proofs.Ytnhgeoccknhiiaa
