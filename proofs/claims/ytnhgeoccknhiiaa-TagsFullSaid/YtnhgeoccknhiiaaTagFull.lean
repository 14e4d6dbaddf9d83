/- TagsFull, walked: a list takes 8192 tags, wherever they come, and no more until one goes. -/
import Derived.Test.YtnhgeoccknhiiaaTagSolo
import Derived.Test.YtnhgeoccknhiiaaTagOpen
namespace Go.Proofs.Ytnhgeoccknhiiaa
open Go.RowKit

/-- As many as were given, each of them there. -/
def AllIn (N : List Nd) (i : Nat) : Prop := N.length = i ∧ ∀ t, 1 ≤ t → t ≤ i → t ∈ nms N

theorem allIn_nil : AllIn [] 0 := ⟨rfl, fun t h1 h2 => by omega⟩
theorem AllIn.stands {N : List Nd} {i g nw : Nat} (h : AllIn N i) (hI : Inv N g nw) {t : Nat} (ht : t ≤ i) : ∃ k, Stands N t k := by
  by_cases h0 : t = 0
  · exact ⟨0, h0 ▸ stands_zero N⟩
  · obtain ⟨k, _, hS⟩ := hI.mem_stands (h.2 t (by omega) ht)
    exact ⟨_, hS⟩
theorem AllIn.ins {N N' : List Nd} {i k : Nat} (h : AllIn N i) (hk : k ≤ N.length) (e : nms N' = (nms N).insertIdx k (i + 1)) : AllIn N' (i + 1) := by
  have hk' : k ≤ (nms N).length := by rw [nms_len]; exact hk
  refine ⟨?_, fun t h1 h2 => ?_⟩
  · have := congrArg List.length e
    rw [nms_len, List.length_insertIdx_of_le_length hk', nms_len, h.1] at this
    exact this
  · rw [e, List.mem_insertIdx hk']
    by_cases ht : t = i + 1
    · exact Or.inl ht
    · exact Or.inr (h.2 t h1 (by omega))

theorem gone_erased {N : List Nd} {g nw k t : Nat} (h : Inv N g nw) (hk : k < N.length) (hS : Stands N t (k + 1)) : Gone (N.eraseIdx k) t := by
  refine ⟨fun h0 => by have := hS.2.2.2 h0; omega, fun n hn e => ?_⟩
  obtain ⟨i, hi, hne, e2⟩ := List.mem_eraseIdx_iff_getElem.1 hn
  have hS2 := h.stands (k := i + 1) (by omega)
  have e3 : nameAt N (i + 1) = t := by rw [← e, ← e2]; simp [nameAt, List.getElem?_eq_getElem hi]
  rw [e3] at hS2
  have := StandsL.uniq (L := nms N) h.nodup (standsL_iff.2 hS) (standsL_iff.2 hS2)
  omega

set_option maxRecDepth 20000 in
set_option maxHeartbeats 1000000 in
theorem tagsFull_calls (w : World) (step goes : Nat) (h1 : step < 65536) (h2 : goes < 65536) :
    Calls Try.prog 6 #[.int .u16 step, .int .u16 goes] w (TruePost w) := by
  go_enter Try.func6, Try.ntmps6
  go_wp2
  have S0 := Lib.hid (And.intro (solo_new w) (below_0 (Nat.le_refl _) ((Upd.refl w (fun _ => False)).alloc (.cells #[.map none, .pointer none, .int .u64 0, .int .u64 0] 73))))
  obtain ⟨w1, hw1⟩ : ∃ w1, w1 = w.alloc (.cells #[.map none, .pointer none, .int .u64 0, .int .u64 0] 73) := ⟨_, rfl⟩
  obtain ⟨p, hp⟩ : ∃ p, p = w.heap.size := ⟨_, rfl⟩
  obtain ⟨B, hBw⟩ : ∃ B, B = w.heap.size := ⟨_, rfl⟩
  have S1 : Hid (Solo B w1 p [] 0 0 ∧ Below B w w1) := Lib.hid (by rw [hBw, hp, hw1]; exact S0.out)
  have HBw := Lib.hid hBw
  rw [← hw1, ← hp]
  clear hw1 hp hBw S0
  go_loopg [7] 8192 (fun kq v7 w' => ∃ i : Nat, v7 = .int .i64 i ∧ Hid (kq = 8192 - i ∧ i ≤ 8192) ∧ Hid (∃ N nw, Solo B w' p N i nw ∧ AllIn N i ∧ Below B w w'))
  case atStart => exact ⟨0, rfl, Lib.hid ⟨rfl, Nat.zero_le _⟩, Lib.hid ⟨[], 0, S1.out.1, allIn_nil, S1.out.2⟩⟩
  case round =>
    obtain ⟨i, rfl, HI, HS⟩ := hrel
    by_cases hi : i < 8192
    · obtain ⟨N, nw, hP, hA, hL⟩ := HS.out
      obtain ⟨m, hm⟩ : ∃ m, m = step * i := ⟨_, rfl⟩
      have hmb : m ≤ 65535 * 8191 := by rw [hm]; exact Nat.mul_le_mul (by omega) (by omega)
      have hm1 : IntKind.u64.wrap ((step : Int) * (i : Int)) = (m : Int) := by rw [← Int.natCast_mul, ← hm]; exact IntWalk.u64_in _ (by omega)
      have hm2 : (step : Int) * (i : Int) = (m : Int) := by rw [← Int.natCast_mul, ← hm]
      obtain ⟨t, ht⟩ : ∃ t, t = m % (i + 1) := ⟨_, rfl⟩
      have ht1 : (m : Int) % ((i : Int) + 1) = (t : Int) := by rw [ht]; rfl
      have ht2 : t ≤ i := by rw [ht]; have := Nat.mod_lt m (show 0 < i + 1 by omega); omega
      obtain ⟨k, hS⟩ := hA.stands hP.inv ht2
      have HC := Lib.hid (solo_after hP (by omega) hS (by rw [hA.1]; exact hi))
      have HX : Hid (Solo B wr p N i nw ∧ AllIn N i ∧ Below B w wr ∧ k ≤ N.length) := Lib.hid ⟨hP, hA, hL, hS.1⟩
      have hi1 : (i : Int) < 8192 := by omega
      have hi0 : (0 : Int) ≤ (i : Int) := by omega
      have hd2 : ((i : Int) + 1 == 0) = false := by rw [beq_eq_false_iff_ne]; omega
      clear hm ht ht2 hP hA hL hS HS
      go_wp2_with fail
      refine HC.out.mono ?_
      rintro e w2 ⟨N', nw', rfl, hP, hN, hU⟩
      have HS2 : Hid (Solo B w2 p N' (i + 1) nw' ∧ AllIn N' (i + 1) ∧ Below B w w2) := Lib.hid ⟨hP, HX.out.2.1.ins HX.out.2.2.2 hN, HX.out.2.2.1.trans (HX.out.1.below hU)⟩
      clear hP hN hU HX HC
      go_wp2
      go_roundg (8192 - (i + 1))
      case rel => exact ⟨i + 1, by go_num, Lib.hid ⟨rfl, by omega⟩, Lib.hid ⟨N', nw', HS2.out.1, HS2.out.2.1, HS2.out.2.2⟩⟩
      case measure => have := HI.out; omega
    · have hi1 : ¬ (i : Int) < 8192 := by omega
      obtain ⟨N, nw, hP, hA, hL⟩ := HS.out
      have e8 : i = 8192 := by have := HI.out; omega
      subst e8
      have HC := Lib.hid (solo_full hP (by omega) (stands_zero N) (by rw [hA.1]; exact Nat.le_refl _))
      have HX := Lib.hid (And.intro hA (And.intro hP.inv hL))
      have HP0 := Lib.hid hP
      clear hP hA hL HS HI
      go_wp2_with fail
      refine HC.out.mono ?_
      rintro e w2 ⟨rfl, hP, hU⟩
      have HB2 := Lib.hid (HX.out.2.2.trans (HP0.out.below hU))
      have HC := Lib.hid (solo_next hP (stands_zero N))
      have HP1 := Lib.hid hP
      clear hP hU HP0
      go_wp2_with fail
      refine HC.out.mono ?_
      rintro e w3 ⟨rfl, hP, hU⟩
      have S2 := Lib.hid (And.intro hP (HB2.out.trans (HP1.out.below hU)))
      clear hP hU HP1 HB2 HC
      obtain ⟨nm, hnm⟩ : ∃ nm, nm = nameAt N (0 + 1) := ⟨_, rfl⟩
      rw [← hnm]
      have HNM := Lib.hid hnm
      clear hnm
      go_wp2
      go_loopg [6, 12, 13] 8192 (fun kq v6 v12 v13 w' => ∃ j last t : Nat, v6 = .int .u64 last ∧ v12 = .int .i64 j ∧ v13 = .int .u64 t ∧ Hid (last = labAt N j) ∧ Hid (t = nameAt N (j + 1)) ∧ Hid (kq = 8192 - j ∧ j ≤ 8192) ∧ Hid (Solo B w' p N 8192 nw ∧ Below B w w'))
      case atStart => exact ⟨0, 0, nm, rfl, rfl, rfl, Lib.hid rfl, HNM, Lib.hid ⟨rfl, Nat.zero_le _⟩, S2⟩
      case round =>
        obtain ⟨j, last, t, rfl, rfl, rfl, HLA, HT, HI, HS⟩ := hrel
        have hj0 : (0 : Int) ≤ (j : Int) := by omega
        have hj8 : (j : Int) ≤ 8192 := by have := HI.out; omega
        have hj8b : j ≤ 8192 := HI.out.2
        by_cases hj : j < 8192
        · obtain ⟨hP, hL⟩ := HS.out
          have hlen := HX.out.1.1
          have hpos := (hP.inv.nameAt_pos (k := j) (by omega)).1
          rw [← HT.out] at hpos
          have ht0 : ((t : Int) == 0) = false := by rw [beq_eq_false_iff_ne]; omega
          have ht1 : ((t : Int) != 0) = true := by rw [bne_iff_ne]; omega
          have hS := hP.inv.stands (k := j + 1) (by omega)
          rw [← HT.out] at hS
          have HC := Lib.hid (solo_label hP hS)
          have hR := hP.inv.rise j (by omega)
          obtain ⟨lab, hlab⟩ : ∃ lab, lab = labAt N (j + 1) := ⟨_, rfl⟩
          have r2 := hP.inv.rise (j + 1) (by omega)
          rw [← hlab] at HC hR r2
          rw [← HLA.out] at hR
          have hll : last < lab := hR.1
          have hlm : lab < 4611686018427387904 := by omega
          have u1 : decide ((lab : Int) ≤ (last : Int)) = false := decide_eq_false (by omega)
          have u2 : decide (lab ≤ last) = false := decide_eq_false (by omega)
          have u3 : decide ((lab : Int) ≥ 4611686018427387904) = false := decide_eq_false (by omega)
          have HS1 := Lib.hid (And.intro hP (And.intro hL hS))
          have HLB := Lib.hid hlab
          clear hP hL hlen hpos hS hR r2 hlab HS
          go_wp2_with fail
          refine HC.out.mono ?_
          rintro e w4 ⟨rfl, hP, hU⟩
          have HC := Lib.hid (solo_next hP HS1.out.2.2)
          have HS2 := Lib.hid (And.intro hP (HS1.out.2.1.trans (HS1.out.1.below hU)))
          clear hP hU HS1
          obtain ⟨nm2, hnm2⟩ : ∃ nm2, nm2 = nameAt N (j + 1 + 1) := ⟨_, rfl⟩
          rw [← hnm2] at HC
          have HNM2 := Lib.hid hnm2
          clear hnm2
          go_wp2_with fail
          refine HC.out.mono ?_
          rintro e w5 ⟨rfl, hP, hU⟩
          have HS3 := Lib.hid (And.intro hP (HS2.out.2.trans (HS2.out.1.below hU)))
          clear hP hU HS2 HC
          go_wp2
          go_roundg (8192 - (j + 1))
          case rel => exact ⟨j + 1, lab, nm2, rfl, by go_num, rfl, HLB, HNM2, Lib.hid ⟨rfl, by omega⟩, HS3⟩
          case measure => have := HI.out; omega
        · have e8 : j = 8192 := by omega
          subst e8
          have et : t = 0 := by
            rw [HT.out]
            have hlen := HX.out.1.1
            simp [nameAt, List.getElem?_eq_none, hlen]
          subst et
          clear hj0 hj8 hj8b
          obtain ⟨gn, hgn⟩ : ∃ gn : Nat, gn = goes % 8192 + 1 := ⟨_, rfl⟩
          have hgo : (goes : Int) % 8192 + 1 = (gn : Int) := by rw [hgn]; omega
          have hwg : IntKind.i64.wrap (goes : Int) = (goes : Int) := IntWalk.i64_in _ (by omega)
          have hwg2 : IntKind.u64.wrap (gn : Int) = (gn : Int) := IntWalk.u64_in _ (by omega)
          have hwg3 : IntKind.i64.wrap (gn : Int) = (gn : Int) := IntWalk.i64_in _ (by omega)
          obtain ⟨hP, hL⟩ := HS.out
          obtain ⟨k, hkl, hS⟩ := hP.inv.mem_stands (HX.out.1.2 gn (by omega) (by omega))
          have HC := Lib.hid (solo_drop hP hS)
          have HS1 := Lib.hid (And.intro hP (And.intro hL (And.intro hkl hS)))
          clear hP hL hkl hS hgn
          go_wp2_with fail
          refine HC.out.mono ?_
          rintro e w4 ⟨rfl, hP, hU⟩
          have HC := Lib.hid (solo_drop_gone hP (gone_erased HS1.out.1.inv HS1.out.2.2.1 HS1.out.2.2.2))
          have HS2 := Lib.hid (And.intro hP (HS1.out.2.1.trans (HS1.out.1.below hU)))
          have hlen : (N.eraseIdx k).length = 8191 := by rw [List.length_eraseIdx_of_lt HS1.out.2.2.1, HX.out.1.1]
          obtain ⟨N2, hN2⟩ : ∃ N2, N2 = N.eraseIdx k := ⟨_, rfl⟩
          rw [← hN2] at HC HS2 hlen
          have HLEN := Lib.hid hlen
          clear hP hU HS1 hlen hN2
          go_wp2_with fail
          refine HC.out.mono ?_
          rintro e w5 ⟨rfl, hP, hU⟩
          have HC := Lib.hid (solo_after hP (by omega) (stands_zero N2) (by rw [HLEN.out]; omega))
          have HS3 := Lib.hid (And.intro hP (HS2.out.2.trans (HS2.out.1.below hU)))
          clear hP hU HS2
          go_wp2_with fail
          refine HC.out.mono ?_
          rintro e w6 ⟨N3, nw3, rfl, hP, hN3, hU⟩
          have hl3 : N3.length = 8192 := by
            have := congrArg List.length hN3
            rw [nms_len, List.length_insertIdx_of_le_length (Nat.zero_le _), nms_len, HLEN.out] at this
            exact this
          have HC1 := Lib.hid (solo_len hP)
          rw [hl3] at HC1
          have HS4 := Lib.hid (And.intro hP (HS3.out.2.trans (HS3.out.1.below hU)))
          clear hP hU HS3 HC hN3 hl3
          go_wp2_with fail
          refine HC1.out.mono ?_
          rintro e w7 ⟨rfl, hP, hU⟩
          have HC2 := Lib.hid (solo_writes hP)
          have HC3 := Lib.hid (solo_given hP)
          have hw := hP.inv.writes
          have n5 : decide ((nw3 : Int) ≤ 4063728) = true := decide_eq_true (by omega)
          have n6 : decide (nw3 ≤ 4063728) = true := decide_eq_true (by omega)
          have HS5 := Lib.hid (HS4.out.2.trans (HS4.out.1.below hU))
          clear hP hU HS4 HC1 hw
          go_wp2_with fail
          refine HC2.out.mono ?_
          rintro e w8 ⟨rfl, rfl⟩
          go_wp2_with fail
          refine HC3.out.mono ?_
          rintro e w9 ⟨rfl, rfl⟩
          go_wp2
          go_ret
          exact ⟨rfl, by rw [← HBw.out]; exact HS5.out⟩

end Go.Proofs.Ytnhgeoccknhiiaa
