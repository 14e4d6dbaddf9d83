/- What is wrong with a node itself: the program's test, walked. -/
import Derived.Test.YtemmkobgpciflaaDoorTr
import Derived.Test.YtemmkobgpciflaaDoorTx
namespace Go.Proofs.YtemmkobgpciflaaDoor
open Go.RowKit
namespace Ch

set_option maxRecDepth 100000 in
set_option maxHeartbeats 2000000 in
theorem attrs_any (al : List Att) (aa : Option Addr) (ca : Nat) (w : World) (hR : Rd w (.slice aa al.length ca) al.length 2 (atc al)) (hT : Tabs w) :
    Calls Tryd.prog 140 #[.slice aa al.length ca] w fun e w' => e = .returned (.int .i64 (attrsE al)) ∧ Below w.heap.size w w' := by
  obtain ⟨E0, hE⟩ : ∃ p, attrsE al = p := ⟨_, rfl⟩
  rw [hE]
  have hE0 := Lib.hid hE
  have hE1 := hE
  unfold attrsE at hE1
  clear hE
  by_cases hL : 32 < al.length
  · have hz : (32 : Int) < (al.length : Int) := by omega
    rw [if_pos hL] at hE1
    subst hE1
    clear hL hR hT hE0
    go_enter Tryd.func140, Tryd.ntmps140
    go_wp2
    go_ret
    exact ⟨rfl, Below.refl _ _⟩
  · have hz : ¬ (32 : Int) < (al.length : Int) := by omega
    rw [if_neg hL] at hE1
    have HE := Lib.hid hE1
    have HN := Lib.hid (And.intro hR (And.intro hT hL))
    clear hL hR hT hE0 hE1
    go_enter Tryd.func140, Tryd.ntmps140
    go_wp2
    go_loopg [12] al.length (fun kq v w' => ∃ i : Nat, v = .int .i64 i ∧ Hid (kq = al.length - i ∧ i ≤ al.length ∧ attrsGo none al = attrsGo (prev al i) (al.drop i)) ∧ Hid (Below w.heap.size w w'))
    case atStart => exact ⟨0, rfl, Lib.hid ⟨rfl, Nat.zero_le _, rfl⟩, Lib.hid (Below.refl _ _)⟩
    case round =>
      obtain ⟨i, rfl, HI, HB⟩ := hrel
      have hi0 : (0 : Int) ≤ (i : Int) := by omega
      by_cases hi : i < al.length
      · have hi1 : (i : Int) < (al.length : Int) := by omega
        have hi2 : decide (i < al.length) = true := decide_eq_true hi
        obtain ⟨⟨x, y⟩, ha⟩ : ∃ a, al[i]? = some a := ⟨al[i], List.getElem?_eq_getElem hi⟩
        obtain ⟨g, off, rfl, hc, x0, y0⟩ := atts_at (HN.out.1) ha
        have U : Upd w wr (fun _ => False) := Upd.ofBelow HB.out
        have x1 : wr.cell? ⟨g, off + i * 2, none⟩ = some (.string x) := by rw [U.cell (by exact World.block_lt_of_cell? w _ x0) (fun h => h)]; exact x0
        have y1 : wr.cell? ⟨g, off + i * 2 + 1, none⟩ = some (.string y) := by rw [U.cell (by exact World.block_lt_of_cell? w _ y0) (fun h => h)]; exact y0
        have HA := Lib.hid (And.intro ha hi)
        have hg : g ≠ wr.heap.size := by have := World.block_lt_of_cell? wr _ x1; simp at this; omega
        clear ha hi U x0 y0
        obtain ⟨b, hb⟩ : ∃ b, nameB x = b := ⟨_, rfl⟩
        have C := name_any x
        rw [hb] at C
        have Hb := Lib.hid hb
        clear hb
        cases b
        · go_wp2
          go_quiet ((go_at_call 139; exact Calls.quiet_of_same (C _)))
          go_wp2
          go_ret
          refine ⟨?_, below_ad HB.out (Nat.le_refl _) _ _⟩
          rw [← HE.out, HI.out.2.2, attrs_name HA.out.1 Hb.out]
          rfl
        · by_cases h0 : i = 0
          · have hst : stale (prev al i) x = false := by rw [h0]; rfl
            have hz0 : ¬ ((0 : Int) < (i : Int)) := by omega
            have hz1 : decide (0 < i) = false := decide_eq_false (by omega)
            have hz2 : decide ((0 : Int) < (i : Int)) = false := decide_eq_false hz0
            clear hz0
            clear h0
            have Hst := Lib.hid hst
            clear hst
            have D := fun (n : Nat) => Text_any y ((wr.alloc (.cells #[.string x, .string y] 146)).drewN n) ((HN.out.2.1.below HB.out).keep (((Upd.refl wr (fun _ => False)).alloc _).drewN n) (fun h => h) (fun h => h))
            obtain ⟨P0, hP⟩ : ∃ p, textP y = p := ⟨_, rfl⟩
            obtain ⟨T0, hT⟩ : ∃ p, textE y = p := ⟨_, rfl⟩
            rw [hP, hT] at D
            have HT := Lib.hid hT
            clear hP hT
            by_cases ht : T0 = 0
            · subst ht
              go_wp2
              go_quiet ((go_at_call 139; exact Calls.quiet_of_same (C _)))
              go_wp2_with fail
              refine (D _).mono ?_
              rintro e w2 ⟨rfl, hB2⟩
              have HB2 := Lib.hid hB2
              clear hB2 D C
              go_wp2
              go_roundg (al.length - (i + 1))
              case measure => have := HI.out; have := HA.out; omega
              case rel => exact ⟨i + 1, by go_num, Lib.hid ⟨rfl, HA.out.2, by rw [HI.out.2.2]; exact attrs_on HA.out.1 Hb.out Hst.out HT.out⟩, Lib.hid (HB.out.trans (((below_ad (Below.refl wr.heap.size wr) (Nat.le_refl _) _ _).trans (HB2.out.mono (by simp))).mono HB.out.size))⟩
            · have htb : (T0 == 0) = false := beq_eq_false_iff_ne.2 ht
              have Ht := Lib.hid ht
              clear ht
              go_wp2
              go_quiet ((go_at_call 139; exact Calls.quiet_of_same (C _)))
              go_wp2_with fail
              refine (D _).mono ?_
              rintro e w2 ⟨rfl, hB2⟩
              have HB2 := Lib.hid hB2
              clear hB2 D C
              go_wp2
              go_ret
              refine ⟨?_, HB.out.trans (((below_ad (Below.refl wr.heap.size wr) (Nat.le_refl _) _ _).trans (HB2.out.mono (by simp))).mono HB.out.size)⟩
              rw [← HE.out, HI.out.2.2, attrs_text HA.out.1 Hb.out Hst.out (by rw [HT.out]; exact Ht.out), HT.out]
              rfl
          · obtain ⟨j, rfl⟩ : ∃ j, i = j + 1 := ⟨i - 1, by omega⟩
            obtain ⟨⟨q, q'⟩, hq⟩ : ∃ a, al[j]? = some a := ⟨al[j]'(by have := HA.out; omega), List.getElem?_eq_getElem _⟩
            obtain ⟨g', off', e', _, q0, _⟩ := atts_at HN.out.1 hq
            cases e'
            have q1 : wr.cell? ⟨g, off + j * 2, none⟩ = some (.string q) := by rw [(Upd.ofBelow (F := fun _ => False) HB.out).cell (by exact World.block_lt_of_cell? w _ q0) (fun h => h)]; exact q0
            have hz0 : (0 : Int) < ((j + 1 : Nat) : Int) := by omega
            have hj0 : (0 : Int) ≤ (j : Int) := by omega
            have hj1 : (j : Int) < (al.length : Int) := by omega
            have q2 : ∀ o, (wr.alloc o).cell? ⟨g, off + j * 2, none⟩ = some (.string q) := fun o => by rw [((Upd.refl wr (fun _ => False)).alloc o).cell (by exact World.block_lt_of_cell? wr _ q1) (fun h => h)]; exact q1
            have hwj : IntKind.i64.wrap (j : Int) = (j : Int) := wrapj (by omega) (by omega)
            have hpq : prev al (j + 1) = some q := by simp [prev, hq]
            clear h0 q0 hq
            obtain ⟨b, hb⟩ : ∃ b, leB x q = b := ⟨_, rfl⟩
            have hst : stale (prev al (j + 1)) x = b := by rw [hpq]; exact hb
            have hle : (Op.bytesLess x.toList q.toList || x.toList == q.toList) = b := hb
            clear hb hpq
            cases b
            · skip
              have Hst := Lib.hid hst
              clear hst
              have D := fun (n : Nat) => Text_any y ((wr.alloc (.cells #[.string x, .string y] 146)).drewN n) ((HN.out.2.1.below HB.out).keep (((Upd.refl wr (fun _ => False)).alloc _).drewN n) (fun h => h) (fun h => h))
              obtain ⟨P0, hP⟩ : ∃ p, textP y = p := ⟨_, rfl⟩
              obtain ⟨T0, hT⟩ : ∃ p, textE y = p := ⟨_, rfl⟩
              rw [hP, hT] at D
              have HT := Lib.hid hT
              clear hP hT
              by_cases ht : T0 = 0
              · subst ht
                go_wp2
                go_quiet ((go_at_call 139; exact Calls.quiet_of_same (C _)))
                go_wp2_with fail
                refine (D _).mono ?_
                rintro e w2 ⟨rfl, hB2⟩
                have HB2 := Lib.hid hB2
                clear hB2 D C
                go_wp2
                go_roundg (al.length - ((j + 1) + 1))
                case measure => have := HI.out; have := HA.out; omega
                case rel => exact ⟨(j + 1) + 1, by go_num, Lib.hid ⟨rfl, HA.out.2, by rw [HI.out.2.2]; exact attrs_on HA.out.1 Hb.out Hst.out HT.out⟩, Lib.hid (HB.out.trans (((below_ad (Below.refl wr.heap.size wr) (Nat.le_refl _) _ _).trans (HB2.out.mono (by simp))).mono HB.out.size))⟩
              · have htb : (T0 == 0) = false := beq_eq_false_iff_ne.2 ht
                have Ht := Lib.hid ht
                clear ht
                go_wp2
                go_quiet ((go_at_call 139; exact Calls.quiet_of_same (C _)))
                go_wp2_with fail
                refine (D _).mono ?_
                rintro e w2 ⟨rfl, hB2⟩
                have HB2 := Lib.hid hB2
                clear hB2 D C
                go_wp2
                go_ret
                refine ⟨?_, HB.out.trans (((below_ad (Below.refl wr.heap.size wr) (Nat.le_refl _) _ _).trans (HB2.out.mono (by simp))).mono HB.out.size)⟩
                rw [← HE.out, HI.out.2.2, attrs_text HA.out.1 Hb.out Hst.out (by rw [HT.out]; exact Ht.out), HT.out]
                rfl
            · have Hst := Lib.hid hst
              clear hst
              go_wp2
              go_quiet ((go_at_call 139; exact Calls.quiet_of_same (C _)))
              go_wp2
              go_ret
              refine ⟨?_, below_ad HB.out (Nat.le_refl _) _ _⟩
              rw [← HE.out, HI.out.2.2, attrs_rise HA.out.1 Hb.out Hst.out]
              rfl
      · have hi1 : ¬ (i : Int) < (al.length : Int) := by omega
        have hi2 : decide (i < al.length) = false := decide_eq_false hi
        have H1 := Lib.hid hi
        clear hi
        go_wp2
        go_ret
        refine ⟨?_, HB.out⟩
        rw [← HE.out, HI.out.2.2, attrs_end H1.out]
        rfl

end Ch
end Go.Proofs.YtemmkobgpciflaaDoor
