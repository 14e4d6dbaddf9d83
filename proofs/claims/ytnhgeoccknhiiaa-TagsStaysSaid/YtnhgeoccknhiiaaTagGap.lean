/- TagsGap, walked: so many tags right behind one place, or by turns behind two, or always behind the newest one. -/
import Derived.Test.YtnhgeoccknhiiaaTagOpen
namespace Go.Proofs.Ytnhgeoccknhiiaa
open Go.RowKit

/-- Small numbers as they came in. -/
def U8sAt (w : World) (v : Value) (l : List Nat) : Prop := Rd w v l.length 1 (l.map fun n : Nat => Value.int .u8 (n : Int)) ∧ ∀ n ∈ l, n < 256

theorem u8s_at {w w' : World} {v : Value} {l : List Nat} (h : U8sAt w v l) (hB : Below w.heap.size w w') {i : Nat} (hi : i < l.length) : ∃ (n : Nat) (g off c : Nat), n < 256 ∧ v = .slice (some ⟨g, off, none⟩) l.length c ∧ w'.cell? ⟨g, off + i, none⟩ = some (.int .u8 n) := by
  obtain ⟨g, off, c, e, _, h0⟩ := h.1.at_ (j := i) (u := .int .u8 (l[i] : Nat)) (by simp [hi])
  exact ⟨l[i], g, off, c, h.2 _ (List.getElem_mem hi), e, by rw [hB.cell (World.block_lt_of_cell? w _ h0)]; exact h0⟩

/-- Two fresh lists, in new memory. -/
theorem pair_fresh (w : World) : ∃ w1, w1 = (w.alloc (.cells #[.map none, .pointer none, .int .u64 0, .int .u64 0] 73)).alloc (.cells #[.slice none 0 0, .int .u64 0] 86) ∧ Pair w.heap.size w1 w.heap.size (w.heap.size + 1) [] 0 0 ∧ Below w.heap.size w w1 := by
  refine ⟨_, rfl, ?_, ?_⟩
  · refine pair_new w _ _ _ (Nat.le_refl _) (by omega) ?_ ?_
    · have U2 : Upd (w.alloc (.cells #[.map none, .pointer none, .int .u64 0, .int .u64 0] 73)) ((w.alloc (.cells #[.map none, .pointer none, .int .u64 0, .int .u64 0] 73)).alloc (.cells #[.slice none 0 0, .int .u64 0] 86)) (fun _ => False) := (Upd.refl _ _).alloc _
      exact U2.blk (Blk.new w _ _) (fun h => h)
    · have := Blk.new (w.alloc (.cells #[.map none, .pointer none, .int .u64 0, .int .u64 0] 73)) [.slice none 0 0, .int .u64 0] 86
      simpa using this
  · exact (below_0 (Nat.le_refl _) ((Upd.refl w _).alloc _)).trans (below_0 (by simp) ((Upd.refl _ _).alloc _))

set_option maxRecDepth 20000 in
set_option maxHeartbeats 1000000 in
theorem tagsGap_calls (w : World) (n tn : Nat) (v : Value) (l : List Nat) (h : U8sAt w v l) (hl : l.length ≤ 140737488351232) (hn : n < 65536) (htn : tn < 256) :
    Calls Try.prog 9 #[.int .u16 n, v, .int .u8 tn] w (TruePost w) := by
  obtain ⟨a, c, rfl, hc⟩ := h.1.form
  have HA := Lib.hid h
  clear h
  go_enter Try.func9, Try.ntmps9
  go_wp2
  obtain ⟨w1, hw1, S0, S0b⟩ := pair_fresh w
  obtain ⟨p, hp⟩ : ∃ p, p = w.heap.size := ⟨_, rfl⟩
  obtain ⟨d, hd⟩ : ∃ d, d = p + 1 := ⟨_, rfl⟩
  obtain ⟨B, hBw⟩ : ∃ B, B = w.heap.size := ⟨_, rfl⟩
  rw [← hw1, ← hp, ← hd]
  rw [← hp, ← hd] at S0
  have S1 : Hid (Pair B w1 p d [] 0 0 ∧ Below B w w1) := Lib.hid ⟨by rw [hBw, ← hp]; exact S0, by rw [hBw]; exact S0b⟩
  have HBw := Lib.hid hBw
  clear hw1 hp hd hBw S0 S0b
  go_loopg [9] l.length (fun kq v9 w' => ∃ i : Nat, v9 = .int .i64 i ∧ Hid (kq = l.length - i ∧ i ≤ l.length) ∧ Hid (∃ N g nw, Pair B w' p d N g nw ∧ g ≤ i ∧ Below B w w'))
  case atStart => exact ⟨0, rfl, Lib.hid ⟨rfl, Nat.zero_le _⟩, Lib.hid ⟨[], 0, 0, S1.out.1, Nat.le_refl _, S1.out.2⟩⟩
  case round =>
    obtain ⟨i, rfl, HI, HS⟩ := hrel
    by_cases hi : i < l.length
    · obtain ⟨N, g, nw, hP, hg, hL⟩ := HS.out
      obtain ⟨x, gb, off, c', hx, e1, k0⟩ := u8s_at HA.out (by rw [← HBw.out]; exact hL) hi
      cases e1
      have hi0 : (0 : Int) ≤ (i : Int) := by omega
      have hi1 : (i : Int) < (l.length : Int) := by omega
      have hi2 : decide (i < l.length) = true := decide_eq_true hi
      have hwx : IntKind.u64.wrap (x : Int) = (x : Int) := IntWalk.u64_in _ (by omega)
      have HC := Lib.hid (does_any B p d N g nw 0 1 x 0 wr hP (by omega) (by omega))
      have HL := Lib.hid (And.intro hL hg)
      clear hP hL hg HS
      go_wp2_with fail
      refine HC.out.mono ?_
      rintro e w2 ⟨N', g', nw', rfl, hP, _, hg2, hL2, _⟩
      have HS2 := Lib.hid (And.intro hP (And.intro (HL.out.1.trans hL2) (Nat.le_trans hg2 (Nat.succ_le_succ HL.out.2))))
      clear hP hL2 hg2 HC k0
      go_wp2
      go_roundg (l.length - (i + 1))
      case rel => exact ⟨i + 1, by go_num, Lib.hid ⟨rfl, by omega⟩, Lib.hid ⟨N', g', nw', HS2.out.1, HS2.out.2.2, HS2.out.2.1⟩⟩
      case measure => have := HI.out; omega
    · have hi2 : decide (i < l.length) = false := decide_eq_false hi
      obtain ⟨N, g, nw, hP, hg, hL⟩ := HS.out
      have HG := Lib.hid (show g ≤ 140737488351232 by have := HI.out; omega)
      obtain ⟨vr, hB, _⟩ := hP.ref
      have h1 : wr.cell? ⟨d, 1, none⟩ = some (.int .u64 g) := hB.cell 1
      have S2 := Lib.hid (And.intro hP hL)
      have hg0 : (0 : Int) ≤ (g : Int) := by omega
      clear HI hg HS hP hL hB
      go_wp2
      obtain ⟨pl, hpl⟩ : ∃ pl : Nat, pl = g / 2 := ⟨_, rfl⟩
      rw [show IntKind.u64.wrap ((g : Int) / 2) = (pl : Int) by rw [hpl, show ((g : Int) / 2) = ((g / 2 : Nat) : Int) from rfl]; exact IntWalk.u64_in _ (by have := HG.out; omega)]
      have HPL := Lib.hid (show pl < 18446744073709551616 by have := HG.out; omega)
      clear hpl h1
      go_loopg [11] (n % 2000) (fun kq v11 w' => ∃ j : Nat, v11 = .int .i64 j ∧ Hid (kq = n % 2000 - j ∧ j ≤ n % 2000) ∧ Hid (∃ N g2 nw, Pair B w' p d N g2 nw ∧ g2 ≤ g + j ∧ Below B w w'))
      case atStart => exact ⟨0, rfl, Lib.hid ⟨rfl, Nat.zero_le _⟩, Lib.hid ⟨N, g, nw, S2.out.1, Nat.le_refl _, S2.out.2⟩⟩
      case round =>
        obtain ⟨j, rfl, HI, HS⟩ := hrel
        obtain ⟨m, hm⟩ : ∃ m, m = n % 2000 := ⟨_, rfl⟩
        have hn0 : (0 : Int) ≤ (n : Int) := by omega
        have hj0 : (0 : Int) ≤ (j : Int) := by omega
        have hm1 : (n : Int) % 2000 = (m : Int) := by rw [hm]; rfl
        have hwn : IntKind.i64.wrap (n : Int) = (n : Int) := IntWalk.i64_in _ (by omega)
        have HM := Lib.hid hm
        by_cases hj : j < m
        · obtain ⟨N2, g2, nw2, hP, hg, hL⟩ := HS.out
          have hj1 : (j : Int) < (m : Int) := by omega
          have hj2 : decide (j < m) = true := decide_eq_true hj
          have HC : Hid (∀ t : Nat, t < 18446744073709551616 → Calls Try.prog 43 #[.pointer (some ⟨p, 0, none⟩), .pointer (some ⟨d, 0, none⟩), .agg #[.int .i64 0, .int .i64 0, .int .u64 t, .int .u64 (0 : Nat)]] wr (DoesPost B p d N2 g2 nw2 0 wr)) :=
            Lib.hid fun t ht => does_any B p d N2 g2 nw2 0 0 t 0 wr hP (by have := HI.out; have := HG.out; omega) ht
          have HL := Lib.hid (And.intro hL (And.intro hg (show g2 < 18446744073709551616 by have := HI.out; have := HG.out; omega)))
          obtain ⟨vr, hB, _⟩ := hP.ref
          have h1 : wr.cell? ⟨d, 1, none⟩ = some (.int .u64 g2) := hB.cell 1
          have hg0 : (0 : Int) ≤ (g2 : Int) := by omega
          clear hP hL hg HS hB hm
          rcases Bool.eq_false_or_eq_true ((tn : Int) % 3 == 1) with b1 | b1
          · rcases Bool.eq_false_or_eq_true ((j : Int) % 2 == 1) with b2 | b2
            · rcases Bool.eq_false_or_eq_true ((tn : Int) % 3 == 2) with b3 | b3
              · have HC := Lib.hid (HC.out g2 HL.out.2.2)
                go_wp2_with fail
                refine HC.out.mono ?_
                rintro e w2 ⟨N', g', nw', rfl, hP, _, hg2, hL2, _⟩
                have HS2 := Lib.hid (And.intro hP (And.intro (HL.out.1.trans hL2) (Nat.le_trans hg2 (Nat.succ_le_succ HL.out.2.1))))
                clear hP hL2 hg2 HC
                go_wp2
                go_roundg (n % 2000 - (j + 1))
                case rel => exact ⟨j + 1, by go_num, Lib.hid ⟨rfl, by rw [← HM.out]; omega⟩, Lib.hid ⟨N', g', nw', HS2.out.1, HS2.out.2.2, HS2.out.2.1⟩⟩
                case measure => have := HI.out; rw [HM.out] at hj; omega
              · have HC := Lib.hid (HC.out 0 (by omega))
                go_wp2_with fail
                refine HC.out.mono ?_
                rintro e w2 ⟨N', g', nw', rfl, hP, _, hg2, hL2, _⟩
                have HS2 := Lib.hid (And.intro hP (And.intro (HL.out.1.trans hL2) (Nat.le_trans hg2 (Nat.succ_le_succ HL.out.2.1))))
                clear hP hL2 hg2 HC
                go_wp2
                go_roundg (n % 2000 - (j + 1))
                case rel => exact ⟨j + 1, by go_num, Lib.hid ⟨rfl, by rw [← HM.out]; omega⟩, Lib.hid ⟨N', g', nw', HS2.out.1, HS2.out.2.2, HS2.out.2.1⟩⟩
                case measure => have := HI.out; rw [HM.out] at hj; omega
            · rcases Bool.eq_false_or_eq_true ((tn : Int) % 3 == 2) with b3 | b3
              · have HC := Lib.hid (HC.out g2 HL.out.2.2)
                go_wp2_with fail
                refine HC.out.mono ?_
                rintro e w2 ⟨N', g', nw', rfl, hP, _, hg2, hL2, _⟩
                have HS2 := Lib.hid (And.intro hP (And.intro (HL.out.1.trans hL2) (Nat.le_trans hg2 (Nat.succ_le_succ HL.out.2.1))))
                clear hP hL2 hg2 HC
                go_wp2
                go_roundg (n % 2000 - (j + 1))
                case rel => exact ⟨j + 1, by go_num, Lib.hid ⟨rfl, by rw [← HM.out]; omega⟩, Lib.hid ⟨N', g', nw', HS2.out.1, HS2.out.2.2, HS2.out.2.1⟩⟩
                case measure => have := HI.out; rw [HM.out] at hj; omega
              · have HC := Lib.hid (HC.out pl HPL.out)
                go_wp2_with fail
                refine HC.out.mono ?_
                rintro e w2 ⟨N', g', nw', rfl, hP, _, hg2, hL2, _⟩
                have HS2 := Lib.hid (And.intro hP (And.intro (HL.out.1.trans hL2) (Nat.le_trans hg2 (Nat.succ_le_succ HL.out.2.1))))
                clear hP hL2 hg2 HC
                go_wp2
                go_roundg (n % 2000 - (j + 1))
                case rel => exact ⟨j + 1, by go_num, Lib.hid ⟨rfl, by rw [← HM.out]; omega⟩, Lib.hid ⟨N', g', nw', HS2.out.1, HS2.out.2.2, HS2.out.2.1⟩⟩
                case measure => have := HI.out; rw [HM.out] at hj; omega
          · rcases Bool.eq_false_or_eq_true ((tn : Int) % 3 == 2) with b3 | b3
            · have HC := Lib.hid (HC.out g2 HL.out.2.2)
              go_wp2_with fail
              refine HC.out.mono ?_
              rintro e w2 ⟨N', g', nw', rfl, hP, _, hg2, hL2, _⟩
              have HS2 := Lib.hid (And.intro hP (And.intro (HL.out.1.trans hL2) (Nat.le_trans hg2 (Nat.succ_le_succ HL.out.2.1))))
              clear hP hL2 hg2 HC
              go_wp2
              go_roundg (n % 2000 - (j + 1))
              case rel => exact ⟨j + 1, by go_num, Lib.hid ⟨rfl, by rw [← HM.out]; omega⟩, Lib.hid ⟨N', g', nw', HS2.out.1, HS2.out.2.2, HS2.out.2.1⟩⟩
              case measure => have := HI.out; rw [HM.out] at hj; omega
            · have HC := Lib.hid (HC.out pl HPL.out)
              go_wp2_with fail
              refine HC.out.mono ?_
              rintro e w2 ⟨N', g', nw', rfl, hP, _, hg2, hL2, _⟩
              have HS2 := Lib.hid (And.intro hP (And.intro (HL.out.1.trans hL2) (Nat.le_trans hg2 (Nat.succ_le_succ HL.out.2.1))))
              clear hP hL2 hg2 HC
              go_wp2
              go_roundg (n % 2000 - (j + 1))
              case rel => exact ⟨j + 1, by go_num, Lib.hid ⟨rfl, by rw [← HM.out]; omega⟩, Lib.hid ⟨N', g', nw', HS2.out.1, HS2.out.2.2, HS2.out.2.1⟩⟩
              case measure => have := HI.out; rw [HM.out] at hj; omega
        · have hj1 : ¬ (j : Int) < (m : Int) := by omega
          have hj2 : decide (j < m) = false := decide_eq_false hj
          obtain ⟨N2, g2, nw2, hP, hg, hL⟩ := HS.out
          have HC := Lib.hid (does_any B p d N2 g2 nw2 0 0 0 0 wr hP (by have := HI.out; have := HG.out; omega) (by omega))
          have HL := Lib.hid (And.intro hL (show g2 + 1 < 4503599627370496 by have := HI.out; have := HG.out; omega))
          clear hP hg hL HS hm
          go_wp2_with fail
          refine HC.out.mono ?_
          rintro e w2 ⟨N', g', nw', rfl, hP, _, hg2, hL2, _⟩
          have HR := Lib.hid (rises_any B p d N' g' nw' w2 hP (by have := HL.out.2; omega))
          have HS2 := Lib.hid (HL.out.1.trans hL2)
          clear hP hL2 hg2 HC
          go_wp2_with fail
          refine HR.out.mono ?_
          rintro e w5 ⟨rfl, _, L5⟩
          have S5 := Lib.hid (HS2.out.trans L5)
          clear L5 HR
          go_wp2
          go_ret
          exact ⟨rfl, by rw [← HBw.out]; exact S5.out⟩

end Go.Proofs.Ytnhgeoccknhiiaa
