/- Texts: the program's test, walked. -/
import Derived.Test.YtemmkobgpciflaaDoorUtf
namespace Go.Proofs.YtemmkobgpciflaaDoor
open Go.RowKit
namespace Ch

set_option maxRecDepth 100000 in
set_option maxHeartbeats 1000000 in
/-- No character that can be begins there. -/
theorem first_bad (s : ByteArray) (i : Nat) (hi : i < s.size) (w : World) (hT : Tabs w) (h0 : step s i = 0) : Calls Tryd.prog 189 #[.string (s.extract i s.size)] w fun e w' => e = .returned (.tuple #[.int .i64 0, .int .i64 0, .int .i64 7]) ∧ Below w.heap.size w w' := by
  have C := Tryd.utf8_DecodeRuneInString (s.extract i s.size) w hT
  rw [decodeGo_eq s i hi] at C
  have h1 := dec_le s i hi
  have h2 := dec_r s i
  have h3 : step s i = if ((dec s i).1 = 65533 ∧ (dec s i).2 = 1) ∨ canB (dec s i).1 = false then 0 else (dec s i).2 := rfl
  obtain ⟨⟨R, K⟩, hD⟩ : ∃ D, dec s i = D := ⟨_, rfl⟩
  rw [hD] at C h1 h2 h3
  simp only at C h1 h2 h3
  rw [h0] at h3
  have D := can_any R
  obtain ⟨b, hb⟩ : ∃ b, canB R = b := ⟨_, rfl⟩
  rw [hb] at D h3
  have hk0 : ¬ ((K : Int) = 0) := by omega
  have hk1 : ((K : Int) == 0) = false := beq_eq_false_iff_ne.2 hk0
  have hr : (R : Int) < 2147483648 := by omega
  have hor : (R = 65533 ∧ K = 1) ∨ b = false := by
    by_cases h : (R = 65533 ∧ K = 1) ∨ b = false
    · exact h
    · rw [if_neg h] at h3
      omega
  clear h1 h2 h3 hb hD h0
  by_cases hRK : R = 65533 ∧ K = 1
  · obtain ⟨rfl, rfl⟩ := hRK
    clear D hor
    go_enter Tryd.func189, Tryd.ntmps189
    go_wp2_with (go_at_call 198; refine C.mono ?_; rintro e w1 ⟨rfl, hB⟩)
    go_ret3
    exact ⟨rfl, hB⟩
  · obtain rfl := hor.resolve_left hRK
    clear hor
    by_cases hR : R = 65533
    · have hRb : ((R : Int) == 65533) = true := beq_iff_eq.2 (by omega)
      have hKz : ¬ ((K : Int) = 1) := by omega
      have hKb : ((K : Int) == 1) = false := beq_eq_false_iff_ne.2 hKz
      clear hR hRK
      go_enter Tryd.func189, Tryd.ntmps189
      go_wp2_with (first | (go_at_call 198; refine C.mono ?_; rintro e w1 ⟨rfl, hB⟩) | (go_at_call 199; refine (D _).mono ?_; rintro e w1 ⟨rfl, rfl⟩))
      go_ret3
      exact ⟨rfl, hB⟩
    · have hRb : ((R : Int) == 65533) = false := beq_eq_false_iff_ne.2 (by omega)
      clear hR hRK
      go_enter Tryd.func189, Tryd.ntmps189
      go_wp2_with (first | (go_at_call 198; refine C.mono ?_; rintro e w1 ⟨rfl, hB⟩) | (go_at_call 199; refine (D _).mono ?_; rintro e w1 ⟨rfl, rfl⟩))
      go_ret3
      exact ⟨rfl, hB⟩

set_option maxRecDepth 100000 in
set_option maxHeartbeats 1000000 in
/-- The character that begins there. -/
theorem first_good (s : ByteArray) (i : Nat) (hi : i < s.size) (w : World) (hT : Tabs w) (h0 : step s i ≠ 0) : Calls Tryd.prog 189 #[.string (s.extract i s.size)] w fun e w' => e = .returned (.tuple #[.int .i64 (dec s i).1, .int .i64 (step s i), .int .i64 0]) ∧ Below w.heap.size w w' := by
  have C := Tryd.utf8_DecodeRuneInString (s.extract i s.size) w hT
  rw [decodeGo_eq s i hi] at C
  have h1 := dec_le s i hi
  have h2 := dec_r s i
  have h3 : step s i = if ((dec s i).1 = 65533 ∧ (dec s i).2 = 1) ∨ canB (dec s i).1 = false then 0 else (dec s i).2 := rfl
  obtain ⟨⟨R, K⟩, hD⟩ : ∃ D, dec s i = D := ⟨_, rfl⟩
  rw [hD] at C h1 h2 h3
  simp only at C h1 h2 h3
  rw [hD]
  have D := can_any R
  obtain ⟨b, hb⟩ : ∃ b, canB R = b := ⟨_, rfl⟩
  rw [hb] at D h3
  have hk0 : ¬ ((K : Int) = 0) := by omega
  have hk1 : ((K : Int) == 0) = false := beq_eq_false_iff_ne.2 hk0
  have hr : (R : Int) < 2147483648 := by omega
  have hor : ¬ ((R = 65533 ∧ K = 1) ∨ b = false) := fun h => by rw [if_pos h] at h3; exact h0 h3
  rw [if_neg hor] at h3
  rw [h3]
  have hbt : b = true := by
    cases b
    · exact absurd (Or.inr rfl) hor
    · rfl
  subst hbt
  have hRK : ¬ (R = 65533 ∧ K = 1) := fun h => hor (Or.inl h)
  clear h1 h2 h3 hb hD h0 hor
  by_cases hR : R = 65533
  · have hRb : ((R : Int) == 65533) = true := beq_iff_eq.2 (by omega)
    have hKz : ¬ ((K : Int) = 1) := by omega
    have hKb : ((K : Int) == 1) = false := beq_eq_false_iff_ne.2 hKz
    clear hR hRK
    go_enter Tryd.func189, Tryd.ntmps189
    go_wp2_with (first | (go_at_call 198; refine C.mono ?_; rintro e w1 ⟨rfl, hB⟩) | (go_at_call 199; refine (D _).mono ?_; rintro e w1 ⟨rfl, rfl⟩))
    go_ret3
    exact ⟨rfl, hB⟩
  · have hRb : ((R : Int) == 65533) = false := beq_eq_false_iff_ne.2 (by omega)
    clear hR hRK
    go_enter Tryd.func189, Tryd.ntmps189
    go_wp2_with (first | (go_at_call 198; refine C.mono ?_; rintro e w1 ⟨rfl, hB⟩) | (go_at_call 199; refine (D _).mono ?_; rintro e w1 ⟨rfl, rfl⟩))
    go_ret3
    exact ⟨rfl, hB⟩

set_option maxRecDepth 100000 in
set_option maxHeartbeats 1000000 in
theorem text_any (s : ByteArray) (w : World) (hT : Tabs w) : Calls Tryd.prog 172 #[.string s] w fun e w' => e = .returned (.tuple #[.int .i64 (textP s), .int .i64 (textE s)]) ∧ Below w.heap.size w w' := by
  obtain ⟨P0, hP⟩ : ∃ p, textP s = p := ⟨_, rfl⟩
  obtain ⟨E0, hE⟩ : ∃ p, textE s = p := ⟨_, rfl⟩
  rw [hP, hE]
  have HPE := Lib.hid (And.intro hP hE)
  clear hP hE
  by_cases hL : 16384 < s.size
  · have hz : (16384 : Int) < (s.size : Int) := by omega
    obtain ⟨h1, h2⟩ := text_long hL
    obtain rfl : 0 = P0 := h2.symm.trans HPE.out.1
    obtain rfl : 2 = E0 := h1.symm.trans HPE.out.2
    clear h1 h2
    go_enter Tryd.func172, Tryd.ntmps172
    go_wp2
    go_ret2
    exact ⟨rfl, Below.refl _ _⟩
  · have hz : ¬ (16384 : Int) < (s.size : Int) := by omega
    have HN := Lib.hid (And.intro hL hT)
    clear hL hT
    go_enter Tryd.func172, Tryd.ntmps172
    go_wp2
    go_loopg [4] s.size (fun kq v w' => ∃ i : Nat, v = .int .i64 i ∧ Hid (kq = s.size - i ∧ i ≤ s.size ∧ bad s 0 = bad s i) ∧ Hid (Below w.heap.size w w'))
    case atStart => exact ⟨0, rfl, Lib.hid ⟨rfl, Nat.zero_le _, rfl⟩, Lib.hid (Below.refl _ _)⟩
    case round =>
      obtain ⟨i, rfl, HI, HB⟩ := hrel
      have hi0 : (0 : Int) ≤ (i : Int) := by omega
      by_cases hi : i < s.size
      · have hi1 : (i : Int) < (s.size : Int) := by omega
        have hi2 : decide (i < s.size) = true := decide_eq_true hi
        have hi3 : (i : Int) ≤ (s.size : Int) := by omega
        have H1 := Lib.hid hi
        clear hi
        by_cases h0 : step s i = 0
        · have C := first_bad s i H1.out wr (HN.out.2.below HB.out) h0
          have H0 := Lib.hid h0
          clear h0
          go_wp2_with fail
          refine C.mono ?_
          rintro e w2 ⟨rfl, hB2⟩
          have HB2 := Lib.hid hB2
          clear hB2 C
          go_wp2
          go_ret2
          obtain ⟨h1, h2⟩ := text_bad HN.out.1 (HI.out.2.2.trans (bad_here H1.out H0.out))
          rw [← HPE.out.1, ← HPE.out.2, h1, h2]
          exact ⟨rfl, HB.out.trans (HB2.out.mono HB.out.size)⟩
        · have C := first_good s i H1.out wr (HN.out.2.below HB.out) h0
          have H0 := Lib.hid h0
          have h2 := step_le s i H1.out
          have h2z : (i : Int) + (step s i : Int) ≤ (s.size : Int) := by omega
          clear h0 h2
          go_wp2_with fail
          refine C.mono ?_
          rintro e w2 ⟨rfl, hB2⟩
          have HB2 := Lib.hid hB2
          clear hB2 C
          go_wp2
          go_roundg (s.size - (i + step s i))
          case measure => have := HI.out; have := H0.out; have := H1.out; omega
          case rel => exact ⟨i + step s i, by go_num, Lib.hid ⟨rfl, by omega, by rw [HI.out.2.2, bad_on H1.out H0.out]⟩, Lib.hid (HB.out.trans (HB2.out.mono HB.out.size))⟩
      · have hi1 : ¬ (i : Int) < (s.size : Int) := by omega
        have hi2 : decide (i < s.size) = false := decide_eq_false hi
        have H1 := Lib.hid hi
        clear hi
        go_wp2
        go_ret2
        obtain ⟨h1, h2⟩ := text_good HN.out.1 (HI.out.2.2.trans (bad_end H1.out))
        rw [← HPE.out.1, ← HPE.out.2, h1, h2]
        exact ⟨rfl, HB.out⟩

set_option maxHeartbeats 1000000 in
theorem Text_any (s : ByteArray) (w : World) (hT : Tabs w) : Calls Tryd.prog 141 #[.string s] w fun e w' => e = .returned (.tuple #[.int .i64 (textP s), .int .i64 (textE s)]) ∧ Below w.heap.size w w' := by
  have C := text_any s w hT
  generalize textP s = p at *
  generalize textE s = q at *
  go_enter Tryd.func141, Tryd.ntmps141
  go_wp2_with (go_at_call 172; refine C.mono ?_; rintro e w1 ⟨rfl, hB⟩)
  go_ret2
  exact ⟨rfl, hB⟩

end Ch
end Go.Proofs.YtemmkobgpciflaaDoor
