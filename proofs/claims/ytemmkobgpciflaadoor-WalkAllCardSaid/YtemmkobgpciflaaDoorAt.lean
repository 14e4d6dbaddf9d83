/- Texts: the document's test, walked. -/
import Derived.Test.YtemmkobgpciflaaDoorAtP
import Derived.Laws.BytesArg
namespace Go.Proofs.YtemmkobgpciflaaDoor
open Go.RowKit
namespace Ch

theorem cv (w : World) (xs : List Int) (n : Nat) (hn : xs.length = n) (vs : Array Value) (hv : vs = (xs.map (Value.int .u8)).toArray) :
    (convert 235 9 (.slice (some ⟨w.heap.size, 0, none⟩) n n)).run Tryd.prog (w.alloc (.cells vs 5)) = .ok (.string (strOfNums xs)) (w.alloc (.cells vs 5)) := by
  subst hv
  refine run_convert_bytes_arg _ 235 5 Tryd.underlying235 Tryd.underlying5 _ _ _ _ xs hn (fun i hi => ?_) 9 Tryd.underlying9
  have hB := Blk.new w (xs.map (Value.int .u8)) 5
  have h2 : i < xs.length := by omega
  rw [Nat.zero_add, hB.cell]
  simp [List.getD, List.getElem?_eq_getElem h2]
theorem cv1 (w : World) (a : Int) : (convert 235 9 (.slice (some ⟨w.heap.size, 0, none⟩) 1 1)).run Tryd.prog (w.alloc (.cells #[.int .u8 a] 5)) = .ok (.string (strOfNums [a])) (w.alloc (.cells #[.int .u8 a] 5)) := cv w [a] 1 rfl _ rfl
theorem cv2 (w : World) (a b : Int) : (convert 235 9 (.slice (some ⟨w.heap.size, 0, none⟩) 2 2)).run Tryd.prog (w.alloc (.cells #[.int .u8 a, .int .u8 b] 5)) = .ok (.string (strOfNums [a, b])) (w.alloc (.cells #[.int .u8 a, .int .u8 b] 5)) := cv w [a, b] 2 rfl _ rfl
theorem cv3 (w : World) (a b c : Int) : (convert 235 9 (.slice (some ⟨w.heap.size, 0, none⟩) 3 3)).run Tryd.prog (w.alloc (.cells #[.int .u8 a, .int .u8 b, .int .u8 c] 5)) = .ok (.string (strOfNums [a, b, c])) (w.alloc (.cells #[.int .u8 a, .int .u8 b, .int .u8 c] 5)) := cv w [a, b, c] 3 rfl _ rfl
theorem cv4 (w : World) (a b c d : Int) : (convert 235 9 (.slice (some ⟨w.heap.size, 0, none⟩) 4 4)).run Tryd.prog (w.alloc (.cells #[.int .u8 a, .int .u8 b, .int .u8 c, .int .u8 d] 5)) = .ok (.string (strOfNums [a, b, c, d])) (w.alloc (.cells #[.int .u8 a, .int .u8 b, .int .u8 c, .int .u8 d] 5)) := cv w [a, b, c, d] 4 rfl _ rfl

set_option maxRecDepth 100000 in
set_option maxHeartbeats 1000000 in
theorem bytes_any (r : Nat) (w : World) : Calls Tryd.prog 202 #[.int .i64 r] w fun e w' => (∃ s, e = .returned (.string s) ∧ s.size = Lb r) ∧ Below w.heap.size w w' := by
  have q1 := cv1
  have q2 := cv2
  have q3 := cv3
  have q4 := cv4
  by_cases h1 : r < 128
  · have z1 : (r : Int) < 128 := by omega
    have hL : Lb r = 1 := (Lb1 r).2 (by omega)
    rw [hL]
    clear hL h1 q2 q3 q4
    go_enter Tryd.func202, Tryd.ntmps202
    go_wp2
    go_ret
    exact ⟨⟨_, rfl, rfl⟩, (Below.refl _ _).alloc (Nat.le_refl _) _⟩
  · have z1 : ¬ (r : Int) < 128 := by omega
    by_cases h2 : r < 2048
    · have z2 : (r : Int) < 2048 := by omega
      have hL : Lb r = 2 := (Lb2 r).2 (by omega)
      rw [hL]
      clear hL h1 h2 q1 q3 q4
      go_enter Tryd.func202, Tryd.ntmps202
      go_wp2
      go_ret
      exact ⟨⟨_, rfl, rfl⟩, (Below.refl _ _).alloc (Nat.le_refl _) _⟩
    · have z2 : ¬ (r : Int) < 2048 := by omega
      by_cases h3 : r < 65536
      · have z3 : (r : Int) < 65536 := by omega
        have hL : Lb r = 3 := (Lb3 r).2 (by omega)
        rw [hL]
        clear hL h1 h2 h3 q1 q2 q4
        go_enter Tryd.func202, Tryd.ntmps202
        go_wp2
        go_ret
        exact ⟨⟨_, rfl, rfl⟩, (Below.refl _ _).alloc (Nat.le_refl _) _⟩
      · have z3 : ¬ (r : Int) < 65536 := by omega
        have hL : Lb r = 4 := (Lb4 r).2 (by omega)
        rw [hL]
        clear hL h1 h2 h3 q1 q2 q3
        go_enter Tryd.func202, Tryd.ntmps202
        go_wp2
        go_ret
        exact ⟨⟨_, rfl, rfl⟩, (Below.refl _ _).alloc (Nat.le_refl _) _⟩

theorem rk_bd (s : ByteArray) (i : Nat) : ∀ j, (∀ k, 1 ≤ k → k ≤ j → contB (bt s (i + k)) = true) → 0 ≤ rk s i j ∧ rk s i j < 128 * 64 ^ j
  | 0, _ => by
    have h0 := bt_lt s i
    simp only [rk, sizeR, Int.pow_zero]
    omega
  | j + 1, h => by
    obtain ⟨h1, h2⟩ := rk_bd s i j fun k a b => h k a (by omega)
    have h3 := h (j + 1) (by omega) (Nat.le_refl _)
    unfold contB at h3
    rw [decide_eq_true_eq] at h3
    simp only [rk, Int.pow_succ]
    generalize (64 : Int) ^ j = p at *
    omega
theorem rk_bd3 (s : ByteArray) (i j : Nat) (hj : j ≤ 3) (h : ∀ k, 1 ≤ k → k ≤ j → contB (bt s (i + k)) = true) : 0 ≤ rk s i j ∧ rk s i j < 33554432 := by
  obtain ⟨h1, h2⟩ := rk_bd s i j h
  have hj : j = 0 ∨ j = 1 ∨ j = 2 ∨ j = 3 := by omega
  rcases hj with rfl | rfl | rfl | rfl
  all_goals (simp only [Int.reducePow] at h2; omega)

theorem neq_of {a b n : Nat} (h : a = b) (h2 : ¬ b = n) : ((a : Int) == (n : Int)) = false := beq_eq_false_iff_ne.2 (by omega)
def atR (s : ByteArray) (i : Nat) : Int := if step s i = 0 then 0 else (dec s i).1
theorem atR_none {s : ByteArray} {i : Nat} (h : step s i = 0) : atR s i = 0 := if_pos h

set_option maxRecDepth 100000 in
set_option maxHeartbeats 1000000 in
theorem at_any (s : ByteArray) (i : Nat) (hi : i < s.size) (hs : s.size ≤ 9223372036854775800) (w : World) : Calls Tryd.prog 190 #[.string s, .int .i64 i] w fun e w' => e = .returned (.tuple #[.int .i64 (atR s i), .int .i64 (step s i)]) ∧ Below w.heap.size w w' := by
  have hi0 : (0 : Int) ≤ (i : Int) := by omega
  have hi1 : (i : Int) < (s.size : Int) := by omega
  have i0 := fun w => idx s .i64 i i rfl hi w
  have C := size_any (bt s i) (bt_lt s i)
  obtain ⟨A0, hA⟩ : ∃ a, atR s i = a := ⟨_, rfl⟩
  obtain ⟨S0, hS⟩ : ∃ a, step s i = a := ⟨_, rfl⟩
  rw [hA, hS]
  obtain ⟨n, hn⟩ : ∃ n : Nat, sizeN (bt s i) = n := by
    rcases sizeN_cases (bt s i) with h | h | h | h | h
    · exact ⟨0, h⟩
    · exact ⟨1, h⟩
    · exact ⟨2, h⟩
    · exact ⟨3, h⟩
    · exact ⟨4, h⟩
  obtain ⟨R0, hR⟩ : ∃ r, sizeR (bt s i) = r := ⟨_, rfl⟩
  rw [hn, hR] at C
  have hn4 : n ≤ 4 := by rcases sizeN_cases (bt s i) with h | h | h | h | h <;> omega
  have none : S0 = 0 → A0 = 0 := fun h => by rw [← hA]; exact atR_none (hS.trans h)
  by_cases h0 : n = 0
  · subst h0
    obtain rfl : 0 = S0 := ((step_none s i hn).symm.trans hS)
    obtain rfl := none rfl
    clear none hA hS hn hR
    go_enter Tryd.func190, Tryd.ntmps190
    go_wp2_with (go_at_call 200; refine (C _).mono ?_; rintro e w ⟨rfl, rfl⟩)
    go_ret2
    exact ⟨rfl, Below.refl _ _⟩
  · have h0b : ((n : Int) == 0) = false := beq_eq_false_iff_ne.2 (by omega)
    by_cases h1 : s.size < i + n
    · have h1z : (s.size : Int) < (i : Int) + (n : Int) := by omega
      obtain rfl : 0 = S0 := ((step_short s i (by rw [hn]; simpa using h1) hi).symm.trans hS)
      obtain rfl := none rfl
      have HK := Lib.hid (And.intro hs hn4)
      have hz : (i : Int) + (n : Int) ≤ 9223372036854775807 := by omega
      clear none hA hS hn hR h0
      go_enter Tryd.func190, Tryd.ntmps190
      go_wp2_with (go_at_call 200; refine (C _).mono ?_; rintro e w ⟨rfl, rfl⟩)
      go_ret2
      exact ⟨rfl, Below.refl _ _⟩
    · have h1z : ¬ (s.size : Int) < (i : Int) + (n : Int) := by omega
      have HF := Lib.hid (And.intro hA (And.intro hS (And.intro hn (And.intro hR (And.intro none (And.intro hi (And.intro hs (And.intro h0 (And.intro h1 hn4)))))))))
      have hz : (i : Int) + (n : Int) ≤ 9223372036854775807 := by omega
      clear none hA hS hn hR h0 h1 hs hi
      go_enter Tryd.func190, Tryd.ntmps190
      go_wp2_with (go_at_call 200; refine (C _).mono ?_; rintro e w ⟨rfl, rfl⟩)
      go_loopg [7, 8] (n - 1) (fun kq v7 v8 w' => ∃ (j : Nat) (R : Int), v7 = .int .i64 R ∧ v8 = .int .i64 ((j : Int) + 1) ∧ w = w' ∧ Hid (rk s i j = R) ∧ Hid (kq = n - 1 - j ∧ j + 1 ≤ n ∧ ∀ k, 1 ≤ k → k ≤ j → contB (bt s (i + k)) = true))
      case atStart =>
        obtain ⟨_, _, _, h4, _, _, _, h8, _⟩ := HF.out
        exact ⟨0, R0, rfl, rfl, rfl, Lib.hid h4, Lib.hid ⟨rfl, by omega, fun k a b => by omega⟩⟩
      case round =>
        obtain ⟨j, R, rfl, rfl, rfl, HR, HJ⟩ := hrel
        have hRb : 0 ≤ R ∧ R < 33554432 := by
          have := HR.out
          have := HJ.out
          rw [← HR.out]
          exact rk_bd3 s i j (by omega) HJ.out.2.2
        obtain ⟨hR0, hR1⟩ := hRb
        by_cases hj : j + 1 < n
        · have hj1 : (j : Int) + 1 < (n : Int) := by omega
          have hj2 : decide ((j : Int) + 1 < (n : Int)) = true := decide_eq_true hj1
          have hij : i + (j + 1) < s.size := by have := HF.out; omega
          have hz2 : (i : Int) + ((j : Int) + 1) < (s.size : Int) := by omega
          have hz3 : (0 : Int) ≤ (i : Int) + ((j : Int) + 1) := by omega
          have ii := fun w => idx s .i64 ((i : Int) + ((j : Int) + 1)) (i + (j + 1)) (by omega) hij w
          have hrk : rk s i (j + 1) = 64 * rk s i j + bt s (i + (j + 1)) - 128 := rfl
          rw [HR.out] at hrk
          have hcb := bt_lt s (i + (j + 1))
          obtain ⟨c, hc⟩ : ∃ c, bt s (i + (j + 1)) = c := ⟨_, rfl⟩
          rw [hc] at ii hrk hcb
          have HC := Lib.hid (And.intro hc (And.intro hrk (And.intro hj hij)))
          have hs2 : (i : Int) + ((j : Int) + 1) ≤ 9223372036854775807 := by have := HF.out; omega
          clear hc hrk C i0 hij hj
          by_cases hcc : contB c = true
          · have hcc2 := hcc
            unfold contB at hcc2
            rw [decide_eq_true_eq] at hcc2
            obtain ⟨c1, c2⟩ := hcc2
            have c1z : ¬ (c : Int) < 128 := by omega
            have c2z : ¬ (192 : Int) ≤ (c : Int) := by omega
            have HCC := Lib.hid hcc
            clear hcc c1 c2
            go_wp2
            go_roundg (n - 1 - (j + 1))
            case measure => have := HJ.out; have := HC.out; omega
            case rel =>
              refine ⟨j + 1, rk s i (j + 1), ?_, by go_num, rfl, Lib.hid rfl, Lib.hid ⟨rfl, HC.out.2.2.1, fun k a b => ?_⟩⟩
              · exact congrArg (Value.int .i64) HC.out.2.1.symm
              · rcases Nat.lt_or_ge j k with h | h
                · obtain rfl : k = j + 1 := by omega
                  rw [HC.out.1]
                  exact HCC.out
                · exact HJ.out.2.2 k a h
          · have h0 : step s i = 0 := by
              refine step_cont s i (j := j + 1) (by omega) ?_ ?_ ?_
              · rw [HF.out.2.2.1]; have := HC.out; omega
              · rw [HF.out.2.2.1]; have := HF.out; simp only [Int.toNat_natCast]; omega
              · rw [HC.out.1]; simpa using hcc
            obtain rfl : 0 = S0 := h0.symm.trans HF.out.2.1
            obtain rfl : A0 = 0 := HF.out.2.2.2.2.1 rfl
            unfold contB at hcc
            rw [decide_eq_true_eq] at hcc
            clear h0
            by_cases c1 : c < 128
            · have c1z : (c : Int) < 128 := by omega
              clear hcc c1
              go_wp2
              go_ret2
              exact ⟨rfl, Below.refl _ _⟩
            · have c1z : ¬ (c : Int) < 128 := by omega
              have c2z : (192 : Int) ≤ (c : Int) := by omega
              clear hcc c1
              go_wp2
              go_ret2
              exact ⟨rfl, Below.refl _ _⟩
        · have hj1 : ¬ (j : Int) + 1 < (n : Int) := by omega
          have hj2 : decide ((j : Int) + 1 < (n : Int)) = false := decide_eq_false hj1
          obtain ⟨g1, g2, g3⟩ := at_all s i n HF.out.2.2.1 (by have := HF.out; omega) (by have := HF.out; omega) (fun k a b => HJ.out.2.2 k a (by have := HJ.out; omega))
          have ej : n - 1 = j := by have := HJ.out; omega
          rw [ej, HR.out] at g2 g3
          unfold AtIs at g1
          rw [ej, HR.out] at g1
          obtain ⟨r, rfl⟩ : ∃ r : Nat, R = r := ⟨R.toNat, by omega⟩
          have D := char_any r
          have E := bytes_any r
          obtain ⟨b, hb⟩ : ∃ b, canB r = b := ⟨_, rfl⟩
          rw [hb] at D g1
          have HG := Lib.hid g1
          clear g1 C i0 hb hj
          cases b
          · have h0 : step s i = 0 := HG.out.2 fun h => by cases h.1
            obtain rfl : 0 = S0 := h0.symm.trans HF.out.2.1
            obtain rfl : A0 = 0 := HF.out.2.2.2.2.1 rfl
            clear h0 E
            go_wp2_with (go_at_call 201; refine (D _).mono ?_; rintro e w ⟨rfl, rfl⟩)
            go_ret2
            exact ⟨rfl, Below.refl _ _⟩
          · by_cases hl : Lb r = n
            · obtain ⟨k1, k2⟩ := HG.out.1 ⟨rfl, hl⟩
              obtain rfl : n = S0 := k1.symm.trans HF.out.2.1
              have ha : A0 = r := by
                rw [← HF.out.1]
                unfold atR
                rw [if_neg (by rw [k1]; have := HF.out; omega), k2]
              subst ha
              have HL := Lib.hid hl
              clear k1 k2 hl
              go_wp2_with (first | (go_at_call 201; refine (D _).mono ?_; rintro e w ⟨rfl, rfl⟩) | (go_at_call 202; refine (E _).mono ?_; rintro e w1 ⟨⟨sb, rfl, hsb⟩, hB⟩; rw [HL.out] at hsb))
              go_ret2
              exact ⟨rfl, hB⟩
            · have h0 : step s i = 0 := HG.out.2 fun h => hl h.2
              obtain rfl : 0 = S0 := h0.symm.trans HF.out.2.1
              obtain rfl : A0 = 0 := HF.out.2.2.2.2.1 rfl
              have HL := Lib.hid hl
              clear h0 hl
              go_wp2_with (first | (go_at_call 201; refine (D _).mono ?_; rintro e w ⟨rfl, rfl⟩) | fail)
              refine (E _).mono ?_
              rintro e w1 ⟨⟨sb, rfl, hsb⟩, hB⟩
              have hne : ¬ ((sb.size : Int) = (n : Int)) := fun h => HL.out (by omega)
              have hne2 : ((sb.size : Int) != (n : Int)) = true := by simp; omega
              clear ej
              clear hsb E D
              go_wp2
              go_ret2
              exact ⟨rfl, hB⟩

set_option maxRecDepth 100000 in
set_option maxHeartbeats 1000000 in
theorem bad_any (s : ByteArray) (hs : s.size ≤ 9223372036854775800) (w : World) : Calls Tryd.prog 175 #[.string s] w fun e w' => e = .returned (.tuple #[.int .i64 (match bad s 0 with | none => 0 | some p => (p : Int)), .int .i64 (match bad s 0 with | none => 0 | some _ => 7)]) ∧ Below w.heap.size w w' := by
  obtain ⟨P0, hP⟩ : ∃ p : Int, (match bad s 0 with | none => 0 | some p => (p : Int)) = p := ⟨_, rfl⟩
  obtain ⟨E0, hE⟩ : ∃ p : Int, (match bad s 0 with | none => 0 | some _ => (7 : Int)) = p := ⟨_, rfl⟩
  rw [hP, hE]
  have HPE := Lib.hid (And.intro hP (And.intro hE hs))
  have hsz : (s.size : Int) ≤ 9223372036854775807 := by omega
  clear hP hE hs
  go_enter Tryd.func175, Tryd.ntmps175
  go_wp2
  go_loopg [4] s.size (fun kq v w' => ∃ i : Nat, v = .int .i64 i ∧ Hid (kq = s.size - i ∧ i ≤ s.size ∧ bad s 0 = bad s i) ∧ Hid (Below w.heap.size w w'))
  case atStart => exact ⟨0, rfl, Lib.hid ⟨rfl, Nat.zero_le _, rfl⟩, Lib.hid (Below.refl _ _)⟩
  case round =>
    obtain ⟨i, rfl, HI, HB⟩ := hrel
    have hi0 : (0 : Int) ≤ (i : Int) := by omega
    by_cases hi : i < s.size
    · have hi1 : (i : Int) < (s.size : Int) := by omega
      have hi2 : decide (i < s.size) = true := decide_eq_true hi
      have C := at_any s i hi HPE.out.2.2 wr
      have H1 := Lib.hid hi
      clear hi
      by_cases h0 : step s i = 0
      · rw [h0] at C
        have H0 := Lib.hid h0
        generalize atR s i = A0 at C
        clear h0
        go_wp2_with fail
        refine C.mono ?_
        rintro e w2 ⟨rfl, hB2⟩
        have HB2 := Lib.hid hB2
        clear hB2 C
        go_wp2
        go_ret2
        refine ⟨?_, HB.out.trans (HB2.out.mono HB.out.size)⟩
        obtain ⟨h1, h2, _⟩ := HPE.out
        rw [HI.out.2.2, bad_here H1.out H0.out] at h1 h2
        rw [← h1, ← h2]
        rfl
      · have H0 := Lib.hid h0
        have h2 := step_le s i H1.out
        have h2z : (i : Int) + (step s i : Int) ≤ (s.size : Int) := by omega
        have h3 : ((step s i : Int) == 0) = false := beq_eq_false_iff_ne.2 (by omega)
        have h4 : ¬ ((step s i : Int) = 0) := by omega
        generalize atR s i = A0 at C
        obtain ⟨K, hK⟩ : ∃ k, step s i = k := ⟨_, rfl⟩
        rw [hK] at C h2z h3 h4
        have HK := Lib.hid hK
        clear h0 h2 hK
        go_wp2_with fail
        refine C.mono ?_
        rintro e w2 ⟨rfl, hB2⟩
        have HB2 := Lib.hid hB2
        clear hB2 C
        go_wp2
        go_roundg (s.size - (i + step s i))
        case measure => have := HI.out; have := H0.out; have := H1.out; omega
        case rel => exact ⟨i + step s i, by rw [HK.out]; go_num, Lib.hid ⟨rfl, by have := HK.out; omega, by rw [HI.out.2.2, bad_on H1.out H0.out]⟩, Lib.hid (HB.out.trans (HB2.out.mono HB.out.size))⟩
    · have hi1 : ¬ (i : Int) < (s.size : Int) := by omega
      have hi2 : decide (i < s.size) = false := decide_eq_false hi
      have H1 := Lib.hid hi
      clear hi
      go_wp2
      go_ret2
      refine ⟨?_, HB.out⟩
      obtain ⟨h1, h2, _⟩ := HPE.out
      rw [HI.out.2.2, bad_end H1.out] at h1 h2
      rw [← h1, ← h2]
      rfl

set_option maxHeartbeats 1000000 in
theorem rtext_any (s : ByteArray) (w : World) : Calls Tryd.prog 144 #[.string s] w fun e w' => e = .returned (.tuple #[.int .i64 (textP s), .int .i64 (textE s)]) ∧ Below w.heap.size w w' := by
  by_cases hL : 16384 < s.size
  · have hz : (16384 : Int) < (s.size : Int) := by omega
    obtain ⟨h1, h2⟩ := text_long hL
    rw [h1, h2]
    clear hL h1 h2
    go_enter Tryd.func144, Tryd.ntmps144
    go_wp2
    go_ret2
    exact ⟨rfl, Below.refl _ _⟩
  · have hz : ¬ (16384 : Int) < (s.size : Int) := by omega
    have C := bad_any s (by omega) w
    have h1 : textP s = match bad s 0 with | none => 0 | some p => (p : Int) := if_neg hL
    have h2 : textE s = match bad s 0 with | none => 0 | some _ => 7 := if_neg hL
    rw [← h1, ← h2] at C
    clear h1 h2 hL
    generalize textP s = p at *
    generalize textE s = q at *
    go_enter Tryd.func144, Tryd.ntmps144
    go_wp2_with (go_at_call 175; refine C.mono ?_; rintro e w1 ⟨rfl, hB⟩)
    go_ret2
    exact ⟨rfl, hB⟩

end Ch
end Go.Proofs.YtemmkobgpciflaaDoor
