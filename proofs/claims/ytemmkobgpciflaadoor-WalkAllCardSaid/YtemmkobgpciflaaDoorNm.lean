/- Names: the program's test and the document's, walked: both answer nameB. -/
import Derived.Test.YtemmkobgpciflaaDoorCh
namespace Go.Proofs.YtemmkobgpciflaaDoor
open Go.RowKit
namespace Ch

/-- The byte at a place. -/
def bt (s : ByteArray) (i : Nat) : Nat := (s.get! i).toNat
theorem bt_lt (s : ByteArray) (i : Nat) : bt s i < 256 := (s.get! i).toNat_lt
theorem bt_get (s : ByteArray) (i : Nat) (h : i < s.size) : (s[i]'h).toNat = bt s i := by
  unfold bt
  rw [Utf8W.get!_of_lt s i h]

theorem idx (s : ByteArray) (k : IntKind) (i : Int) (j : Nat) (hj : i = j) (h : j < s.size) (w : World) : (Instr.index 9 (.string s) (.int k i)).run Tryd.prog w = .ok (.int .u8 (bt s j)) w := by
  subst hj
  rw [run_index_string w 9 s k _ Tryd.underlying9, dif_pos ⟨by omega, by omega⟩]
  congr 2
  exact congrArg Int.ofNat (bt_get s j h)

def nameB (s : ByteArray) : Bool := decide (1 ≤ s.size ∧ s.size ≤ 32) && letterB (bt s 0) && (List.range s.size).all fun i => inB (bt s i)

theorem nameB_bad {s : ByteArray} {i : Nat} (hi : i < s.size) (h : inB (bt s i) = false) : nameB s = false := by
  unfold nameB
  rw [Bool.and_eq_false_iff]
  right
  rw [List.all_eq_false]
  exact ⟨i, by simpa using hi, by simp [h]⟩
theorem nameB_good {s : ByteArray} (h1 : 1 ≤ s.size) (h2 : s.size ≤ 32) (h3 : letterB (bt s 0) = true) (h : ∀ i, i < s.size → inB (bt s i) = true) : nameB s = true := by
  unfold nameB
  rw [Bool.and_eq_true, Bool.and_eq_true]
  exact ⟨⟨by simp; omega, h3⟩, List.all_eq_true.2 fun i hi => h i (by simpa using hi)⟩

set_option maxHeartbeats 1000000 in
theorem name_any (s : ByteArray) (w : World) : Calls Tryd.prog 139 #[.string s] w fun e w' => e = .returned (.bool (nameB s)) ∧ w' = w := by
  by_cases h0 : s.size = 0
  · have hb : nameB s = false := by simp [nameB, h0]
    rw [hb]
    have he : s.toList.isEmpty = true := by
      rw [Lib.toList_data, List.isEmpty_iff]
      exact List.eq_nil_of_length_eq_zero (by rw [← Lib.size_eq]; exact h0)
    go_enter Tryd.func139, Tryd.ntmps139
    go_wp2
    go_ret
    exact ⟨rfl, rfl⟩
  · have he : s.toList.isEmpty = false := by
      rw [Lib.toList_data]
      cases h : s.data.toList with
      | nil => exact absurd (by rw [Lib.size_eq, h]; rfl) h0
      | cons _ _ => rfl
    by_cases h1 : s.size ≤ 32
    · have h1z : (32 : Int) < (s.size : Int) ↔ False := ⟨fun h => by omega, fun h => h.elim⟩
      have i0 := fun w => idx s .i64 0 0 rfl (by omega) w
      obtain ⟨b, hb⟩ : ∃ b, letterB (bt s 0) = b := ⟨_, rfl⟩
      have C := letter_any (bt s 0)
      rw [hb] at C
      cases b
      · have hn : nameB s = false := by simp [nameB, hb]
        rw [hn]
        clear hn hb
        go_enter Tryd.func139, Tryd.ntmps139
        go_wp2_with (go_at_call 171; refine (C _).mono ?_; rintro e w ⟨rfl, rfl⟩)
        go_ret
        exact ⟨rfl, rfl⟩
      · have HB := Lib.hid hb
        clear hb
        have HN := Lib.hid (And.intro h0 h1)
        clear h0 h1
        go_enter Tryd.func139, Tryd.ntmps139
        go_wp2_with (go_at_call 171; refine (C _).mono ?_; rintro e w ⟨rfl, rfl⟩)
        go_loopg [20] s.size (fun kq v w' => ∃ i : Nat, v = .int .i64 i ∧ w = w' ∧ Hid (kq = s.size - i ∧ i ≤ s.size ∧ ∀ j, j < i → inB (bt s j) = true))
        case atStart => exact ⟨0, rfl, rfl, Lib.hid ⟨rfl, Nat.zero_le _, fun j hj => absurd hj (Nat.not_lt_zero _)⟩⟩
        case round =>
          obtain ⟨i, rfl, rfl, HI⟩ := hrel
          have hi0 : (0 : Int) ≤ (i : Int) := by omega
          by_cases hi : i < s.size
          · have hi1 : (i : Int) < (s.size : Int) := by omega
            have hi2 : decide (i < s.size) = true := decide_eq_true hi
            have ii := fun w => idx s .i64 i i rfl hi w
            obtain ⟨c, hc⟩ : ∃ c : Nat, bt s i = c := ⟨_, rfl⟩
            have HCc := Lib.hid (And.intro hc hi)
            rw [hc] at ii
            clear hc hi
            obtain ⟨b, hb⟩ : ∃ b, letterB c = b := ⟨_, rfl⟩
            have Ci := letter_any c
            rw [hb] at Ci
            have HBc := Lib.hid hb
            clear hb C i0
            cases b
            · go_wp2_with (go_at_call 171; refine (Ci _).mono ?_; rintro e w ⟨rfl, rfl⟩)
              all_goals first
                | (go_ret; refine ⟨ret_bool (Eq.symm (nameB_bad HCc.out.2 ?_)), rfl⟩; have hb := HBc.out; rw [HCc.out.1]; simp only [inB, letterB, Bool.or_eq_true, Bool.or_eq_false_iff, Bool.and_eq_true, Bool.and_eq_false_iff, beq_iff_eq, beq_eq_false_iff_ne, bne_iff_ne, bne_eq_false_iff_eq, decide_eq_true_eq, decide_eq_false_iff_not, ne_eq] at *; omega)
                | (go_roundg (s.size - (i + 1));
                   (case measure => have := HI.out; have := HCc.out; omega);
                   (case rel =>
                     have hb := HBc.out
                     have hin : inB (bt s i) = true := by
                       rw [HCc.out.1]; simp only [inB, letterB, Bool.or_eq_true, Bool.or_eq_false_iff, Bool.and_eq_true, Bool.and_eq_false_iff, beq_iff_eq, beq_eq_false_iff_ne, bne_iff_ne, bne_eq_false_iff_eq, decide_eq_true_eq, decide_eq_false_iff_not, ne_eq] at *; omega
                     exact ⟨i + 1, v64s HCc.out.2 (by have := HN.out; omega), rfl, Lib.hid ⟨rfl, HCc.out.2, fun j hj => by
                       rcases Nat.lt_succ_iff_lt_or_eq.1 hj with h | h
                       · exact HI.out.2.2 j h
                       · rw [h]; exact hin⟩⟩))
            · go_wp2_with (go_at_call 171; refine (Ci _).mono ?_; rintro e w ⟨rfl, rfl⟩)
              all_goals first
                | (go_ret; refine ⟨ret_bool (Eq.symm (nameB_bad HCc.out.2 ?_)), rfl⟩; have hb := HBc.out; rw [HCc.out.1]; simp only [inB, letterB, Bool.or_eq_true, Bool.or_eq_false_iff, Bool.and_eq_true, Bool.and_eq_false_iff, beq_iff_eq, beq_eq_false_iff_ne, bne_iff_ne, bne_eq_false_iff_eq, decide_eq_true_eq, decide_eq_false_iff_not, ne_eq] at *; omega)
                | (go_roundg (s.size - (i + 1));
                   (case measure => have := HI.out; have := HCc.out; omega);
                   (case rel =>
                     have hb := HBc.out
                     have hin : inB (bt s i) = true := by
                       rw [HCc.out.1]; simp only [inB, letterB, Bool.or_eq_true, Bool.or_eq_false_iff, Bool.and_eq_true, Bool.and_eq_false_iff, beq_iff_eq, beq_eq_false_iff_ne, bne_iff_ne, bne_eq_false_iff_eq, decide_eq_true_eq, decide_eq_false_iff_not, ne_eq] at *; omega
                     exact ⟨i + 1, v64s HCc.out.2 (by have := HN.out; omega), rfl, Lib.hid ⟨rfl, HCc.out.2, fun j hj => by
                       rcases Nat.lt_succ_iff_lt_or_eq.1 hj with h | h
                       · exact HI.out.2.2 j h
                       · rw [h]; exact hin⟩⟩))
          · have hi1 : ¬ (i : Int) < (s.size : Int) := by omega
            have hi2 : decide (i < s.size) = false := decide_eq_false hi
            clear C i0
            go_wp2
            go_ret
            refine ⟨ret_bool (Eq.symm (nameB_good (by have := HN.out; omega) HN.out.2 HB.out fun j hj => HI.out.2.2 j (by omega))), rfl⟩
    · have hn : nameB s = false := by
        unfold nameB
        rw [decide_eq_false (by omega)]
        rfl
      have h1z : (32 : Int) < (s.size : Int) := by omega
      rw [hn]
      clear hn h1
      go_enter Tryd.func139, Tryd.ntmps139
      go_wp2
      go_ret
      exact ⟨rfl, rfl⟩

set_option maxHeartbeats 1000000 in
theorem rname_any (s : ByteArray) (w : World) : Calls Tryd.prog 142 #[.string s] w fun e w' => e = .returned (.bool (nameB s)) ∧ w' = w := by
  by_cases h0 : 1 ≤ s.size ∧ s.size ≤ 32
  · have h1z : ¬ ((s.size : Int) < 1) := by omega
    have h2z : ¬ ((32 : Int) < (s.size : Int)) := by omega
    have i0 := fun w => idx s .i64 0 0 rfl (by omega) w
    obtain ⟨b, hb⟩ : ∃ b, letterB (bt s 0) = b := ⟨_, rfl⟩
    have C := begins_any (bt s 0)
    rw [hb] at C
    cases b
    · have hn : nameB s = false := by simp [nameB, hb]
      rw [hn]
      clear hn hb h0
      go_enter Tryd.func142, Tryd.ntmps142
      go_wp2_with (go_at_call 173; refine (C _).mono ?_; rintro e w ⟨rfl, rfl⟩)
      go_ret
      exact ⟨rfl, rfl⟩
    · have HB := Lib.hid hb
      clear hb
      have HN := Lib.hid h0
      clear h0
      go_enter Tryd.func142, Tryd.ntmps142
      go_wp2_with (go_at_call 173; refine (C _).mono ?_; rintro e w ⟨rfl, rfl⟩)
      go_loopg [3] s.size (fun kq v w' => ∃ i : Nat, v = .int .i64 i ∧ w = w' ∧ Hid (kq = s.size - i ∧ i ≤ s.size ∧ ∀ j, j < i → inB (bt s j) = true))
      case atStart => exact ⟨0, rfl, rfl, Lib.hid ⟨rfl, Nat.zero_le _, fun j hj => absurd hj (Nat.not_lt_zero _)⟩⟩
      case round =>
        obtain ⟨i, rfl, rfl, HI⟩ := hrel
        have hi0 : (0 : Int) ≤ (i : Int) := by omega
        by_cases hi : i < s.size
        · have hi1 : (i : Int) < (s.size : Int) := by omega
          have hi2 : decide (i < s.size) = true := decide_eq_true hi
          have ii := fun w => idx s .i64 i i rfl hi w
          have HC := Lib.hid hi
          clear hi
          obtain ⟨b, hb⟩ : ∃ b, inB (bt s i) = b := ⟨_, rfl⟩
          have Ci := in_any (bt s i)
          rw [hb] at Ci
          have HBc := Lib.hid hb
          clear hb C i0
          cases b
          · go_wp2_with (go_at_call 174; refine (Ci _).mono ?_; rintro e w ⟨rfl, rfl⟩)
            go_ret
            exact ⟨ret_bool (nameB_bad HC.out HBc.out).symm, rfl⟩
          · go_wp2_with (go_at_call 174; refine (Ci _).mono ?_; rintro e w ⟨rfl, rfl⟩)
            go_roundg (s.size - (i + 1))
            case measure => have := HI.out; have := HC.out; omega
            case rel =>
              exact ⟨i + 1, by go_num, rfl, Lib.hid ⟨rfl, HC.out, fun j hj => by
                rcases Nat.lt_succ_iff_lt_or_eq.1 hj with h | h
                · exact HI.out.2.2 j h
                · rw [h]; exact HBc.out⟩⟩
        · have hi1 : ¬ (i : Int) < (s.size : Int) := by omega
          have hi2 : decide (i < s.size) = false := decide_eq_false hi
          clear C i0
          go_wp2
          go_ret
          exact ⟨ret_bool (Eq.symm (nameB_good HN.out.1 HN.out.2 HB.out fun j hj => HI.out.2.2 j (by omega))), rfl⟩
  · have hn : nameB s = false := by
      unfold nameB
      rw [decide_eq_false h0]
      rfl
    rw [hn]
    clear hn
    by_cases h1 : s.size < 1
    · have h1z : (s.size : Int) < 1 := by omega
      clear h0
      go_enter Tryd.func142, Tryd.ntmps142
      go_wp2
      go_ret
      exact ⟨rfl, rfl⟩
    · have h1z : ¬ ((s.size : Int) < 1) := by omega
      have h2z : (32 : Int) < (s.size : Int) := by omega
      clear h0
      go_enter Tryd.func142, Tryd.ntmps142
      go_wp2
      go_ret
      exact ⟨rfl, rfl⟩

end Ch
end Go.Proofs.YtemmkobgpciflaaDoor
