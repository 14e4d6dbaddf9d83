/- Characters: the little functions of chars and of the document's, walked. -/
import Derived.Test.YtemmkobgpciflaaDoorWalk
namespace Go.Proofs.YtemmkobgpciflaaDoor
open Go.RowKit
namespace Ch

def letterB (c : Int) : Bool := decide ((97 ≤ c ∧ c ≤ 122) ∨ (65 ≤ c ∧ c ≤ 90) ∨ c = 95)
def inB (c : Int) : Bool := decide ((97 ≤ c ∧ c ≤ 122) ∨ (65 ≤ c ∧ c ≤ 90) ∨ c = 95 ∨ (48 ≤ c ∧ c ≤ 57) ∨ c = 45 ∨ c = 46)
def canB (r : Int) : Bool := decide (r = 9 ∨ r = 10 ∨ r = 13 ∨ (32 ≤ r ∧ r ≤ 55295) ∨ (57344 ≤ r ∧ r ≤ 65533) ∨ (65536 ≤ r ∧ r ≤ 1114111))



set_option maxHeartbeats 1000000 in
theorem letter_any (c : Int) (w : World) : Calls Tryd.prog 171 #[.int .u8 c] w fun e w' => e = .returned (.bool (letterB c)) ∧ w' = w := by
  go_enter Tryd.func171, Tryd.ntmps171
  go_wp2
  all_goals (go_ret; refine ⟨ret_bool ?_, rfl⟩)
  all_goals (refine Bool.eq_iff_iff.2 ?_; simp only [letterB, Bool.or_eq_true, Bool.or_eq_false_iff, Bool.and_eq_true, Bool.and_eq_false_iff, beq_iff_eq, beq_eq_false_iff_ne, decide_eq_true_eq, decide_eq_false_iff_not, Bool.false_eq_true, false_iff, true_iff, ne_eq] at *; first | omega | (simp only [true_or, or_true]) | trace_state)

set_option maxHeartbeats 1000000 in
theorem begins_any (c : Int) (w : World) : Calls Tryd.prog 173 #[.int .u8 c] w fun e w' => e = .returned (.bool (letterB c)) ∧ w' = w := by
  go_enter Tryd.func173, Tryd.ntmps173
  go_wp2
  all_goals (go_ret; refine ⟨ret_bool ?_, rfl⟩)
  all_goals (refine Bool.eq_iff_iff.2 ?_; simp only [letterB, Bool.or_eq_true, Bool.or_eq_false_iff, Bool.and_eq_true, Bool.and_eq_false_iff, beq_iff_eq, beq_eq_false_iff_ne, decide_eq_true_eq, decide_eq_false_iff_not, Bool.false_eq_true, false_iff, true_iff, ne_eq] at *; first | omega | (simp only [true_or, or_true]) | trace_state)

set_option maxHeartbeats 1000000 in
theorem in_any (c : Int) (w : World) : Calls Tryd.prog 174 #[.int .u8 c] w fun e w' => e = .returned (.bool (inB c)) ∧ w' = w := by
  obtain ⟨b, hb⟩ : ∃ b, letterB c = b := ⟨_, rfl⟩
  have HB := Lib.hid hb
  have C := begins_any c
  rw [hb] at C
  clear hb
  go_enter Tryd.func174, Tryd.ntmps174
  cases b
  · go_wp2_with (go_at_call 173; refine (C _).mono ?_; rintro e w' ⟨rfl, rfl⟩)
    all_goals (go_ret; refine ⟨ret_bool ?_, rfl⟩)
    all_goals (have hb := HB.out; simp only [letterB, decide_eq_false_iff_not, decide_eq_true_eq] at hb; refine Bool.eq_iff_iff.2 ?_; simp only [inB, Bool.or_eq_true, Bool.or_eq_false_iff, Bool.and_eq_true, Bool.and_eq_false_iff, beq_iff_eq, beq_eq_false_iff_ne, decide_eq_true_eq, decide_eq_false_iff_not, Bool.false_eq_true, false_iff, true_iff, ne_eq] at *; first | omega | (simp only [true_or, or_true]) | trace_state)
  · go_wp2_with (go_at_call 173; refine (C _).mono ?_; rintro e w' ⟨rfl, rfl⟩)
    all_goals (go_ret; refine ⟨ret_bool ?_, rfl⟩)
    all_goals (have hb := HB.out; simp only [letterB, decide_eq_false_iff_not, decide_eq_true_eq] at hb; refine Bool.eq_iff_iff.2 ?_; simp only [inB, Bool.or_eq_true, Bool.or_eq_false_iff, Bool.and_eq_true, Bool.and_eq_false_iff, beq_iff_eq, beq_eq_false_iff_ne, decide_eq_true_eq, decide_eq_false_iff_not, Bool.false_eq_true, false_iff, true_iff, ne_eq] at *; first | omega | (simp only [true_or, or_true]) | trace_state)

set_option maxHeartbeats 1000000 in
theorem can_any (c : Int) (w : World) : Calls Tryd.prog 199 #[.int .i64 c] w fun e w' => e = .returned (.bool (canB c)) ∧ w' = w := by
  go_enter Tryd.func199, Tryd.ntmps199
  go_wp2
  all_goals (go_ret; refine ⟨ret_bool ?_, rfl⟩)
  all_goals (refine Bool.eq_iff_iff.2 ?_; simp only [canB, Bool.or_eq_true, Bool.or_eq_false_iff, Bool.and_eq_true, Bool.and_eq_false_iff, beq_iff_eq, beq_eq_false_iff_ne, decide_eq_true_eq, decide_eq_false_iff_not, Bool.false_eq_true, false_iff, true_iff, ne_eq] at *; first | omega | (simp only [true_or, or_true]) | trace_state)

set_option maxHeartbeats 1000000 in
theorem char_any (c : Int) (w : World) : Calls Tryd.prog 201 #[.int .i64 c] w fun e w' => e = .returned (.bool (canB c)) ∧ w' = w := by
  go_enter Tryd.func201, Tryd.ntmps201
  go_wp2
  all_goals (go_ret; refine ⟨ret_bool ?_, rfl⟩)
  all_goals (refine Bool.eq_iff_iff.2 ?_; simp only [canB, Bool.or_eq_true, Bool.or_eq_false_iff, Bool.and_eq_true, Bool.and_eq_false_iff, beq_iff_eq, beq_eq_false_iff_ne, decide_eq_true_eq, decide_eq_false_iff_not, Bool.false_eq_true, false_iff, true_iff, ne_eq] at *; first | omega | (simp only [true_or, or_true]) | trace_state)


def sizeN (c : Int) : Int := if c < 128 then 1 else if c < 192 then 0 else if c < 224 then 2 else if c < 240 then 3 else if c < 248 then 4 else 0
def sizeR (c : Int) : Int := if c < 128 then c else if c < 192 then 0 else if c < 224 then c - 192 else if c < 240 then c - 224 else if c < 248 then c - 240 else 0

set_option maxRecDepth 4000 in
set_option maxHeartbeats 1000000 in
theorem size_any (c : Nat) (hc : c < 256) (w : World) : Calls Tryd.prog 200 #[.int .u8 c] w fun e w' => e = .returned (.tuple #[.int .i64 (sizeN c), .int .i64 (sizeR c)]) ∧ w' = w := by
  go_enter Tryd.func200, Tryd.ntmps200
  go_wp2
  all_goals (go_ret2; refine ⟨ret_ii ?_ ?_, rfl⟩)
  all_goals (simp only [sizeN, sizeR]; first | omega | (repeat' split) <;> first | omega | trace_state)

end Ch
end Go.Proofs.YtemmkobgpciflaaDoor
