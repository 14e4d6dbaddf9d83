/- The document's way to read a character, byte by byte, comes to the same. -/
import Derived.Test.YtemmkobgpciflaaDoorUtf
namespace Go.Proofs.YtemmkobgpciflaaDoor
namespace Ch

def Lb (r : Int) : Nat := if r < 128 then 1 else if r < 2048 then 2 else if r < 65536 then 3 else 4
theorem Lb1 (r : Int) : Lb r = 1 ↔ r < 128 := by
  unfold Lb
  repeat' split
  all_goals omega
theorem Lb2 (r : Int) : Lb r = 2 ↔ (128 ≤ r ∧ r < 2048) := by
  unfold Lb
  repeat' split
  all_goals omega
theorem Lb3 (r : Int) : Lb r = 3 ↔ (2048 ≤ r ∧ r < 65536) := by
  unfold Lb
  repeat' split
  all_goals omega
theorem Lb4 (r : Int) : Lb r = 4 ↔ 65536 ≤ r := by
  unfold Lb
  repeat' split
  all_goals omega
/-- A byte that goes on. -/
def contB (c : Nat) : Bool := decide (128 ≤ c ∧ c < 192)
/-- What is read behind j bytes more. -/
def rk (s : ByteArray) (i : Nat) : Nat → Int
  | 0 => sizeR (bt s i)
  | j + 1 => 64 * rk s i j + bt s (i + (j + 1)) - 128

theorem sizeN_cases (c : Nat) : sizeN c = 0 ∨ sizeN c = 1 ∨ sizeN c = 2 ∨ sizeN c = 3 ∨ sizeN c = 4 := by
  unfold sizeN
  repeat' split
  all_goals simp

section
variable (s : ByteArray) (i : Nat)

theorem step_none (h : sizeN (bt s i) = 0) : step s i = 0 := by
  have h0 := bt_lt s i
  unfold sizeN at h
  unfold step dec Lib.decodeN
  generalize bt s i = b0 at *
  repeat' split at h
  all_goals first | omega | skip
  all_goals (simp only [canB]; repeat' split)
  all_goals first | omega | rfl | (simp at *; omega)

theorem step_short (h : s.size < i + (sizeN (bt s i)).toNat) (hi : i < s.size) : step s i = 0 := by
  have h0 := bt_lt s i
  have h1 := bt_lt s (i + 1)
  have h2 := bt_lt s (i + 2)
  have h3 := bt_lt s (i + 3)
  unfold sizeN at h
  unfold step dec Lib.decodeN
  generalize bt s i = b0 at *
  generalize bt s (i + 1) = b1 at *
  generalize bt s (i + 2) = b2 at *
  generalize bt s (i + 3) = b3 at *
  generalize hn : s.size - i = n at *
  repeat' split at h
  all_goals first | omega | skip
  all_goals (simp only [canB]; repeat' split)
  all_goals first | omega | rfl | (simp at *; omega)

set_option maxHeartbeats 4000000 in
theorem step_cont {j : Nat} (h1 : 1 ≤ j) (h2 : (j : Int) < sizeN (bt s i)) (hs : i + (sizeN (bt s i)).toNat ≤ s.size) (hc : contB (bt s (i + j)) = false) : step s i = 0 := by
  have h0 := bt_lt s i
  have c1 := bt_lt s (i + 1)
  have c2 := bt_lt s (i + 2)
  have c3 := bt_lt s (i + 3)
  have hn := sizeN_cases (bt s i)
  have hj : j = 1 ∨ j = 2 ∨ j = 3 := by omega
  unfold sizeN at h2 hs
  unfold step dec Lib.decodeN
  unfold contB at hc
  rw [decide_eq_false_iff_not] at hc
  rcases hj with rfl | rfl | rfl
  all_goals
    generalize bt s i = b0 at *
    generalize bt s (i + 1) = b1 at *
    generalize bt s (i + 2) = b2 at *
    generalize bt s (i + 3) = b3 at *
    generalize hn : s.size - i = n at *
    repeat' split at h2
  all_goals first | omega | skip
  all_goals (simp only [canB]; repeat' split)
  all_goals first | omega | rfl | (simp at *; omega)


/-- What the bytes come to, class by class. -/
theorem rk_one (h : sizeN (bt s i) = 1) : bt s i < 128 ∧ rk s i 0 = bt s i := by
  have h0 := bt_lt s i
  simp only [rk, sizeR]
  unfold sizeN at h
  repeat' split at h
  all_goals first | omega | (simp; omega)
theorem rk_two (h : sizeN (bt s i) = 2) : (192 ≤ bt s i ∧ bt s i < 224) ∧ rk s i 1 = ((bt s i : Int) - 192) * 64 + bt s (i + 1) - 128 := by
  have h0 := bt_lt s i
  simp only [rk, sizeR, Nat.zero_add, Nat.reduceAdd]
  unfold sizeN at h
  repeat' split at h
  all_goals first | omega | (simp; omega)
theorem rk_three (h : sizeN (bt s i) = 3) : (224 ≤ bt s i ∧ bt s i < 240) ∧ rk s i 2 = (((bt s i : Int) - 224) * 64 + bt s (i + 1) - 128) * 64 + bt s (i + 2) - 128 := by
  have h0 := bt_lt s i
  simp only [rk, sizeR, Nat.zero_add, Nat.reduceAdd]
  unfold sizeN at h
  repeat' split at h
  all_goals first | omega | (simp; omega)
theorem rk_four (h : sizeN (bt s i) = 4) : (240 ≤ bt s i ∧ bt s i < 248) ∧ rk s i 3 = ((((bt s i : Int) - 240) * 64 + bt s (i + 1) - 128) * 64 + bt s (i + 2) - 128) * 64 + bt s (i + 3) - 128 := by
  have h0 := bt_lt s i
  simp only [rk, sizeR, Nat.zero_add, Nat.reduceAdd]
  unfold sizeN at h
  repeat' split at h
  all_goals first | omega | (simp; omega)

/-- All bytes go on: whether the character can be, and is written as short as may be, tells all. -/
def AtIs (n : Nat) : Prop := (canB (rk s i (n - 1)) = true ∧ Lb (rk s i (n - 1)) = n → step s i = n ∧ ((dec s i).1 : Int) = rk s i (n - 1)) ∧ (¬ (canB (rk s i (n - 1)) = true ∧ Lb (rk s i (n - 1)) = n) → step s i = 0)

set_option maxHeartbeats 4000000 in
theorem at_one (h : sizeN (bt s i) = 1) : AtIs s i 1 ∧ 0 ≤ rk s i 0 ∧ rk s i 0 < 2097152 := by
  obtain ⟨h1, h2⟩ := rk_one s i h
  unfold AtIs
  rw [h2]
  refine ⟨?_, by omega, by omega⟩
  clear h h2
  unfold step dec Lib.decodeN
  generalize bt s i = b0 at *
  rw [if_pos h1]
  simp only [canB, Lb1, decide_eq_true_eq, decide_eq_false_iff_not]
  constructor
  · intro h
    repeat' split
    all_goals first | omega | ((try simp only [true_and, and_true, true_or, or_true, not_true_eq_false] at *); first | done | omega)
  · intro h
    repeat' split
    all_goals first | omega | ((try simp only [true_and, and_true, true_or, or_true, not_true_eq_false] at *); first | done | omega)

set_option maxHeartbeats 4000000 in
theorem at_two (h : sizeN (bt s i) = 2) (hs : i + 2 ≤ s.size) (hc : contB (bt s (i + 1)) = true) : AtIs s i 2 ∧ 0 ≤ rk s i 1 ∧ rk s i 1 < 2097152 := by
  obtain ⟨h1, h2⟩ := rk_two s i h
  unfold AtIs
  rw [h2]
  unfold contB at hc
  rw [decide_eq_true_eq] at hc
  refine ⟨?_, by omega, by omega⟩
  clear h h2
  unfold step dec Lib.decodeN
  generalize bt s i = b0 at *
  generalize bt s (i + 1) = b1 at *
  have n1 : ¬ b0 < 128 := by omega
  have p2 : b0 / 32 = 6 ∧ 1 < s.size - i ∧ b1 / 64 = 2 := by omega
  rw [if_neg n1, if_pos p2]
  simp only [canB, Lb2, decide_eq_true_eq, decide_eq_false_iff_not]
  constructor
  · intro h
    repeat' split
    all_goals first | omega | ((try simp only [true_and, and_true, true_or, or_true, not_true_eq_false] at *); first | done | omega)
  · intro h
    repeat' split
    all_goals first | omega | ((try simp only [true_and, and_true, true_or, or_true, not_true_eq_false] at *); first | done | omega)

set_option maxHeartbeats 4000000 in
theorem at_three (h : sizeN (bt s i) = 3) (hs : i + 3 ≤ s.size) (hc : contB (bt s (i + 1)) = true) (hd : contB (bt s (i + 2)) = true) : AtIs s i 3 ∧ 0 ≤ rk s i 2 ∧ rk s i 2 < 2097152 := by
  obtain ⟨h1, h2⟩ := rk_three s i h
  unfold AtIs
  rw [h2]
  unfold contB at hc hd
  rw [decide_eq_true_eq] at hc hd
  refine ⟨?_, by omega, by omega⟩
  clear h h2
  unfold step dec Lib.decodeN
  generalize bt s i = b0 at *
  generalize bt s (i + 1) = b1 at *
  generalize bt s (i + 2) = b2 at *
  have n1 : ¬ b0 < 128 := by omega
  have n2 : ¬ (b0 / 32 = 6 ∧ 1 < s.size - i ∧ b1 / 64 = 2) := by omega
  have p3 : b0 / 16 = 14 ∧ (1 < s.size - i ∧ b1 / 64 = 2) ∧ 2 < s.size - i ∧ b2 / 64 = 2 := by omega
  rw [if_neg n1, if_neg n2, if_pos p3]
  simp only [canB, Lb3, decide_eq_true_eq, decide_eq_false_iff_not]
  constructor
  · intro h
    repeat' split
    all_goals first | omega | ((try simp only [true_and, and_true, true_or, or_true, not_true_eq_false] at *); first | done | omega)
  · intro h
    repeat' split
    all_goals first | omega | ((try simp only [true_and, and_true, true_or, or_true, not_true_eq_false] at *); first | done | omega)

set_option maxHeartbeats 4000000 in
theorem at_four (h : sizeN (bt s i) = 4) (hs : i + 4 ≤ s.size) (hc : contB (bt s (i + 1)) = true) (hd : contB (bt s (i + 2)) = true) (he : contB (bt s (i + 3)) = true) : AtIs s i 4 ∧ 0 ≤ rk s i 3 ∧ rk s i 3 < 2097152 := by
  obtain ⟨h1, h2⟩ := rk_four s i h
  unfold AtIs
  rw [h2]
  unfold contB at hc hd he
  rw [decide_eq_true_eq] at hc hd he
  refine ⟨?_, by omega, by omega⟩
  clear h h2
  unfold step dec Lib.decodeN
  generalize bt s i = b0 at *
  generalize bt s (i + 1) = b1 at *
  generalize bt s (i + 2) = b2 at *
  generalize bt s (i + 3) = b3 at *
  have n1 : ¬ b0 < 128 := by omega
  have n2 : ¬ (b0 / 32 = 6 ∧ 1 < s.size - i ∧ b1 / 64 = 2) := by omega
  have n3 : ¬ (b0 / 16 = 14 ∧ (1 < s.size - i ∧ b1 / 64 = 2) ∧ 2 < s.size - i ∧ b2 / 64 = 2) := by omega
  have p4 : b0 / 8 = 30 ∧ (1 < s.size - i ∧ b1 / 64 = 2) ∧ (2 < s.size - i ∧ b2 / 64 = 2) ∧ 3 < s.size - i ∧ b3 / 64 = 2 := by omega
  rw [if_neg n1, if_neg n2, if_neg n3, if_pos p4]
  simp only [canB, Lb4, decide_eq_true_eq, decide_eq_false_iff_not]
  constructor
  · intro h
    repeat' split
    all_goals first | omega | ((try simp only [true_and, and_true, true_or, or_true, not_true_eq_false] at *); first | done | omega)
  · intro h
    repeat' split
    all_goals first | omega | ((try simp only [true_and, and_true, true_or, or_true, not_true_eq_false] at *); first | done | omega)

/-- The document's way, whole. -/
theorem at_all (n : Nat) (hn : sizeN (bt s i) = n) (h1 : 1 ≤ n) (hs : i + n ≤ s.size) (hc : ∀ j, 1 ≤ j → j < n → contB (bt s (i + j)) = true) : AtIs s i n ∧ 0 ≤ rk s i (n - 1) ∧ rk s i (n - 1) < 2097152 := by
  rcases sizeN_cases (bt s i) with h | h | h | h | h
  · omega
  · obtain rfl : n = 1 := by omega
    exact at_one s i h
  · obtain rfl : n = 2 := by omega
    exact at_two s i h hs (hc 1 (by omega) (by omega))
  · obtain rfl : n = 3 := by omega
    exact at_three s i h hs (hc 1 (by omega) (by omega)) (hc 2 (by omega) (by omega))
  · obtain rfl : n = 4 := by omega
    exact at_four s i h hs (hc 1 (by omega) (by omega)) (hc 2 (by omega) (by omega)) (hc 3 (by omega) (by omega))

end
end Ch
end Go.Proofs.YtemmkobgpciflaaDoor
