/- OrderedLive, plainly: the numbers of the table. -/
import Derived.Test.YtnhgeoccknhiiaaLiveA
namespace Go.Proofs.Ytnhgeoccknhiiaa
open Go.RowKit
namespace OrdN

theorem w64 (n : Int) (h : -9223372036854775808 ≤ n ∧ n ≤ 9223372036854775807) : IntKind.i64.wrap n = n := by rw [IntKind.wrap_i64]; omega

def Mr : Nat → Int
  | 0 => 1073741824
  | 1 => 1099511627776
  | _ => 1125899906842624

/-- The table at the start. -/
def pre (s : List Nat) : Nat → Int
  | 0 => 0
  | j + 1 => pre s j + 1 + ((s[j]?).getD 0 : Nat)
theorem pre_bound {s : List Nat} (hs : ∀ x ∈ s, x < 256) (j : Nat) : 0 ≤ pre s j ∧ pre s j ≤ 256 * (j : Int) := by
  induction j with
  | zero => exact ⟨Int.le_refl _, by simp [pre]⟩
  | succ j ih =>
    have h1 : ((s[j]?).getD 0) < 256 := by
      cases e : s[j]? with
      | none => decide
      | some x => exact hs x (List.mem_of_getElem? e)
    simp only [pre]
    omega
theorem pre_mono (s : List Nat) (i k : Nat) : pre s i < pre s (i + k + 1) := by
  induction k with
  | zero => simp only [pre, Nat.add_zero]; omega
  | succ k ih =>
    have : pre s (i + (k + 1) + 1) = pre s (i + k + 1) + 1 + ((s[i + k + 1]?).getD 0 : Nat) := rfl
    omega
theorem mono_pre {s : List Nat} {T : List Int} (h : ∀ j, j < T.length → T[j]? = some (pre s j)) : Mono T := by
  intro i j x y hx hy hij
  have h1 := h i (List.getElem?_eq_some_iff.1 hx).1
  have h2 := h j (List.getElem?_eq_some_iff.1 hy).1
  rw [h1] at hx
  rw [h2] at hy
  cases hx
  cases hy
  obtain ⟨k, rfl⟩ : ∃ k, j = i + k + 1 := ⟨j - i - 1, by omega⟩
  exact pre_mono s i k

/-- Every number of the table, turned. -/
def turn (b : Int) (i : Nat) (x : Int) : Int := x * (1 + b) + (i : Int) - 1000
def Bnd (T : List Int) (M : Int) : Prop := ∀ (i : Nat) (x : Int), T[i]? = some x → -M ≤ x ∧ x ≤ M
theorem turn_bound {b x M : Int} {i : Nat} (b0 : 0 ≤ b) (b1 : b < 256) (h1 : -M ≤ x) (h2 : x ≤ M) (hi : (i : Int) ≤ 2000000) : -(M * 256 + 1000) ≤ turn b i x ∧ turn b i x ≤ M * 256 + 2000000 := by
  unfold turn
  have hM : 0 ≤ M := by omega
  have u : x * (1 + b) ≤ M * 256 := by
    have a1 : x * (1 + b) ≤ M * (1 + b) := Int.mul_le_mul_of_nonneg_right h2 (by omega)
    have a2 : M * (1 + b) ≤ M * 256 := Int.mul_le_mul_of_nonneg_left (by omega) hM
    omega
  have l : -(M * 256) ≤ x * (1 + b) := by
    have a1 : -M * (1 + b) ≤ x * (1 + b) := Int.mul_le_mul_of_nonneg_right h1 (by omega)
    have a2 : -M * 256 ≤ -M * (1 + b) := Int.mul_le_mul_of_nonpos_left (by omega) (by omega)
    have a3 : -M * 256 = -(M * 256) := by rw [Int.neg_mul]
    omega
  omega
theorem turn_mono {b : Int} (b0 : 0 ≤ b) {T T' : List Int} (hM : Mono T) (h : ∀ (i : Nat) (x : Int), T'[i]? = some x → ∃ y, T[i]? = some y ∧ x = turn b i y) : Mono T' := by
  intro i j x y hx hy hij
  obtain ⟨x', hx', rfl⟩ := h i x hx
  obtain ⟨y', hy', rfl⟩ := h j y hy
  have h1 := hM i j x' y' hx' hy' hij
  unfold turn
  have : x' * (1 + b) ≤ y' * (1 + b) := Int.mul_le_mul_of_nonneg_right (by omega) (by omega)
  omega
/-- The first i numbers turned. -/
def half (b : Int) (T : List Int) (i : Nat) : List Int := T.mapIdx fun j x => if j < i then turn b j x else x
theorem half_len (b : Int) (T : List Int) (i : Nat) : (half b T i).length = T.length := by simp [half]
theorem half_get (b : Int) (T : List Int) (i j : Nat) : (half b T i)[j]? = T[j]?.map fun x => if j < i then turn b j x else x := by simp [half]
theorem half_zero (b : Int) (T : List Int) : half b T 0 = T := by
  apply List.ext_getElem?
  intro j
  rw [half_get]
  cases T[j]? <;> simp
theorem half_set (b : Int) (T : List Int) (i : Nat) (x : Int) (hx : T[i]? = some x) : (half b T i).set i (turn b i x) = half b T (i + 1) := by
  apply List.ext_getElem?
  intro j
  rw [half_get, List.getElem?_set, half_get, half_len]
  have hi := (List.getElem?_eq_some_iff.1 hx).1
  by_cases e : i = j
  · subst e
    rw [if_pos rfl, if_pos hi, hx]
    simp
  · rw [if_neg e]
    congr 1
    funext y
    by_cases h1 : j < i
    · simp [h1, Nat.lt_succ_of_lt h1]
    · simp [h1, show ¬ j < i + 1 by omega]
theorem half_all_mono {b : Int} (b0 : 0 ≤ b) {T : List Int} (hM : Mono T) : Mono (half b T T.length) := by
  refine turn_mono b0 hM (fun i x hx => ?_)
  rw [half_get] at hx
  obtain ⟨y, hy, rfl⟩ := Option.map_eq_some_iff.1 hx
  have hi := (List.getElem?_eq_some_iff.1 hy).1
  exact ⟨y, hy, by rw [if_pos hi]⟩
theorem half_bnd {b : Int} (b0 : 0 ≤ b) (b1 : b < 256) {T : List Int} {M : Int} (h : Bnd T M) (hl : T.length ≤ 2000000) (hM : 0 ≤ M) (k : Nat) : Bnd (half b T k) (M * 256 + 2000000) := by
  intro i x hx
  rw [half_get] at hx
  obtain ⟨y, hy, rfl⟩ := Option.map_eq_some_iff.1 hx
  have hi := (List.getElem?_eq_some_iff.1 hy).1
  have hb := h i y hy
  have ht := turn_bound b0 b1 hb.1 hb.2 (i := i) (by omega)
  split <;> omega

end OrdN
end Go.Proofs.Ytnhgeoccknhiiaa
