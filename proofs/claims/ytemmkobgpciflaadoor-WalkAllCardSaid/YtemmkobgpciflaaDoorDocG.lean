/- The document's at and Live for every handle: walked. -/
import Derived.Test.YtemmkobgpciflaaDoorDocH
namespace Go.Proofs.YtemmkobgpciflaaDoor
open Go.RowKit
open Ch
namespace Df

/-- The index of a live handle among rows. -/
def atR (R : List Row) (h : Nat) : Option Nat :=
  if h % 4294967296 = 0 then none else
  match R[h % 4294967296 - 1]? with
  | none => none
  | some r => if r.lv = true ∧ hand r.g (h % 4294967296 - 1) = h then some (h % 4294967296 - 1) else none
def atI (R : List Row) (h : Nat) : Int := match atR R h with
  | some i => (i : Nat)
  | none => -1
theorem atI_zero {R : List Row} {h : Nat} (h0 : h % 4294967296 = 0) : atI R h = -1 := by
  unfold atI atR
  rw [if_pos h0]
theorem atI_out {R : List Row} {h i : Nat} (h0 : h % 4294967296 = i + 1) (hi : R.length ≤ i) : atI R h = -1 := by
  unfold atI atR
  rw [if_neg (by omega), h0, Nat.add_sub_cancel, List.getElem?_eq_none hi]
theorem atI_row {R : List Row} {h i : Nat} {r : Row} (h0 : h % 4294967296 = i + 1) (hr : R[i]? = some r) : atI R h = if r.lv = true ∧ hand r.g i = h then (i : Int) else -1 := by
  unfold atI atR
  rw [if_neg (by omega), h0, Nat.add_sub_cancel, hr]
  dsimp only
  split
  · rename_i j hj
    split at hj
    · rename_i hc
      rw [if_pos hc, ← Option.some.inj hj]
    · cases hj
  · rename_i hj
    split at hj
    · cases hj
    · rename_i hc
      rw [if_neg hc]

theorem hmod (h : Nat) : ((h : Nat) : Int) % 4294967296 = ((h % 4294967296 : Nat) : Int) ∧ Int.tmod ((h : Nat) : Int) 4294967296 = ((h % 4294967296 : Nat) : Int) := by
  have h1 : ((h : Nat) : Int) % 4294967296 = ((h % 4294967296 : Nat) : Int) := by simp
  refine ⟨h1, ?_⟩
  rw [Int.tmod_eq_emod_of_nonneg (Int.natCast_nonneg _)]
  exact h1
theorem mwrap (m : Nat) (hm : m < 4294967296) : IntKind.i64.wrap (m : Int) = (m : Int) ∧ wrap64 ((m : Int) - 1) = (m : Int) - 1 ∧ wrap64 (m : Int) = (m : Int) := by
  refine ⟨?_, ?_, ?_⟩
  · rw [Go.IntWalk.i64_left, Go.IntWalk.wrap64_in _ (by omega)]
  · rw [Go.IntWalk.wrap64_in _ (by omega)]
  · rw [Go.IntWalk.wrap64_in _ (by omega)]
theorem mwrap1 (i : Nat) (hm : i + 1 < 4294967296) : IntKind.i64.wrap ((i : Int) + 1) = (i : Int) + 1 ∧ wrap64 ((i : Int) + 1 - 1) = (i : Int) ∧ wrap64 ((i : Int) + 1) = (i : Int) + 1 := by
  refine ⟨?_, ?_, ?_⟩
  · rw [Go.IntWalk.i64_left, Go.IntWalk.wrap64_in _ (by omega)]
  · rw [Go.IntWalk.wrap64_in _ (by omega)]; omega
  · rw [Go.IntWalk.wrap64_in _ (by omega)]

set_option maxRecDepth 100000 in
set_option maxHeartbeats 1000000 in
theorem at_gen (d : Nat) (Sv Rv : Value) (R : List Row) (h : Nat) (w : World) (hD : DocIs w d Sv Rv R) (hg : ∀ r ∈ R, r.g < 4294967296) (hn : R.length ≤ 65536) :
    Calls Tryd.prog 114 #[.pointer (some ⟨d, 0, none⟩), .int .u64 (h : Nat)] w (fun e w' => e = .returned (.int .i64 (atI R h)) ∧ Below w.heap.size w w') := by
  obtain ⟨q1, q2⟩ := hmod h
  obtain ⟨m, hm⟩ : ∃ m, m = h % 4294967296 := ⟨_, rfl⟩
  rw [← hm] at q1 q2
  by_cases h0 : m = 0
  · have hz := atI_zero (R := R) (h := h) (by rw [← hm]; exact h0)
    subst h0
    have HZ := Lib.hid hz
    obtain ⟨H, hH⟩ : ∃ H, H = h := ⟨_, rfl⟩
    have HH := Lib.hid hH
    rw [← hH] at q1 q2
    simp only [Int.natCast_zero, Int.ofNat_zero] at q1 q2
    have HZ2 : Hid (atI R H = -1) := Lib.hid (by rw [hH]; exact hz)
    rw [← hH]
    clear hD hg hn hm hz hH
    go_enter Tryd.func114, Tryd.ntmps114
    go_wp2
    go_ret
    exact ⟨ret_int HZ2.out.symm, Below.refl _ _⟩
  · obtain ⟨i, hi⟩ : ∃ i, m = i + 1 := ⟨m - 1, by omega⟩
    have hm4 : m < 4294967296 := by rw [hm]; exact Nat.mod_lt _ (by omega)
    obtain ⟨w1, w2, w3⟩ := mwrap1 i (by omega)
    rw [hi] at q1 q2 hm
    have q1 : ((h : Nat) : Int) % 4294967296 = (i : Int) + 1 := by rw [q1]; rfl
    have q2 : Int.tmod ((h : Nat) : Int) 4294967296 = (i : Int) + 1 := by rw [q2]; rfl
    have i0 : (0 : Int) ≤ (i : Int) := Int.natCast_nonneg _
    have i00 : ¬ ((i : Int) < 0) := Int.not_lt.2 i0
    have d0 := hD.blk.cell 0
    simp only [List.getElem?_cons_zero] at d0
    obtain ⟨n, hn'⟩ : ∃ n, n = R.length := ⟨_, rfl⟩
    by_cases hin : i < n
    · have i1 : (i : Int) < (n : Int) := Int.ofNat_lt.2 hin
      have i2 : decide (n ≤ i) = false := decide_eq_false (Nat.not_le.2 hin)
      have i3 : ¬ ((n : Int) ≤ (i : Int)) := Int.not_le.2 i1
      obtain ⟨r, hr⟩ : ∃ r, R[i]? = some r := ⟨R[i]'(by omega), List.getElem?_eq_getElem _⟩
      have hrow := atI_row hm.symm hr
      have C := handle_any d Sv Rv R i r w hD hr (hg r (List.mem_of_getElem? hr)) (by omega)
      obtain ⟨g, c, rfl, hc, c0, c1, c2, c3, c4, c5, c6, c7, fz⟩ := hD.row hr
      rw [← hn'] at d0 hc
      obtain ⟨X, hX⟩ : ∃ X, X = hand r.g i := ⟨_, rfl⟩
      rw [← hX] at C hrow
      obtain ⟨H, hH⟩ : ∃ H, H = h := ⟨_, rfl⟩
      have HR := Lib.hid (And.intro hrow (And.intro C hH))
      rw [← hH] at q1 q2 ⊢
      clear hD hr hg hn hn' hm hrow C hX hH hi h0 hm4 c0 c2 c3 c4 c5 c6 c7 fz hin
      by_cases hl : r.lv = true
      · rw [hl] at c1
        by_cases hx : X = H
        · subst hx
          have HL := Lib.hid hl
          clear hl
          go_enter Tryd.func114, Tryd.ntmps114
          go_wp2_with fail
          refine HR.out.2.1.mono ?_
          rintro e w2 ⟨rfl, B2⟩
          have H2 := Lib.hid B2
          clear B2
          go_wp2
          go_ret
          exact ⟨ret_int (by rw [HR.out.2.2, HR.out.1, if_pos ⟨HL.out, HR.out.2.2⟩]), H2.out⟩
        · have hx1 : ((X : Int) == (H : Int)) = false := beq_eq_false_iff_ne.2 (by omega)
          have hx2 : (X == H) = false := beq_eq_false_iff_ne.2 hx
          have hx3 : ((X : Int) != (H : Int)) = true := by rw [bne, hx1]; rfl
          have HX := Lib.hid hx
          clear hx hl
          go_enter Tryd.func114, Tryd.ntmps114
          go_wp2_with fail
          refine HR.out.2.1.mono ?_
          rintro e w2 ⟨rfl, B2⟩
          have H2 := Lib.hid B2
          clear B2
          go_wp2
          go_ret
          exact ⟨ret_int (by rw [HR.out.2.2, HR.out.1, if_neg (fun hc => HX.out (hc.2.trans HR.out.2.2.symm))]), H2.out⟩
      · have hl' : r.lv = false := by simpa using hl
        rw [hl'] at c1
        have HL := Lib.hid hl'
        clear hl hl'
        go_enter Tryd.func114, Tryd.ntmps114
        go_wp2
        go_ret
        exact ⟨ret_int (by rw [HR.out.2.2, HR.out.1, if_neg (fun hc => by rw [HL.out] at hc; cases hc.1)]), Below.refl _ _⟩
    · have i1 : ¬ ((i : Int) < (n : Int)) := by omega
      have i2 : decide (n ≤ i) = true := decide_eq_true (by omega)
      have i3 : (n : Int) ≤ (i : Int) := by omega
      have hz := atI_out (R := R) hm.symm (by omega)
      obtain ⟨a, c, rfl, hc⟩ := hD.form
      rw [← hn'] at d0 hc
      obtain ⟨H, hH⟩ : ∃ H, H = h := ⟨_, rfl⟩
      have HZ := Lib.hid (And.intro hz hH)
      rw [← hH] at q1 q2 ⊢
      clear hD hg hn hn' hm hz hH hi h0 hm4 hin
      go_enter Tryd.func114, Tryd.ntmps114
      go_wp2
      go_ret
      exact ⟨ret_int (by rw [HZ.out.2, HZ.out.1]), Below.refl _ _⟩

set_option maxRecDepth 100000 in
set_option maxHeartbeats 1000000 in
theorem live_gen (d : Nat) (Sv Rv : Value) (R : List Row) (h : Nat) (w : World) (hD : DocIs w d Sv Rv R) (hg : ∀ r ∈ R, r.g < 4294967296) (hn : R.length ≤ 65536) :
    Calls Tryd.prog 70 #[.pointer (some ⟨d, 0, none⟩), .int .u64 (h : Nat)] w (fun e w' => e = .returned (.bool (atR R h).isSome) ∧ Below w.heap.size w w') := by
  have C := at_gen d Sv Rv R h w hD hg hn
  clear hD hg hn
  cases ha : atR R h with
  | none =>
    have e : atI R h = -1 := by unfold atI; rw [ha]
    rw [e] at C
    have HC := Lib.hid C
    clear C e ha
    go_enter Tryd.func70, Tryd.ntmps70
    go_wp2_with fail
    refine HC.out.mono ?_
    rintro e w2 ⟨rfl, B2⟩
    have H2 := Lib.hid B2
    clear B2
    go_wp2
    go_ret
    exact ⟨rfl, H2.out⟩
  | some i =>
    have e : atI R h = (i : Nat) := by unfold atI; rw [ha]
    rw [e] at C
    have HC := Lib.hid C
    have i0 : (0 : Int) ≤ (i : Int) := Int.natCast_nonneg _
    clear C e ha
    go_enter Tryd.func70, Tryd.ntmps70
    go_wp2_with fail
    refine HC.out.mono ?_
    rintro e w2 ⟨rfl, B2⟩
    have H2 := Lib.hid B2
    clear B2
    go_wp2
    go_ret
    exact ⟨rfl, H2.out⟩

end Df
end Go.Proofs.YtemmkobgpciflaaDoor
