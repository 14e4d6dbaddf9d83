/- What is wrong with a slot, and how many live ones there are: the document's slot and Len, walked. -/
import Derived.Test.YtemmkobgpciflaaDoorHangR
import Derived.Test.YtemmkobgpciflaaDoorROwn2
namespace Go.Proofs.YtemmkobgpciflaaDoor
open Go.RowKit
open Ch
namespace Df

/-- Whether a live slot can be. -/
def slotOk (k : Int) (n : ByteArray) (al : List Att) (t : ByteArray) (kl : Nat) : Bool := decide (ownE k n al t = 0) && (decide (k = 1) || decide (kl = 0))

set_option maxRecDepth 100000 in
set_option maxHeartbeats 1600000 in
theorem slot_any (g : Int) (lv : Bool) (k : Int) (n : ByteArray) (al : List Att) (aa : Option Addr) (ac : Nat) (t : ByteArray) (p : Int) (ka : Option Addr) (kl kc : Nat) (w : World) (hR : Rd w (.slice aa al.length ac) al.length 2 (atc al)) :
    Calls Tryd.prog 111 #[.agg #[.int .u32 g, .bool lv, .int .i64 k, .string n, .slice aa al.length ac, .string t, .int .u64 p, .slice ka kl kc]] w fun e w' => e = .returned (.bool (slotOk k n al t kl)) ∧ Below w.heap.size w w' := by
  obtain ⟨E0, hE⟩ : ∃ e, ownE k n al t = e := ⟨_, rfl⟩
  have hok : slotOk k n al t kl = (decide (E0 = 0) && (decide (k = 1) || decide (kl = 0))) := by unfold slotOk; rw [hE]
  obtain ⟨L, hL⟩ : ∃ L, L = w.heap.size := ⟨_, rfl⟩
  rw [hok]
  have HH := Lib.hid (And.intro hR (And.intro hL hE))
  clear hR hL hE hok
  go_enter Tryd.func111, Tryd.ntmps111
  go_upto_region 1 with fail
  rw [← HH.out.2.1]
  generalize hW : World.alloc _ _ = W1
  have U1 : Upd w W1 (fun _ => False) := by rw [← hW]; exact (Upd.refl w _).alloc _
  have P1 : Blk W1 L [.int .u32 g, .bool lv, .int .i64 k, .string n, .slice aa al.length ac, .string t, .int .u64 p, .slice ka kl kc] 153 := by rw [← hW]; exact Blk.new' HH.out.2.1
  have p2 := P1.cell 2
  have p3 := P1.cell 3
  have p4 := P1.cell 4
  have p5 := P1.cell 5
  simp only [List.getElem?_cons_zero, List.getElem?_cons_succ] at p2 p3 p4 p5
  obtain ⟨M, hM⟩ : ∃ M, M = W1.heap.size := ⟨_, rfl⟩
  have H1 := Lib.hid (And.intro U1 (And.intro P1 hM))
  clear hW U1 P1 hM
  go_upto_region 2 with fail
  rw [← H1.out.2.2]
  generalize hW : World.alloc _ _ = W2
  have U2 : Upd W1 W2 (fun _ => False) := by rw [← hW]; exact (Upd.refl W1 _).alloc _
  have P2 : Blk W2 M [.int .i64 k, .string n, .slice aa al.length ac, .string t, .slice none 0 0] 25 := by rw [← hW]; exact Blk.new' H1.out.2.2
  have V2 := H1.out.1.trans U2 (fun _ _ h => h)
  have C := rown_any k n al t aa none ac 0 0 W2 (HH.out.1.keep V2 (fun _ _ h => h))
  rw [HH.out.2.2] at C
  have q0 := P2.cell 0
  have q1 := P2.cell 1
  have q2 := P2.cell 2
  have q3 := P2.cell 3
  have q4 := P2.cell 4
  simp only [List.getElem?_cons_zero, List.getElem?_cons_succ] at q0 q1 q2 q3 q4
  have H2 := Lib.hid (And.intro V2 (U2.blk H1.out.2.1 (fun h => h)))
  have HC := Lib.hid C
  clear hW U2 P2 V2 C p2 p3 p4 p5 H1
  go_wp2_with fail
  refine HC.out.mono ?_
  rintro e w3 ⟨rfl, B3⟩
  have U3 := Upd.ofBelow (F := fun _ => False) B3
  have P3 := U3.blk H2.out.2 (fun h => h)
  have p2 := P3.cell 2
  have p7 := P3.cell 7
  simp only [List.getElem?_cons_zero, List.getElem?_cons_succ] at p2 p7
  have H3 := Lib.hid (H2.out.1.trans U3 (fun _ _ h => h))
  clear B3 U3 P3 HC H2 q0 q1 q2 q3 q4
  by_cases h1 : E0 = 0
  · subst h1
    by_cases h2 : k = 1
    · subst h2
      go_wp2
      go_ret
      refine ⟨?_, H3.out.below (F := fun _ => False) (Nat.le_refl _) (fun _ _ h => h)⟩
      simp
    · have b2 : (k == 1) = false := beq_eq_false_iff_ne.2 h2
      have d2 : decide (k = 1) = false := decide_eq_false h2
      have HD := Lib.hid d2
      clear h2 d2
      go_wp2
      go_ret
      refine ⟨?_, H3.out.below (F := fun _ => False) (Nat.le_refl _) (fun _ _ h => h)⟩
      rw [HD.out]
      by_cases h3 : kl = 0
      · subst h3
        rfl
      · have b3 : ((kl : Int) == 0) = false := beq_eq_false_iff_ne.2 (by omega)
        have d3 : decide (kl = 0) = false := decide_eq_false h3
        simp [b3, d3]
  · have b1 : (E0 == 0) = false := beq_eq_false_iff_ne.2 h1
    have d1 : decide (E0 = 0) = false := decide_eq_false h1
    have HD := Lib.hid d1
    clear h1 d1
    go_wp2
    go_ret
    refine ⟨?_, H3.out.below (F := fun _ => False) (Nat.le_refl _) (fun _ _ h => h)⟩
    rw [HD.out]
    rfl

/-- How many rows are live. -/
def liveN (R : List Row) : Nat := (R.filter (·.lv)).length
theorem liveN_le (R : List Row) : liveN R ≤ R.length := List.length_filter_le _ _
theorem liveN_take {R : List Row} {i : Nat} {r : Row} (h : R[i]? = some r) : liveN (R.take (i + 1)) = liveN (R.take i) + (if r.lv = true then 1 else 0) := by
  unfold liveN
  rw [take_at h, List.filter_append, List.length_append, List.filter_cons]
  split <;> simp

set_option maxRecDepth 100000 in
set_option maxHeartbeats 1600000 in
theorem len_any (d : Nat) (Sv Rv : Value) (R : List Row) (w : World) (hD : DocIs w d Sv Rv R) (hn : R.length ≤ 65536) : Calls Tryd.prog 113 #[.pointer (some ⟨d, 0, none⟩)] w fun e w' => e = .returned (.int .i64 (liveN R : Nat)) ∧ Below w.heap.size w w' := by
  obtain ⟨m, hm⟩ : ∃ m, m = R.length := ⟨_, rfl⟩
  obtain ⟨a, c, rfl, hc⟩ := hD.form
  have d0 := hD.blk.cell 0
  simp only [List.getElem?_cons_zero] at d0
  rw [← hm] at d0 hc
  have HH := Lib.hid (And.intro hD (And.intro hn hm))
  clear hD hn hm
  go_enter Tryd.func113, Tryd.ntmps113
  go_wp2
  go_loopg [3, 4] m (fun kq v3 v4 w' => ∃ i : Nat, v4 = .int .i64 i ∧ v3 = .int .i64 (liveN (R.take i) : Nat) ∧ Hid (kq = m - i ∧ i ≤ m) ∧ w' = w)
  case atStart => exact ⟨0, rfl, rfl, Lib.hid ⟨rfl, Nat.zero_le _⟩, rfl⟩
  case round =>
    obtain ⟨i, rfl, rfl, HI, rfl⟩ := hrel
    have hi0 : (0 : Int) ≤ (i : Int) := by omega
    by_cases hi : i < m
    · have hi1 : (i : Int) < (m : Int) := by omega
      have hi2 : decide (i < m) = true := decide_eq_true hi
      obtain ⟨r, hr⟩ : ∃ r, R[i]? = some r := ⟨R[i]'(by have := HH.out.2.2; omega), List.getElem?_eq_getElem _⟩
      obtain ⟨g, c', e, hc', _, r1, _, _, _, _, _, _, _⟩ := HH.out.1.row hr
      simp only [Value.slice.injEq] at e
      obtain ⟨rfl, _, rfl⟩ := e
      have ht := liveN_take hr
      have hl := liveN_le (R.take i)
      rw [List.length_take] at hl
      obtain ⟨z, hz⟩ : ∃ z, z = liveN (R.take i) := ⟨_, rfl⟩
      rw [← hz] at ht hl ⊢
      have hz1 : (z : Int) ≤ 65536 := by have := HH.out.2; omega
      have hw1 : wrap64 ((z : Int) + 1) = (z : Int) + 1 := Go.IntWalk.wrap64_in _ (by omega)
      have HX := Lib.hid (And.intro hi (And.intro ht hw1))
      clear hi hr ht hl hz hw1 hc'
      cases hlv : r.lv with
      | true =>
        rw [hlv] at r1
        have HL := Lib.hid hlv
        clear hlv
        go_wp2
        go_roundg (m - (i + 1))
        case measure => have := HI.out; have := HX.out; omega
        case rel =>
          refine ⟨i + 1, v64s HX.out.1 (by have := HH.out; omega), ?_, Lib.hid ⟨rfl, HX.out.1⟩, rfl⟩
          rw [HX.out.2.1, HL.out, if_pos rfl]
          rfl
      | false =>
        rw [hlv] at r1
        have HL := Lib.hid hlv
        clear hlv
        go_wp2
        go_roundg (m - (i + 1))
        case measure => have := HI.out; have := HX.out; omega
        case rel =>
          refine ⟨i + 1, v64s HX.out.1 (by have := HH.out; omega), ?_, Lib.hid ⟨rfl, HX.out.1⟩, rfl⟩
          rw [HX.out.2.1, HL.out, if_neg (by simp)]
          rfl
    · have hi1 : ¬ (i : Int) < (m : Int) := by omega
      have hi2 : decide (i < m) = false := decide_eq_false hi
      have ei : i = R.length := by have := HI.out; have := HH.out; omega
      have HE := Lib.hid ei
      clear hi ei
      go_wp2
      go_ret
      refine ⟨?_, Below.refl _ _⟩
      rw [HE.out, List.take_length]
      rfl

end Df
end Go.Proofs.YtemmkobgpciflaaDoor
