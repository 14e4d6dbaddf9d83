/- The document's places, levels, free indexes; rows changed. -/
import Derived.Test.YtemmkobgpciflaaDoorDocH
namespace Go.Proofs.YtemmkobgpciflaaDoor
open Go.RowKit
open Ch
namespace Df

set_option maxRecDepth 100000 in
set_option maxHeartbeats 4000000 in
theorem place0_any (d : Nat) (w : World) : Calls Tryd.prog 145 #[.pointer (some ⟨d, 0, none⟩), .int .i64 2, .int .u64 0] w (fun e w' => e = .returned (.tuple #[.int .u64 0, .int .i64 0]) ∧ Below w.heap.size w w') := by
  go_enter Tryd.func145, Tryd.ntmps145
  go_wp2
  apply wp_reg (fun w' : World => Below w.heap.size w w') [0, 1, 2, 3, 4, 5, 6, 7, 8, 9, 10, 11, 12, 13, 14] [] [] (by kernel_rfl) (by kernel_rfl) (fun _ _ d _ _ h => by cases d <;> exact h) (Below.refl _ _).drew
  · iterate 3 (apply reads_consL rfl rfl; (· intro w0 hS; go_simp; try rfl); simp only [Act.put, List.setIfInBounds_toArray, List.set_cons_zero, List.set_cons_succ])
    iterate 11 (apply reads_skipL rfl rfl; simp only [Act.put, List.setIfInBounds_toArray, List.set_cons_zero, List.set_cons_succ])
    iterate 1 (apply reads_consL rfl rfl; (· intro w0 hS; go_simp; try rfl); simp only [Act.put, List.setIfInBounds_toArray, List.set_cons_zero, List.set_cons_succ])
    exact rfl
  refine tail_zero ?_
  go_wp2
  go_ret2
  exact ⟨rfl, (Below.refl _ _).drew⟩

set_option maxRecDepth 100000 in
set_option maxHeartbeats 4000000 in
theorem level0_any (d : Nat) (w : World) : Calls Tryd.prog 147 #[.pointer (some ⟨d, 0, none⟩), .int .u64 0] w (fun e w' => e = .returned (.int .i64 (-1)) ∧ w' = w) := by
  go_enter Tryd.func147, Tryd.ntmps147
  go_wp2
  go_loopg [1, 5] 0 (fun kq v1 v5 w' => v1 = .int .u64 0 ∧ v5 = .int .i64 (-1) ∧ w' = w)
  case atStart => exact ⟨rfl, rfl, rfl⟩
  case round =>
    obtain ⟨rfl, rfl, rfl⟩ := hrel
    go_wp2
    go_ret
    exact ⟨rfl, rfl⟩

theorem rows_len {A Z : List Row} {i : Nat} (h : i < A.length) : (A ++ Z)[i]? = A[i]? := List.getElem?_append_left h

set_option maxRecDepth 100000 in
set_option maxHeartbeats 4000000 in
/-- How many live slots: none of the dead ones is worn. -/
theorem taken_any (d : Nat) (Sv Rv : Value) (A Z : List Row) (w : World) (hD : DocIs w d Sv Rv (A ++ Z)) (hA : ∀ r ∈ A, r.lv = true) (hZ : ∀ r ∈ Z, r.lv = false ∧ r.g < 4294967295) (hn : (A ++ Z).length ≤ 1048576) :
    Calls Tryd.prog 148 #[.pointer (some ⟨d, 0, none⟩)] w (fun e w' => e = .returned (.int .i64 (A.length : Nat)) ∧ Below w.heap.size w w') := by
  obtain ⟨m, hm⟩ : ∃ m, m = (A ++ Z).length := ⟨_, rfl⟩
  have hmA : m = A.length + Z.length := by rw [hm, List.length_append]
  have d0 := hD.blk.cell 0
  simp only [List.getElem?_cons_zero] at d0
  obtain ⟨a, c, rfl, hc⟩ := hD.form
  have HH := Lib.hid (And.intro hD (And.intro hA (And.intro hZ (And.intro hn (And.intro hm hmA)))))
  rw [← hm] at d0 hc
  clear hD hA hZ hn hm hmA
  go_enter Tryd.func148, Tryd.ntmps148
  go_wp2
  go_loopg [3, 4] m (fun kq v3 v4 w' => ∃ i : Nat, v3 = .int .i64 ((min i A.length : Nat) : Int) ∧ v4 = .int .i64 i ∧ Hid (kq = m - i ∧ i ≤ m) ∧ w' = w)
  case atStart => exact ⟨0, by simp, rfl, Lib.hid ⟨rfl, Nat.zero_le _⟩, rfl⟩
  case round =>
    obtain ⟨i, rfl, rfl, HI, rfl⟩ := hrel
    have hi0 : (0 : Int) ≤ (i : Int) := by omega
    by_cases hi : i < m
    · have hi1 : (i : Int) < (m : Int) := by omega
      have hi2 : decide (i < m) = true := decide_eq_true hi
      obtain ⟨r, hr⟩ : ∃ r, (A ++ Z)[i]? = some r := ⟨(A ++ Z)[i]'(by have := HH.out; omega), List.getElem?_eq_getElem _⟩
      obtain ⟨g, c', e, _, c0, c1, _⟩ := HH.out.1.row hr
      simp only [Value.slice.injEq] at e
      obtain ⟨rfl, _, rfl⟩ := e
      by_cases hiA : i < A.length
      · have hl : r.lv = true := by
          rw [List.getElem?_append_left hiA] at hr
          exact HH.out.2.1 r (List.mem_of_getElem? hr)
        rw [hl] at c1
        have HX := Lib.hid (And.intro hi hiA)
        obtain ⟨t, ht⟩ : ∃ t, t = min i A.length := ⟨_, rfl⟩
        rw [← ht]
        have HT := Lib.hid ht
        have htl : (t : Int) ≤ 1048576 := by have := HH.out; omega
        have ht0 : (0 : Int) ≤ (t : Int) := by omega
        clear hi hr hl hiA ht
        go_wp2
        go_roundg (m - (i + 1))
        case measure => have := HI.out; have := HX.out; omega
        case rel =>
          refine ⟨i + 1, ?_, v64s HX.out.1 (by have := HH.out; omega), Lib.hid ⟨rfl, HX.out.1⟩, rfl⟩
          congr 1
          have h1 := HX.out.2
          have h2 := HT.out
          first | omega | (rw [Go.IntWalk.wrap64_in _ (by omega)]; omega)
      · have hz : r ∈ Z := by
          rw [List.getElem?_append_right (by omega)] at hr
          exact List.mem_of_getElem? hr
        obtain ⟨hl, hgw⟩ := HH.out.2.2.1 r hz
        rw [hl] at c1
        obtain ⟨G, hG⟩ : ∃ G : Nat, G = r.g := ⟨_, rfl⟩
        rw [← hG] at c0 hgw
        have hg1 : ((G : Int) == 4294967295) = false := beq_eq_false_iff_ne.2 (by omega)
        have HX := Lib.hid (And.intro hi hiA)
        clear hi hr hl hiA hz hgw hG
        go_wp2
        go_roundg (m - (i + 1))
        case measure => have := HI.out; have := HX.out; omega
        case rel =>
          refine ⟨i + 1, ?_, v64s HX.out.1 (by have := HH.out; omega), Lib.hid ⟨rfl, HX.out.1⟩, rfl⟩
          congr 1
          have h1 := HX.out.2
          omega
    · have hi1 : ¬ (i : Int) < (m : Int) := by omega
      have hi2 : decide (i < m) = false := decide_eq_false hi
      have ei : i = m := by have := HI.out; omega
      have HE := Lib.hid ei
      clear hi ei
      go_wp2
      go_ret
      refine ⟨ret_int ?_, Below.refl _ _⟩
      have h1 := HE.out
      have h2 := HH.out.2.2.2.2.2
      omega

set_option maxRecDepth 100000 in
set_option maxHeartbeats 4000000 in
/-- The least free index, where one is dead. -/
theorem free_dead (d : Nat) (Sv Rv : Value) (A : List Row) (z : Row) (Z : List Row) (w : World) (hD : DocIs w d Sv Rv (A ++ z :: Z)) (hA : ∀ r ∈ A, r.lv = true) (hZ : z.lv = false ∧ z.g < 4294967295) (hn : (A ++ z :: Z).length ≤ 1048576) :
    Calls Tryd.prog 176 #[.pointer (some ⟨d, 0, none⟩)] w (fun e w' => e = .returned (.int .i64 (A.length : Nat)) ∧ Below w.heap.size w w') := by
  obtain ⟨m, hm⟩ : ∃ m, m = (A ++ z :: Z).length := ⟨_, rfl⟩
  have hmA : m = A.length + Z.length + 1 := by rw [hm, List.length_append, List.length_cons]; omega
  have d0 := hD.blk.cell 0
  simp only [List.getElem?_cons_zero] at d0
  obtain ⟨a, c, rfl, hc⟩ := hD.form
  have HH := Lib.hid (And.intro hD (And.intro hA (And.intro hZ (And.intro hn (And.intro hm hmA)))))
  rw [← hm] at d0 hc
  clear hD hA hZ hn hm hmA
  go_enter Tryd.func176, Tryd.ntmps176
  go_wp2
  go_loopg [3] m (fun kq v4 w' => ∃ i : Nat, v4 = .int .i64 i ∧ Hid (kq = m - i ∧ i ≤ A.length) ∧ w' = w)
  case atStart => exact ⟨0, rfl, Lib.hid ⟨rfl, Nat.zero_le _⟩, rfl⟩
  case round =>
    obtain ⟨i, rfl, HI, rfl⟩ := hrel
    have hi0 : (0 : Int) ≤ (i : Int) := by omega
    have hi : i < m := by have := HI.out; have := HH.out; omega
    have hi1 : (i : Int) < (m : Int) := by omega
    have hi2 : decide (i < m) = true := decide_eq_true hi
    obtain ⟨r, hr⟩ : ∃ r, (A ++ z :: Z)[i]? = some r := ⟨(A ++ z :: Z)[i]'(by have := HH.out; omega), List.getElem?_eq_getElem _⟩
    obtain ⟨g, c', e, _, c0, c1, _⟩ := HH.out.1.row hr
    simp only [Value.slice.injEq] at e
    obtain ⟨rfl, _, rfl⟩ := e
    by_cases hiA : i < A.length
    · have hl : r.lv = true := by
        rw [List.getElem?_append_left hiA] at hr
        exact HH.out.2.1 r (List.mem_of_getElem? hr)
      rw [hl] at c1
      have HX := Lib.hid (And.intro hi hiA)
      clear hi hr hl hiA
      go_wp2
      go_roundg (m - (i + 1))
      case measure => have := HI.out; have := HX.out; omega
      case rel => exact ⟨i + 1, v64s HX.out.1 (by have := HH.out; omega), Lib.hid ⟨rfl, HX.out.2⟩, rfl⟩
    · have ei : i = A.length := by have := HI.out; omega
      have hz : r = z := by
        rw [List.getElem?_append_right (by omega), ei] at hr
        simpa using hr.symm
      subst hz
      obtain ⟨hl, hgw⟩ := HH.out.2.2.1
      rw [hl] at c1
      obtain ⟨G, hG⟩ : ∃ G : Nat, G = r.g := ⟨_, rfl⟩
      rw [← hG] at c0 hgw
      have hg1 : (G : Int) < 4294967295 := by omega
      have HX := Lib.hid ei
      clear hi hr hl hiA hgw hG ei
      go_wp2
      go_ret
      exact ⟨ret_int (by rw [HX.out]), Below.refl _ _⟩

end Df
end Go.Proofs.YtemmkobgpciflaaDoor

namespace Go.Proofs.YtemmkobgpciflaaDoor
open Go.RowKit
open Ch
namespace Df

theorem set_at {X Y : List Value} (j : Nat) (v : Value) : (X ++ Y).set (X.length + j) v = X ++ Y.set j v := by
  rw [List.set_append_right _ _ (by omega), Nat.add_sub_cancel_left]
theorem set_at0 {X Y : List Value} (v : Value) : (X ++ Y).set X.length v = X ++ Y.set 0 v := set_at 0 v
theorem rows_split {R : List Row} {i : Nat} {s : Row} (h : R[i]? = some s) (r : Row) : ∃ P Q, P.length = i * 8 ∧ rowsC R = P ++ (s.cells ++ Q) ∧ rowsC (R.set i r) = P ++ (r.cells ++ Q) := by
  have hi := (List.getElem?_eq_some_iff.1 h).1
  refine ⟨rowsC (R.take i), rowsC (R.drop (i + 1)), ?_, ?_, ?_⟩
  · rw [rowsC_len, List.length_take, Nat.min_eq_left (by omega)]
  · have e : R = R.take i ++ s :: R.drop (i + 1) := by
      rw [← drop_at h, List.take_append_drop]
    calc rowsC R = rowsC (R.take i ++ s :: R.drop (i + 1)) := by rw [← e]
      _ = _ := by rw [rowsC_app]; rfl
  · rw [List.set_eq_take_append_cons_drop, if_pos hi, rowsC_app]
    rfl
theorem rowsC_set8 (R : List Row) (i : Nat) (r : Row) (hi : i < R.length) : ((((((((rowsC R).set (i * 8) (.int .u32 (r.g : Nat))).set (i * 8 + 1) (.bool r.lv)).set (i * 8 + 2) (.int .i64 r.k)).set (i * 8 + 3) (.string r.n)).set (i * 8 + 4) (.slice r.aa r.al r.ac)).set (i * 8 + 5) (.string r.t)).set (i * 8 + 6) (.int .u64 (r.p : Nat))).set (i * 8 + 7) (.slice r.ka r.kl r.kc) = rowsC (R.set i r) := by
  obtain ⟨P, Q, hP, h1, h2⟩ := rows_split (List.getElem?_eq_getElem hi) r
  rw [h1, h2, ← hP]
  simp only [set_at, set_at0]
  rfl

def Row.withKids (r : Row) (a : Option Addr) (n c : Nat) : Row := { r with ka := a, kl := n, kc := c }
def Row.withPar (r : Row) (p : Nat) : Row := { r with p := p }
theorem rowsC_set1 (F : Row → Row) (j : Nat) (v : Row → Value) (hj : j < 8) (hF : ∀ r : Row, (F r).cells = r.cells.set j (v r)) (R : List Row) (i : Nat) (r : Row) (h : R[i]? = some r) : (rowsC R).set (i * 8 + j) (v r) = rowsC (R.set i (F r)) := by
  obtain ⟨P, Q, hP, h1, h2⟩ := rows_split h (F r)
  rw [h1, h2, ← hP, set_at, hF, List.set_append_left _ _ (by show j < 8; exact hj)]

theorem DocIs.setRow {w : World} {d : Nat} {g c : Nat} {Rv : Value} {R : List Row} (h : DocIs w d (.slice (some ⟨g, 0, none⟩) R.length c) Rv R) {i : Nat} (hi : i < R.length) (r : Row) :
    DocIs ((((((((w.setCell ⟨g, i * 8, none⟩ (.int .u32 (r.g : Nat))).setCell ⟨g, i * 8 + 1, none⟩ (.bool r.lv)).setCell ⟨g, i * 8 + 2, none⟩ (.int .i64 r.k)).setCell ⟨g, i * 8 + 3, none⟩ (.string r.n)).setCell ⟨g, i * 8 + 4, none⟩ (.slice r.aa r.al r.ac)).setCell ⟨g, i * 8 + 5, none⟩ (.string r.t)).setCell ⟨g, i * 8 + 6, none⟩ (.int .u64 (r.p : Nat))).setCell ⟨g, i * 8 + 7, none⟩ (.slice r.ka r.kl r.kc)) d (.slice (some ⟨g, 0, none⟩) R.length c) Rv (R.set i r) := by
  have hne : d ≠ g := fun e => h.ne (by rw [e]; rfl)
  refine ⟨?_, ?_⟩
  · exact (((((((h.blk.far ⟨g, _, none⟩ _ hne).far ⟨g, _, none⟩ _ hne).far ⟨g, _, none⟩ _ hne).far ⟨g, _, none⟩ _ hne).far ⟨g, _, none⟩ _ hne).far ⟨g, _, none⟩ _ hne).far ⟨g, _, none⟩ _ hne).far ⟨g, _, none⟩ _ hne
  · rw [List.length_set, ← rowsC_set8 R i r hi]
    exact ((((((((h.own.stored _ _).1.stored _ _).1.stored _ _).1.stored _ _).1.stored _ _).1.stored _ _).1.stored _ _).1.stored _ _).1
theorem DocIs.setKids {w : World} {d : Nat} {g c : Nat} {Rv : Value} {R : List Row} (h : DocIs w d (.slice (some ⟨g, 0, none⟩) R.length c) Rv R) {i : Nat} {r : Row} (hr : R[i]? = some r) (a : Option Addr) (n k : Nat) :
    DocIs (w.setCell ⟨g, i * 8 + 7, none⟩ (.slice a n k)) d (.slice (some ⟨g, 0, none⟩) R.length c) Rv (R.set i (r.withKids a n k)) := by
  have hne : d ≠ g := fun e => h.ne (by rw [e]; rfl)
  refine ⟨h.blk.far ⟨g, _, none⟩ _ hne, ?_⟩
  rw [List.length_set, ← rowsC_set1 (fun r => r.withKids a n k) 7 (fun _ => .slice a n k) (by omega) (fun r => rfl) R i r hr]
  exact (h.own.stored _ _).1
theorem DocIs.setPar {w : World} {d : Nat} {g c : Nat} {Rv : Value} {R : List Row} (h : DocIs w d (.slice (some ⟨g, 0, none⟩) R.length c) Rv R) {i : Nat} {r : Row} (hr : R[i]? = some r) (p : Nat) :
    DocIs (w.setCell ⟨g, i * 8 + 6, none⟩ (.int .u64 (p : Nat))) d (.slice (some ⟨g, 0, none⟩) R.length c) Rv (R.set i (r.withPar p)) := by
  have hne : d ≠ g := fun e => h.ne (by rw [e]; rfl)
  refine ⟨h.blk.far ⟨g, _, none⟩ _ hne, ?_⟩
  rw [List.length_set, ← rowsC_set1 (fun r => r.withPar p) 6 (fun _ => .int .u64 (p : Nat)) (by omega) (fun r => rfl) R i r hr]
  exact (h.own.stored _ _).1

theorem elemSlot : Elem Tryd.prog 153 8 104 (.agg #[.int .u32 0, .bool false, .int .i64 0, .string ⟨#[]⟩, .slice none 0 0, .string ⟨#[]⟩, .int .u64 0, .slice none 0 0]) := Elem.mk' (by kernel_rfl) rfl (by omega) (by omega)
theorem elemHd : Elem Tryd.prog 46 1 8 (.int .u64 0) := Elem.mk' (by kernel_rfl) rfl (by omega) (by omega)

def FreePost (w : World) (d : Nat) (Sv Rv : Value) (A Z Z' : List Row) (e : Ending) (w' : World) : Prop := ∃ Sv', e = .returned (.int .i64 (A.length : Nat)) ∧ DocIs w' d Sv' Rv (A ++ Z') ∧ Upd w w' (· = d) ∧ (∀ g, Sv'.ownBlock = some g → Sv.ownBlock = some g ∨ w.heap.size ≤ g)

set_option maxRecDepth 100000 in
set_option maxHeartbeats 4000000 in
/-- No free index: one more. -/
theorem free_grow (d : Nat) (Sv Rv : Value) (A : List Row) (w : World) (hD : DocIs w d Sv Rv A) (hA : ∀ r ∈ A, r.lv = true) (hn : A.length ≤ 1048576) :
    Calls Tryd.prog 176 #[.pointer (some ⟨d, 0, none⟩)] w (FreePost w d Sv Rv A [] [dead 0]) := by
  obtain ⟨m, hm⟩ : ∃ m, m = A.length := ⟨_, rfl⟩
  have d0 := hD.blk.cell 0
  simp only [List.getElem?_cons_zero] at d0
  obtain ⟨a, c, rfl, hc⟩ := hD.form
  have HH := Lib.hid (And.intro hD (And.intro hA (And.intro hn hm)))
  rw [← hm] at d0 hc
  clear hD hA hn hm
  go_enter Tryd.func176, Tryd.ntmps176
  go_wp2
  go_loopg [3] m (fun kq v4 w' => ∃ i : Nat, v4 = .int .i64 i ∧ Hid (kq = m - i ∧ i ≤ m) ∧ w' = w)
  case atStart => exact ⟨0, rfl, Lib.hid ⟨rfl, Nat.zero_le _⟩, rfl⟩
  case round =>
    obtain ⟨i, rfl, HI, rfl⟩ := hrel
    have hi0 : (0 : Int) ≤ (i : Int) := by omega
    by_cases hi : i < m
    · have hi1 : (i : Int) < (m : Int) := by omega
      have hi2 : decide (i < m) = true := decide_eq_true hi
      obtain ⟨r, hr⟩ : ∃ r, A[i]? = some r := ⟨A[i]'(by have := HH.out; omega), List.getElem?_eq_getElem _⟩
      obtain ⟨g, c', e, _, c0, c1, _⟩ := HH.out.1.row hr
      simp only [Value.slice.injEq] at e
      obtain ⟨rfl, _, rfl⟩ := e
      have hl : r.lv = true := HH.out.2.1 r (List.mem_of_getElem? hr)
      rw [hl] at c1
      have HX := Lib.hid hi
      clear hi hr hl
      go_wp2
      go_roundg (m - (i + 1))
      case measure => have := HI.out; have := HX.out; omega
      case rel => exact ⟨i + 1, v64s HX.out (by have := HH.out; omega), Lib.hid ⟨rfl, HX.out⟩, rfl⟩
    · have hi1 : ¬ (i : Int) < (m : Int) := by omega
      have hi2 : decide (i < m) = false := decide_eq_false hi
      have hdlt := HH.out.1.blk.lt
      have hdne : d ≠ wr.heap.size := Nat.ne_of_lt hdlt
      clear hi
      go_wp2_with (at_builtin; refine halt_mk ?_)
      refine halt_go ?_
      obtain ⟨N, hN⟩ : ∃ N, N = wr.heap.size := ⟨_, rfl⟩
      have HN := Lib.hid hN
      rw [← hN]
      clear hN
      generalize hW : World.alloc _ _ = W
      have T1 : Upd wr W (fun _ => False) := by rw [← hW]; exact (Upd.refl wr _).alloc _
      have O1 : W.ownsRow 0 153 8 (.slice (some ⟨N, 0, none⟩) 0 0) 0 [] := by rw [← hW]; exact own_lit_sz HN.out
      clear hW
      have D1 := HH.out.1.keep T1 (fun h => h) (fun _ _ h => h)
      have hRd := Rd.ofOwn D1.own
      rw [← HH.out.2.2.2] at hRd
      refine wpl_app (n := 0) (m := m) rfl rfl elemSlot Tryd.underlying41 rfl O1 rfl hRd (rowsC_one A) (by have := HH.out; omega) ?_
      rintro v1 w4 ⟨O2, U2, b2⟩
      rw [Nat.zero_add, List.nil_append] at O2
      have hv : ∀ g, v1.ownBlock = some g → N ≤ g := fun g hg => by
        rcases b2 with e | e
        · have := ob_eq (e.symm.trans hg); omega
        · have := ob_some (e.symm.trans hg); have := T1.size; have := HN.out; omega
      have U4 : Upd wr w4 (fun _ => False) := T1.trans U2 (fun i hi e => by have := ob_eq e; have := HN.out; omega)
      have H4 := Lib.hid (And.intro O2 (And.intro U4 hv))
      clear O1 D1 hRd O2 U2 b2 hv T1 U4
      obtain ⟨a1, c1, rfl, _⟩ := (Rd.ofOwn H4.out.1).form
      go_wp2_with (at_builtin; refine halt_mk ?_)
      refine halt_go ?_
      obtain ⟨q, hq⟩ : ∃ q, q = w4.heap.size := ⟨_, rfl⟩
      have HQ := Lib.hid hq
      rw [← hq]
      clear hq
      generalize hW : World.alloc _ _ = W5
      have T5 : Upd w4 W5 (fun _ => False) := by rw [← hW]; exact (Upd.refl w4 _).alloc _
      have X5 : Blk W5 q (Row.cells (dead 0)) 153 := by rw [← hW]; exact Blk.new' HQ.out
      clear hW
      have O5 := own_keep H4.out.1 T5 (fun _ _ h => h)
      refine wpl_app rfl rfl elemSlot Tryd.underlying41 rfl O5 rfl (Rd.ofBlk X5 1 8 rfl) (fun u hu => List.all_eq_true.1 (rfl : (Row.cells (dead 0)).all Value.oneCell' = true) u hu) (by have := HH.out; omega) ?_
      rintro v6 w6 ⟨O6, U6, b6⟩
      have hv : ∀ g, v6.ownBlock = some g → N ≤ g := fun g hg => by
        rcases b6 with e | e
        · exact H4.out.2.2 g (e ▸ hg)
        · have := ob_some (e.symm.trans hg); have := T5.size; have := H4.out.2.1.size; have := HN.out; omega
      have U6 : Upd wr w6 (fun _ => False) := (H4.out.2.1.trans T5 (fun _ _ h => h)).trans U6 (fun i hi e => by have := H4.out.2.2 i e; have := HN.out; omega)
      have D6 := U6.blk HH.out.1.blk (fun h => h)
      have e0 := D6.cell 0
      have f0 := D6.free 0
      simp only [List.getElem?_cons_zero] at e0
      obtain ⟨a6, c6, rfl, _⟩ := (Rd.ofOwn O6).form
      have H6 := Lib.hid (And.intro O6 (And.intro U6 (And.intro hv D6)))
      clear T5 X5 O5 O6 b6 hv U6 D6
      have hm1 : wrap64 ((m : Int) + 1 - 1) = (m : Int) := by rw [Go.IntWalk.wrap64_in _ (by have := HH.out; omega)]; omega
      have hm2 : wrap64 (m : Int) = (m : Int) := by rw [Go.IntWalk.wrap64_in _ (by have := HH.out; omega)]
      go_wp2
      go_ret
      have hdN := HH.out.1.blk.lt
      refine ⟨.slice a6 (m + 1) c6, ret_int ?_, ⟨?_, ?_⟩, H6.out.2.1.mono (fun _ _ h => h.elim) |>.set _ _ (fun _ => rfl), fun g hg => Or.inr (by have := H6.out.2.2.1 g hg; have := HN.out; omega)⟩
      · first | exact (congrArg (fun n : Nat => (n : Int)) HH.out.2.2.2) | (rw [hm2]; have := HH.out.2.2.2; omega) | (have := HH.out.2.2.2; omega)
      · exact H6.out.2.2.2.set 0 _
      · have h := own_keep H6.out.1 ((Upd.refl w6 (· = d)).set ⟨d, 0, none⟩ (.slice a6 (m + 1) c6) (fun _ => rfl)) (fun g hg e => by have := H6.out.2.2.1 g hg; have := HN.out; omega)
        rw [List.length_append, rowsC_app]
        have em := HH.out.2.2.2
        simpa [em, rowsC] using h

end Df
end Go.Proofs.YtemmkobgpciflaaDoor
