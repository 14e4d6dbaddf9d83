/- The program's Both. -/
import Derived.Test.YtnhgeoccknhiiaaBothR
import Derived.Deep.Cut
namespace Go.Proofs.Ytnhgeoccknhiiaa
open Go.RowKit
namespace OrdI

set_option maxRecDepth 100000 in
set_option maxHeartbeats 2000000 in
theorem both_any (va vb : Value) (a b : List It) (w : World) (ha : Rd w va a.length 2 (cells a)) (hb : Rd w vb b.length 2 (cells b)) :
    Calls Try.prog 31 #[.func (.func 29) #[] #[], va, vb] w (BothPost w a b) := by
  obtain ⟨aa, ca, rfl, hca⟩ := ha.form
  obtain ⟨ab, cb, rfl, hcb⟩ := hb.form
  have HA := Lib.hid ha
  have HB := Lib.hid hb
  clear ha hb
  have qn : ∀ (w : World) (f : Fn) (a b : Array Value), (binOp .eql 58 (.func f a b) .nilFunc).run Try.prog w = .ok (.bool false) w := fun _ _ _ _ => by kernel_rfl
  go_enter Try.func31, Try.ntmps31
  by_cases hla : a.length ≤ 8192
  · have ga : ¬ (8192 : Int) < (a.length : Int) := by omega
    have ga2 : decide ((8192 : Int) < (a.length : Int)) = false := decide_eq_false ga
    by_cases hlb : b.length ≤ 8192
    · have gb : ¬ (8192 : Int) < (b.length : Int) := by omega
      have gb2 : decide ((8192 : Int) < (b.length : Int)) = false := decide_eq_false gb
      have HCA := Lib.hid (rises_any _ a w HA.out hla)
      go_wp2_with fail
      refine HCA.out.mono ?_
      rintro e w2 ⟨⟨ra, rfl, hra⟩, hb2⟩
      have HRA := Lib.hid hra
      have HB2 := Lib.hid hb2
      clear hra hb2 HCA
      cases ra
      · go_wp2
        go_ret2
        exact Or.inr (Or.inl ⟨⟨hla, hlb⟩, fun h => (by have := HRA.out.2 h.1; first | cases this | exact this), rfl, HB2.out⟩)
      · have HCB := Lib.hid (rises_any _ b w2 (HB.out.keep (Upd.ofBelow (F := fun _ => False) HB2.out) (fun _ _ h => h)) hlb)
        go_wp2_with fail
        refine HCB.out.mono ?_
        rintro e w3 ⟨⟨rb, rfl, hrb⟩, hb3⟩
        have HRB := Lib.hid hrb
        have HB3 := Lib.hid (below_trans HB2.out hb3)
        clear hrb hb3 HCB HB2
        cases rb
        · go_wp2
          go_ret2
          exact Or.inr (Or.inl ⟨⟨hla, hlb⟩, fun h => (by have := HRB.out.2 h.2; first | cases this | exact this), rfl, HB3.out⟩)
        · have HRS : Hid (Rises a ∧ Rises b) := Lib.hid ⟨HRA.out.1 (by trivial), HRB.out.1 (by trivial)⟩
          clear HRA HRB
          go_wp2_with fail
          have S0 : Hid (Bt w a b [] 0 0 (.slice none 0 0) w3) := Lib.hid ⟨⟨World.ownsRow_nil _ _ _ _, Upd.ofBelow HB3.out, fun g hg => by cases hg⟩, by simp, Nat.zero_le _, Nat.zero_le _⟩
          clear HB3
          go_loopg [8, 9, 37] a.length (fun kq v8 v9 v37 w' => ∃ (i k : Nat) (O : List It), v37 = .int .i64 i ∧ v9 = .int .i64 k ∧ Hid (kq = a.length - i) ∧ Hid (Bt w a b O i k v8 w'))
          case atStart => exact ⟨0, 0, [], rfl, rfl, Lib.hid rfl, S0⟩
          case round =>
            clear S0
            obtain ⟨i, k, O, rfl, rfl, HI, HM⟩ := hrel
            have hi0 : (0 : Int) ≤ (i : Int) := by omega
            obtain ⟨ao, co, rfl, _⟩ := HM.out.o.rd.form
            by_cases hi : i < a.length
            · obtain ⟨x, hx⟩ : ∃ x, a[i]? = some x := ⟨a[i], List.getElem?_eq_getElem hi⟩
              obtain ⟨g, off, c', e1, _, x0, x1⟩ := it_at HA.out hx
              cases e1
              have keep : Hid (∀ w', Below w.heap.size w w' → w'.cell? ⟨g, off + i * 2, none⟩ = some (.int .i64 x.k) ∧ w'.cell? ⟨g, off + i * 2 + 1, none⟩ = some (.int .i64 x.m)) := Lib.hid (fun w' hb => ⟨(hb.cell (World.block_lt_of_cell? w _ x0)).trans x0, (hb.cell (World.block_lt_of_cell? w _ x1)).trans x1⟩)
              have hi1 : (i : Int) < (a.length : Int) := by omega
              have hi2 : decide ((i : Int) < (a.length : Int)) = true := decide_eq_true hi1
              have HX := Lib.hid hx
              obtain ⟨y0x, y1x⟩ := keep.out wr HM.out.below
              obtain ⟨xb, hxb⟩ : ∃ xb, xb = wr.heap.size := ⟨_, rfl⟩
              go_upto_region 12 with fail
              rw [← hxb]
              have HM1 : Hid (Bt w a b O i k (.slice ao O.length co) (wr.alloc (.cells #[.int .i64 x.k, .int .i64 x.m] 36)) ∧ Blk (wr.alloc (.cells #[.int .i64 x.k, .int .i64 x.m] 36)) xb (icells x) 36) := Lib.hid ⟨HM.out.grow ((Upd.refl wr _).alloc _), Blk.new' hxb⟩
              clear hx x0 x1 y0x y1x keep HM hxb
              generalize World.alloc _ _ = W1 at HM1 ⊢
              go_loopg [9] (b.length - k) (fun kq v9 w' => ∃ k : Nat, v9 = .int .i64 k ∧ Hid (kq = b.length - k) ∧ Hid (Bt w a b O i k (.slice ao O.length co) w' ∧ Blk w' xb (icells x) 36))
              case atStart => exact ⟨k, rfl, Lib.hid rfl, HM1⟩
              case round =>
                clear HM1
                obtain ⟨k, rfl, HK, HM⟩ := hrel
                have hk0 : (0 : Int) ≤ (k : Int) := by omega
                have x0 : wr.cell? ⟨xb, 0, none⟩ = some (.int .i64 x.k) := HM.out.2.cell 0
                have x1 : wr.cell? ⟨xb, 1, none⟩ = some (.int .i64 x.m) := HM.out.2.cell 1
                have hOl := HM.out.1.len
                by_cases hk : k < b.length
                · obtain ⟨y, hy⟩ : ∃ y, b[k]? = some y := ⟨b[k], List.getElem?_eq_getElem hk⟩
                  obtain ⟨gy, oy, cy, e1, _, y0, y1⟩ := it_at (HB.out.keep HM.out.1.o.2.1 (fun _ _ h => h)) hy
                  cases e1
                  have hk1 : (k : Int) < (b.length : Int) := by omega
                  have hk2 : decide ((k : Int) < (b.length : Int)) = true := decide_eq_true hk1
                  have HY := Lib.hid hy
                  have keepS : Hid (∀ W', Upd wr W' (fun _ => False) → W'.cell? ⟨gy, oy + k * 2, none⟩ = some (.int .i64 y.k) ∧ W'.cell? ⟨gy, oy + k * 2 + 1, none⟩ = some (.int .i64 y.m) ∧ W'.cell? ⟨xb, 0, none⟩ = some (.int .i64 x.k) ∧ W'.cell? ⟨xb, 1, none⟩ = some (.int .i64 x.m)) := Lib.hid (fun W' U => by
                    have l1 : gy < wr.heap.size := World.block_lt_of_cell? wr _ y0
                    have l2 := HM.out.2.lt
                    exact ⟨(U.cell l1 (fun h => h)).trans y0, (U.cell l1 (fun h => h)).trans y1, (U.cell l2 (fun h => h)).trans x0, (U.cell l2 (fun h => h)).trans x1⟩)
                  have HC := Lib.hid (asks_any askI y x wr.drew trivial)
                  clear hy
                  go_wp2_with fail
                  apply wp_reg (fun w' : World => w'.cell? ⟨gy, oy + k * 2, none⟩ = some (.int .i64 y.k) ∧ w'.cell? ⟨gy, oy + k * 2 + 1, none⟩ = some (.int .i64 y.m) ∧ w'.cell? ⟨xb, 0, none⟩ = some (.int .i64 x.k) ∧ w'.cell? ⟨xb, 1, none⟩ = some (.int .i64 x.m)) [0, 1, 2, 3, 4, 5, 6, 7, 8, 9, 10] [11, 12] [] (by kernel_rfl) (by kernel_rfl) (fun _ _ d _ _ h => by cases d <;> exact h) ⟨y0, y1, x0, x1⟩
                  · iterate 11 (apply reads_consL rfl rfl; (· intro w0 hS; obtain ⟨hS1, hS2, hS3, hS4⟩ := hS; go_simp; try rfl); simp only [Act.put, List.setIfInBounds_toArray, List.set_cons_zero, List.set_cons_succ])
                    exact rfl
                  refine tail_consL rfl ?_
                  go_wp2_with fail
                  refine HC.out.mono ?_
                  rintro e w4 ⟨rfl, hb4⟩
                  have HU4 : Hid (Upd wr w4 (fun _ => False)) := Lib.hid ((Upd.refl wr _).drew.trans (Upd.ofBelow hb4) (fun _ _ h => h))
                  have hS4 := keepS.out w4 HU4.out
                  clear hb4 HC x0 x1 y0 y1
                  go_wp2_with fail
                  refine ⟨hS4, tail_consL rfl ?_⟩
                  go_wp2_with fail
                  refine ⟨hS4, tail_zero ?_⟩
                  by_cases hlt : y.k < x.k
                  · have hd : decide (y.k < x.k) = true := decide_eq_true hlt
                    have HM2 : Hid (Bt w a b O i (k + 1) (.slice ao O.length co) w4 ∧ Blk w4 xb (icells x) 36) := Lib.hid ⟨(HM.out.1.less HX.out HY.out hlt).grow HU4.out, HU4.out.blk HM.out.2 (fun h => h)⟩
                    clear HM hS4
                    go_wp2
                    go_roundg (b.length - (k + 1))
                    case rel => exact ⟨k + 1, by go_num, Lib.hid rfl, HM2⟩
                    case measure => have := HK.out; omega
                  · have hd : decide (y.k < x.k) = false := decide_eq_false hlt
                    have HC := Lib.hid (asks_any askI x y w4.drew trivial)
                    obtain ⟨y0, y1, x0, x1⟩ := hS4
                    go_wp2_with fail
                    apply wp_reg (fun w' : World => w'.cell? ⟨gy, oy + k * 2, none⟩ = some (.int .i64 y.k) ∧ w'.cell? ⟨gy, oy + k * 2 + 1, none⟩ = some (.int .i64 y.m) ∧ w'.cell? ⟨xb, 0, none⟩ = some (.int .i64 x.k) ∧ w'.cell? ⟨xb, 1, none⟩ = some (.int .i64 x.m)) [0, 1, 2, 3, 4, 5, 6, 7, 8, 9, 10] [11, 12, 13] [] (by kernel_rfl) (by kernel_rfl) (fun _ _ d _ _ h => by cases d <;> exact h) ⟨y0, y1, x0, x1⟩
                    · iterate 11 (apply reads_consL rfl rfl; (· intro w0 hS; obtain ⟨hS1, hS2, hS3, hS4⟩ := hS; go_simp; try rfl); simp only [Act.put, List.setIfInBounds_toArray, List.set_cons_zero, List.set_cons_succ])
                      exact rfl
                    refine tail_consL rfl ?_
                    go_wp2_with fail
                    refine HC.out.mono ?_
                    rintro e w5 ⟨he5, hb5⟩
                    obtain ⟨gt, hgt⟩ : ∃ gt : Bool, gt = decide (x.k < y.k) := ⟨_, rfl⟩
                    rw [← hgt] at he5
                    subst he5
                    have HU5 : Hid (Upd wr w5 (fun _ => False)) := Lib.hid ((HU4.out.drew).trans (Upd.ofBelow hb5) (fun _ _ h => h))
                    have hS5 := keepS.out w5 HU5.out
                    clear hb5 HC x0 x1 y0 y1
                    cases gt
                    · have hng : ¬ x.k < y.k := of_decide_eq_false hgt.symm
                      have HL : Hid (y.k = x.k) := Lib.hid (by omega)
                      clear hng hgt
                      obtain ⟨y0', y1', x0', x1'⟩ := id hS5
                      go_wp2_with fail
                      refine ⟨hS5, tail_consL rfl ?_⟩
                      go_wp2_with fail
                      refine ⟨hS5, tail_consL rfl ?_⟩
                      go_wp2_with fail
                      refine ⟨hS5, tail_zero ?_⟩
                      go_wp2_with (at_builtin; refine halt_mk ?_)
                      refine halt_go ?_
                      generalize hW : World.alloc _ _ = W8
                      have T1 : Upd wr W8 (fun _ => False) := by rw [← hW]; exact HU5.out.alloc _
                      have X1 : Blk W8 w5.heap.size (icells x) 36 := by rw [← hW]; exact Blk.new' rfl
                      clear hW
                      refine wpl_app rfl rfl elem Try.underlying30 rfl (own_keep HM.out.1.o.1 T1 (fun _ _ h => h)) rfl (Rd.ofBlk X1 1 2 rfl) (by simp [icells, Value.oneCell']) (by omega) ?_
                      intro v2 w6 hA
                      have HM2 : Hid (Bt w a b (O ++ [x]) (i + 1) k v2 w6) := Lib.hid (HM.out.1.hit HX.out HY.out HL.out T1 hA)
                      clear hA T1 X1 HM x0' x1' y0' y1'
                      go_wp2
                      go_roundg (a.length - (i + 1))
                      case rel => exact ⟨i + 1, k, _, by go_num, rfl, Lib.hid rfl, HM2⟩
                      case measure => have := HI.out; omega
                    · have hgt2 := of_decide_eq_true hgt.symm
                      clear hgt
                      go_wp2_with fail
                      refine ⟨hS5, tail_consL rfl ?_⟩
                      go_wp2_with fail
                      refine ⟨hS5, tail_consL rfl ?_⟩
                      go_wp2_with fail
                      refine ⟨hS5, tail_zero ?_⟩
                      have HM2 : Hid (Bt w a b O (i + 1) k (.slice ao O.length co) w5) := Lib.hid ((HM.out.1.miss HX.out (fun y' hy' => by
                        rw [HY.out] at hy'
                        cases hy'
                        exact hgt2)).grow HU5.out)
                      clear hS5 HM
                      go_wp2
                      go_roundg (a.length - (i + 1))
                      case rel => exact ⟨i + 1, k, _, by go_num, rfl, Lib.hid rfl, HM2⟩
                      case measure => have := HI.out; omega
                · have hk1 : ¬ (k : Int) < (b.length : Int) := by omega
                  have hk2 : decide ((k : Int) < (b.length : Int)) = false := decide_eq_false hk1
                  have HM2 : Hid (∀ W, Upd wr W (fun _ => False) → Bt w a b O (i + 1) k (.slice ao O.length co) W) := Lib.hid (fun W U => (HM.out.1.miss HX.out (fun y' hy' => by
                    have := (List.getElem?_eq_some_iff.1 hy').1
                    omega)).grow U)
                  go_wp2_with fail
                  apply wp_reg (fun _ : World => True) [0, 1, 2, 3, 4, 5, 6, 7, 8, 9, 10] [11, 12] [] (by kernel_rfl) (by kernel_rfl) (fun _ _ d _ _ h => by cases d <;> exact h) trivial
                  · iterate 5 (apply reads_consL rfl rfl; (· intro w0 hS; go_simp; try rfl); simp only [Act.put, List.setIfInBounds_toArray, List.set_cons_zero, List.set_cons_succ])
                    iterate 6 (apply reads_skipL rfl rfl; simp only [Act.put, List.setIfInBounds_toArray, List.set_cons_zero, List.set_cons_succ])
                    exact rfl
                  refine tail_consL rfl ?_
                  go_wp2_with fail
                  refine ⟨trivial, tail_consL rfl ?_⟩
                  go_wp2_with fail
                  refine ⟨trivial, tail_zero ?_⟩
                  go_wp2_with fail
                  apply wp_reg (fun _ : World => True) [0, 1, 2, 3, 4, 5, 6, 7, 8, 9, 10] [11, 12, 13] [] (by kernel_rfl) (by kernel_rfl) (fun _ _ d _ _ h => by cases d <;> exact h) trivial
                  · iterate 5 (apply reads_consL rfl rfl; (· intro w0 hS; go_simp; try rfl); simp only [Act.put, List.setIfInBounds_toArray, List.set_cons_zero, List.set_cons_succ])
                    iterate 6 (apply reads_skipL rfl rfl; simp only [Act.put, List.setIfInBounds_toArray, List.set_cons_zero, List.set_cons_succ])
                    exact rfl
                  refine tail_consL rfl ?_
                  go_wp2_with fail
                  refine ⟨trivial, tail_consL rfl ?_⟩
                  go_wp2_with fail
                  refine ⟨trivial, tail_consL rfl ?_⟩
                  go_wp2_with fail
                  refine ⟨trivial, tail_zero ?_⟩
                  go_wp2
                  go_roundg (a.length - (i + 1))
                  case rel => exact ⟨i + 1, k, _, by go_num, rfl, Lib.hid rfl, Lib.hid (HM2.out _ (by first | exact (Upd.refl wr _).drew.drew | exact (Upd.refl wr _).drewN _ | exact (Upd.refl wr _).drew))⟩
                  case measure => have := HI.out; omega
            · obtain rfl : i = a.length := by have := HM.out.ile; omega
              have hi1 : ¬ (a.length : Int) < (a.length : Int) := by omega
              have hi2 : decide ((a.length : Int) < (a.length : Int)) = false := decide_eq_false hi1
              have HD := Lib.hid HM.out.done
              go_wp2
              go_ret2
              exact Or.inr (Or.inr ⟨⟨hla, hlb⟩, HRS.out, _, rfl, by rw [← HD.out]; exact HM.out.o⟩)
    · have gb : (8192 : Int) < (b.length : Int) := by omega
      have gb2 : decide ((8192 : Int) < (b.length : Int)) = true := decide_eq_true gb
      go_wp2
      go_ret2
      exact Or.inl ⟨Or.inr (by omega), rfl, Below.refl _ _⟩
  · have ga : (8192 : Int) < (a.length : Int) := by omega
    have ga2 : decide ((8192 : Int) < (a.length : Int)) = true := decide_eq_true ga
    go_wp2
    go_ret2
    exact Or.inl ⟨Or.inl (by omega), rfl, Below.refl _ _⟩

end OrdI
end Go.Proofs.Ytnhgeoccknhiiaa
