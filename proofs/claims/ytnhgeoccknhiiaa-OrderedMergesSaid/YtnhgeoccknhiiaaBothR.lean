/- The document's Both. -/
import Derived.Test.YtnhgeoccknhiiaaMergeA
import Derived.Test.YtnhgeoccknhiiaaTurned
namespace Go.Proofs.Ytnhgeoccknhiiaa
open Go.RowKit
namespace OrdI

def BothPost (w : World) (a b : List It) (e : Ending) (w' : World) : Prop :=
  ((8192 < a.length ∨ 8192 < b.length) ∧ e = .returned (.tuple #[.slice none 0 0, .int .i64 2]) ∧ Below w.heap.size w w') ∨
  ((a.length ≤ 8192 ∧ b.length ≤ 8192) ∧ ¬ (Rises a ∧ Rises b) ∧ e = .returned (.tuple #[.slice none 0 0, .int .i64 71]) ∧ Below w.heap.size w w') ∨
  ((a.length ≤ 8192 ∧ b.length ≤ 8192) ∧ (Rises a ∧ Rises b) ∧ ∃ v, e = .returned (.tuple #[v, .int .i64 0]) ∧ OwnNew w w' v (bothL a b))

/-- Between two rounds. -/
structure Bt (w : World) (a b : List It) (O : List It) (i k : Nat) (v : Value) (W : World) : Prop where
  o : OwnNew w W v O
  sum : O ++ bothL (a.drop i) (b.drop k) = bothL a b
  kle : k ≤ b.length
  ile : i ≤ a.length
section
variable {w W W8 W9 : World} {a b O : List It} {i k : Nat} {v v2 : Value} {x y : It}
theorem Bt.grow (h : Bt w a b O i k v W) (U : Upd W W8 (fun _ => False)) : Bt w a b O i k v W8 := ⟨⟨own_keep h.o.1 U (fun _ _ h => h), h.o.2.1.trans U (fun _ _ h => h), h.o.2.2⟩, h.sum, h.kle, h.ile⟩
theorem Bt.below (h : Bt w a b O i k v W) : Below w.heap.size w W := h.o.2.1.below (Nat.le_refl _) (fun _ _ h => h)
theorem Bt.len (h : Bt w a b O i k v W) : O.length ≤ a.length := by
  have e := congrArg List.length h.sum
  rw [List.length_append] at e
  have := bothL_len a b
  omega
theorem Bt.less (h : Bt w a b O i k v W) (hx : a[i]? = some x) (hy : b[k]? = some y) (hlt : y.k < x.k) : Bt w a b O i (k + 1) v W := by
  refine ⟨h.o, ?_, (List.getElem?_eq_some_iff.1 hy).1, h.ile⟩
  have e := h.sum
  rw [drop_cons hx, drop_cons hy, bothL_less hlt, ← drop_cons hx] at e
  exact e
theorem Bt.miss (h : Bt w a b O i k v W) (hx : a[i]? = some x) (hm : ∀ y, b[k]? = some y → x.k < y.k) : Bt w a b O (i + 1) k v W := by
  refine ⟨h.o, ?_, h.kle, (List.getElem?_eq_some_iff.1 hx).1⟩
  have e := h.sum
  cases hk : b[k]? with
  | none =>
    have hd : b.drop k = [] := List.drop_eq_nil_of_le (by
      rcases Nat.lt_or_ge k b.length with h' | h'
      · rw [List.getElem?_eq_getElem h'] at hk
        cases hk
      · exact h')
    rw [hd, drop_cons hx, bothL_end] at e
    rw [hd]
    exact e
  | some y =>
    rw [drop_cons hx, drop_cons hk, bothL_miss (hm y hk), ← drop_cons hk] at e
    exact e
theorem Bt.hit (h : Bt w a b O i k v W) (hx : a[i]? = some x) (hy : b[k]? = some y) (he : y.k = x.k) (T1 : Upd W W8 (fun _ => False)) (hA : AppPost W8 36 2 v O.length (cells O) 1 (icells x) v2 W9) : Bt w a b (O ++ [x]) (i + 1) k v2 W9 := by
  refine ⟨h.o.snoc T1 hA, ?_, h.kle, (List.getElem?_eq_some_iff.1 hx).1⟩
  have e := h.sum
  rw [drop_cons hx, drop_cons hy, bothL_hit he, ← drop_cons hy] at e
  rw [List.append_assoc]
  exact e
theorem Bt.done (h : Bt w a b O a.length k v W) : O = bothL a b := by
  have e := h.sum
  rw [List.drop_length, bothL, List.append_nil] at e
  exact e
end

set_option maxRecDepth 100000 in
set_option maxHeartbeats 2000000 in
theorem rboth_any (va vb : Value) (a b : List It) (w : World) (ha : Rd w va a.length 2 (cells a)) (hb : Rd w vb b.length 2 (cells b)) :
    Calls Try.prog 32 #[va, vb] w (BothPost w a b) := by
  obtain ⟨aa, ca, rfl, hca⟩ := ha.form
  obtain ⟨ab, cb, rfl, hcb⟩ := hb.form
  have HA := Lib.hid ha
  have HB := Lib.hid hb
  clear ha hb
  go_enter Try.func32, Try.ntmps32
  by_cases hla : a.length ≤ 8192
  · have ga : ¬ (8192 : Int) < (a.length : Int) := by omega
    have ga2 : decide ((8192 : Int) < (a.length : Int)) = false := decide_eq_false ga
    by_cases hlb : b.length ≤ 8192
    · have gb : ¬ (8192 : Int) < (b.length : Int) := by omega
      have gb2 : decide ((8192 : Int) < (b.length : Int)) = false := decide_eq_false gb
      have HCA := Lib.hid (rrises_any _ a w HA.out hla)
      go_wp2_with fail
      refine HCA.out.mono ?_
      rintro e w2 ⟨⟨ra, rfl, hra⟩, hb2⟩
      have HRA := Lib.hid hra
      have HB2 := Lib.hid hb2
      clear hra hb2 HCA
      cases ra
      · go_wp2
        go_ret2
        exact Or.inr (Or.inl ⟨⟨hla, hlb⟩, fun h => (by have := HRA.out.2 h.1; first | cases this | exact this), rfl, HB2.out⟩)
      · have HCB := Lib.hid (rrises_any _ b w2 (HB.out.keep (Upd.ofBelow (F := fun _ => False) HB2.out) (fun _ _ h => h)) hlb)
        go_wp2_with fail
        refine HCB.out.mono ?_
        rintro e w3 ⟨⟨rb, rfl, hrb⟩, hb3⟩
        have HRB := Lib.hid hrb
        have HB3 := Lib.hid (below_trans HB2.out hb3)
        clear hrb hb3 HCB HB2
        cases rb
        · go_wp2
          go_ret2
          exact Or.inr (Or.inl ⟨⟨hla, hlb⟩, fun h => (by have := HRB.out.2 h.2; first | cases this | exact this), rfl, HB3.out⟩)
        · have HRS : Hid (Rises a ∧ Rises b) := Lib.hid ⟨HRA.out.1 (by trivial), HRB.out.1 (by trivial)⟩
          clear HRA HRB
          obtain ⟨g0, hg0⟩ : ∃ g0, g0 = w3.heap.size := ⟨_, rfl⟩
          go_wp2_with fail
          rw [← hg0]
          have S0 : Hid (Bt w a b [] 0 0 (.slice (some ⟨g0, 0, none⟩) 0 0) (w3.alloc (.cells #[] 36))) := by
            have hs := HB3.out.size
            exact Lib.hid ⟨⟨own_lit_sz hg0, (Upd.ofBelow HB3.out).trans ((Upd.refl w3 (fun _ => False)).alloc _) (fun _ _ h => h), fun g hg => by have := ob_eq hg; omega⟩, by simp, Nat.zero_le _, Nat.zero_le _⟩
          clear hg0 HB3
          generalize World.alloc _ _ = W0 at S0 ⊢
          go_loopg [6, 7, 8] a.length (fun kq v6 v7 v8 w' => ∃ (i k : Nat) (O : List It), v8 = .int .i64 i ∧ v7 = .int .i64 k ∧ Hid (kq = a.length - i) ∧ Hid (Bt w a b O i k v6 w'))
          case atStart => exact ⟨0, 0, [], rfl, rfl, Lib.hid rfl, S0⟩
          case round =>
            clear S0
            obtain ⟨i, k, O, rfl, rfl, HI, HM⟩ := hrel
            have hi0 : (0 : Int) ≤ (i : Int) := by omega
            obtain ⟨ao, co, rfl, _⟩ := HM.out.o.rd.form
            by_cases hi : i < a.length
            · obtain ⟨x, hx⟩ : ∃ x, a[i]? = some x := ⟨a[i], List.getElem?_eq_getElem hi⟩
              obtain ⟨g, off, c', e1, _, x0, x1⟩ := it_at HA.out hx
              cases e1
              have keep : Hid (∀ w', Below w.heap.size w w' → w'.cell? ⟨g, off + i * 2, none⟩ = some (.int .i64 x.k) ∧ w'.cell? ⟨g, off + i * 2 + 1, none⟩ = some (.int .i64 x.m)) := Lib.hid (fun w' hb => ⟨(hb.cell (World.block_lt_of_cell? w _ x0)).trans x0, (hb.cell (World.block_lt_of_cell? w _ x1)).trans x1⟩)
              have hi1 : (i : Int) < (a.length : Int) := by omega
              have hi2 : decide ((i : Int) < (a.length : Int)) = true := decide_eq_true hi1
              have HX := Lib.hid hx
              clear hx x0 x1
              go_wp2_with fail
              go_loopg [7] (b.length - k) (fun kq v7 w' => ∃ k : Nat, v7 = .int .i64 k ∧ Hid (kq = b.length - k) ∧ Hid (Bt w a b O i k (.slice ao O.length co) w'))
              case atStart => exact ⟨k, rfl, Lib.hid rfl, HM⟩
              case round =>
                clear HM
                obtain ⟨k, rfl, HK, HM⟩ := hrel
                have hk0 : (0 : Int) ≤ (k : Int) := by omega
                obtain ⟨x0, x1⟩ := keep.out wr HM.out.below
                have hOl := HM.out.len
                by_cases hk : k < b.length
                · obtain ⟨y, hy⟩ : ∃ y, b[k]? = some y := ⟨b[k], List.getElem?_eq_getElem hk⟩
                  obtain ⟨gy, oy, cy, e1, _, y0, y1⟩ := it_at (HB.out.keep HM.out.o.2.1 (fun _ _ h => h)) hy
                  cases e1
                  have hk1 : (k : Int) < (b.length : Int) := by omega
                  have hk2 : decide ((k : Int) < (b.length : Int)) = true := decide_eq_true hk1
                  have HY := Lib.hid hy
                  clear hy
                  by_cases hlt : y.k < x.k
                  · have hd : decide (y.k < x.k) = true := decide_eq_true hlt
                    have HL := Lib.hid hlt
                    go_wp2_with fail
                    go_quiet (fail)
                    have HM2 : Hid (Bt w a b O i (k + 1) (.slice ao O.length co) (wr.drewN nq)) := Lib.hid ((HM.out.less HX.out HY.out HL.out).grow ((Upd.refl wr (fun _ => False)).drewN _))
                    clear HM
                    go_wp2
                    go_roundg (b.length - (k + 1))
                    case rel => exact ⟨k + 1, by go_num, Lib.hid rfl, HM2⟩
                    case measure => have := HK.out; omega
                  · have hd : decide (y.k < x.k) = false := decide_eq_false hlt
                    by_cases heq : y.k = x.k
                    · have hd2 : (y.k == x.k) = true := by rw [beq_iff_eq]; exact heq
                      have HL := Lib.hid heq
                      clear heq
                      go_wp2_with fail
                      go_quiet (fail)
                      go_wp2_with fail
                      go_quiet (fail)
                      go_wp2_with (at_builtin; refine halt_mk ?_)
                      refine halt_go ?_
                      generalize hW : World.alloc _ _ = W8
                      have T1 : Upd wr W8 (fun _ => False) := by rw [← hW]; first | exact (((Upd.refl wr _).drewN _).drewN _).alloc _ | exact ((Upd.refl wr _).drewN _).alloc _
                      have X1 : Blk W8 wr.heap.size (icells x) 36 := by rw [← hW]; exact Blk.new' rfl
                      clear hW
                      refine wpl_app rfl rfl elem Try.underlying30 rfl (own_keep HM.out.o.1 T1 (fun _ _ h => h)) rfl (Rd.ofBlk X1 1 2 rfl) (by simp [icells, Value.oneCell']) (by omega) ?_
                      intro v2 w5 hA
                      have HM2 : Hid (Bt w a b (O ++ [x]) (i + 1) k v2 w5) := Lib.hid (HM.out.hit HX.out HY.out HL.out T1 hA)
                      clear hA T1 X1 HM x0 x1 y0 y1
                      go_wp2
                      go_roundg (a.length - (i + 1))
                      case rel => exact ⟨i + 1, k, _, by go_num, rfl, Lib.hid rfl, HM2⟩
                      case measure => have := HI.out; omega
                    · have hd2 : (y.k == x.k) = false := by rw [beq_eq_false_iff_ne]; exact heq
                      have HL : Hid (x.k < y.k) := Lib.hid (by omega)
                      have HM2 : Hid (∀ W, Upd wr W (fun _ => False) → Bt w a b O (i + 1) k (.slice ao O.length co) W) := Lib.hid (fun W U => (HM.out.miss HX.out (fun y' hy' => by
                        rw [HY.out] at hy'
                        cases hy'
                        exact HL.out)).grow U)
                      go_wp2_with fail
                      go_quiet (fail)
                      go_wp2_with fail
                      go_quiet (fail)
                      go_wp2
                      go_roundg (a.length - (i + 1))
                      case rel => exact ⟨i + 1, k, _, by go_num, rfl, Lib.hid rfl, Lib.hid (HM2.out _ (by first | exact ((Upd.refl wr _).drewN _).drewN _ | exact (Upd.refl wr _).drewN _))⟩
                      case measure => have := HI.out; omega
                · have hk1 : ¬ (k : Int) < (b.length : Int) := by omega
                  have hk2 : decide ((k : Int) < (b.length : Int)) = false := decide_eq_false hk1
                  have HM2 : Hid (∀ W, Upd wr W (fun _ => False) → Bt w a b O (i + 1) k (.slice ao O.length co) W) := Lib.hid (fun W U => (HM.out.miss HX.out (fun y' hy' => by
                    have := (List.getElem?_eq_some_iff.1 hy').1
                    omega)).grow U)
                  go_wp2_with fail
                  go_quiet (fail)
                  go_wp2_with fail
                  go_quiet (fail)
                  go_wp2
                  go_roundg (a.length - (i + 1))
                  case rel => exact ⟨i + 1, k, _, by go_num, rfl, Lib.hid rfl, Lib.hid (HM2.out _ (by first | exact ((Upd.refl wr _).drewN _).drewN _ | exact (Upd.refl wr _).drewN _))⟩
                  case measure => have := HI.out; omega
            · obtain rfl : i = a.length := by have := HM.out.ile; omega
              have hi1 : ¬ (a.length : Int) < (a.length : Int) := by omega
              have hi2 : decide ((a.length : Int) < (a.length : Int)) = false := decide_eq_false hi1
              have HD := Lib.hid HM.out.done
              go_wp2
              go_ret2
              exact Or.inr (Or.inr ⟨⟨hla, hlb⟩, HRS.out, _, rfl, by rw [← HD.out]; exact HM.out.o⟩)
    · have gb : (8192 : Int) < (b.length : Int) := by omega
      have gb2 : decide ((8192 : Int) < (b.length : Int)) = true := decide_eq_true gb
      go_wp2
      go_ret2
      exact Or.inl ⟨Or.inr (by omega), rfl, Below.refl _ _⟩
  · have ga : (8192 : Int) < (a.length : Int) := by omega
    have ga2 : decide ((8192 : Int) < (a.length : Int)) = true := decide_eq_true ga
    go_wp2
    go_ret2
    exact Or.inl ⟨Or.inl (by omega), rfl, Below.refl _ _⟩

end OrdI
end Go.Proofs.Ytnhgeoccknhiiaa
