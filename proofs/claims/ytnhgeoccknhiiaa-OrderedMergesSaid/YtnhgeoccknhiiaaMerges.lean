/- OrderedMerges, walked. -/
import Derived.Test.YtnhgeoccknhiiaaMergesA
import Derived.Test.YtnhgeoccknhiiaaActsI
namespace Go.Proofs.Ytnhgeoccknhiiaa
open Go.RowKit Go.Shelf
namespace OrdI

/-- While the merged list is written over. -/
structure Lo (w w2 : World) (n : Nat) (a1 : Option Addr) (ai : Option Addr) (ci : Nat) (ls : List (List It)) (W : World) : Prop where
  row : n = 0 ∨ ∃ g us, a1 = some ⟨g, 0, none⟩ ∧ w2.heap.size ≤ g ∧ Blk W g us 36 ∧ n * 2 ≤ us.length
  below : Below w2.heap.size w2 W
  low : RdL w2 (.slice ai ls.length ci) ls ∧ Below w.heap.size w w2
theorem lo_start {w w2 W : World} {a1 ai : Option Addr} {c1 ci : Nat} {L : List It} {ls : List (List It)} (h : OwnNew w2 W (.slice a1 L.length c1) L) (hr : RdL w2 (.slice ai ls.length ci) ls) (hb : Below w2.heap.size w2 W) (hb0 : Below w.heap.size w w2) : Lo w w2 L.length a1 ai ci ls W := by
  refine ⟨?_, hb, hr, hb0⟩
  obtain ⟨h1, _, h3⟩ := h
  have h1' := h1
  obtain ⟨hl, ⟨e, _⟩ | ⟨g, cap, cur, e, _⟩⟩ := h1
  · cases L with
    | nil => exact Or.inl rfl
    | cons x L => cases e
  · cases e
    obtain ⟨us, hu, hn⟩ := own_block h1'
    exact Or.inr ⟨g, us, rfl, h3 g rfl, hu, hn⟩
theorem Lo.grow {w w2 W W' : World} {n : Nat} {a1 ai : Option Addr} {ci : Nat} {ls : List (List It)} (h : Lo w w2 n a1 ai ci ls W) (hb : Below W.heap.size W W') : Below w2.heap.size w2 W' := below_trans h.below hb

set_option maxRecDepth 100000 in
set_option maxHeartbeats 2000000 in
theorem merges_calls (w : World) (vl va vb : Value) (ls : List (List It)) (a b : List It) (h : RdL w vl ls) (ha : Rd w va a.length 2 (cells a)) (hb : Rd w vb b.length 2 (cells b))
    (hl : ls.length * 24 ≤ 140737488351232) (hle : ∀ l ∈ ls, l.length * 16 ≤ 140737488351232) (hla : a.length * 16 ≤ 140737488351232) (hlb : b.length * 16 ≤ 140737488351232) :
    Calls Try.prog 5 #[vl, va, vb] w (TruePost w) := by
  obtain ⟨al, cl, rfl, _⟩ := h.form
  obtain ⟨aa, ca, rfl, _⟩ := ha.form
  obtain ⟨ab, cb, rfl, _⟩ := hb.form
  have HR := Lib.hid (And.intro h (And.intro ha hb))
  have HLE := Lib.hid hle
  have HC := Lib.hid (copied_any _ ls w h hl hle)
  clear h ha hb hle
  go_enter Try.func5, Try.ntmps5
  go_wp2_with fail
  refine HC.out.mono ?_
  rintro e w2 ⟨vi, rfl, hri, hb2⟩
  obtain ⟨ai, ci, rfl, _⟩ := hri.form
  have HC2 := Lib.hid (merge_any _ ls w2 hri hl HLE.out)
  have HB2 := Lib.hid hb2
  have HRI := Lib.hid hri
  clear hb2 hri HC
  go_wp2_with fail
  refine HC2.out.mono ?_
  rintro e w3 hp
  obtain ⟨v1, rfl, ho1⟩ := merge_res hp
  have hb3 : Below w.heap.size w w3 := HB2.out.trans (ho1.2.1.below HB2.out.size (fun _ _ h => h))
  have HC3 := Lib.hid (rmerge_any _ ls w3 (HR.out.1.below hb3) hl HLE.out)
  have HO1 := Lib.hid (And.intro hb3 ho1)
  clear hp HC2 hb3 ho1
  obtain ⟨L, hL⟩ : ∃ L, L = mlist ls := ⟨_, rfl⟩
  obtain ⟨cc, hcc⟩ : ∃ cc, cc = mcode ls := ⟨_, rfl⟩
  have HL := Lib.hid (And.intro hL hcc)
  rw [← hL] at HO1
  rw [← hcc]
  go_wp2_with fail
  refine HC3.out.mono ?_
  rintro e w4 hp
  obtain ⟨v2, rfl, ho2⟩ := merge_res hp
  rw [← hL] at ho2
  rw [← hcc]
  have HO2 := Lib.hid ho2
  clear hp HC3 ho2 hL hcc
  obtain ⟨a1, c1, rfl, _⟩ := HO1.out.2.rd.form
  obtain ⟨a2, c2, rfl, _⟩ := HO2.out.rd.form
  obtain ⟨g4, hg4⟩ : ∃ g4, g4 = w4.heap.size := ⟨_, rfl⟩
  go_upto_region 4 with fail
  go_wp2_with (at_builtin; refine halt_mk ?_)
  refine halt_go ?_
  rw [← hg4]
  generalize hW : World.alloc _ _ = W5
  have T5 : Upd w4 W5 (fun _ => False) := by rw [← hW]; exact (Upd.refl w4 _).alloc _
  have O5 : W5.ownsRow 0 36 2 (.slice (some ⟨g4, 0, none⟩) 0 0) 0 [] := by rw [← hW]; exact own_lit_sz hg4
  have hb4 : Below w.heap.size w w4 := HO1.out.1.trans (HO2.out.2.1.below HO1.out.1.size (fun _ _ h => h))
  have Uw5 : Upd w W5 (fun _ => False) := (Upd.ofBelow hb4).trans T5 (fun _ _ h => h)
  clear hW
  refine wpl_app rfl rfl elem Try.underlying30 rfl O5 rfl (HR.out.2.1.keep Uw5 (fun _ _ h => h)) (cells_one a) (by omega) ?_
  rintro v5 w6 ⟨O6, U6, b6⟩
  rw [Nat.zero_add, List.nil_append] at O6
  have U46 : Upd w4 w6 (fun _ => False) := T5.trans U6 (fun i hi e => by have := ob_eq e; omega)
  obtain ⟨a5, c5, rfl, _⟩ := (Rd.ofOwn O6).form
  have H6 := Lib.hid (And.intro O6 (And.intro U46 hb4))
  clear O5 O6 U6 b6 U46 T5 Uw5 hg4 hb4
  obtain ⟨g6, hg6⟩ : ∃ g6, g6 = w6.heap.size := ⟨_, rfl⟩
  go_wp2_with (at_builtin; refine halt_mk ?_)
  refine halt_go ?_
  rw [← hg6]
  generalize hW : World.alloc _ _ = W7
  have T7 : Upd w6 W7 (fun _ => False) := by rw [← hW]; exact (Upd.refl w6 _).alloc _
  have O7 : W7.ownsRow 0 36 2 (.slice (some ⟨g6, 0, none⟩) 0 0) 0 [] := by rw [← hW]; exact own_lit_sz hg6
  have Uw7 : Upd w W7 (fun _ => False) := ((Upd.ofBelow H6.out.2.2).trans H6.out.2.1 (fun _ _ h => h)).trans T7 (fun _ _ h => h)
  clear hW
  refine wpl_app rfl rfl elem Try.underlying30 rfl O7 rfl (HR.out.2.2.keep Uw7 (fun _ _ h => h)) (cells_one b) (by omega) ?_
  rintro v7 w8 ⟨O8, U8, b8⟩
  rw [Nat.zero_add, List.nil_append] at O8
  have U68 : Upd w6 w8 (fun _ => False) := T7.trans U8 (fun i hi e => by have := ob_eq e; omega)
  obtain ⟨a7, c7, rfl, _⟩ := (Rd.ofOwn O8).form
  have HC4 := Lib.hid (both_any _ _ a b w8 ((Rd.ofOwn H6.out.1).keep U68 (fun _ _ h => h)) (Rd.ofOwn O8))
  have H8 : Hid (Upd w4 w8 (fun _ => False) ∧ Below w.heap.size w w4) := Lib.hid ⟨H6.out.2.1.trans U68 (fun _ _ h => h), H6.out.2.2⟩
  clear O7 O8 U8 b8 U68 T7 Uw7 hg6 H6
  go_wp2_with fail
  refine HC4.out.mono ?_
  rintro e w9 hp
  obtain ⟨v3, rfl, ho3⟩ := both_res hp
  have U49 := H8.out.1.trans ho3.2.1 (fun _ _ h => h)
  have Uw9 := (Upd.ofBelow (F := fun _ => False) H8.out.2).trans U49 (fun _ _ h => h)
  have HC5 := Lib.hid (rboth_any _ _ a b w9 (HR.out.2.1.keep Uw9 (fun _ _ h => h)) (HR.out.2.2.keep Uw9 (fun _ _ h => h)))
  have H9 := Lib.hid (And.intro ho3 U49)
  clear hp HC4 ho3 U49 Uw9
  obtain ⟨K, hK⟩ : ∃ K, K = blist a b := ⟨_, rfl⟩
  obtain ⟨dc, hdc⟩ : ∃ dc, dc = bcode a b := ⟨_, rfl⟩
  have HK : Hid (K.length ≤ 8192) := Lib.hid (by rw [hK]; exact blist_len a b)
  rw [← hK] at H9
  rw [← hdc]
  go_wp2_with fail
  refine HC5.out.mono ?_
  rintro e w10 hp
  obtain ⟨v4, rfl, ho4⟩ := both_res hp
  rw [← hK] at ho4
  rw [← hdc]
  obtain ⟨a3, c3, rfl, _⟩ := H9.out.1.rd.form
  obtain ⟨a4, c4, rfl, _⟩ := ho4.rd.form
  have hL8 : L.length ≤ 8192 := by rw [HL.out.1]; exact mlist_len ls
  have hK8 := HK.out
  have U410 := H9.out.2.trans ho4.2.1 (fun _ _ h => h)
  have H10 : Hid (OwnNew w2 w10 (.slice a1 L.length c1) L ∧ RdL w2 (.slice ai ls.length ci) ls ∧ Below w2.heap.size w2 w10 ∧ Below w.heap.size w w2) := Lib.hid ⟨(HO1.out.2.grow HO2.out.2.1).grow U410, HRI.out, ((HO1.out.2.2.1.trans HO2.out.2.1 (fun _ _ h => h)).trans U410 (fun _ _ h => h)).below (Nat.le_refl _) (fun _ _ h => h), HB2.out⟩
  have HI1 := Lib.hid (items_any _ _ L L w10 H10.out.1.rd (HO2.out.grow U410).rd (by omega) (by omega))
  have HR10 : Hid (Rd w10 (.slice a3 K.length c3) K.length 2 (cells K) ∧ Rd w10 (.slice a4 K.length c4) K.length 2 (cells K)) := Lib.hid ⟨(H9.out.1.grow ho4.2.1).rd, ho4.rd⟩
  have e1 : (cc != cc) = false := by simp
  have e2 : (dc != dc) = false := by simp
  clear hp HC5 ho4 U410 H9 H8 HO1 HO2 HRI HB2 HK hK hdc
  go_wp2_with fail
  refine HI1.out.mono ?_
  rintro e w11 ⟨he, hb11⟩
  obtain rfl : e = .returned (.bool true) := by rw [he]; simp
  have HI2 := Lib.hid (items_any _ _ K K w11 (HR10.out.1.keep (Upd.ofBelow (F := fun _ => False) hb11) (fun _ _ h => h)) (HR10.out.2.keep (Upd.ofBelow (F := fun _ => False) hb11) (fun _ _ h => h)) (by omega) (by omega))
  have HB11 := Lib.hid hb11
  clear he hb11 HI1
  go_wp2_with fail
  refine HI2.out.mono ?_
  rintro e w12 ⟨he, hb12⟩
  obtain rfl : e = .returned (.bool true) := by rw [he]; simp
  have H12 : Hid (OwnNew w2 w12 (.slice a1 L.length c1) L ∧ RdL w2 (.slice ai ls.length ci) ls ∧ Below w2.heap.size w2 w12 ∧ Below w.heap.size w w2) := by
    have hb := below_trans HB11.out hb12
    exact Lib.hid ⟨H10.out.1.grow (Upd.ofBelow hb), H10.out.2.1, below_trans H10.out.2.2.1 hb, H10.out.2.2.2⟩
  clear he hb12 HI2 HB11 H10 HR10
  go_wp2_with fail
  go_loopg [16] L.length (fun kq v16 w' => ∃ i : Nat, v16 = .int .i64 i ∧ Hid (kq = L.length - i ∧ i ≤ L.length) ∧ Hid (Lo w w2 L.length a1 ai ci ls w'))
  case atStart => exact ⟨0, rfl, Lib.hid ⟨rfl, Nat.zero_le _⟩, Lib.hid (lo_start H12.out.1 H12.out.2.1 H12.out.2.2.1 H12.out.2.2.2)⟩
  case round =>
    clear H12
    obtain ⟨i, rfl, HI, HM⟩ := hrel
    have hi0 : (0 : Int) ≤ (i : Int) := by omega
    by_cases hi : i < L.length
    · obtain ⟨g, us, rfl, hg, hB, hus⟩ : ∃ g us, a1 = some ⟨g, 0, none⟩ ∧ w2.heap.size ≤ g ∧ Blk wr g us 36 ∧ L.length * 2 ≤ us.length := by
        rcases HM.out.row with h | h
        · omega
        · exact h
      have hi1 : (i : Int) < (L.length : Int) := by omega
      have hi2 : decide ((i : Int) < (L.length : Int)) = true := decide_eq_true hi1
      have z0 : wr.cell? ⟨g, i * 2, none⟩ = some (us[i * 2]'(by omega)) := (hB.cell _).trans (List.getElem?_eq_getElem _)
      have f0 : wr.frozen? ⟨g, i * 2, none⟩ = false := hB.free _
      have hB2 := hB.set (i * 2) (.int .i64 (-1))
      have z1 : (wr.setCell ⟨g, i * 2, none⟩ (.int .i64 (-1))).cell? ⟨g, i * 2 + 1, none⟩ = some (us[i * 2 + 1]'(by omega)) := (hB2.cell _).trans (by rw [List.getElem?_set_ne (by omega)]; exact List.getElem?_eq_getElem _)
      have f1 : (wr.setCell ⟨g, i * 2, none⟩ (.int .i64 (-1))).frozen? ⟨g, i * 2 + 1, none⟩ = false := hB2.free _
      have HM2 : Hid (Lo w w2 L.length (some ⟨g, 0, none⟩) ai ci ls ((wr.setCell ⟨g, i * 2, none⟩ (.int .i64 (-1))).setCell ⟨g, i * 2 + 1, none⟩ (.int .i64 (-1)))) := Lib.hid (by
        refine ⟨Or.inr ⟨g, _, rfl, hg, hB2.set (i * 2 + 1) (.int .i64 (-1)), by simpa using hus⟩, ?_, HM.out.low⟩
        exact (HM.out.below.setCell (p := ⟨g, i * 2, none⟩) hg _).setCell (p := ⟨g, i * 2 + 1, none⟩) hg _)
      clear hB hB2 HM
      go_wp2
      go_roundg (L.length - (i + 1))
      case rel => exact ⟨i + 1, by go_num, Lib.hid ⟨rfl, by omega⟩, HM2⟩
      case measure => have := HI.out; omega
    · obtain rfl : i = L.length := by have := HI.out; omega
      have hi1 : ¬ (L.length : Int) < (L.length : Int) := by omega
      have hi2 : decide ((L.length : Int) < (L.length : Int)) = false := decide_eq_false hi1
      have HM0 : Hid (RdL w2 (.slice ai ls.length ci) ls ∧ Below w2.heap.size w2 wr ∧ Below w.heap.size w w2) := Lib.hid ⟨HM.out.low.1, HM.out.below, HM.out.low.2⟩
      clear HM HI
      go_wp2_with fail
      go_loopg [17] ls.length (fun kq v17 w' => ∃ i : Nat, v17 = .int .i64 i ∧ Hid (kq = ls.length - i ∧ i ≤ ls.length) ∧ Hid (RdL w2 (.slice ai ls.length ci) ls ∧ Below w2.heap.size w2 w' ∧ Below w.heap.size w w2))
      case atStart => exact ⟨0, rfl, Lib.hid ⟨rfl, Nat.zero_le _⟩, HM0⟩
      case round =>
        clear HM0
        obtain ⟨i, rfl, HI, HM⟩ := hrel
        have hi0 : (0 : Int) ≤ (i : Int) := by omega
        have hbw : Below w.heap.size w wr := HM.out.2.2.trans (HM.out.2.1.mono HM.out.2.2.size)
        by_cases hi : i < ls.length
        · obtain ⟨l, hll⟩ : ∃ l, ls[i]? = some l := ⟨ls[i], List.getElem?_eq_getElem hi⟩
          obtain ⟨g, off, c', a5, c5, e1, hc1, hrd1⟩ := rdl_at (HM.out.1.below HM.out.2.1) hll
          cases e1
          obtain ⟨g6, off6, c', a6, c6, e1, hc2, hrd2⟩ := rdl_at (HR.out.1.below hbw) hll
          cases e1
          have hi1 : (i : Int) < (ls.length : Int) := by omega
          have hi2 : decide ((i : Int) < (ls.length : Int)) = true := decide_eq_true hi1
          have hlen := HLE.out l (List.mem_of_getElem? hll)
          have HC := Lib.hid (items_any _ _ l l wr.drew (hrd1.keep ((Upd.refl wr (fun _ => False)).drew) (fun _ _ h => h)) (hrd2.keep ((Upd.refl wr (fun _ => False)).drew) (fun _ _ h => h)) (by omega) (by omega))
          have keep : Hid (∀ W', Below wr.drew.heap.size wr.drew W' → W'.cell? ⟨g, off + i, none⟩ = some (.slice a5 l.length c5) ∧ W'.cell? ⟨g6, off6 + i, none⟩ = some (.slice a6 l.length c6)) := Lib.hid (fun W' hb => ⟨(hb.cell (World.block_lt_of_cell? wr _ hc1)).trans hc1, (hb.cell (World.block_lt_of_cell? wr _ hc2)).trans hc2⟩)
          clear hrd1 hrd2 hll hbw
          go_wp2_with fail
          apply wp_reg (fun w' : World => w'.cell? ⟨g, off + i, none⟩ = some (.slice a5 l.length c5) ∧ w'.cell? ⟨g6, off6 + i, none⟩ = some (.slice a6 l.length c6)) [0, 1, 2, 3, 4, 5, 6, 7] [8, 9] [] (by kernel_rfl) (by kernel_rfl) (fun _ _ d _ _ h => by cases d <;> exact h) ⟨hc1, hc2⟩
          · iterate 8 (apply reads_consL rfl rfl; (· intro w0 hS; obtain ⟨hS1, hS2⟩ := hS; go_simp; try rfl); simp only [Act.put, List.setIfInBounds_toArray, List.set_cons_zero, List.set_cons_succ])
            exact rfl
          refine tail_consL rfl ?_
          go_wp2_with fail
          refine HC.out.mono ?_
          rintro e w4' ⟨he, hb4⟩
          obtain rfl : e = .returned (.bool true) := by rw [he]; simp
          have hS4 := keep.out w4' hb4
          have HM2 : Hid (RdL w2 (.slice (some ⟨g, off, none⟩) ls.length ci) ls ∧ Below w2.heap.size w2 w4' ∧ Below w.heap.size w w2) := Lib.hid ⟨HM.out.1, below_trans HM.out.2.1.drew hb4, HM.out.2.2⟩
          clear he hb4 HC keep hc1 hc2 HM
          go_wp2_with fail
          refine ⟨hS4, tail_consL rfl ?_⟩
          go_wp2_with fail
          refine ⟨hS4, tail_zero ?_⟩
          go_wp2
          go_roundg (ls.length - (i + 1))
          case rel => exact ⟨i + 1, by go_num, Lib.hid ⟨rfl, by omega⟩, HM2⟩
          case measure => have := HI.out; omega
        · have hi1 : ¬ (i : Int) < (ls.length : Int) := by omega
          have hi2 : decide ((i : Int) < (ls.length : Int)) = false := decide_eq_false hi1
          have HM1 := Lib.hid (mergeN_none wr)
          have HM2 := Lib.hid (bothN_none wr)
          have HBW := Lib.hid hbw
          clear HM hbw HR
          go_wp2_with fail
          refine HM1.out.mono ?_
          rintro e w4' ⟨rfl, rfl⟩
          go_wp2_with fail
          refine HM2.out.mono ?_
          rintro e w4' ⟨rfl, rfl⟩
          clear HM1 HM2
          obtain ⟨q3, hq3⟩ : ∃ q3, q3 = w4'.heap.size + 1 + 1 := ⟨_, rfl⟩
          obtain ⟨q2, hq2⟩ : ∃ q2, q2 = w4'.heap.size + 1 := ⟨_, rfl⟩
          obtain ⟨q1, hq1⟩ : ∃ q1, q1 = w4'.heap.size := ⟨_, rfl⟩
          go_wp2_with fail
          rw [← hq3, ← hq2, ← hq1]
          generalize hW : World.alloc _ _ = W8
          have U8 : Upd w4' W8 (fun _ => False) := by rw [← hW]; exact (((Upd.refl w4' _).alloc _).alloc _).alloc _
          have hr8 : RdL W8 (.slice (some ⟨q3, 0, none⟩) 2 2) [[⟨2, 0⟩], [⟨1, 0⟩]] := by
            have X1 : Blk W8 q1 (icells ⟨2, 0⟩) 36 := by rw [← hW, hq1]; exact ((Blk.new w4' (icells ⟨2, 0⟩) _).alloc _).alloc _
            have X2 : Blk W8 q2 (icells ⟨1, 0⟩) 36 := by
              rw [← hW]
              exact Blk.alloc (Blk.new' (vs := icells ⟨1, 0⟩) (by rw [hq2]; simp)) _
            have X3 : Blk W8 q3 [.slice (some ⟨q1, 0, none⟩) 1 1, .slice (some ⟨q2, 0, none⟩) 1 1] 30 := by
              rw [← hW]
              exact Blk.new' (by rw [hq3]; simp)
            refine ⟨_, Rd.ofBlk X3 2 1 rfl, fun i l hl => ?_⟩
            match i with
            | 0 => simp at hl; subst hl; exact ⟨_, rfl, Rd.ofBlk X1 1 2 rfl⟩
            | 1 => simp at hl; subst hl; exact ⟨_, rfl, Rd.ofBlk X2 1 2 rfl⟩
            | i + 2 => simp at hl
          have HC := Lib.hid (merge_any _ _ W8 hr8 (by simp) (fun l hl => by simp at hl; rcases hl with rfl | rfl <;> simp))
          have HB8 := Lib.hid (HBW.out.trans (U8.below HBW.out.size (fun _ _ h => h)))
          clear hW U8 hr8 HBW
          refine HC.out.mono ?_
          rintro e w5 hp
          obtain ⟨v5, rfl, ho5⟩ := merge_res hp
          rw [mcode_pair]
          rw [mlist_pair] at ho5
          obtain ⟨gz, oz, cz, e5, _, z0, z1⟩ := it_at (i := 0) (x := ⟨1, 0⟩) ho5.rd rfl
          subst e5
          have HF : Hid (TruePost w (.returned (.bool true)) w5) := Lib.hid ⟨rfl, HB8.out.trans (ho5.2.1.below HB8.out.size (fun _ _ h => h))⟩
          clear hp HC ho5 z1
          have z0' : w5.cell? ⟨gz, oz, none⟩ = some (.int .i64 1) := by
            rw [Nat.zero_mul, Nat.add_zero] at z0
            exact z0
          dsimp only [List.length_cons, List.length_nil]
          go_wp2
          go_ret
          exact HF.out

end OrdI
end Go.Proofs.Ytnhgeoccknhiiaa
