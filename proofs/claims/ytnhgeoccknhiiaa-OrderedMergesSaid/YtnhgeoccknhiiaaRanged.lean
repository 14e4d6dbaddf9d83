/- What is ranged over, up to so many. -/
import Derived.Test.YtnhgeoccknhiiaaTurned
import Derived.Sort.CutIn
namespace Go.Proofs.Ytnhgeoccknhiiaa
open Go.RowKit Go.Shelf
namespace OrdI

theorem someL_all {L : List It} {stop : Int} (h : ∀ j : Nat, 1 ≤ j → j ≤ L.length → (j : Int) ≠ stop) : someL L stop = L := by
  unfold someL
  rw [if_neg]
  rintro ⟨h1, h2⟩
  exact h stop.toNat (by omega) (by omega) (by omega)
theorem someL_stop {L pre : List It} {stop : Int} (hp : pre <+: L) (h : (pre.length : Int) = stop) (h0 : 0 < pre.length) : someL L stop = pre := by
  have he : pre = L.take pre.length := List.prefix_iff_eq_take.1 hp
  have hle := hp.length_le
  unfold someL
  by_cases h2 : stop < (L.length : Int)
  · rw [if_pos ⟨by omega, h2⟩, show stop.toNat = pre.length by omega]
    exact he.symm
  · rw [if_neg (fun h => h2 h.2)]
    have : pre.length = L.length := by omega
    rw [he, this, List.take_length]

/-- Between two rounds. -/
structure Rg (w : World) (lv sb g0 : Nat) (stop : Int) (n : Nat) (pre : List It) (W : World) : Prop where
  row : ∃ v, Blk W lv [v] 30 ∧ W.ownsRow 0 36 2 v pre.length (cells pre) ∧ ∀ g, v.ownBlock = some g → g = g0 ∨ n ≤ g
  box : Blk W sb [.int .i64 stop] 3
  below : Below w.heap.size w W
  none_ : ∀ j : Nat, 1 ≤ j → j ≤ pre.length → (j : Int) ≠ stop
  size : n ≤ W.heap.size
/-- Left by its break. -/
structure Rx (w : World) (lv : Nat) (stop : Int) (pre : List It) (W : World) : Prop where
  row : ∃ v, Blk W lv [v] 30 ∧ W.ownsRow 0 36 2 v pre.length (cells pre) ∧ ∀ g, v.ownBlock = some g → w.heap.size ≤ g
  below : Below w.heap.size w W
  here : (pre.length : Int) = stop ∧ 0 < pre.length

theorem own_turn {W W' : World} {v : Value} {n : Nat} {xs : List Value} (h : W.ownsRow 0 36 2 v n xs) (U : Upd W W' (fun b => ∃ o : Obj, W.heap[b]? = some o ∧ o.isCells = false)) : W'.ownsRow 0 36 2 v n xs :=
  own_keep h U (fun g hg hm => by
    obtain ⟨vs, hv⟩ := own_ty h hg
    exact blk_cells hv hm)
theorem below_turn {w W W' : World} {B : Nat} {row : Option Nat} (h : Below w.heap.size w W) (hg : W.grownBy W' row) (hr : ∀ r, row = some r → B ≤ r ∧ ∃ o : Obj, W.heap[r]? = some o ∧ o.isCells = false) (hB : w.heap.size ≤ B) : Below w.heap.size w W' :=
  h.grown hg h.size (fun k e => Nat.le_trans hB (hr k e).1)
theorem rg_own {w : World} {lv sb g0 B : Nat} {stop : Int} {n : Nat} (hB : w.heap.size ≤ B) : OwnFrom B (Rg w lv sb g0 stop n) := by
  intro pre W W' row h hg hr
  have U := upd_turn hg (fun r e => (hr r e).2)
  obtain ⟨v, h1, h2, h3⟩ := h.row
  exact ⟨⟨v, U.blk h1 (blk_cells h1), own_turn h2 U, h3⟩, U.blk h.box (blk_cells h.box), below_turn h.below hg hr hB, h.none_, Nat.le_trans h.size hg.size⟩
theorem rx_own {w : World} {lv B : Nat} {stop : Int} (hB : w.heap.size ≤ B) (c : Code) : OwnFrom B (fun pre W => c = .exit 0 ∧ Rx w lv stop pre W) := by
  intro pre W W' row h hg hr
  have U := upd_turn hg (fun r e => (hr r e).2)
  obtain ⟨v, h1, h2, h3⟩ := h.2.row
  exact ⟨h.1, ⟨v, U.blk h1 (blk_cells h1), own_turn h2 U, h3⟩, below_turn h.2.below hg hr hB, h.2.here⟩

/-- One round: the item is appended. -/
theorem rg_step {w W' W8 W9 : World} {lv sb g0 n : Nat} {stop : Int} {pre : List It} {y : It} {v v2 : Value} (hI : Rg w lv sb g0 stop n pre W') (q1 : Blk W' lv [v] 30) (q2 : W'.ownsRow 0 36 2 v pre.length (cells pre)) (q3 : ∀ g, v.ownBlock = some g → g = g0 ∨ n ≤ g)
    (T1 : Upd W' W8 (fun _ => False)) (hA : AppPost W8 36 2 v pre.length (cells pre) 1 (icells y) v2 W9) (hlow : w.heap.size ≤ lv ∧ w.heap.size ≤ g0 ∧ w.heap.size ≤ n) :
    Blk W9 lv [v] 30 ∧ Blk W9 sb [.int .i64 stop] 3 ∧ ∀ W5, Upd (W9.setCell ⟨lv, 0, none⟩ v2) W5 (fun _ => False) → Upd W' W5 (Mine (fun b => b = lv ∨ b = g0) n) ∧ Blk W5 sb [.int .i64 stop] 3 ∧ Below w.heap.size w W5 ∧ n ≤ W5.heap.size ∧
      Blk W5 lv [v2] 30 ∧ W5.ownsRow 0 36 2 v2 (pre ++ [y]).length (cells (pre ++ [y])) ∧ ∀ g, v2.ownBlock = some g → g = g0 ∨ n ≤ g := by
  obtain ⟨O9, U9, b9⟩ := hA
  have hrow : ∀ g, v.ownBlock = some g → g ≠ lv ∧ g ≠ sb := fun g hg => by
    obtain ⟨vs, hv⟩ := own_ty q2 hg
    exact ⟨hv.ty q1 (by decide), hv.ty hI.box (by decide)⟩
  have L9 : Blk W9 lv [v] 30 := U9.blk (T1.blk q1 (fun h => h)) (fun hm => (hrow lv hm).1 rfl)
  have B9 : Blk W9 sb [.int .i64 stop] 3 := U9.blk (T1.blk hI.box (fun h => h)) (fun hm => (hrow sb hm).2 rfl)
  refine ⟨L9, B9, fun W5 U5 => ?_⟩
  have Us : Upd W9 (W9.setCell ⟨lv, 0, none⟩ v2) (· = lv) := (Upd.refl W9 _).set _ _ (fun _ => rfl)
  have U95 : Upd W9 W5 (· = lv) := Us.trans U5 (fun _ _ h => h.elim)
  have UW : Upd W' W5 (Mine (fun b => b = lv ∨ b = g0) n) := by
    have h1 : Upd W' W9 (fun b => v.ownBlock = some b) := (T1.mono (fun _ _ h => h.elim)).trans U9 (fun _ _ h => h)
    refine Upd.trans (h1.mono (fun i _ h => ?_)) U95 (fun i _ h => Or.inl (Or.inl h))
    rcases q3 i h with e | e
    · exact Or.inl (Or.inr e)
    · exact Or.inr e
  have hlvsb : lv ≠ sb := q1.ty hI.box (by decide)
  have hv2 : ∀ g, v2.ownBlock = some g → g = g0 ∨ n ≤ g := by
    intro g hg
    rcases b9 with e | e
    · exact q3 g (e ▸ hg)
    · have := ob_some (e.symm.trans hg)
      have := T1.size
      have := hI.size
      omega
  have e : cells (pre ++ [y]) = cells pre ++ icells y := by rw [cells_append, cells_cons, cells_nil, List.append_nil]
  refine ⟨UW, U95.blk B9 hlvsb.symm, ?_, Nat.le_trans hI.size UW.size, U5.blk (L9.set 0 v2) (fun h => h), ?_, hv2⟩
  · refine hI.below.trans (UW.below hI.below.size (fun i hi hm => ?_))
    rcases hm with (hm | hm) | hm <;> omega
  · rw [e, List.length_append]
    refine own_keep O9 U95 (fun g hg hm => ?_)
    obtain ⟨vs, hv⟩ := own_ty O9 hg
    exact hv.ty L9 (by decide) hm

def RangedPost (w : World) (L : List It) (x : It) (stop : Int) (back : Bool) (e : Ending) (w' : World) : Prop :=
  ∃ v' r, RankOf It.k L x.k r ∧ e = .returned v' ∧ OwnNew w w' v' (someL (if back then (L.take r).reverse else L.drop r) stop)

theorem own_out {w W : World} {D : Nat} {v : Value} {pre : List It} (h2 : W.ownsRow 0 36 2 v pre.length (cells pre)) (hg : ∀ g, v.ownBlock = some g → w.heap.size ≤ g) (hb : Below w.heap.size w W) (hD : w.heap.size ≤ D) (hK : W.heap[D]? = some (.deferred (some []))) : OwnNew w (W.putObj D (.deferred none)) v pre := by
  have hgr := grownBy_putObj' W D (.deferred none)
  have U := upd_turn hgr (fun r e => by cases e; exact ⟨_, hK, rfl⟩)
  exact ⟨own_turn h2 U, Upd.ofBelow (hb.grown hgr hb.size (fun k e => by cases e; exact hD)), hg⟩

section
attribute [local go_sem] Oper.semAt_some
set_option maxRecDepth 100000 in
set_option maxHeartbeats 2000000 in
theorem ranged_any (p : Nat) (L : List It) (x : It) (stop : Int) (back : Bool) (w : World) (h : OrdIs w p L) (hs : Sorted It.k L) (hl : L.length ≤ 8192) (r : Nat) (hr : RankOf It.k L x.k r) :
    Calls Try.prog 80 #[.pointer (some ⟨p, 0, none⟩), itv x, .int .i64 stop, .bool back] w (RangedPost w L x stop back) := by
  have HF := Lib.hid (from_any p x)
  have HB := Lib.hid (back_any p x)
  have qn : ∀ (w : World) (f : Fn) (a b : Array Value), (binOp .eql 148 (.func f a b) .nilFunc).run Try.prog w = .ok (.bool false) w := fun _ _ _ _ => by kernel_rfl
  obtain ⟨xb, hxb⟩ : ∃ xb, xb = w.heap.size := ⟨_, rfl⟩
  obtain ⟨sb, hsb⟩ : ∃ sb, sb = w.heap.size + 1 := ⟨_, rfl⟩
  obtain ⟨g0, hg0⟩ : ∃ g0, g0 = w.heap.size + 1 + 1 := ⟨_, rfl⟩
  obtain ⟨lv, hlv⟩ : ∃ lv, lv = w.heap.size + 1 + 1 + 1 := ⟨_, rfl⟩
  refine calls_of_marks Try.func80 rfl ?_
  simp only [Try.ntmps80, List.size_toArray, List.length_cons, List.length_nil, Nat.reduceAdd, Nat.reduceSub, Array.replicate_succ, Array.replicate_zero, List.push_toArray, List.append_toArray, List.nil_append, List.cons_append]
  obtain ⟨W4, hW4⟩ : ∃ W4, W4 = (((w.alloc (.cells #[.int .i64 x.k, .int .i64 x.m] 36)).alloc (.cells #[.int .i64 stop] 3)).alloc (.cells #[] 36)).alloc (.cells #[.slice (some ⟨g0, 0, none⟩) 0 0] 30) := ⟨_, rfl⟩
  have hs4 : W4.heap.size = lv + 1 := by rw [hW4, hlv]; simp
  have U4 : Upd w W4 (fun _ => False) := by rw [hW4]; exact ((((Upd.refl w _).alloc _).alloc _).alloc _).alloc _
  have X4 : Blk W4 xb (icells x) 36 := by rw [hW4, hxb]; exact (((Blk.new w (icells x) _).alloc _).alloc _).alloc _
  have S4 : Blk W4 sb [.int .i64 stop] 3 := by
    rw [hW4]
    have : Blk ((w.alloc (.cells #[.int .i64 x.k, .int .i64 x.m] 36)).alloc (.cells #[.int .i64 stop] 3)) sb [.int .i64 stop] 3 := Blk.new' (by rw [hsb]; simp)
    exact (this.alloc _).alloc _
  have O4 : W4.ownsRow 0 36 2 (.slice (some ⟨g0, 0, none⟩) 0 0) 0 [] := by
    rw [hW4]
    refine own_keep (own_lit_sz (W := (w.alloc (.cells #[.int .i64 x.k, .int .i64 x.m] 36)).alloc (.cells #[.int .i64 stop] 3)) (b := g0) (by rw [hg0]; simp)) ((Upd.refl _ (fun _ => False)).alloc _) (fun _ _ h => h)
  have L4 : Blk W4 lv [.slice (some ⟨g0, 0, none⟩) 0 0] 30 := by rw [hW4]; exact Blk.new' (by rw [hlv]; simp)
  have H4 := Lib.hid (And.intro U4 (And.intro X4 (And.intro S4 (And.intro O4 L4))))
  have HN := Lib.hid (And.intro hxb (And.intro hsb (And.intro hg0 (And.intro hlv hs4))))
  clear U4 X4 S4 O4 L4
  go_wp2_with fail
  rw [← hlv, ← hg0, ← hsb, ← hxb, ← hW4]
  clear hxb hsb hg0 hlv hW4 hs4
  refine (HF.out W4).mono ?_
  rintro e w5 ⟨rfl, hw5⟩
  obtain ⟨fb, hfb⟩ : ∃ fb, fb = W4.heap.size := ⟨_, rfl⟩
  have U5 : Upd W4 w5 (fun _ => False) := by rw [hw5]; exact ((Upd.refl W4 _).alloc _).alloc _
  have P5 : Blk w5 fb [.pointer (some ⟨p, 0, none⟩)] 99 := by rw [hw5, hfb]; exact (Blk.new W4 [.pointer (some ⟨p, 0, none⟩)] _).alloc _
  have Q5 : Blk w5 (fb + 1) (icells x) 36 := by rw [hw5]; exact Blk.new' (by rw [hfb]; simp)
  have H5 := Lib.hid (And.intro U5 (And.intro P5 (And.intro Q5 hfb)))
  rw [← hfb]
  clear U5 P5 Q5 hw5 hfb HF
  have hx0 : w5.cell? ⟨xb, 0, none⟩ = some (.int .i64 x.k) := (H5.out.1.blk H4.out.2.1 (fun h => h)).cell 0
  have hx1 : w5.cell? ⟨xb, 1, none⟩ = some (.int .i64 x.m) := (H5.out.1.blk H4.out.2.1 (fun h => h)).cell 1
  cases back
  · clear hx0 hx1 HB
    go_wp2_with fail
    have H7 : Hid (Upd W4 w5 (fun _ => False) ∧ Blk w5 fb [.pointer (some ⟨p, 0, none⟩)] 99 ∧ Blk w5 (fb + 1) (icells x) 36) := Lib.hid ⟨H5.out.1, H5.out.2.1, H5.out.2.2.1⟩
    have hsz4 := HN.out.2.2.2.2
    have hsz7 : W4.heap.size ≤ w5.heap.size := H7.out.1.size
    have U07 : Upd w w5 (fun _ => False) := H4.out.1.trans H7.out.1 (fun _ _ h => h)
    have hO7 : OrdIs w5 p L := h.below (U07.below (Nat.le_refl _) (fun _ _ h => h))
    have hF0lt : ∀ b, (fun b => b = lv ∨ b = g0) b → b < w5.heap.size := by
      rintro b (rfl | rfl)
      · omega
      · have := HN.out
        omega
    have hFrow : ∀ g vs, Blk w5 g vs 36 → (∃ v, w5.cell? ⟨p, 1, none⟩ = some v ∧ v.ownBlock = some g) → ¬ (fun b => b = lv ∨ b = g0) g := by
      rintro g vs hgb ⟨v, hv, hvg⟩ (rfl | rfl)
      · exact absurd rfl (hgb.ty (H7.out.1.blk H4.out.2.2.2.2 (fun h => h)) (by decide))
      · obtain ⟨v0, b1, b2⟩ := h
        have e1 : w5.cell? ⟨p, 1, none⟩ = some v0 := (U07.blk b1 (fun h => h)).cell 1
        have e2 : v = v0 := Option.some.inj (hv.symm.trans e1)
        subst e2
        have := own_lt b2 hvg
        have := HN.out
        omega
    have hgv := from_gives fb (fb + 1) p L x r hr hs hl w5 (H7.out.2.1.cell 0) H7.out.2.2 hO7 (fun b => b = lv ∨ b = g0) hFrow
    have hN : (L.drop r).length ≤ 8192 := by simp only [List.length_take, List.length_drop]; omega
    have H7' := Lib.hid U07
    have HR := Lib.hid hr
    clear hO7 hFrow U07
    refine range_lawA (gf := 92) (lb := #[.pointer (some ⟨fb, 0, none⟩), .pointer (some ⟨fb + 1, 0, none⟩)]) rfl (enters_of Try.func92 (by kernel_rfl) rfl) hgv hF0lt (Below.refl _ _) (fun _ => rfl)
      (Rg w lv sb g0 stop) (fun n c pre W => c = .exit 0 ∧ Rx w lv stop pre W) (fun n => rg_own (by have := H7'.out.size; omega)) (fun n c => rx_own (by have := H7'.out.size; omega) c) ?h0f icells 36 ?FAf ?assignf ?bodyf ?donef ?stopf
    case assignf =>
      intro l3 x3 W3 b3 hb K hK
      gi_wp2
      rw [← hb]
      exact hK
    case h0f =>
      intro W' hW' _
      have V : Upd w5 W' (fun _ => False) := Upd.ofBelow hW'
      have V4 := H7.out.1.trans V (fun _ _ h => h)
      exact ⟨⟨_, V4.blk H4.out.2.2.2.2 (fun h => h), own_keep H4.out.2.2.2.1 V4 (fun _ _ h => h), fun g hg => Or.inl (by have := ob_eq hg; omega)⟩, V4.blk H4.out.2.2.1 (fun h => h), (H7'.out.below (Nat.le_refl _) (fun _ _ h => h)).trans (hW'.mono H7'.out.size), fun j h1 h2 => by simp at h2; omega, Nat.le_refl _⟩
    case bodyf =>
      rintro l2 n pre y b W' hn hI hb hlt
      obtain ⟨v, q1, q2, q3⟩ := hI.row
      obtain ⟨a3, c3, rfl, _⟩ := (Rd.ofOwn q2).form
      have k0 : W'.cell? ⟨lv, 0, none⟩ = some (.slice a3 pre.length c3) := q1.cell 0
      have kf : W'.frozen? ⟨lv, 0, none⟩ = false := q1.free 0
      have c0 : W'.cell? ⟨b, 0, none⟩ = some (.int .i64 y.k) := hb.cell 0
      have c1 : W'.cell? ⟨b, 1, none⟩ = some (.int .i64 y.m) := hb.cell 1
      have HQ := Lib.hid (And.intro q1 (And.intro q2 (And.intro q3 hI)))
      have hpl : pre.length ≤ 8192 := by omega
      clear q1 q2 q3 hb hI
      gi_upto_region 9 with fail
      apply regionIn_text (by rintro ⟨a, w, h⟩; exact h) (by kernel_rfl)
      go_wp2_with (at_builtin; refine halt_mk ?_)
      refine halt_go ?_
      generalize hW : World.alloc _ _ = W8
      have T1 : Upd W' W8 (fun _ => False) := by rw [← hW]; exact (Upd.refl W' _).alloc _
      have X1 : Blk W8 W'.heap.size (icells y) 36 := by rw [← hW]; exact Blk.new' rfl
      clear hW
      refine wpl_app rfl rfl elem Try.underlying30 rfl (own_keep HQ.out.2.1 T1 (fun _ _ h => h)) rfl (Rd.ofBlk X1 1 2 rfl) (by simp [icells, Value.oneCell']) (by omega) ?_
      intro v2 W9 hA
      have hlow : w.heap.size ≤ lv ∧ w.heap.size ≤ g0 ∧ w.heap.size ≤ n := by
        have := HN.out
        have := H7'.out.size
        omega
      obtain ⟨L9, B9, hfin⟩ := rg_step HQ.out.2.2.2 HQ.out.1 HQ.out.2.1 HQ.out.2.2.1 T1 hA hlow
      obtain ⟨a4, c4, rfl, _⟩ := (Rd.ofOwn hA.1).form
      have k9 : W9.cell? ⟨lv, 0, none⟩ = some (.slice a3 pre.length c3) := L9.cell 0
      have f9 : W9.frozen? ⟨lv, 0, none⟩ = false := L9.free 0
      have hslv : sb ≠ lv := (B9.ty L9 (by decide))
      have hs9 : (W9.setCell ⟨lv, 0, none⟩ (.slice a4 (pre.length + 1) c4)).cell? ⟨sb, 0, none⟩ = some (.int .i64 stop) := (B9.far ⟨lv, 0, none⟩ (.slice a4 (pre.length + 1) c4) hslv).cell 0
      have hk9 : (W9.setCell ⟨lv, 0, none⟩ (.slice a4 (pre.length + 1) c4)).cell? ⟨lv, 0, none⟩ = some (.slice a4 (pre.length + 1) c4) := (L9.set 0 (.slice a4 (pre.length + 1) c4)).cell 0
      have FIN := Lib.hid hfin
      clear hA T1 X1 L9 B9 hlow hfin k0 kf c0 c1
      go_wp2_with fail
      by_cases hst : (pre.length : Int) + 1 = stop
      · have d1 : ((pre.length : Int) + 1 == stop) = true := by rw [beq_iff_eq]; exact hst
        have HST := Lib.hid hst
        gi_wp2
        obtain ⟨u1, u2, u3, u4, u5, u6, u7⟩ := FIN.out _ (Upd.refl _ _)
        have hnn := HN.out
        have hww := H7'.out.size
        refine ⟨u1.mono (fun i _ hm => ?_), rfl, ⟨⟨_, u5, u6, fun g hg => ?_⟩, u3, ?_⟩⟩
        · rcases hm with (hm | hm) | hm <;> omega
        · have := u7 g hg
          omega
        · have := HST.out
          rw [List.length_append, List.length_singleton]
          omega
      · have d1 : ((pre.length : Int) + 1 == stop) = false := by rw [beq_eq_false_iff_ne]; exact hst
        have HST := Lib.hid hst
        gi_wp2
        obtain ⟨u1, u2, u3, u4, u5, u6, u7⟩ := FIN.out _ (Upd.refl _ _)
        refine ⟨u1, ⟨⟨_, u5, u6, u7⟩, u2, u3, fun j h1 h2 => ?_, u4⟩⟩
        rw [List.length_append, List.length_singleton] at h2
        by_cases hj : j ≤ pre.length
        · exact HQ.out.2.2.2.none_ j h1 hj
        · have := HST.out
          omega
    case donef =>
      rintro D n xs W' hD hn hxs hI hK
      obtain ⟨v, q1, q2, q3⟩ := hI.row
      obtain ⟨a3, c3, rfl, _⟩ := (Rd.ofOwn q2).form
      have k0 : W'.cell? ⟨lv, 0, none⟩ = some (.slice a3 xs.length c3) := q1.cell 0
      have HQ := Lib.hid (And.intro q2 (And.intro q3 (And.intro hI hxs)))
      clear q1 q2 q3 hI hxs
      dsimp only
      go_wp2
      refine leave_mark hK ⟨_, results_tmp rfl _ _ _, _, r, HR.out, rfl, ?_⟩
      obtain ⟨q2, q3, hI, hxs⟩ := HQ.out
      show OwnNew w _ _ (someL (L.drop r) stop)
      have hnn := HN.out
      have hww := H7'.out.size
      rw [← hxs, someL_all hI.none_]
      exact own_out q2 (fun g hg => by have := q3 g hg; omega) hI.below (by omega) hK
    case stopf =>
      rintro D n c pre W' hD hn hpre ⟨rfl, hX⟩ hK
      obtain ⟨v, q1, q2, q3⟩ := hX.row
      obtain ⟨a3, c3, rfl, _⟩ := (Rd.ofOwn q2).form
      have k0 : W'.cell? ⟨lv, 0, none⟩ = some (.slice a3 pre.length c3) := q1.cell 0
      have HQ := Lib.hid (And.intro q2 (And.intro q3 (And.intro hX hpre)))
      clear q1 q2 q3 hX hpre
      dsimp only
      go_wp2
      refine leave_mark hK ⟨_, results_tmp rfl _ _ _, _, r, HR.out, rfl, ?_⟩
      obtain ⟨q2, q3, hX, hpre⟩ := HQ.out
      show OwnNew w _ _ (someL (L.drop r) stop)
      have hww := H7'.out.size
      rw [someL_stop hpre hX.here.1 hX.here.2]
      exact own_out q2 q3 hX.below (by omega) hK
  · go_wp2_with fail
    refine (HB.out w5).mono ?_
    rintro e w6 ⟨rfl, hw6⟩
    obtain ⟨bb, hbb⟩ : ∃ bb, bb = w5.heap.size := ⟨_, rfl⟩
    have U6 : Upd w5 w6 (fun _ => False) := by rw [hw6]; exact ((Upd.refl w5 _).alloc _).alloc _
    have P6 : Blk w6 bb [.pointer (some ⟨p, 0, none⟩)] 99 := by rw [hw6, hbb]; exact (Blk.new w5 [.pointer (some ⟨p, 0, none⟩)] _).alloc _
    have Q6 : Blk w6 (bb + 1) (icells x) 36 := by rw [hw6]; exact Blk.new' (by rw [hbb]; simp)
    have H7 : Hid (Upd W4 w6 (fun _ => False) ∧ Blk w6 bb [.pointer (some ⟨p, 0, none⟩)] 99 ∧ Blk w6 (bb + 1) (icells x) 36) := Lib.hid ⟨H5.out.1.trans U6 (fun _ _ h => h), P6, Q6⟩
    rw [← hbb]
    clear U6 P6 Q6 hw6 hbb HB hx0 hx1
    go_wp2_with fail
    have hsz4 := HN.out.2.2.2.2
    have hsz7 : W4.heap.size ≤ w6.heap.size := H7.out.1.size
    have U07 : Upd w w6 (fun _ => False) := H4.out.1.trans H7.out.1 (fun _ _ h => h)
    have hO7 : OrdIs w6 p L := h.below (U07.below (Nat.le_refl _) (fun _ _ h => h))
    have hF0lt : ∀ b, (fun b => b = lv ∨ b = g0) b → b < w6.heap.size := by
      rintro b (rfl | rfl)
      · omega
      · have := HN.out
        omega
    have hFrow : ∀ g vs, Blk w6 g vs 36 → (∃ v, w6.cell? ⟨p, 1, none⟩ = some v ∧ v.ownBlock = some g) → ¬ (fun b => b = lv ∨ b = g0) g := by
      rintro g vs hgb ⟨v, hv, hvg⟩ (rfl | rfl)
      · exact absurd rfl (hgb.ty (H7.out.1.blk H4.out.2.2.2.2 (fun h => h)) (by decide))
      · obtain ⟨v0, b1, b2⟩ := h
        have e1 : w6.cell? ⟨p, 1, none⟩ = some v0 := (U07.blk b1 (fun h => h)).cell 1
        have e2 : v = v0 := Option.some.inj (hv.symm.trans e1)
        subst e2
        have := own_lt b2 hvg
        have := HN.out
        omega
    have hgv := back_gives bb (bb + 1) p L x r hr hs hl w6 (H7.out.2.1.cell 0) H7.out.2.2 hO7 (fun b => b = lv ∨ b = g0) hF0lt hFrow
    have hN : (L.take r).length ≤ 8192 := by simp only [List.length_take, List.length_drop]; omega
    have H7' := Lib.hid U07
    have HR := Lib.hid hr
    clear hO7 hFrow U07
    refine range_lawA (gf := 93) (lb := #[.pointer (some ⟨bb, 0, none⟩), .pointer (some ⟨bb + 1, 0, none⟩)]) rfl (enters_of Try.func93 (by kernel_rfl) rfl) hgv hF0lt (Below.refl _ _) (fun _ => rfl)
      (Rg w lv sb g0 stop) (fun n c pre W => c = .exit 0 ∧ Rx w lv stop pre W) (fun n => rg_own (by have := H7'.out.size; omega)) (fun n c => rx_own (by have := H7'.out.size; omega) c) ?h0b icells 36 ?FAb ?assignb ?bodyb ?doneb ?stopb
    case assignb =>
      intro l3 x3 W3 b3 hb K hK
      gi_wp2
      rw [← hb]
      exact hK
    case h0b =>
      intro W' hW' _
      have V : Upd w6 W' (fun _ => False) := Upd.ofBelow hW'
      have V4 := H7.out.1.trans V (fun _ _ h => h)
      exact ⟨⟨_, V4.blk H4.out.2.2.2.2 (fun h => h), own_keep H4.out.2.2.2.1 V4 (fun _ _ h => h), fun g hg => Or.inl (by have := ob_eq hg; omega)⟩, V4.blk H4.out.2.2.1 (fun h => h), (H7'.out.below (Nat.le_refl _) (fun _ _ h => h)).trans (hW'.mono H7'.out.size), fun j h1 h2 => by simp at h2; omega, Nat.le_refl _⟩
    case bodyb =>
      rintro l2 n pre y b W' hn hI hb hlt
      obtain ⟨v, q1, q2, q3⟩ := hI.row
      obtain ⟨a3, c3, rfl, _⟩ := (Rd.ofOwn q2).form
      have k0 : W'.cell? ⟨lv, 0, none⟩ = some (.slice a3 pre.length c3) := q1.cell 0
      have kf : W'.frozen? ⟨lv, 0, none⟩ = false := q1.free 0
      have c0 : W'.cell? ⟨b, 0, none⟩ = some (.int .i64 y.k) := hb.cell 0
      have c1 : W'.cell? ⟨b, 1, none⟩ = some (.int .i64 y.m) := hb.cell 1
      have HQ := Lib.hid (And.intro q1 (And.intro q2 (And.intro q3 hI)))
      have hpl : pre.length ≤ 8192 := by omega
      clear q1 q2 q3 hb hI
      gi_upto_region 9 with fail
      apply regionIn_text (by rintro ⟨a, w, h⟩; exact h) (by kernel_rfl)
      go_wp2_with (at_builtin; refine halt_mk ?_)
      refine halt_go ?_
      generalize hW : World.alloc _ _ = W8
      have T1 : Upd W' W8 (fun _ => False) := by rw [← hW]; exact (Upd.refl W' _).alloc _
      have X1 : Blk W8 W'.heap.size (icells y) 36 := by rw [← hW]; exact Blk.new' rfl
      clear hW
      refine wpl_app rfl rfl elem Try.underlying30 rfl (own_keep HQ.out.2.1 T1 (fun _ _ h => h)) rfl (Rd.ofBlk X1 1 2 rfl) (by simp [icells, Value.oneCell']) (by omega) ?_
      intro v2 W9 hA
      have hlow : w.heap.size ≤ lv ∧ w.heap.size ≤ g0 ∧ w.heap.size ≤ n := by
        have := HN.out
        have := H7'.out.size
        omega
      obtain ⟨L9, B9, hfin⟩ := rg_step HQ.out.2.2.2 HQ.out.1 HQ.out.2.1 HQ.out.2.2.1 T1 hA hlow
      obtain ⟨a4, c4, rfl, _⟩ := (Rd.ofOwn hA.1).form
      have k9 : W9.cell? ⟨lv, 0, none⟩ = some (.slice a3 pre.length c3) := L9.cell 0
      have f9 : W9.frozen? ⟨lv, 0, none⟩ = false := L9.free 0
      have hslv : sb ≠ lv := (B9.ty L9 (by decide))
      have hs9 : (W9.setCell ⟨lv, 0, none⟩ (.slice a4 (pre.length + 1) c4)).cell? ⟨sb, 0, none⟩ = some (.int .i64 stop) := (B9.far ⟨lv, 0, none⟩ (.slice a4 (pre.length + 1) c4) hslv).cell 0
      have hk9 : (W9.setCell ⟨lv, 0, none⟩ (.slice a4 (pre.length + 1) c4)).cell? ⟨lv, 0, none⟩ = some (.slice a4 (pre.length + 1) c4) := (L9.set 0 (.slice a4 (pre.length + 1) c4)).cell 0
      have FIN := Lib.hid hfin
      clear hA T1 X1 L9 B9 hlow hfin k0 kf c0 c1
      go_wp2_with fail
      by_cases hst : (pre.length : Int) + 1 = stop
      · have d1 : ((pre.length : Int) + 1 == stop) = true := by rw [beq_iff_eq]; exact hst
        have HST := Lib.hid hst
        gi_wp2
        obtain ⟨u1, u2, u3, u4, u5, u6, u7⟩ := FIN.out _ (Upd.refl _ _)
        have hnn := HN.out
        have hww := H7'.out.size
        refine ⟨u1.mono (fun i _ hm => ?_), rfl, ⟨⟨_, u5, u6, fun g hg => ?_⟩, u3, ?_⟩⟩
        · rcases hm with (hm | hm) | hm <;> omega
        · have := u7 g hg
          omega
        · have := HST.out
          rw [List.length_append, List.length_singleton]
          omega
      · have d1 : ((pre.length : Int) + 1 == stop) = false := by rw [beq_eq_false_iff_ne]; exact hst
        have HST := Lib.hid hst
        gi_wp2
        obtain ⟨u1, u2, u3, u4, u5, u6, u7⟩ := FIN.out _ (Upd.refl _ _)
        refine ⟨u1, ⟨⟨_, u5, u6, u7⟩, u2, u3, fun j h1 h2 => ?_, u4⟩⟩
        rw [List.length_append, List.length_singleton] at h2
        by_cases hj : j ≤ pre.length
        · exact HQ.out.2.2.2.none_ j h1 hj
        · have := HST.out
          omega
    case doneb =>
      rintro D n xs W' hD hn hxs hI hK
      obtain ⟨v, q1, q2, q3⟩ := hI.row
      obtain ⟨a3, c3, rfl, _⟩ := (Rd.ofOwn q2).form
      have k0 : W'.cell? ⟨lv, 0, none⟩ = some (.slice a3 xs.length c3) := q1.cell 0
      have HQ := Lib.hid (And.intro q2 (And.intro q3 (And.intro hI hxs)))
      clear q1 q2 q3 hI hxs
      dsimp only
      go_wp2
      refine leave_mark hK ⟨_, results_tmp rfl _ _ _, _, r, HR.out, rfl, ?_⟩
      obtain ⟨q2, q3, hI, hxs⟩ := HQ.out
      show OwnNew w _ _ (someL ((L.take r).reverse) stop)
      have hnn := HN.out
      have hww := H7'.out.size
      rw [← hxs, someL_all hI.none_]
      exact own_out q2 (fun g hg => by have := q3 g hg; omega) hI.below (by omega) hK
    case stopb =>
      rintro D n c pre W' hD hn hpre ⟨rfl, hX⟩ hK
      obtain ⟨v, q1, q2, q3⟩ := hX.row
      obtain ⟨a3, c3, rfl, _⟩ := (Rd.ofOwn q2).form
      have k0 : W'.cell? ⟨lv, 0, none⟩ = some (.slice a3 pre.length c3) := q1.cell 0
      have HQ := Lib.hid (And.intro q2 (And.intro q3 (And.intro hX hpre)))
      clear q1 q2 q3 hX hpre
      dsimp only
      go_wp2
      refine leave_mark hK ⟨_, results_tmp rfl _ _ _, _, r, HR.out, rfl, ?_⟩
      obtain ⟨q2, q3, hX, hpre⟩ := HQ.out
      show OwnNew w _ _ (someL ((L.take r).reverse) stop)
      have hww := H7'.out.size
      rw [someL_stop hpre hX.here.1 hX.here.2]
      exact own_out q2 q3 hX.below (by omega) hK
end
end OrdI
end Go.Proofs.Ytnhgeoccknhiiaa
