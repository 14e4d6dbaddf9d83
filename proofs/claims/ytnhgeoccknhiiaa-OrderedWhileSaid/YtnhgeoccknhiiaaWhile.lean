/- OrderedWhile, walked. -/
import Derived.Test.YtnhgeoccknhiiaaWhileA
import Derived.Deep.Cut
namespace Go.Proofs.Ytnhgeoccknhiiaa
open Go.RowKit Go.Shelf
namespace OrdI

theorem HalfP.below {w w1 w2 : World} {p d : Nat} {L L' : List It} {x : It} {c : Int} (h : HalfP w p d L x w1 c L') (hp : p < w.heap.size) (hb : Below w1.heap.size w1 w2) : HalfP w p d L x w2 c L' := by
  obtain ⟨vo, o1, _⟩ := h.ord
  exact ⟨h.ord.below hb, h.ref.below hb, h.upd.trans (Upd.ofBelow (F := fun _ => False) hb) (fun _ _ h => h.elim), h.srt, h.big, h.row.trans (RowOK.upd (F := fun _ => False) (Upd.ofBelow hb) o1.lt (fun h => h)) h.upd.size, h.how⟩

/-- Ahead of the range. -/
structure Wp (w : World) (p d pv dv wb rv : Nat) (vw : Value) (W : World) : Prop where
  two : ∃ L, Two w.heap.size W p d L
  pvar : Blk W pv [.pointer (some ⟨p, 0, none⟩)] 99
  dvar : Blk W dv [.pointer (some ⟨d, 0, none⟩)] 29
  wbox : Blk W wb [vw] 98
  res : Blk W rv [.bool false] 4
  below : Below w.heap.size w W
section
variable {w W W' : World} {p d pv dv wb rv : Nat} {vw : Value}
theorem Wp.drew (h : Wp w p d pv dv wb rv vw W) : Wp w p d pv dv wb rv vw W.drew := by
  obtain ⟨L, hL⟩ := h.two
  exact ⟨⟨L, hL.below (((Upd.refl W (fun _ => False)).drew).below (Nat.le_refl _) (fun _ _ h => h))⟩, h.pvar, h.dvar, h.wbox, h.res, h.below.drew⟩
theorem Wp.notPD (h : Wp w p d pv dv wb rv vw W) {b : Nat} {vs : List Value} {t : TypeId} (hb : Blk W b vs t) (h1 : t ≠ 136) (h2 : t ≠ 32) : ¬ PD p d b := by
  obtain ⟨L', hT⟩ := h.two
  obtain ⟨v0, q1, _⟩ := hT.ord
  obtain ⟨v1, q2, _⟩ := hT.ref
  rintro (e | e)
  · exact hb.ty q1 h1 e
  · exact hb.ty q2 h2 e
theorem Wp.does (h : Wp w p d pv dv wb rv vw W) (hd : DoesPost w.heap.size p d W (.returned (.bool true)) W') : Wp w p d pv dv wb rv vw W' := by
  obtain ⟨L', _, hT, hU, hR⟩ := hd
  refine ⟨⟨L', hT⟩, hU.blk h.pvar (h.notPD h.pvar (by decide) (by decide)), hU.blk h.dvar (h.notPD h.dvar (by decide) (by decide)), hU.blk h.wbox (h.notPD h.wbox (by decide) (by decide)), hU.blk h.res (h.notPD h.res (by decide) (by decide)), h.below.trans (hU.below h.below.size (fun i hi e => ?_))⟩
  obtain ⟨L1, hT1⟩ := h.two
  have := hT1.low
  rcases e with e | e <;> omega
end

theorem rw_own {w : World} {P : Pl} {within : List AI} {vw : Value} {L0 : List It} {n B : Nat} (hB : w.heap.size ≤ B) : OwnFrom B (Rw w P within vw L0 n) := by
  intro pre W W' row h hg hr
  have U := upd_turn hg (fun r e => (hr r e).2)
  obtain ⟨L', hT⟩ := h.two
  obtain ⟨vo, o1, o2⟩ := hT.ord
  obtain ⟨vr, r1, r2⟩ := hT.ref
  obtain ⟨vwas, w1, w2, w3⟩ := h.was
  obtain ⟨vs, s1, s2, s3⟩ := h.seen
  obtain ⟨k, k1, k2⟩ := h.num
  exact ⟨⟨L', ⟨vo, U.blk o1 (blk_cells o1), own_turn o2 U⟩, ⟨vr, U.blk r1 (blk_cells r1), own_turn r2 U⟩, hT.srt, hT.big, hT.low.1, hT.low.2.1, Nat.le_trans hT.low.2.2 U.size⟩, U.blk h.pvar (blk_cells h.pvar), U.blk h.dvar (blk_cells h.dvar), U.blk h.wbox (blk_cells h.wbox), U.blk h.res (blk_cells h.res), ⟨vwas, U.blk w1 (blk_cells w1), own_turn w2 U, w3⟩,
    ⟨vs, U.blk s1 (blk_cells s1), own_turn s2 U, fun g hg => ⟨(s3 g hg).1, fun u hu => (s3 g hg).2.1 u (by rw [← U.cell (p := ⟨P.p, 1, none⟩) o1.lt (blk_cells o1)]; exact hu), fun u hu => (s3 g hg).2.2 u (by rw [← U.cell (p := ⟨P.d, 0, none⟩) r1.lt (blk_cells r1)]; exact hu)⟩⟩,
    ⟨k, U.blk k1 (blk_cells k1), k2⟩, below_turn h.below hg hr hB, Nat.le_trans h.size.1 U.size, h.size.2⟩

section
attribute [local go_sem] Oper.semAt_some
set_option maxRecDepth 100000 in
set_option maxHeartbeats 2000000 in
theorem while_calls (w : World) (va vw : Value) (l within : List AI) (h : AActs w va l) (hw : AActs w vw within) (hl : l.length * 32 ≤ 140737488351232) (hlw : within.length * 32 ≤ 140737488351232) :
    Calls Try.prog 11 #[va, vw] w (TruePost w) := by
  obtain ⟨a, c, rfl, hc⟩ := Rd.form h
  obtain ⟨aw, cw, rfl, hcw⟩ := Rd.form hw
  have HA := Lib.hid (And.intro h hw)
  have HAL := Lib.hid (all_any)
  clear h hw
  obtain ⟨wb, hwb⟩ : ∃ wb, wb = w.heap.size := ⟨_, rfl⟩
  obtain ⟨rv, hrv⟩ : ∃ rv, rv = w.heap.size + 1 := ⟨_, rfl⟩
  obtain ⟨W2, hW2⟩ : ∃ W2, W2 = (w.alloc (.cells #[.slice aw within.length cw] 98)).alloc (.cells #[.bool false] 4) := ⟨_, rfl⟩
  have U2 : Upd w W2 (fun _ => False) := by rw [hW2]; exact ((Upd.refl w _).alloc _).alloc _
  have B2 : Blk W2 wb [.slice aw within.length cw] 98 := by rw [hW2, hwb]; exact (Blk.new w [.slice aw within.length cw] _).alloc _
  have R2 : Blk W2 rv [.bool false] 4 := by rw [hW2]; exact Blk.new' (by rw [hrv]; simp)
  have H2 := Lib.hid (And.intro U2 (And.intro B2 R2))
  have HN := Lib.hid (new_any W2)
  clear U2 B2 R2
  refine calls_of_marks Try.func11 rfl ?_
  simp only [Try.ntmps11, List.size_toArray, List.length_cons, List.length_nil, Nat.reduceAdd, Nat.reduceSub, Array.replicate_succ, Array.replicate_zero, List.push_toArray, List.append_toArray, List.nil_append, List.cons_append]
  go_wp2_with fail
  rw [← hrv, ← hwb, ← hW2]
  refine HN.out.mono ?_
  rintro e w3 ⟨p, rfl, hp, hF, hb⟩
  obtain ⟨pv, hpv⟩ : ∃ pv, pv = w3.heap.size := ⟨_, rfl⟩
  obtain ⟨d, hd⟩ : ∃ d, d = w3.heap.size + 1 := ⟨_, rfl⟩
  obtain ⟨dv, hdv⟩ : ∃ dv, dv = w3.heap.size + 1 + 1 := ⟨_, rfl⟩
  obtain ⟨W6, hW6⟩ : ∃ W6, W6 = ((w3.alloc (.cells #[.pointer (some ⟨p, 0, none⟩)] 99)).alloc (.cells #[.slice none 0 0] 32)).alloc (.cells #[.pointer (some ⟨d, 0, none⟩)] 29) := ⟨_, rfl⟩
  have S6 : Hid (Wp w p d pv dv wb rv (.slice aw within.length cw) W6) := by
    have U3 : Upd W2 w3 (fun _ => False) := Upd.ofBelow hb
    have U6 : Upd w3 W6 (fun _ => False) := by rw [hW6]; exact (((Upd.refl w3 _).alloc _).alloc _).alloc _
    have U26 := U3.trans U6 (fun _ _ h => h)
    have hsz := H2.out.1.size
    have hsz3 := U3.size
    refine Lib.hid ⟨⟨[], ⟨hF.is.below (U6.below (Nat.le_refl _) (fun _ _ h => h)), ⟨.slice none 0 0, ?_, World.ownsRow_nil _ _ _ _⟩, ?_, Nat.zero_le _, by omega, by omega, Nat.le_trans hsz U26.size⟩⟩, ?_, ?_, U26.blk H2.out.2.1 (fun h => h), U26.blk H2.out.2.2 (fun h => h), (H2.out.1.trans U26 (fun _ _ h => h)).below (Nat.le_refl _) (fun _ _ h => h)⟩
    · rw [hW6]
      have : Blk ((w3.alloc (.cells #[.pointer (some ⟨p, 0, none⟩)] 99)).alloc (.cells #[.slice none 0 0] 32)) d [.slice none 0 0] 32 := Blk.new' (by rw [hd]; simp)
      exact this.alloc _
    · intro i j x y hx
      simp at hx
    · rw [hW6, hpv]
      exact ((Blk.new w3 [.pointer (some ⟨p, 0, none⟩)] _).alloc _).alloc _
    · rw [hW6]
      exact Blk.new' (by rw [hdv]; simp)
  have HRV : Hid (w.heap.size ≤ rv) := Lib.hid (by omega)
  clear hp hF hb HN H2 hW2 hwb hrv
  go_wp2_with fail
  rw [← hdv, ← hd, ← hW6, ← hpv]
  clear hpv hd hdv hW6
  go_loopg [8] l.length (fun kq v8 w' => ∃ i : Nat, v8 = .int .i64 i ∧ Hid (kq = l.length - i ∧ i ≤ l.length) ∧ Hid (Wp w p d pv dv wb rv (.slice aw within.length cw) w'))
  case atStart => exact ⟨0, rfl, Lib.hid ⟨rfl, Nat.zero_le _⟩, S6⟩
  case round =>
    clear S6
    obtain ⟨i, rfl, HI, HS⟩ := hrel
    have hi0 : (0 : Int) ≤ (i : Int) := by omega
    by_cases hi : i < l.length
    · obtain ⟨act, gb, off, c', hla, e1, k0, k1, k2, k3⟩ := act_at HA.out.1 HS.out.below hi
      cases e1
      have hi1 : (i : Int) < (l.length : Int) := by omega
      have hi2 : decide ((i : Int) < (l.length : Int)) = true := decide_eq_true hi1
      have q1 : wr.cell? ⟨pv, 0, none⟩ = some (.pointer (some ⟨p, 0, none⟩)) := HS.out.pvar.cell 0
      have q2 : wr.cell? ⟨dv, 0, none⟩ = some (.pointer (some ⟨d, 0, none⟩)) := HS.out.dvar.cell 0
      have HC : Hid (Calls Try.prog 49 #[.pointer (some ⟨p, 0, none⟩), .pointer (some ⟨d, 0, none⟩), .agg #[.int .i64 act.kind, .int .i64 act.stop, .int .i64 act.x.k, .int .i64 act.x.m]] wr.drew (DoesPost w.heap.size p d wr.drew)) := Lib.hid (by
        obtain ⟨L, hT⟩ := HS.out.drew.two
        exact does_any w.heap.size p d L act.kind act.stop act.x wr.drew hT)
      have hat : Hid ((∃ u, w.cell? ⟨gb, off + i * 4, none⟩ = some u) ∧ (∃ u, w.cell? ⟨gb, off + i * 4 + 1, none⟩ = some u) ∧ (∃ u, w.cell? ⟨gb, off + i * 4 + 2, none⟩ = some u) ∧ (∃ u, w.cell? ⟨gb, off + i * 4 + 3, none⟩ = some u)) := Lib.hid (by
        obtain ⟨act', gb', off', c'', hla', e1, k0, k1, k2, k3⟩ := act_at HA.out.1 (Below.refl _ w) hi
        cases e1
        exact ⟨⟨_, k0⟩, ⟨_, k1⟩, ⟨_, k2⟩, ⟨_, k3⟩⟩)
      clear hla
      go_wp2_with fail
      apply wp_reg (fun w' : World => w'.cell? ⟨pv, 0, none⟩ = some (.pointer (some ⟨p, 0, none⟩)) ∧ w'.cell? ⟨dv, 0, none⟩ = some (.pointer (some ⟨d, 0, none⟩)) ∧ w'.cell? ⟨gb, off + i * 4, none⟩ = some (.int .i64 act.kind) ∧ w'.cell? ⟨gb, off + i * 4 + 1, none⟩ = some (.int .i64 act.stop) ∧ w'.cell? ⟨gb, off + i * 4 + 2, none⟩ = some (.int .i64 act.x.k) ∧ w'.cell? ⟨gb, off + i * 4 + 3, none⟩ = some (.int .i64 act.x.m)) [0, 1, 2, 3, 4, 5] [6, 7] [] (by kernel_rfl) (by kernel_rfl) (fun _ _ d _ _ h => by cases d <;> exact h) ⟨q1, q2, k0, k1, k2, k3⟩
      · iterate 6 (apply reads_consL rfl rfl; (· intro w0 hS; obtain ⟨hS1, hS2, hS3, hS4, hS5, hS6⟩ := hS; go_simp; try rfl); simp only [Act.put, List.setIfInBounds_toArray, List.set_cons_zero, List.set_cons_succ])
        exact rfl
      refine tail_consL rfl ?_
      go_wp2_with fail
      refine HC.out.mono ?_
      rintro e w4 hd4
      obtain rfl : e = .returned (.bool true) := by obtain ⟨_, h, _⟩ := hd4; exact h
      have S4 : Hid (Wp w p d pv dv wb rv (.slice aw within.length cw) w4) := Lib.hid (HS.out.drew.does hd4)
      have ha : Hid (∀ (b o : Nat) (u : Value), (∃ u0, w.cell? ⟨b, o, none⟩ = some u0) → wr.cell? ⟨b, o, none⟩ = some u → w4.cell? ⟨b, o, none⟩ = some u) := Lib.hid (fun b o u ⟨u0, h0⟩ h1 => by
        have hlt := World.block_lt_of_cell? w _ h0
        rw [S4.out.below.cell hlt, ← HS.out.below.cell hlt]
        exact h1)
      have m1 : w4.cell? ⟨pv, 0, none⟩ = some (.pointer (some ⟨p, 0, none⟩)) := S4.out.pvar.cell 0
      have m2 : w4.cell? ⟨dv, 0, none⟩ = some (.pointer (some ⟨d, 0, none⟩)) := S4.out.dvar.cell 0
      have n0 := ha.out gb (off + i * 4) _ (hat.out.1) k0
      have n1 := ha.out gb (off + i * 4 + 1) _ (hat.out.2.1) k1
      have n2 := ha.out gb (off + i * 4 + 2) _ (hat.out.2.2.1) k2
      have n3 := ha.out gb (off + i * 4 + 3) _ (hat.out.2.2.2) k3
      clear hd4 HC q1 q2 k0 k1 k2 k3 HS ha
      go_wp2_with fail
      refine ⟨⟨m1, m2, n0, n1, n2, n3⟩, tail_consL rfl ?_⟩
      go_wp2_with fail
      refine ⟨⟨m1, m2, n0, n1, n2, n3⟩, tail_zero ?_⟩
      go_wp2
      go_roundg (l.length - (i + 1))
      case rel => exact ⟨i + 1, by go_num, Lib.hid ⟨rfl, by omega⟩, S4⟩
      case measure => have := HI.out; omega
    · have hi1 : ¬ (i : Int) < (l.length : Int) := by omega
      have hi2 : decide ((i : Int) < (l.length : Int)) = false := decide_eq_false hi1
      obtain ⟨L, hT⟩ := HS.out.two
      obtain ⟨vr, hr1, hr2⟩ := hT.ref
      have hRr := Rd.ofOwn hr2
      obtain ⟨ar, cr, rfl, hcr⟩ := hRr.form
      have q1 : wr.cell? ⟨pv, 0, none⟩ = some (.pointer (some ⟨p, 0, none⟩)) := HS.out.pvar.cell 0
      have q2 : wr.cell? ⟨dv, 0, none⟩ = some (.pointer (some ⟨d, 0, none⟩)) := HS.out.dvar.cell 0
      have q3 : wr.cell? ⟨d, 0, none⟩ = some (.slice ar L.length cr) := hr1.cell 0
      have HT := Lib.hid (And.intro hT (And.intro hr1 (And.intro hr2 hRr)))
      have hbig := hT.big
      have p2 : (wr.alloc (.cells #[] 36)).cell? ⟨dv, 0, none⟩ = some (.pointer (some ⟨d, 0, none⟩)) := (HS.out.dvar.alloc _).cell 0
      have p3 : (wr.alloc (.cells #[] 36)).cell? ⟨d, 0, none⟩ = some (.slice ar L.length cr) := (hr1.alloc _).cell 0
      obtain ⟨g1, hg1⟩ : ∃ g1, g1 = wr.heap.size := ⟨_, rfl⟩
      have Hg1 := Lib.hid hg1
      clear hT hr1 hr2 hRr hcr
      go_upto_region 10 with fail
      go_wp2_with (at_builtin; refine halt_mk ?_)
      refine halt_go ?_
      rw [← hg1]
      generalize hW : World.alloc _ _ = W8
      have T1 : Upd wr W8 (fun _ => False) := by rw [← hW]; exact (Upd.refl wr _).alloc _
      have O1 : W8.ownsRow 0 36 2 (.slice (some ⟨g1, 0, none⟩) 0 0) 0 [] := by rw [← hW]; exact own_lit_sz hg1
      clear hW hg1 p2 p3
      refine wpl_app rfl rfl elem Try.underlying30 rfl O1 rfl (HT.out.2.2.2.keep T1 (fun _ _ h => h)) (cells_one L) (by omega) ?_
      rintro v1 w9 ⟨O9, U9, b9⟩
      rw [Nat.zero_add, List.nil_append] at O9
      have V9 : Upd wr w9 (fun _ => False) := T1.trans U9 (fun i hi e => by have := ob_eq e; have := Hg1.out; omega)
      have q1' : w9.cell? ⟨pv, 0, none⟩ = some (.pointer (some ⟨p, 0, none⟩)) := (V9.blk HS.out.pvar (fun h => h)).cell 0
      obtain ⟨av, cv, rfl, _⟩ := (Rd.ofOwn O9).form
      obtain ⟨kv, hkv⟩ : ∃ kv, kv = w9.heap.size + 1 + 1 + 1 := ⟨_, rfl⟩
      obtain ⟨sv, hsv⟩ : ∃ sv, sv = w9.heap.size + 1 + 1 := ⟨_, rfl⟩
      obtain ⟨wv, hwv⟩ : ∃ wv, wv = w9.heap.size + 1 := ⟨_, rfl⟩
      obtain ⟨g2, hg2⟩ : ∃ g2, g2 = w9.heap.size := ⟨_, rfl⟩
      obtain ⟨W13, hW13⟩ : ∃ W13, W13 = (((w9.alloc (.cells #[] 36)).alloc (.cells #[.slice av L.length cv] 30)).alloc (.cells #[.slice (some ⟨w9.heap.size, 0, none⟩) 0 0] 30)).alloc (.cells #[.int .i64 0] 3) := ⟨_, rfl⟩
      have U13 : Upd w9 W13 (fun _ => False) := by rw [hW13]; exact ((((Upd.refl w9 _).alloc _).alloc _).alloc _).alloc _
      have q1' : ((((w9.alloc (.cells #[] 36)).alloc (.cells #[.slice av L.length cv] 30)).alloc (.cells #[.slice (some ⟨w9.heap.size, 0, none⟩) 0 0] 30)).alloc (.cells #[.int .i64 0] 3)).cell? ⟨pv, 0, none⟩ = some (.pointer (some ⟨p, 0, none⟩)) := by rw [← hW13]; exact (U13.blk (V9.blk HS.out.pvar (fun h => h)) (fun h => h)).cell 0
      have S13 : Hid (∀ W', Upd W13 W' (fun _ => False) → Rw w ⟨p, d, pv, dv, wb, rv, wv, sv, kv, g2⟩ within (.slice aw within.length cw) L W'.heap.size [] W' ∧ OrdIs W' p L ∧ (∀ g, (∃ v, W'.cell? ⟨p, 1, none⟩ = some v ∧ v.ownBlock = some g) → g < g2)) := by
        refine Lib.hid (fun W' U => ?_)
        have U9' := U13.trans U (fun _ _ h => h)
        have V := V9.trans U9' (fun _ _ h => h)
        have hsz13 : W13.heap.size = w9.heap.size + 1 + 1 + 1 + 1 := by rw [hW13]; simp
        have hszV := V9.size
        have hszU := U.size
        have hww := HS.out.below.size
        obtain ⟨vo, o1, o2⟩ := HT.out.1.ord
        obtain ⟨vr, r1, r2⟩ := HT.out.1.ref
        have eo : W'.cell? ⟨p, 1, none⟩ = some vo := (V.blk o1 (fun h => h)).cell 1
        have er : W'.cell? ⟨d, 0, none⟩ = some vr := (V.blk r1 (fun h => h)).cell 0
        have wv13 : Blk W13 wv [.slice av L.length cv] 30 := by
          rw [hW13]
          have : Blk ((w9.alloc (.cells #[] 36)).alloc (.cells #[.slice av L.length cv] 30)) wv [.slice av L.length cv] 30 := Blk.new' (by rw [hwv]; simp)
          exact (this.alloc _).alloc _
        have sv13 : Blk W13 sv [.slice (some ⟨g2, 0, none⟩) 0 0] 30 := by
          rw [hW13, hg2]
          have : Blk (((w9.alloc (.cells #[] 36)).alloc (.cells #[.slice av L.length cv] 30)).alloc (.cells #[.slice (some ⟨w9.heap.size, 0, none⟩) 0 0] 30)) sv [.slice (some ⟨w9.heap.size, 0, none⟩) 0 0] 30 := Blk.new' (by rw [hsv]; simp)
          exact this.alloc _
        have kv13 : Blk W13 kv [.int .i64 0] 3 := by rw [hW13]; exact Blk.new' (by rw [hkv]; simp)
        have g13 : W13.ownsRow 0 36 2 (.slice (some ⟨g2, 0, none⟩) 0 0) 0 [] := by
          rw [hW13]
          exact own_keep (own_lit_sz (W := w9) hg2) (((Upd.refl _ (fun _ => False)).alloc _).alloc _ |>.alloc _) (fun _ _ h => h)
        refine ⟨⟨⟨L, HT.out.1.below (V.below (Nat.le_refl _) (fun _ _ h => h))⟩, V.blk HS.out.pvar (fun h => h), V.blk HS.out.dvar (fun h => h), V.blk HS.out.wbox (fun h => h), V.blk HS.out.res (fun h => h),
          ⟨_, U.blk wv13 (fun h => h), own_keep O9 U9' (fun _ _ h => h), fun g hg => ?_⟩, ⟨_, U.blk sv13 (fun h => h), own_keep g13 U (fun _ _ h => h), fun g hg => ⟨Or.inl (ob_eq hg).symm, ?_, ?_⟩⟩, ⟨0, U.blk kv13 (fun h => h), Nat.zero_le _⟩, HS.out.below.trans (V.below hww (fun _ _ h => h)), Nat.le_refl _, ?_, ?_, ?_, ?_, ?_⟩, HT.out.1.ord.below (V.below (Nat.le_refl _) (fun _ _ h => h)), ?_⟩
        · have := own_lt O9 hg
          show g < g2
          omega
        · intro u hu e
          rw [eo] at hu
          cases hu
          have := own_lt o2 e
          have := ob_eq hg
          omega
        · intro u hu e
          rw [er] at hu
          cases hu
          have := own_lt r2 e
          have := ob_eq hg
          omega
        · show wv ≠ sv
          omega
        · show g2 < _
          omega
        · show _ ≤ kv
          omega
        · show _ ≤ sv
          omega
        · show _ ≤ g2
          omega
        · rintro g ⟨v, hv, hg⟩
          rw [eo] at hv
          cases hv
          have := own_lt o2 hg
          omega
      clear q1 q2 q3
      go_wp2_with fail
      rw [← hW13, ← hkv, ← hsv, ← hwv, ← hg2]
      have HK : Hid (W13.heap.size = kv + 1 ∧ sv < kv ∧ g2 < kv ∧ w.heap.size ≤ W13.heap.size) := Lib.hid (by
        have hsz13 : W13.heap.size = w9.heap.size + 1 + 1 + 1 + 1 := by rw [hW13]; simp
        have hszV := V9.size
        have hww := HS.out.below.size
        omega)
      clear hW13 hkv hsv hwv hg2 U13 q1' V9 O9 U9 b9 T1 O1
      refine (HAL.out p W13).mono ?_
      rintro e w14 ⟨rfl, hw14⟩
      obtain ⟨fb, hfb⟩ : ∃ fb, fb = W13.heap.size := ⟨_, rfl⟩
      have U14 : Upd W13 w14 (fun _ => False) := by rw [hw14]; exact (Upd.refl W13 _).alloc _
      have P14 : Blk w14 fb [.pointer (some ⟨p, 0, none⟩)] 99 := by rw [hw14, hfb]; exact Blk.new W13 [.pointer (some ⟨p, 0, none⟩)] _
      have hsz14 : w14.heap.size = kv + 2 := by rw [hw14, World.size_alloc]; have := HK.out; omega
      rw [← hfb]
      clear hw14 hfb HS HT
      obtain ⟨R14, hO14, hrow14⟩ := S13.out w14 U14
      obtain ⟨us, ws, ty1, ty2⟩ := R14.types
      obtain ⟨vseen, ty3, _⟩ := R14.seen
      obtain ⟨knum, ty4, _⟩ := R14.num
      have hF0lt : ∀ b, Pl.F0 ⟨p, d, pv, dv, wb, rv, wv, sv, kv, g2⟩ b → b < w14.heap.size := by
        have h1 := ty1.lt
        have h2 := ty2.lt
        have h3 := HK.out
        rintro b (e | e | e | e | e)
        · have e : b = sv := e
          omega
        · have e : b = g2 := e
          omega
        · have e : b = kv := e
          omega
        · have e : b = p := e
          omega
        · have e : b = d := e
          omega
      have hgv := all_gives fb p L hbig w14 (P14.cell 0) hO14 (Pl.F0 ⟨p, d, pv, dv, wb, rv, wv, sv, kv, g2⟩) (fun g vs hgb hr hm => by
        have := hrow14 g hr
        rcases hm with e | e | e | e | e
        · exact hgb.ty ty3 (by decide) e
        · have e : g = g2 := e
          omega
        · exact hgb.ty ty4 (by decide) e
        · exact hgb.ty ty1 (by decide) e
        · exact hgb.ty ty2 (by decide) e)
      have H14 := Lib.hid (And.intro U14 hsz14)
      clear R14 hO14 hrow14 ty1 ty2 ty3 ty4 U14 P14 hsz14
      go_wp2_with fail
      have hn0 : ∀ n, w14.heap.size + 2 ≤ n → w.heap.size ≤ n := fun n h => by
        have := H14.out.1.size
        have := HK.out
        omega
      refine range_lawA (gf := 84) (lb := #[.pointer (some ⟨fb, 0, none⟩)]) rfl (enters_of Try.func84 (by kernel_rfl) rfl) hgv hF0lt (Below.refl _ _) (fun _ => rfl)
        (Rw w ⟨p, d, pv, dv, wb, rv, wv, sv, kv, g2⟩ within (.slice aw within.length cw) L) (fun n c pre W => False) (fun n => rw_own (by have := H14.out.1.size; have := HK.out; omega)) (fun n c s A C row hs _ _ => hs) ?h0 (fun x => icells x.2) 36 ?FA ?assign ?body ?done ?stop
      case assign =>
        intro l3 x3 W3 b3 hb K hK
        gi_wp2
        rw [← hb]
        exact hK
      case h0 =>
        intro W' hW' _
        exact (S13.out W' (H14.out.1.trans (Upd.ofBelow (F := fun _ => False) hW') (fun _ _ h => h))).1
      case body =>
        rintro l2 n pre ⟨j, y⟩ b W' hn hI hb hlt
        obtain ⟨v, s1, s2, s3⟩ := hI.seen
        obtain ⟨a3, c3, rfl, _⟩ := (Rd.ofOwn s2).form
        have k0 : W'.cell? ⟨sv, 0, none⟩ = some (.slice a3 pre.length c3) := s1.cell 0
        have kf : W'.frozen? ⟨sv, 0, none⟩ = false := s1.free 0
        have c0 : W'.cell? ⟨b, 0, none⟩ = some (.int .i64 y.k) := hb.cell 0
        have c1 : W'.cell? ⟨b, 1, none⟩ = some (.int .i64 y.m) := hb.cell 1
        have HQ := Lib.hid (And.intro s1 (And.intro s2 (And.intro s3 hI)))
        have hpl : pre.length ≤ 8192 := by omega
        clear s1 s2 s3 hb hI
        gi_upto_region 13 with fail
        apply regionIn_text (by rintro ⟨a, w, h⟩; exact h) (by kernel_rfl)
        go_wp2_with (at_builtin; refine halt_mk ?_)
        refine halt_go ?_
        generalize hW : World.alloc _ _ = W8
        have T1 : Upd W' W8 (fun _ => False) := by rw [← hW]; exact (Upd.refl W' _).alloc _
        have X1 : Blk W8 W'.heap.size (icells y) 36 := by rw [← hW]; exact Blk.new' rfl
        clear hW
        refine wpl_app rfl rfl elem Try.underlying30 rfl (own_keep HQ.out.2.1 T1 (fun _ _ h => h)) rfl (Rd.ofBlk X1 1 2 rfl) (by simp [icells, Value.oneCell']) (by omega) ?_
        intro v2 W9 hA
        obtain ⟨L9, R9, U9⟩ := Rw.snoc (x := (j, y)) HQ.out.2.2.2 HQ.out.1 HQ.out.2.1 HQ.out.2.2.1 T1 hA
        obtain ⟨a4, c4, rfl, _⟩ := (Rd.ofOwn hA.1).form
        have k9 : W9.cell? ⟨sv, 0, none⟩ = some (.slice a3 pre.length c3) := L9.cell 0
        have f9 : W9.frozen? ⟨sv, 0, none⟩ = false := L9.free 0
        have H10 := Lib.hid (And.intro R9 U9)
        clear R9 U9 L9 hA T1 X1 k0 kf c0 c1
        dsimp only at H10
        go_wp2_with fail
        generalize World.setCell _ _ _ = W10 at H10 ⊢
        clear k9 f9
        obtain ⟨kk, n1, n2⟩ := H10.out.1.num
        have k10 : W10.cell? ⟨kv, 0, none⟩ = some (.int .i64 (kk : Int)) := n1.cell 0
        have kf10 : W10.frozen? ⟨kv, 0, none⟩ = false := n1.free 0
        have b10 : W10.cell? ⟨wb, 0, none⟩ = some (.slice aw within.length cw) := H10.out.1.wbox.cell 0
        have hk0 : (0 : Int) ≤ (kk : Int) := by omega
        by_cases hk : kk < within.length
        · have hk1 : (kk : Int) < (within.length : Int) := by omega
          have hk2 : decide ((kk : Int) < (within.length : Int)) = true := decide_eq_true hk1
          have hk3 : IntKind.i64.wrap ((kk : Int) + 1) = (kk : Int) + 1 := by rw [IntKind.wrap_i64]; omega
          obtain ⟨act, gw, offw, cw', hla, e1, a0, a1, a2, a3'⟩ := act_at HA.out.2 H10.out.1.below hk
          cases e1
          have q1 : W10.cell? ⟨pv, 0, none⟩ = some (.pointer (some ⟨p, 0, none⟩)) := H10.out.1.pvar.cell 0
          have q2 : W10.cell? ⟨dv, 0, none⟩ = some (.pointer (some ⟨d, 0, none⟩)) := H10.out.1.dvar.cell 0
          have HD10 : Hid (Rw w ⟨p, d, pv, dv, wb, rv, wv, sv, kv, g2⟩ within (.slice (some ⟨gw, offw, none⟩) within.length cw) L n (pre ++ [(j, y)]) W10.drew ∧ Upd W' W10.drew (Mine (Pl.F0 ⟨p, d, pv, dv, wb, rv, wv, sv, kv, g2⟩) n)) := Lib.hid ⟨H10.out.1.add (Upd.refl W10 (fun _ => False)).drew, H10.out.2.drew⟩
          clear n1
          by_cases hkd : act.kind ≤ 1
          · have hd1 : decide (act.kind ≤ 1) = true := decide_eq_true hkd
            have HC : Hid (Calls Try.prog 49 #[.pointer (some ⟨p, 0, none⟩), .pointer (some ⟨d, 0, none⟩), .agg #[.int .i64 act.kind, .int .i64 act.stop, .int .i64 act.x.k, .int .i64 act.x.m]] W10.drew (DoesPost w.heap.size p d W10.drew)) := Lib.hid (by
              obtain ⟨L1, hT1⟩ := HD10.out.1.two
              exact does_any w.heap.size p d L1 act.kind act.stop act.x W10.drew hT1)
            have hat : Hid ((∃ u, w.cell? ⟨gw, offw + kk * 4, none⟩ = some u) ∧ (∃ u, w.cell? ⟨gw, offw + kk * 4 + 1, none⟩ = some u) ∧ (∃ u, w.cell? ⟨gw, offw + kk * 4 + 2, none⟩ = some u) ∧ (∃ u, w.cell? ⟨gw, offw + kk * 4 + 3, none⟩ = some u)) := Lib.hid (by
              obtain ⟨act', gb', off', c'', hla', e1, k0, k1, k2, k3⟩ := act_at HA.out.2 (Below.refl _ w) hk
              cases e1
              exact ⟨⟨_, k0⟩, ⟨_, k1⟩, ⟨_, k2⟩, ⟨_, k3⟩⟩)
            gi_wp2_with fail
            apply wpIn_reg (fun w' : World => w'.cell? ⟨wb, 0, none⟩ = some (.slice (some ⟨gw, offw, none⟩) within.length cw) ∧ w'.cell? ⟨kv, 0, none⟩ = some (.int .i64 (kk : Int)) ∧ w'.cell? ⟨pv, 0, none⟩ = some (.pointer (some ⟨p, 0, none⟩)) ∧ w'.cell? ⟨dv, 0, none⟩ = some (.pointer (some ⟨d, 0, none⟩)) ∧ w'.cell? ⟨gw, offw + kk * 4, none⟩ = some (.int .i64 act.kind) ∧ w'.cell? ⟨gw, offw + kk * 4 + 1, none⟩ = some (.int .i64 act.stop) ∧ w'.cell? ⟨gw, offw + kk * 4 + 2, none⟩ = some (.int .i64 act.x.k) ∧ w'.cell? ⟨gw, offw + kk * 4 + 3, none⟩ = some (.int .i64 act.x.m)) [0, 1, 2, 3, 4, 5, 6, 7, 8, 9, 10, 11, 12] [13, 14, 15] [] (by rintro ⟨a, w, h⟩; exact h) (by kernel_rfl) (by kernel_rfl) (by kernel_rfl) (fun _ _ d _ _ h => by cases d <;> exact h) ⟨b10, k10, q1, q2, a0, a1, a2, a3'⟩
            · iterate 13 (apply reads_consL rfl rfl; (· intro w0 hS; obtain ⟨hS1, hS2, hS3, hS4, hS5, hS6, hS7, hS8⟩ := hS; go_simp; try rfl); simp only [Act.put, List.setIfInBounds_toArray, List.set_cons_zero, List.set_cons_succ])
              exact rfl
            refine tail_consL rfl ?_
            go_wp2_with fail
            refine HC.out.mono ?_
            rintro e w4 hd4
            obtain rfl : e = .returned (.bool true) := by obtain ⟨_, h, _⟩ := hd4; exact h
            have S4 : Hid (Rw w ⟨p, d, pv, dv, wb, rv, wv, sv, kv, g2⟩ within (.slice (some ⟨gw, offw, none⟩) within.length cw) L n (pre ++ [(j, y)]) w4 ∧ Upd W' w4 (Mine (Pl.F0 ⟨p, d, pv, dv, wb, rv, wv, sv, kv, g2⟩) n) ∧ Upd W10.drew w4 (PD p d)) := Lib.hid (by
              obtain ⟨r1, r2⟩ := HD10.out.1.does hd4
              obtain ⟨_, _, _, r3, _⟩ := hd4
              exact ⟨r1, HD10.out.2.trans r2 (fun _ _ h => h), r3⟩)
            have ha : Hid (∀ (b o : Nat) (u : Value), (∃ u0, w.cell? ⟨b, o, none⟩ = some u0) → W10.cell? ⟨b, o, none⟩ = some u → w4.cell? ⟨b, o, none⟩ = some u) := Lib.hid (fun b o u ⟨u0, h0⟩ h1 => by
              have hlt := World.block_lt_of_cell? w _ h0
              rw [S4.out.1.below.cell hlt, ← H10.out.1.below.cell hlt]
              exact h1)
            have m1 : w4.cell? ⟨pv, 0, none⟩ = some (.pointer (some ⟨p, 0, none⟩)) := S4.out.1.pvar.cell 0
            have m2 : w4.cell? ⟨dv, 0, none⟩ = some (.pointer (some ⟨d, 0, none⟩)) := S4.out.1.dvar.cell 0
            have m3 : w4.cell? ⟨wb, 0, none⟩ = some (.slice (some ⟨gw, offw, none⟩) within.length cw) := S4.out.1.wbox.cell 0
            have m4 : w4.cell? ⟨kv, 0, none⟩ = some (.int .i64 (kk : Int)) := by
              obtain ⟨k9, e1, e2⟩ := HD10.out.1.num
              have : w4.cell? ⟨kv, 0, none⟩ = some (.int .i64 (k9 : Int)) := (S4.out.2.2.blk e1 (HD10.out.1.notPD e1 (by decide) (by decide))).cell 0
              rw [this]
              have h2 : W10.cell? ⟨kv, 0, none⟩ = some (.int .i64 (k9 : Int)) := e1.cell 0
              exact h2.symm.trans k10
            have n0 := ha.out gw (offw + kk * 4) _ (hat.out.1) a0
            have n1 := ha.out gw (offw + kk * 4 + 1) _ (hat.out.2.1) a1
            have n2' := ha.out gw (offw + kk * 4 + 2) _ (hat.out.2.2.1) a2
            have n3 := ha.out gw (offw + kk * 4 + 3) _ (hat.out.2.2.2) a3'
            have hf4 : w4.frozen? ⟨kv, 0, none⟩ = false := by
              obtain ⟨k9, e1, e2⟩ := S4.out.1.num
              exact e1.free 0
            clear hd4 HC q1 q2 a0 a1 a2 a3' ha b10 k10 kf10 H10 HD10
            go_wp2_with fail
            refine ⟨⟨m3, m4, m1, m2, n0, n1, n2', n3⟩, tail_consL rfl ?_⟩
            go_wp2_with fail
            refine ⟨⟨m3, m4, m1, m2, n0, n1, n2', n3⟩, tail_consL rfl ?_⟩
            go_wp2_with fail
            refine ⟨⟨m3, m4, m1, m2, n0, n1, n2', n3⟩, tail_zero ?_⟩
            gi_upto_region 18 with fail
            have HZ : Hid (Rw w ⟨p, d, pv, dv, wb, rv, wv, sv, kv, g2⟩ within (.slice (some ⟨gw, offw, none⟩) within.length cw) L n (pre ++ [(j, y)]) (w4.setCell ⟨kv, 0, none⟩ (.int .i64 ((kk : Int) + 1))) ∧ Upd W' (w4.setCell ⟨kv, 0, none⟩ (.int .i64 ((kk : Int) + 1))) (Mine (Pl.F0 ⟨p, d, pv, dv, wb, rv, wv, sv, kv, g2⟩) n)) := Lib.hid (by
              obtain ⟨r1, r2⟩ := S4.out.1.count (kk + 1) hk
              exact ⟨r1, S4.out.2.1.trans r2 (fun _ _ h => h)⟩)
            clear S4 m1 m2 m3 m4 n0 n1 n2' n3 hf4
            generalize World.setCell _ _ _ = Wz at HZ ⊢
            obtain ⟨vt, t1, t2, _⟩ := HZ.out.1.seen
            obtain ⟨at1, ct1, rfl, _⟩ := (Rd.ofOwn t2).form
            obtain ⟨vu, u1, u2, _⟩ := HZ.out.1.was
            obtain ⟨au1, cu1, rfl, _⟩ := (Rd.ofOwn u2).form
            have z0 : Wz.cell? ⟨sv, 0, none⟩ = some (.slice at1 (pre ++ [(j, y)]).length ct1) := t1.cell 0
            have z1 : Wz.cell? ⟨wv, 0, none⟩ = some (.slice au1 L.length cu1) := u1.cell 0
            obtain ⟨m, hm⟩ : ∃ m, m = (pre ++ [(j, y)]).length := ⟨_, rfl⟩
            rw [← hm] at z0
            have hmL : m ≤ L.length := by rw [hm, List.length_append, List.length_singleton]; omega
            have hm1 : decide ((L.length : Int) < (m : Int)) = false := decide_eq_false (by omega)
            have hm2 : ¬ (L.length : Int) < (m : Int) := by omega
            clear t1 t2 u1 u2 hm hmL
            gi_wp2
            exact ⟨HZ.out.2, HZ.out.1⟩
          · have hd1 : decide (act.kind ≤ 1) = false := decide_eq_false hkd
            gi_wp2_with fail
            apply wpIn_reg (fun w' : World => w'.cell? ⟨wb, 0, none⟩ = some (.slice (some ⟨gw, offw, none⟩) within.length cw) ∧ w'.cell? ⟨kv, 0, none⟩ = some (.int .i64 (kk : Int)) ∧ w'.cell? ⟨pv, 0, none⟩ = some (.pointer (some ⟨p, 0, none⟩)) ∧ w'.cell? ⟨dv, 0, none⟩ = some (.pointer (some ⟨d, 0, none⟩)) ∧ w'.cell? ⟨gw, offw + kk * 4, none⟩ = some (.int .i64 act.kind) ∧ w'.cell? ⟨gw, offw + kk * 4 + 1, none⟩ = some (.int .i64 act.stop) ∧ w'.cell? ⟨gw, offw + kk * 4 + 2, none⟩ = some (.int .i64 act.x.k) ∧ w'.cell? ⟨gw, offw + kk * 4 + 3, none⟩ = some (.int .i64 act.x.m)) [0, 1, 2, 3, 4, 5, 6, 7, 8, 9, 10, 11, 12] [13, 14, 15] [] (by rintro ⟨a, w, h⟩; exact h) (by kernel_rfl) (by kernel_rfl) (by kernel_rfl) (fun _ _ d _ _ h => by cases d <;> exact h) ⟨b10, k10, q1, q2, a0, a1, a2, a3'⟩
            · iterate 7 (apply reads_consL rfl rfl; (· intro w0 hS; obtain ⟨hS1, hS2, hS3, hS4, hS5, hS6, hS7, hS8⟩ := hS; go_simp; try rfl); simp only [Act.put, List.setIfInBounds_toArray, List.set_cons_zero, List.set_cons_succ])
              iterate 6 (apply reads_skipL rfl rfl; simp only [Act.put, List.setIfInBounds_toArray, List.set_cons_zero, List.set_cons_succ])
              exact rfl
            refine tail_consL rfl ?_
            go_wp2_with fail
            refine ⟨⟨b10, k10, q1, q2, a0, a1, a2, a3'⟩, tail_consL rfl ?_⟩
            go_wp2_with fail
            refine ⟨⟨b10, k10, q1, q2, a0, a1, a2, a3'⟩, tail_consL rfl ?_⟩
            go_wp2_with fail
            refine ⟨⟨b10, k10, q1, q2, a0, a1, a2, a3'⟩, tail_zero ?_⟩
            gi_upto_region 18 with fail
            have HZ : Hid (Rw w ⟨p, d, pv, dv, wb, rv, wv, sv, kv, g2⟩ within (.slice (some ⟨gw, offw, none⟩) within.length cw) L n (pre ++ [(j, y)]) (World.drew (W10.setCell ⟨kv, 0, none⟩ (.int .i64 ((kk : Int) + 1)))) ∧ Upd W' (World.drew (W10.setCell ⟨kv, 0, none⟩ (.int .i64 ((kk : Int) + 1)))) (Mine (Pl.F0 ⟨p, d, pv, dv, wb, rv, wv, sv, kv, g2⟩) n)) := Lib.hid (by
              obtain ⟨r1, r2⟩ := HD10.out.1.count (kk + 1) hk
              exact ⟨r1, HD10.out.2.trans r2 (fun _ _ h => h)⟩)
            clear H10 HD10 b10 k10 kf10 q1 q2 a0 a1 a2 a3'
            generalize World.drew (World.setCell _ _ _) = Wz at HZ ⊢
            obtain ⟨vt, t1, t2, _⟩ := HZ.out.1.seen
            obtain ⟨at1, ct1, rfl, _⟩ := (Rd.ofOwn t2).form
            obtain ⟨vu, u1, u2, _⟩ := HZ.out.1.was
            obtain ⟨au1, cu1, rfl, _⟩ := (Rd.ofOwn u2).form
            have z0 : Wz.cell? ⟨sv, 0, none⟩ = some (.slice at1 (pre ++ [(j, y)]).length ct1) := t1.cell 0
            have z1 : Wz.cell? ⟨wv, 0, none⟩ = some (.slice au1 L.length cu1) := u1.cell 0
            obtain ⟨m, hm⟩ : ∃ m, m = (pre ++ [(j, y)]).length := ⟨_, rfl⟩
            rw [← hm] at z0
            have hmL : m ≤ L.length := by rw [hm, List.length_append, List.length_singleton]; omega
            have hm1 : decide ((L.length : Int) < (m : Int)) = false := decide_eq_false (by omega)
            have hm2 : ¬ (L.length : Int) < (m : Int) := by omega
            clear t1 t2 u1 u2 hm hmL
            gi_wp2
            exact ⟨HZ.out.2, HZ.out.1⟩
        · have hk1 : ¬ (kk : Int) < (within.length : Int) := by omega
          have hk2 : decide ((kk : Int) < (within.length : Int)) = false := decide_eq_false hk1
          obtain ⟨Wz, hWz⟩ : ∃ Wz, Wz = W10 := ⟨_, rfl⟩
          subst hWz
          have HZ := H10
          clear n1
          obtain ⟨vt, t1, t2, _⟩ := HZ.out.1.seen
          obtain ⟨at1, ct1, rfl, _⟩ := (Rd.ofOwn t2).form
          obtain ⟨vu, u1, u2, _⟩ := HZ.out.1.was
          obtain ⟨au1, cu1, rfl, _⟩ := (Rd.ofOwn u2).form
          have z0 : Wz.cell? ⟨sv, 0, none⟩ = some (.slice at1 (pre ++ [(j, y)]).length ct1) := t1.cell 0
          have z1 : Wz.cell? ⟨wv, 0, none⟩ = some (.slice au1 L.length cu1) := u1.cell 0
          obtain ⟨m, hm⟩ : ∃ m, m = (pre ++ [(j, y)]).length := ⟨_, rfl⟩
          rw [← hm] at z0
          have hmL : m ≤ L.length := by rw [hm, List.length_append, List.length_singleton]; omega
          have hm1 : decide ((L.length : Int) < (m : Int)) = false := decide_eq_false (by omega)
          have hm2 : ¬ (L.length : Int) < (m : Int) := by omega
          clear t1 t2 u1 u2 hm hmL
          gi_wp2
          exact ⟨HZ.out.2, HZ.out.1⟩
      case done =>
        rintro D n xs W' hD hn rfl hI hK
        obtain ⟨L1, hT1⟩ := hI.two
        obtain ⟨vs1, s1, s2, s3⟩ := hI.seen
        rw [en_len, en_snd] at s2
        obtain ⟨as1, cs1, rfl, _⟩ := (Rd.ofOwn s2).form
        obtain ⟨vw1, w1, w2, w3⟩ := hI.was
        obtain ⟨aw1, cw1, rfl, _⟩ := (Rd.ofOwn w2).form
        have k0 : W'.cell? ⟨pv, 0, none⟩ = some (.pointer (some ⟨p, 0, none⟩)) := hI.pvar.cell 0
        have HC : Hid (Calls Try.prog 52 #[.pointer (some ⟨p, 0, none⟩), .agg #[.int .i64 1099511627776, .int .i64 0]] W' (PutPost It.k p L1 ⟨1099511627776, 0⟩ W')) := Lib.hid (put_any askI p L1 ⟨1099511627776, 0⟩ W' trivial hT1.ord hT1.srt hT1.big)
        have HE := Lib.hid (And.intro hT1 (And.intro s1 (And.intro s2 (And.intro w1 (And.intro w2 (And.intro hI (And.intro hK hD)))))))
        clear hT1 s1 s2 s3 w1 w2 w3 hI hK hD
        dsimp only
        go_wp2_with fail
        refine HC.out.mono ?_
        rintro e v2 hpp
        obtain ⟨cc, L', rfl, hh⟩ := half_put HE.out.1 hpp
        have notp : Hid (∀ {b : Nat} {vs : List Value} {t : TypeId}, Blk W' b vs t → t ≠ 136 → t ≠ 32 → ¬ PD p d b) := Lib.hid (fun hb h1 h2 => HE.out.2.2.2.2.2.1.notPD hb h1 h2)
        have U2 := hh.upd
        have nP : ∀ {b : Nat} {vs : List Value} {t : TypeId}, Blk W' b vs t → t ≠ 136 → t ≠ 32 → ¬ b = p := fun hb h1 h2 e => notp.out hb h1 h2 (Or.inl e)
        have rowP : ∀ {v : Value} {m : Nat} {xs : List Value}, W'.ownsRow 0 36 2 v m xs → v2.ownsRow 0 36 2 v m xs := fun ho => own_keep ho U2 (fun g hg => by
          obtain ⟨us, hv⟩ := own_ty ho hg
          exact nP hv (by decide) (by decide))
        have j0 : v2.cell? ⟨sv, 0, none⟩ = some (.slice as1 L.length cs1) := (U2.blk HE.out.2.1 (nP HE.out.2.1 (by decide) (by decide))).cell 0
        have j1 : v2.cell? ⟨wv, 0, none⟩ = some (.slice aw1 L.length cw1) := (U2.blk HE.out.2.2.2.1 (nP HE.out.2.2.2.1 (by decide) (by decide))).cell 0
        have HI2 := Lib.hid (items_any _ _ L L v2 (Rd.ofOwn (rowP HE.out.2.2.1)) (Rd.ofOwn (rowP HE.out.2.2.2.2.1)) (by omega) (by omega))
        have HH := Lib.hid hh
        clear hpp hh HC k0 U2 nP rowP
        go_wp2_with fail
        refine HI2.out.mono ?_
        rintro e v3 ⟨he3, hb3⟩
        obtain rfl : e = .returned (.bool true) := by rw [he3]; simp
        clear he3
        have hpl : p < W'.heap.size := by
          obtain ⟨us, ws, q1, _⟩ := HE.out.2.2.2.2.2.1.types
          exact q1.lt
        have hh3 := HH.out.below hpl hb3
        have HC := Lib.hid (rput_any d L1 ⟨1099511627776, 0⟩ v3 hh3.ref HE.out.1.srt HE.out.1.big)
        have U3 : Upd W' v3 (PD p d) := hh3.upd.mono (fun i _ e => Or.inl e)
        have k3 : v3.cell? ⟨dv, 0, none⟩ = some (.pointer (some ⟨d, 0, none⟩)) := (U3.blk HE.out.2.2.2.2.2.1.dvar (notp.out HE.out.2.2.2.2.2.1.dvar (by decide) (by decide))).cell 0
        have HH3 := Lib.hid hh3
        have bb : ((cc : Int) == cc) = true := by simp
        clear hh3 HH hb3 HI2 j0 j1 U3
        go_wp2_with fail
        refine HC.out.mono ?_
        rintro e v4 hpp
        obtain ⟨rfl, hT4, hU4, _⟩ := full_put HE.out.1 HH3.out hpp
        have k4 : v4.cell? ⟨dv, 0, none⟩ = some (.pointer (some ⟨d, 0, none⟩)) := (hU4.blk HE.out.2.2.2.2.2.1.dvar (notp.out HE.out.2.2.2.2.2.1.dvar (by decide) (by decide))).cell 0
        have k4' : v4.cell? ⟨pv, 0, none⟩ = some (.pointer (some ⟨p, 0, none⟩)) := (hU4.blk HE.out.2.2.2.2.2.1.pvar (notp.out HE.out.2.2.2.2.2.1.pvar (by decide) (by decide))).cell 0
        have HA4 := Lib.hid (same_any p d L' v4 hT4.ord hT4.ref hT4.big)
        have H4 := Lib.hid hU4
        clear hpp hT4 hU4 HC HH3 k3
        go_wp2_with fail
        refine HA4.out.mono ?_
        rintro e v5 ⟨rfl, hb5⟩
        have U5 : Upd W' v5 (PD p d) := H4.out.trans (Upd.ofBelow (F := fun _ => False) hb5) (fun _ _ h => h.elim)
        have r5 : Blk v5 rv [.bool false] 4 := U5.blk HE.out.2.2.2.2.2.1.res (notp.out HE.out.2.2.2.2.2.1.res (by decide) (by decide))
        have kr : v5.cell? ⟨rv, 0, none⟩ = some (.bool false) := r5.cell 0
        have krf : v5.frozen? ⟨rv, 0, none⟩ = false := r5.free 0
        have H5 := Lib.hid U5
        clear hb5 U5 HA4 k4 k4'
        go_wp2
        have hK2 : (v5.setCell ⟨rv, 0, none⟩ (.bool true)).heap[D]? = some (.deferred (some [])) := by
          have h1 : v5.heap[D]? = some (.deferred (some [])) := by
            rw [H5.out.block D (heap_lt HE.out.2.2.2.2.2.2.1) (fun hm => by
              obtain ⟨us, ws, q1, q2⟩ := HE.out.2.2.2.2.2.1.types
              have h0 := HE.out.2.2.2.2.2.2.1
              rcases hm with e | e
              · subst e
                exact blk_cells q1 ⟨_, h0, rfl⟩
              · subst e
                exact blk_cells q2 ⟨_, h0, rfl⟩)]
            exact HE.out.2.2.2.2.2.2.1
          exact (KeepsOthers.setCell v5 ⟨rv, 0, none⟩ (.bool true)).same D _ h1 rfl
        refine leave_mark hK2 ?_
        have hc1 : (v5.setCell ⟨rv, 0, none⟩ (.bool true)).cell? ⟨rv, 0, none⟩ = some (.bool true) := World.cell?_setCell_same' v5 ⟨rv, 0, none⟩ (.bool true) (by rw [kr]; rfl)
        have hres := cell_kept hc1 (grownBy_putObj' _ D (.deferred none)) (fun r e => by cases e; exact ⟨_, hK2, rfl⟩)
        have hrvw : w.heap.size ≤ rv := HRV.out
        have hBw : Below w.heap.size w ((v5.setCell ⟨rv, 0, none⟩ (.bool true)).putObj D (.deferred none)) := by
          have hbl := HE.out.2.2.2.2.2.1.below
          have hlow := HE.out.1.low
          have hb5 := hbl.trans (H5.out.below hbl.size (fun i hi hm => by rcases hm with e | e <;> omega))
          have h4 := hb5.setCell (p := ⟨rv, 0, none⟩) hrvw (.bool true)
          refine h4.grown (grownBy_putObj' _ D (.deferred none)) h4.size (fun k e => ?_)
          cases e
          have := HE.out.2.2.2.2.2.2.2
          have := H14.out.1.size
          have := HK.out
          omega
        simp [LeavesIn, results, Try.results11, go_sem, hres]
        exact ⟨rfl, hBw⟩
      case stop =>
        rintro D n c pre W' hD hn hpre hno hK
        exact hno.elim
end
end OrdI
end Go.Proofs.Ytnhgeoccknhiiaa
