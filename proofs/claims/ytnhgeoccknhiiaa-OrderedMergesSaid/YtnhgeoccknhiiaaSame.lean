/- Whether All goes through just a list's items. -/
import Derived.Test.YtnhgeoccknhiiaaRanged
namespace Go.Proofs.Ytnhgeoccknhiiaa
open Go.RowKit Go.Shelf
namespace OrdI

/-- Between two rounds. -/
structure Ra (w : World) (L : List It) (nv db rv d : Nat) (n : Nat) (pre : List (Nat × It)) (W : World) : Prop where
  num : Blk W nv [.int .i64 (pre.length : Int)] 3
  box : Blk W db [.pointer (some ⟨d, 0, none⟩)] 29
  res : Blk W rv [.bool false] 4
  below : Below w.heap.size w W
  fit : pre <+: en L
theorem ra_own {w : World} {L : List It} {nv db rv d B : Nat} {n : Nat} (hB : w.heap.size ≤ B) : OwnFrom B (Ra w L nv db rv d n) := by
  intro pre W W' row h hg hr
  have U := upd_turn hg (fun r e => (hr r e).2)
  exact ⟨U.blk h.num (blk_cells h.num), U.blk h.box (blk_cells h.box), U.blk h.res (blk_cells h.res), below_turn h.below hg hr hB, h.fit⟩
theorem pre_next {L : List It} {pre : List (Nat × It)} {x : Nat × It} (h : pre <+: en L) : (pre ++ [x] <+: en L) ↔ (x.1 = pre.length ∧ L[pre.length]? = some x.2) := by
  have he : pre = (en L).take pre.length := List.prefix_iff_eq_take.1 h
  constructor
  · rintro ⟨t, ht⟩
    have h1 : (en L)[pre.length]? = some x := by
      rw [← ht, List.append_assoc, List.getElem?_append_right (Nat.le_refl _)]
      simp
    rw [en_get] at h1
    obtain ⟨y, hy, e⟩ := Option.map_eq_some_iff.1 h1
    rw [← e]
    exact ⟨rfl, hy⟩
  · rintro ⟨h1, h2⟩
    have hx : x = (pre.length, x.2) := by rw [← h1]
    rw [hx, he]
    have hl : ((en L).take pre.length).length = pre.length := by rw [← he]
    rw [hl, en_take h2]
    exact List.take_prefix _ _

section
attribute [local go_sem] Oper.semAt_some
set_option maxRecDepth 100000 in
set_option maxHeartbeats 2000000 in
theorem same_any (p d : Nat) (L : List It) (w : World) (h : OrdIs w p L) (hd : RefL w d L) (hl : L.length ≤ 8192) :
    Calls Try.prog 50 #[.pointer (some ⟨p, 0, none⟩), .pointer (some ⟨d, 0, none⟩)] w fun e w' => e = .returned (.bool true) ∧ Below w.heap.size w w' := by
  have HA := Lib.hid (all_any p)
  have qn : ∀ (w : World) (f : Fn) (a b : Array Value), (binOp .eql 108 (.func f a b) .nilFunc).run Try.prog w = .ok (.bool false) w := fun _ _ _ _ => by kernel_rfl
  obtain ⟨db, hdb⟩ : ∃ db, db = w.heap.size := ⟨_, rfl⟩
  obtain ⟨rv, hrv⟩ : ∃ rv, rv = w.heap.size + 1 := ⟨_, rfl⟩
  obtain ⟨nv, hnv⟩ : ∃ nv, nv = w.heap.size + 1 + 1 := ⟨_, rfl⟩
  obtain ⟨W4, hW4⟩ : ∃ W4, W4 = ((w.alloc (.cells #[.pointer (some ⟨d, 0, none⟩)] 29)).alloc (.cells #[.bool false] 4)).alloc (.cells #[.int .i64 0] 3) := ⟨_, rfl⟩
  have hs4 : W4.heap.size = nv + 1 := by rw [hW4, hnv]; simp
  have U4 : Upd w W4 (fun _ => False) := by rw [hW4]; exact (((Upd.refl w _).alloc _).alloc _).alloc _
  have D4 : Blk W4 db [.pointer (some ⟨d, 0, none⟩)] 29 := by rw [hW4, hdb]; exact ((Blk.new w [.pointer (some ⟨d, 0, none⟩)] _).alloc _).alloc _
  have R4 : Blk W4 rv [.bool false] 4 := by
    rw [hW4]
    have : Blk ((w.alloc (.cells #[.pointer (some ⟨d, 0, none⟩)] 29)).alloc (.cells #[.bool false] 4)) rv [.bool false] 4 := Blk.new' (by rw [hrv]; simp)
    exact this.alloc _
  have N4 : Blk W4 nv [.int .i64 0] 3 := by rw [hW4]; exact Blk.new' (by rw [hnv]; simp)
  have H4 := Lib.hid (And.intro U4 (And.intro D4 (And.intro R4 N4)))
  have HN := Lib.hid (And.intro hdb (And.intro hrv (And.intro hnv hs4)))
  clear U4 D4 R4 N4
  refine calls_of_marks Try.func50 rfl ?_
  simp only [Try.ntmps50, List.size_toArray, List.length_cons, List.length_nil, Nat.reduceAdd, Nat.reduceSub, Array.replicate_succ, Array.replicate_zero, List.push_toArray, List.append_toArray, List.nil_append, List.cons_append]
  go_wp2_with fail
  rw [← hnv, ← hrv, ← hdb, ← hW4]
  clear hdb hrv hnv hW4 hs4
  refine (HA.out W4).mono ?_
  rintro e w5 ⟨rfl, hw5⟩
  obtain ⟨fb, hfb⟩ : ∃ fb, fb = W4.heap.size := ⟨_, rfl⟩
  have U5 : Upd W4 w5 (fun _ => False) := by rw [hw5]; exact (Upd.refl W4 _).alloc _
  have P5 : Blk w5 fb [.pointer (some ⟨p, 0, none⟩)] 99 := by rw [hw5, hfb]; exact Blk.new W4 [.pointer (some ⟨p, 0, none⟩)] _
  have H5 := Lib.hid (And.intro U5 P5)
  rw [← hfb]
  clear U5 P5 hw5 hfb HA
  go_wp2_with fail
  have hsz4 := HN.out.2.2.2
  have hsz5 : W4.heap.size ≤ w5.heap.size := H5.out.1.size
  have U05 : Upd w w5 (fun _ => False) := H4.out.1.trans H5.out.1 (fun _ _ h => h)
  have hO5 : OrdIs w5 p L := h.below (U05.below (Nat.le_refl _) (fun _ _ h => h))
  have hgv := all_gives fb p L hl w5 (H5.out.2.cell 0) hO5 (fun b => b = nv) (fun g vs hgb _ e => by
    subst e
    exact absurd rfl (hgb.ty (H5.out.1.blk H4.out.2.2.2 (fun h => h)) (by decide)))
  have H05 := Lib.hid U05
  have HD := Lib.hid (And.intro h hd)
  clear hO5 U05
  refine range_lawA (gf := 84) (lb := #[.pointer (some ⟨fb, 0, none⟩)]) rfl (enters_of Try.func84 (by kernel_rfl) rfl) hgv (fun b hb => by have : b = nv := hb; omega) (Below.refl _ _) (fun _ => rfl)
    (Ra w L nv db rv d) (fun n c pre W => ¬ pre <+: en L) (fun n => ra_own (by have := H05.out.size; omega)) (fun n c s A C row hs _ _ => hs) ?h0 (fun x => icells x.2) 36 ?FA ?assign ?body ?done ?stop
  case assign =>
    intro l3 x3 W3 b3 hb K hK
    gi_wp2
    rw [← hb]
    exact hK
  case h0 =>
    intro W' hW' _
    have V := H5.out.1.trans (Upd.ofBelow (F := fun _ => False) hW') (fun _ _ h => h)
    exact ⟨V.blk H4.out.2.2.2 (fun h => h), V.blk H4.out.2.1 (fun h => h), V.blk H4.out.2.2.1 (fun h => h), (H05.out.below (Nat.le_refl _) (fun _ _ h => h)).trans (hW'.mono H05.out.size), List.nil_prefix⟩
  case body =>
    rintro l2 n pre ⟨j, y⟩ b W' hn hI hb hlt
    have hr2 := HD.out.2.below hI.below
    obtain ⟨vr, hr1', hr2'⟩ := hr2
    obtain ⟨z, hz⟩ : ∃ z, L[pre.length]? = some z := ⟨L[pre.length]'(by omega), List.getElem?_eq_getElem _⟩
    obtain ⟨g, off, c', rfl, hcc, z0, z1⟩ := it_at (Rd.ofOwn hr2') hz
    have k0 : W'.cell? ⟨db, 0, none⟩ = some (.pointer (some ⟨d, 0, none⟩)) := hI.box.cell 0
    have k1 : W'.cell? ⟨d, 0, none⟩ = some (.slice (some ⟨g, off, none⟩) L.length c') := hr1'.cell 0
    have kn : W'.cell? ⟨nv, 0, none⟩ = some (.int .i64 (pre.length : Int)) := hI.num.cell 0
    have kf : W'.frozen? ⟨nv, 0, none⟩ = false := hI.num.free 0
    have kr : W'.cell? ⟨rv, 0, none⟩ = some (.bool false) := hI.res.cell 0
    have krf : W'.frozen? ⟨rv, 0, none⟩ = false := hI.res.free 0
    have y0 : W'.cell? ⟨b, 0, none⟩ = some (.int .i64 y.k) := hb.cell 0
    have y1 : W'.cell? ⟨b, 1, none⟩ = some (.int .i64 y.m) := hb.cell 1
    obtain ⟨m, hm⟩ : ∃ m, m = pre.length := ⟨_, rfl⟩
    rw [← hm] at kn z0 z1
    have hm0 : (0 : Int) ≤ (m : Int) := by omega
    have hm1 : (m : Int) < (L.length : Int) := by omega
    have hm4 : decide ((L.length : Int) ≤ (m : Int)) = false := decide_eq_false (by omega)
    have hm5 : ¬ (L.length : Int) ≤ (m : Int) := by omega
    have hm6 : ¬ L.length ≤ m := by omega
    have hm7 : m < L.length := by omega
    have HM := Lib.hid (And.intro hm (And.intro hz hI))
    have hrvnv : rv ≠ nv := hI.res.ty hI.num (by decide)
    clear hr1' hr2' hz hI hb hm hlt hcc
    by_cases hj : j = m
    · have dj : ((j : Int) != (m : Int)) = false := by rw [hj]; simp
      have hj2 := hj.symm
      clear hj
      subst hj2
      by_cases hyz : y = z
      · have ek : y.k = z.k := by rw [hyz]
        have em : y.m = z.m := by rw [hyz]
        have HE := Lib.hid hyz
        clear hyz
        gi_wp2_with fail
        apply wpIn_reg (fun w' : World => w'.cell? ⟨db, 0, none⟩ = some (.pointer (some ⟨d, 0, none⟩)) ∧ w'.cell? ⟨d, 0, none⟩ = some (.slice (some ⟨g, off, none⟩) L.length c') ∧ w'.cell? ⟨g, off + m * 2, none⟩ = some (.int .i64 z.k) ∧ w'.cell? ⟨g, off + m * 2 + 1, none⟩ = some (.int .i64 z.m) ∧ w'.cell? ⟨nv, 0, none⟩ = some (.int .i64 (m : Int)) ∧ w'.cell? ⟨b, 0, none⟩ = some (.int .i64 y.k) ∧ w'.cell? ⟨b, 1, none⟩ = some (.int .i64 y.m)) [0, 1, 2, 3, 4, 5, 6, 7, 8, 9, 10, 11, 12, 13, 14, 15, 16, 17, 18, 19, 20, 21, 22] [] [] (by rintro ⟨a, w, h⟩; exact h) (by kernel_rfl) (by kernel_rfl) (by kernel_rfl) (fun _ _ d _ _ h => by cases d <;> exact h) ⟨k0, k1, z0, z1, kn, y0, y1⟩
        · iterate 4 (apply reads_consL rfl rfl; (· intro w0 hS; obtain ⟨hS1, hS2, hS3, hS4, hS5, hS6, hS7⟩ := hS; go_simp; try rfl); simp only [Act.put, List.setIfInBounds_toArray, List.set_cons_zero, List.set_cons_succ])
          iterate 7 (apply reads_consL rfl rfl; (· intro w0 hS; obtain ⟨hS1, hS2, hS3, hS4, hS5, hS6, hS7⟩ := hS; go_simp; try rfl); simp only [Act.put, List.setIfInBounds_toArray, List.set_cons_zero, List.set_cons_succ])
          iterate 2 (apply reads_consL rfl rfl; (· intro w0 hS; obtain ⟨hS1, hS2, hS3, hS4, hS5, hS6, hS7⟩ := hS; go_simp; try rfl); simp only [Act.put, List.setIfInBounds_toArray, List.set_cons_zero, List.set_cons_succ])
          iterate 9 (apply reads_consL rfl rfl; (· intro w0 hS; obtain ⟨hS1, hS2, hS3, hS4, hS5, hS6, hS7⟩ := hS; go_simp; try rfl); simp only [Act.put, List.setIfInBounds_toArray, List.set_cons_zero, List.set_cons_succ])
          iterate 1 (apply reads_consL rfl rfl; (· intro w0 hS; obtain ⟨hS1, hS2, hS3, hS4, hS5, hS6, hS7⟩ := hS; go_simp; try rfl); simp only [Act.put, List.setIfInBounds_toArray, List.set_cons_zero, List.set_cons_succ])
          exact rfl
        refine tail_zero ?_
        gi_wp2
        obtain ⟨hm, hz, hI⟩ := HM.out
        have hnvw : w.heap.size ≤ nv := by have := HN.out; omega
        refine ⟨Upd.set (F := Mine (fun b => b = nv) n) (Upd.refl W' _).drew ⟨nv, 0, none⟩ _ (fun _ => Or.inl rfl), ⟨?_, ?_, ?_, ?_, ?_⟩⟩
        · have e : (((pre ++ [(m, y)]).length : Nat) : Int) = (m : Int) + 1 := by rw [List.length_append, hm]; rfl
          rw [e]
          exact hI.num.set 0 (.int .i64 ((m : Int) + 1))
        · exact hI.box.far ⟨nv, 0, none⟩ (.int .i64 ((m : Int) + 1)) (hI.box.ty hI.num (by decide))
        · exact hI.res.far ⟨nv, 0, none⟩ (.int .i64 ((m : Int) + 1)) hrvnv
        · exact (hI.below.setCell (p := ⟨nv, 0, none⟩) hnvw _).drew
        · exact (pre_next hI.fit).2 ⟨hm, by rw [hz, HE.out]⟩
      · have HE := Lib.hid hyz
        by_cases hk : y.k = z.k
        · have hm' : ¬ y.m = z.m := fun h => hyz (by cases y; cases z; simp_all)
          clear hyz
          gi_wp2_with fail
          apply wpIn_reg (fun w' : World => w'.cell? ⟨db, 0, none⟩ = some (.pointer (some ⟨d, 0, none⟩)) ∧ w'.cell? ⟨d, 0, none⟩ = some (.slice (some ⟨g, off, none⟩) L.length c') ∧ w'.cell? ⟨g, off + m * 2, none⟩ = some (.int .i64 z.k) ∧ w'.cell? ⟨g, off + m * 2 + 1, none⟩ = some (.int .i64 z.m) ∧ w'.cell? ⟨nv, 0, none⟩ = some (.int .i64 (m : Int)) ∧ w'.cell? ⟨b, 0, none⟩ = some (.int .i64 y.k) ∧ w'.cell? ⟨b, 1, none⟩ = some (.int .i64 y.m)) [0, 1, 2, 3, 4, 5, 6, 7, 8, 9, 10, 11, 12, 13, 14, 15, 16, 17, 18, 19, 20, 21, 22] [] [] (by rintro ⟨a, w, h⟩; exact h) (by kernel_rfl) (by kernel_rfl) (by kernel_rfl) (fun _ _ d _ _ h => by cases d <;> exact h) ⟨k0, k1, z0, z1, kn, y0, y1⟩
          · iterate 4 (apply reads_consL rfl rfl; (· intro w0 hS; obtain ⟨hS1, hS2, hS3, hS4, hS5, hS6, hS7⟩ := hS; go_simp; try rfl); simp only [Act.put, List.setIfInBounds_toArray, List.set_cons_zero, List.set_cons_succ])
            iterate 7 (apply reads_consL rfl rfl; (· intro w0 hS; obtain ⟨hS1, hS2, hS3, hS4, hS5, hS6, hS7⟩ := hS; go_simp; try rfl); simp only [Act.put, List.setIfInBounds_toArray, List.set_cons_zero, List.set_cons_succ])
            iterate 2 (apply reads_consL rfl rfl; (· intro w0 hS; obtain ⟨hS1, hS2, hS3, hS4, hS5, hS6, hS7⟩ := hS; go_simp; try rfl); simp only [Act.put, List.setIfInBounds_toArray, List.set_cons_zero, List.set_cons_succ])
            iterate 9 (apply reads_consL rfl rfl; (· intro w0 hS; obtain ⟨hS1, hS2, hS3, hS4, hS5, hS6, hS7⟩ := hS; go_simp; try rfl); simp only [Act.put, List.setIfInBounds_toArray, List.set_cons_zero, List.set_cons_succ])
            iterate 1 (apply reads_consL rfl rfl; (· intro w0 hS; obtain ⟨hS1, hS2, hS3, hS4, hS5, hS6, hS7⟩ := hS; go_simp; try rfl); simp only [Act.put, List.setIfInBounds_toArray, List.set_cons_zero, List.set_cons_succ])
            exact rfl
          refine tail_zero ?_
          gi_wp2
          obtain ⟨hm, hz, hI⟩ := HM.out
          refine ⟨Upd.set (F := fun b => b < w5.heap.size ∨ n ≤ b) (Upd.refl W' _).drew ⟨rv, 0, none⟩ _ (fun _ => Or.inl (by have := HN.out; show rv < _; omega)), fun hp => ?_⟩
          obtain ⟨e1, e2⟩ := (pre_next hI.fit).1 hp
          rw [hz] at e2
          exact HE.out (Option.some.inj e2).symm
        · clear hyz
          gi_wp2_with fail
          apply wpIn_reg (fun w' : World => w'.cell? ⟨db, 0, none⟩ = some (.pointer (some ⟨d, 0, none⟩)) ∧ w'.cell? ⟨d, 0, none⟩ = some (.slice (some ⟨g, off, none⟩) L.length c') ∧ w'.cell? ⟨g, off + m * 2, none⟩ = some (.int .i64 z.k) ∧ w'.cell? ⟨g, off + m * 2 + 1, none⟩ = some (.int .i64 z.m) ∧ w'.cell? ⟨nv, 0, none⟩ = some (.int .i64 (m : Int)) ∧ w'.cell? ⟨b, 0, none⟩ = some (.int .i64 y.k) ∧ w'.cell? ⟨b, 1, none⟩ = some (.int .i64 y.m)) [0, 1, 2, 3, 4, 5, 6, 7, 8, 9, 10, 11, 12, 13, 14, 15, 16, 17, 18, 19, 20, 21, 22] [] [] (by rintro ⟨a, w, h⟩; exact h) (by kernel_rfl) (by kernel_rfl) (by kernel_rfl) (fun _ _ d _ _ h => by cases d <;> exact h) ⟨k0, k1, z0, z1, kn, y0, y1⟩
          · iterate 4 (apply reads_consL rfl rfl; (· intro w0 hS; obtain ⟨hS1, hS2, hS3, hS4, hS5, hS6, hS7⟩ := hS; go_simp; try rfl); simp only [Act.put, List.setIfInBounds_toArray, List.set_cons_zero, List.set_cons_succ])
            iterate 7 (apply reads_consL rfl rfl; (· intro w0 hS; obtain ⟨hS1, hS2, hS3, hS4, hS5, hS6, hS7⟩ := hS; go_simp; try rfl); simp only [Act.put, List.setIfInBounds_toArray, List.set_cons_zero, List.set_cons_succ])
            iterate 2 (apply reads_consL rfl rfl; (· intro w0 hS; obtain ⟨hS1, hS2, hS3, hS4, hS5, hS6, hS7⟩ := hS; go_simp; try rfl); simp only [Act.put, List.setIfInBounds_toArray, List.set_cons_zero, List.set_cons_succ])
            iterate 9 (apply reads_consL rfl rfl; (· intro w0 hS; obtain ⟨hS1, hS2, hS3, hS4, hS5, hS6, hS7⟩ := hS; go_simp; try rfl); simp only [Act.put, List.setIfInBounds_toArray, List.set_cons_zero, List.set_cons_succ])
            iterate 1 (apply reads_consL rfl rfl; (· intro w0 hS; obtain ⟨hS1, hS2, hS3, hS4, hS5, hS6, hS7⟩ := hS; go_simp; try rfl); simp only [Act.put, List.setIfInBounds_toArray, List.set_cons_zero, List.set_cons_succ])
            exact rfl
          refine tail_zero ?_
          gi_wp2
          obtain ⟨hm, hz, hI⟩ := HM.out
          refine ⟨Upd.set (F := fun b => b < w5.heap.size ∨ n ≤ b) (Upd.refl W' _).drew ⟨rv, 0, none⟩ _ (fun _ => Or.inl (by have := HN.out; show rv < _; omega)), fun hp => ?_⟩
          obtain ⟨e1, e2⟩ := (pre_next hI.fit).1 hp
          rw [hz] at e2
          exact HE.out (Option.some.inj e2).symm
    · have dj : ((j : Int) != (m : Int)) = true := by rw [bne_iff_ne]; omega
      have HJ := Lib.hid hj
      clear hj
      gi_wp2_with fail
      apply wpIn_reg (fun w' : World => w'.cell? ⟨db, 0, none⟩ = some (.pointer (some ⟨d, 0, none⟩)) ∧ w'.cell? ⟨d, 0, none⟩ = some (.slice (some ⟨g, off, none⟩) L.length c') ∧ w'.cell? ⟨g, off + m * 2, none⟩ = some (.int .i64 z.k) ∧ w'.cell? ⟨g, off + m * 2 + 1, none⟩ = some (.int .i64 z.m) ∧ w'.cell? ⟨nv, 0, none⟩ = some (.int .i64 (m : Int)) ∧ w'.cell? ⟨b, 0, none⟩ = some (.int .i64 y.k) ∧ w'.cell? ⟨b, 1, none⟩ = some (.int .i64 y.m)) [0, 1, 2, 3, 4, 5, 6, 7, 8, 9, 10, 11, 12, 13, 14, 15, 16, 17, 18, 19, 20, 21, 22] [] [] (by rintro ⟨a, w, h⟩; exact h) (by kernel_rfl) (by kernel_rfl) (by kernel_rfl) (fun _ _ d _ _ h => by cases d <;> exact h) ⟨k0, k1, z0, z1, kn, y0, y1⟩
      · iterate 4 (apply reads_consL rfl rfl; (· intro w0 hS; obtain ⟨hS1, hS2, hS3, hS4, hS5, hS6, hS7⟩ := hS; go_simp; try rfl); simp only [Act.put, List.setIfInBounds_toArray, List.set_cons_zero, List.set_cons_succ])
        iterate 7 (apply reads_skipL rfl rfl; simp only [Act.put, List.setIfInBounds_toArray, List.set_cons_zero, List.set_cons_succ])
        iterate 2 (apply reads_consL rfl rfl; (· intro w0 hS; obtain ⟨hS1, hS2, hS3, hS4, hS5, hS6, hS7⟩ := hS; go_simp; try rfl); simp only [Act.put, List.setIfInBounds_toArray, List.set_cons_zero, List.set_cons_succ])
        iterate 9 (apply reads_skipL rfl rfl; simp only [Act.put, List.setIfInBounds_toArray, List.set_cons_zero, List.set_cons_succ])
        iterate 1 (apply reads_consL rfl rfl; (· intro w0 hS; obtain ⟨hS1, hS2, hS3, hS4, hS5, hS6, hS7⟩ := hS; go_simp; try rfl); simp only [Act.put, List.setIfInBounds_toArray, List.set_cons_zero, List.set_cons_succ])
        exact rfl
      refine tail_zero ?_
      gi_wp2
      obtain ⟨hm, hz, hI⟩ := HM.out
      refine ⟨Upd.set (F := fun b => b < w5.heap.size ∨ n ≤ b) (Upd.refl W' _).drew ⟨rv, 0, none⟩ _ (fun _ => Or.inl (by have := HN.out; show rv < _; omega)), fun hp => ?_⟩
      obtain ⟨e1, e2⟩ := (pre_next hI.fit).1 hp
      exact HJ.out (by rw [hm]; exact e1)
  case done =>
    rintro D n xs W' hD hn rfl hI hK
    have hr2 := HD.out.2.below hI.below
    have hO2 := HD.out.1.below hI.below
    obtain ⟨vr, hr1', hr2'⟩ := hr2
    obtain ⟨ar, cr, rfl, hcr⟩ := (Rd.ofOwn hr2').form
    have k0 : W'.cell? ⟨db, 0, none⟩ = some (.pointer (some ⟨d, 0, none⟩)) := hI.box.cell 0
    have k1 : W'.cell? ⟨d, 0, none⟩ = some (.slice ar L.length cr) := hr1'.cell 0
    have kn : W'.cell? ⟨nv, 0, none⟩ = some (.int .i64 (L.length : Int)) := by
      have := hI.num.cell 0
      rw [en_len] at this
      exact this
    have kr : W'.cell? ⟨rv, 0, none⟩ = some (.bool false) := hI.res.cell 0
    have krf : W'.frozen? ⟨rv, 0, none⟩ = false := hI.res.free 0
    have HLn := Lib.hid (len_any p L W'.drew (hO2.below ((Upd.refl W' (fun _ => False)).drew.below (Nat.le_refl _) (fun _ _ h => h))))
    have HE := Lib.hid (And.intro hI.below (And.intro hK hD))
    clear hI hr1' hr2' hcr hK hD hO2
    dsimp only
    go_wp2_with fail
    apply wp_reg2 (fun w' : World => w'.cell? ⟨db, 0, none⟩ = some (.pointer (some ⟨d, 0, none⟩)) ∧ w'.cell? ⟨d, 0, none⟩ = some (.slice ar L.length cr) ∧ w'.cell? ⟨nv, 0, none⟩ = some (.int .i64 (L.length : Int))) [0, 1, 2, 3, 4, 5, 6, 7, 8, 10] [9] [11, 12] [] [13] (by kernel_rfl) (by kernel_rfl) (fun _ _ d _ _ h => by cases d <;> exact h) ⟨k0, k1, kn⟩
    · iterate 10 (apply reads_consL rfl rfl; (· intro w0 hS; obtain ⟨hS1, hS2, hS3⟩ := hS; go_simp; try rfl); simp only [Act.put, List.setIfInBounds_toArray, List.set_cons_zero, List.set_cons_succ])
      exact rfl
    refine pre_consL rfl ?_
    go_wp2_with fail
    refine HLn.out.mono ?_
    rintro e w2 ⟨rfl, rfl⟩
    go_wp2_with fail
    refine ⟨⟨k0, k1, kn⟩, ?_⟩
    apply pre_last
    · iterate 2 (apply reads_consL rfl rfl; (· intro w0 hS; obtain ⟨hS1, hS2, hS3⟩ := hS; go_simp; try rfl); simp only [Act.put, List.setIfInBounds_toArray, List.set_cons_zero, List.set_cons_succ])
      exact rfl
    refine tail_oneL rfl ?_
    go_wp2
    obtain ⟨hBl, hK, hD⟩ := HE.out
    have hK2 : ((W'.setCell ⟨rv, 0, none⟩ (.bool true)).drew).heap[D]? = some (.deferred (some [])) := (KeepsOthers.setCell W' ⟨rv, 0, none⟩ (.bool true)).same D _ hK rfl
    refine leave_mark hK2 ?_
    have hc1 : ((W'.setCell ⟨rv, 0, none⟩ (.bool true)).drew).cell? ⟨rv, 0, none⟩ = some (.bool true) := World.cell?_setCell_same' W' ⟨rv, 0, none⟩ (.bool true) (by rw [kr]; rfl)
    have hres := cell_kept hc1 (grownBy_putObj' _ D (.deferred none)) (fun r e => by cases e; exact ⟨_, hK2, rfl⟩)
    have hBw : Below w.heap.size w (((W'.setCell ⟨rv, 0, none⟩ (.bool true)).drew).putObj D (.deferred none)) := by
      have h4 := (hBl.setCell (p := ⟨rv, 0, none⟩) (by have := HN.out; show w.heap.size ≤ rv; omega) (.bool true)).drew
      refine h4.grown (grownBy_putObj' _ D (.deferred none)) h4.size (fun k e => ?_)
      cases e
      have := H05.out.size
      omega
    simp [LeavesIn, results, Try.results50, go_sem, hres]
    exact hBw
  case stop =>
    rintro D n c pre W' hD hn hpre hno hK
    exact (hno hpre).elim
end
end OrdI
end Go.Proofs.Ytnhgeoccknhiiaa
