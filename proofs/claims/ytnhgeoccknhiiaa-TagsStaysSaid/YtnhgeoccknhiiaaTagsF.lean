/- Drop: a tag goes. -/
import Derived.Test.YtnhgeoccknhiiaaTagsE
namespace Go.Proofs.Ytnhgeoccknhiiaa
open Go.RowKit

theorem TagsAt.del {w w' : World} {p m : Nat} {hd : Nd} {N : List Nd} {g nw : Nat} (h : TagsAt w p m hd N g nw) {k : Nat} {pv x : Nd} (hp : (hd :: N)[k]? = some pv) (hk : (hd :: N)[k + 1]? = some x)
    (top : Blk w' p [.map (some m), ptrTo hd.blk, .int .u64 g, .int .u64 nw] 73)
    (hx : Blk w' pv.blk (ndCells pv (if k = 0 then none else (hd :: N)[k - 1]?) (hd :: N)[k + 2]?) 130)
    (hy : ∀ y, (hd :: N)[k + 2]? = some y → Blk w' y.blk (ndCells y (some pv) (hd :: N)[k + 3]?) 130)
    (ho : ∀ j n, (hd :: N)[j]? = some n → j ≠ k → j ≠ k + 1 → j ≠ k + 2 → Blk w' n.blk (ndCells n (if j = 0 then none else (hd :: N)[j - 1]?) (hd :: N)[j + 1]?) 130)
    (hm : ∃ (L : List (Value × Value)) (i : Nat), MapIs w' m (L.eraseIdx i) ∧ L[i]? = some (.int .u64 x.name, ptrTo x.blk) ∧ L.Perm ((hd :: N).map fun n => (Value.int .u64 n.name, ptrTo n.blk))) :
    TagsAt w' p m hd (N.eraseIdx k) g nw := by
  have ei : hd :: N.eraseIdx k = (hd :: N).eraseIdx (k + 1) := by simp
  have g1 : ∀ j, j ≤ k → ((hd :: N).eraseIdx (k + 1))[j]? = (hd :: N)[j]? := fun j hj => by rw [List.getElem?_eraseIdx, if_pos (by omega)]
  have g3 : ∀ j, k < j → ((hd :: N).eraseIdx (k + 1))[j]? = (hd :: N)[j + 1]? := fun j hj => by rw [List.getElem?_eraseIdx, if_neg (by omega)]
  refine ⟨top, ?_, ?_, ?_, h.zero⟩
  · rw [ei]
    intro j a ha
    by_cases c1 : j < k
    · rw [g1 j (by omega)] at ha
      rw [g1 (j - 1) (by omega), g1 (j + 1) (by omega)]
      exact ho j a ha (by omega) (by omega) (by omega)
    · by_cases c2 : j = k
      · subst c2
        rw [g1 j (by omega), hp] at ha
        cases ha
        rw [g1 (j - 1) (by omega), g3 (j + 1) (by omega)]
        exact hx
      · rw [g3 j (by omega)] at ha
        rw [if_neg (by omega), g3 (j + 1) (by omega)]
        by_cases c3 : j = k + 1
        · subst c3
          rw [show k + 1 - 1 = k by omega, g1 k (by omega), hp]
          exact hy a ha
        · rw [g3 (j - 1) (by omega), show j - 1 + 1 = j by omega]
          have := ho (j + 1) a ha (by omega) (by omega) (by omega)
          rw [if_neg (by omega), show j + 1 - 1 = j by omega] at this
          exact this
  · rw [ei]
    unfold Names
    have := h.names
    unfold Names at this
    rw [map_eraseIdx']
    exact this.sublist (List.eraseIdx_sublist _ _)
  · rw [ei]
    obtain ⟨L, i, h1, h2, h3⟩ := hm
    refine ⟨L.eraseIdx i, h1, ?_⟩
    rw [map_eraseIdx']
    have e1 := (List.getElem?_eq_some_iff.1 h2)
    have e2 : ((hd :: N).map fun n => (Value.int .u64 (n.name : Int), ptrTo n.blk))[k + 1]? = some (.int .u64 x.name, ptrTo x.blk) := by rw [List.getElem?_map, hk]; rfl
    have e3 := List.getElem?_eq_some_iff.1 e2
    have p1 := perm_eraseIdx _ _ e1.1
    have p2 := perm_eraseIdx _ _ e3.1
    rw [e1.2] at p1
    rw [e3.2] at p2
    exact (List.perm_cons _).1 (p1.trans (h3.trans p2.symm))

def DropPost (p t : Nat) (N : List Nd) (g nw : Nat) (w : World) (e : Ending) (w' : World) : Prop :=
  ∃ w1 m hd, Begun p N g nw w w1 m hd ∧
    ((w1 = w' ∧ (t = 0 ∨ Gone N t) ∧ e = .returned (.int .i64 10)) ∨
     (∃ k, Stands N t (k + 1) ∧ e = .returned (.int .i64 0) ∧ TagsAt w' p m hd (N.eraseIdx k) g nw ∧ Upd w1 w' (Foot p m (hd :: N))))

set_option maxRecDepth 10000 in
theorem drop_any (p t : Nat) (N : List Nd) (g nw : Nat) (w : World) (h : TagsIs w p N g nw) :
    Calls Try.prog 39 #[ptrTo p, .int .u64 t] w (DropPost p t N g nw w) := by
  have HF := Lib.hid (find_std p t N g nw w h)
  clear h
  go_enter Try.func39, Try.ntmps39
  go_wp2_with fail
  refine HF.out.mono ?_
  rintro e w1 ⟨m, hd, hB, ⟨i, x, hi, hS, rfl⟩ | ⟨hG, rfl⟩⟩
  · by_cases ht : t = 0
    · have htd : ((t : Int) == 0) = true := by rw [beq_iff_eq]; omega
      have HB := Lib.hid hB
      have HT := Lib.hid ht
      clear hB hS hi HF ht
      go_wp2
      go_ret
      exact ⟨w1, m, hd, HB.out, Or.inl ⟨rfl, Or.inl HT.out, rfl⟩⟩
    · have htd : ((t : Int) == 0) = false := by rw [beq_eq_false_iff_ne]; omega
      obtain ⟨k, rfl⟩ : ∃ k, i = k + 1 := ⟨i - 1, by have := hS.2.2; omega⟩
      obtain ⟨pv, hpv⟩ : ∃ y, (hd :: N)[k]? = some y := ⟨(hd :: N)[k]'(by have := hS.1; simp; omega), by rw [List.getElem?_eq_getElem]⟩
      have hxt : x.name = t := (nameAt_of hB.1.zero.1 hi).symm.trans hS.2.1
      obtain ⟨L, hM, hL⟩ := hB.1.map
      obtain ⟨hI, hD⟩ := hB.1.keys hL
      obtain ⟨j, hj⟩ := findI_mem L 0 (hL.mem_iff.2 (List.mem_map.2 ⟨x, List.mem_of_getElem? hi, rfl⟩)) hD hI
      rw [hxt] at hj
      have hLj : L[j]? = some (.int .u64 x.name, ptrTo x.blk) := by
        obtain ⟨q, h1, h2⟩ := findI_some L 0 j _ hj
        rw [show j - 0 = j by omega] at h2
        obtain ⟨a, ha⟩ := hI _ (List.mem_of_getElem? h2)
        simp at ha
        rw [h2, hxt, ha.1]
      have bx := hB.1.nodes (k + 1) x hi
      have bp := hB.1.nodes k pv hpv
      rw [if_neg (by omega), show k + 1 - 1 = k by omega, hpv] at bx
      rw [hi] at bp
      have hpx : pv.blk ≠ x.blk := fun e => by have := hB.1.nodes.inj hB.1.names hpv hi e; omega
      have htp : p ≠ pv.blk := hB.1.top.ty bp (by decide)
      have htx : p ≠ x.blk := hB.1.top.ty bx (by decide)
      have hmp : m ≠ p := hM.ne hB.1.top
      have hmv : m ≠ pv.blk := hM.ne bp
      have x2 : w1.cell? ⟨x.blk, 2, none⟩ = some (.pointer (some ⟨pv.blk, 0, none⟩)) := bx.cell 2
      have x3 : w1.cell? ⟨x.blk, 3, none⟩ = some (ptrN (hd :: N)[k + 1 + 1]?) := bx.cell 3
      have v3 : w1.cell? ⟨pv.blk, 3, none⟩ = some (.pointer (some ⟨x.blk, 0, none⟩)) := bp.cell 3
      have fv3 := bp.free 3
      have p0 : w1.cell? ⟨p, 0, none⟩ = some (.map (some m)) := hB.1.top.cell 0
      have HM := Lib.hid hM
      have HI := Lib.hid hI
      have HJ := Lib.hid hj
      have HL := Lib.hid (And.intro hL hLj)
      have HK := Lib.hid (And.intro hi hpv)
      have HS := Lib.hid hS
      clear hM hI hj hL hLj hi hpv hS hD HF hxt
      rw [List.getElem?_cons_succ] at x3
      cases hy : N[k + 1]? with
      | none =>
        rw [hy, show ptrN none = Value.pointer none from rfl] at x3
        have HY : Hid ((hd :: N)[k + 2]? = none) := Lib.hid (by rw [List.getElem?_cons_succ]; exact hy)
        have HB := Lib.hid hB
        have BB := Lib.hid (And.intro bx bp)
        clear hy hB bx bp
        go_wp2
        refine stillT 10 (by kernel_rfl) (by kernel_rfl) ?_
        simp only [List.take_succ_cons, List.take_zero, List.drop_succ_cons, List.drop_zero]
        repeat still_step
        refine wpStill_nil ?_
        go_wp2_with (refine wpl_delete rfl rfl Try.underlying69 Try.underlying74 rfl rfl (by exact HM.out.at_ (hq_set hmv)) HI.out HJ.out ?_; intro w5 hM5 hU5)
        go_ret
        obtain ⟨w4, hw4⟩ : ∃ w4, w4 = w1.setCell ⟨pv.blk, 3, none⟩ (.pointer none) := ⟨_, rfl⟩
        have hU5 : Upd w4 w5 (· = m) := by rw [hw4]; exact ⟨hU5.os, hU5.tape, hU5.output, hU5.size, hU5.block⟩
        have U4 : Upd w1 w4 (fun i => i = pv.blk) := by
          rw [hw4]
          exact Upd.set (Upd.refl _ _) _ _ (fun _ => rfl)
        refine ⟨w1, m, hd, HB.out, Or.inr ⟨k, HS.out, rfl, TagsAt.del HB.out.1 HK.out.2 HK.out.1 ?_ ?_ ?_ ?_ ?_, ?_⟩⟩
        · refine hU5.blk (U4.blk HB.out.1.top ?_) (by show ¬ (p = m); omega)
          show ¬ (p = pv.blk); omega
        · refine hU5.blk ?_ (by show ¬ (pv.blk = m); omega)
          rw [hw4, HY.out]
          exact BB.out.2.set 3 _
        · intro y' hy'
          rw [HY.out] at hy'
          cases hy'
        · intro i n hi h1 h2 h3
          have bn := HB.out.1.nodes i n hi
          have nv : n.blk ≠ pv.blk := fun e => h1 (HB.out.1.nodes.inj HB.out.1.names hi HK.out.2 e)
          have nm := HM.out.ne bn
          exact hU5.blk (U4.blk bn (by show ¬ (n.blk = pv.blk); omega)) (by show ¬ (n.blk = m); omega)
        · exact ⟨L, j, hM5, HL.out.2, HL.out.1⟩
        · refine (U4.mono (G := Foot p m (hd :: N)) ?_).trans hU5 (fun i _ e => Or.inr (Or.inl e))
          intro i _ h
          exact Or.inr (Or.inr ⟨pv, List.mem_of_getElem? HK.out.2, h⟩)
      | some y =>
        rw [hy, show ptrN (some y) = Value.pointer (some ⟨y.blk, 0, none⟩) from rfl] at x3
        have hyy : (hd :: N)[k + 2]? = some y := by rw [List.getElem?_cons_succ]; exact hy
        have by' := hB.1.nodes (k + 2) y hyy
        rw [if_neg (by omega), show k + 2 - 1 = k + 1 by omega, HK.out.1] at by'
        have hxy : x.blk ≠ y.blk := fun e => by have := hB.1.nodes.inj hB.1.names HK.out.1 hyy e; omega
        have hpy : pv.blk ≠ y.blk := fun e => by have := hB.1.nodes.inj hB.1.names HK.out.2 hyy e; omega
        have hty : p ≠ y.blk := hB.1.top.ty by' (by decide)
        have hmy : m ≠ y.blk := HM.out.ne by'
        have y2 : w1.cell? ⟨y.blk, 2, none⟩ = some (.pointer (some ⟨x.blk, 0, none⟩)) := by'.cell 2
        have fy2 := by'.free 2
        have HY := Lib.hid hyy
        have HB := Lib.hid hB
        have BB := Lib.hid (And.intro bx (And.intro bp by'))
        clear hy hB bx bp by' hyy
        go_wp2
        refine stillT 10 (by kernel_rfl) (by kernel_rfl) ?_
        simp only [List.take_succ_cons, List.take_zero, List.drop_succ_cons, List.drop_zero]
        repeat still_step
        refine wpStill_nil ?_
        go_wp2
        refine stillT 10 (by kernel_rfl) (by kernel_rfl) ?_
        simp only [List.take_succ_cons, List.take_zero, List.drop_succ_cons, List.drop_zero]
        repeat still_step
        refine wpStill_nil ?_
        go_wp2_with (refine wpl_delete rfl rfl Try.underlying69 Try.underlying74 rfl rfl (by exact HM.out.at_ ((hq_set hmy).trans (hq_set hmv))) HI.out HJ.out ?_; intro w5 hM5 hU5)
        go_ret
        obtain ⟨w4, hw4⟩ : ∃ w4, w4 = (w1.setCell ⟨pv.blk, 3, none⟩ (.pointer (some ⟨y.blk, 0, none⟩))).setCell ⟨y.blk, 2, none⟩ (.pointer (some ⟨pv.blk, 0, none⟩)) := ⟨_, rfl⟩
        have hU5 : Upd w4 w5 (· = m) := by rw [hw4]; exact ⟨hU5.os, hU5.tape, hU5.output, hU5.size, hU5.block⟩
        have U4 : Upd w1 w4 (fun i => i = pv.blk ∨ i = y.blk) := by
          rw [hw4]
          refine Upd.set (Upd.set (Upd.refl _ _) _ _ ?_) _ _ ?_
          · exact fun _ => Or.inl rfl
          · exact fun _ => Or.inr rfl
        refine ⟨w1, m, hd, HB.out, Or.inr ⟨k, HS.out, rfl, TagsAt.del HB.out.1 HK.out.2 HK.out.1 ?_ ?_ ?_ ?_ ?_, ?_⟩⟩
        · refine hU5.blk (U4.blk HB.out.1.top ?_) (by show ¬ (p = m); omega)
          show ¬ (p = pv.blk ∨ p = y.blk); omega
        · refine hU5.blk ?_ (by show ¬ (pv.blk = m); omega)
          rw [hw4, HY.out]
          exact (BB.out.2.1.set 3 _).far _ _ hpy
        · intro y' hy'
          rw [HY.out] at hy'
          cases hy'
          refine hU5.blk ?_ (by show ¬ (y.blk = m); omega)
          rw [hw4]
          exact (BB.out.2.2.far _ _ hpy.symm).set 2 _
        · intro i n hi h1 h2 h3
          have bn := HB.out.1.nodes i n hi
          have nv : n.blk ≠ pv.blk := fun e => h1 (HB.out.1.nodes.inj HB.out.1.names hi HK.out.2 e)
          have ny : n.blk ≠ y.blk := fun e => h3 (HB.out.1.nodes.inj HB.out.1.names hi HY.out e)
          have nm := HM.out.ne bn
          exact hU5.blk (U4.blk bn (by show ¬ (n.blk = pv.blk ∨ n.blk = y.blk); omega)) (by show ¬ (n.blk = m); omega)
        · exact ⟨L, j, hM5, HL.out.2, HL.out.1⟩
        · refine (U4.mono (G := Foot p m (hd :: N)) ?_).trans hU5 (fun i _ e => Or.inr (Or.inl e))
          intro i _ h
          rcases h with h | h
          · exact Or.inr (Or.inr ⟨pv, List.mem_of_getElem? HK.out.2, h⟩)
          · exact Or.inr (Or.inr ⟨y, List.mem_of_getElem? HY.out, h⟩)
  · have HB := Lib.hid hB
    have HG := Lib.hid hG
    clear hB hG HF
    go_wp2
    go_ret
    exact ⟨w1, m, hd, HB.out, Or.inl ⟨rfl, Or.inr HG.out, rfl⟩⟩

end Go.Proofs.Ytnhgeoccknhiiaa
