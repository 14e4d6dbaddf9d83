/- After, walked. -/
import Derived.Test.YtnhgeoccknhiiaaTagsE
namespace Go.Proofs.Ytnhgeoccknhiiaa
open Go.RowKit

def gapAt (N : List Nd) (k : Nat) : Nat := labAt N (k + 1) - labAt N k
def Rise (N : List Nd) : Prop := ∀ k, k ≤ N.length → labAt N k < labAt N (k + 1) ∧ labAt N (k + 1) ≤ 4611686018427387904

def OneMore (p m : Nat) (hd : Nd) (N : List Nd) (g nw k : Nat) (w : World) (e : Ending) (w' : World) : Prop :=
  ∃ b N' nw', e = .returned (.tuple #[.int .u64 (g + 1 : Nat), .int .i64 0]) ∧ TagsAt w' p m hd N' (g + 1) nw' ∧ Upd w w' (Foot p m (hd :: N)) ∧ w.heap.size ≤ b ∧
    ((2 ≤ gapAt N k ∧ N' = N.insertIdx k ⟨g + 1, labAt N k + gapAt N k / 2, b⟩ ∧ nw' = nw + 1) ∨
     (gapAt N k < 2 ∧ N' = relab (stepOf (N.length + 1)) (N.length + 1) (N.insertIdx k ⟨g + 1, 0, b⟩) ∧ Wrote (N.insertIdx k ⟨g + 1, 0, b⟩) (N.length + 1) nw nw'))

def AfterPost (p t : Nat) (N : List Nd) (g nw : Nat) (w : World) (e : Ending) (w' : World) : Prop :=
  ∃ w1 m hd, Begun p N g nw w w1 m hd ∧
    ((w1 = w' ∧ (∀ n ∈ hd :: N, n.name ≠ t) ∧ e = .returned (.tuple #[.int .u64 0, .int .i64 10])) ∨
     (∃ k x, (hd :: N)[k]? = some x ∧ x.name = t ∧
        ((w1 = w' ∧ 8192 ≤ N.length ∧ e = .returned (.tuple #[.int .u64 0, .int .i64 11])) ∨ (N.length < 8192 ∧ OneMore p m hd N g nw k w1 e w'))))

theorem MapIs.entries {w : World} {p m : Nat} {hd : Nd} {N : List Nd} {g nw : Nat} (h : TagsAt w p m hd N g nw) (hf : ∀ n ∈ hd :: N, n.name ≠ g + 1) :
    ∃ L, MapIs w m L ∧ IntKeys .u64 L ∧ findI ((g + 1 : Nat) : Int) L 0 = none ∧ L.Perm ((hd :: N).map fun n => (.int .u64 n.name, ptrTo n.blk)) := by
  obtain ⟨L, hM, hL⟩ := h.map
  refine ⟨L, hM, (h.keys hL).1, findI_none L 0 (fun x hx q e => ?_), hL⟩
  obtain ⟨n, hn, rfl⟩ := List.mem_map.1 (hL.mem_iff.1 hx)
  simp at e
  exact hf n hn (by omega)

set_option maxRecDepth 10000 in
set_option maxHeartbeats 1000000 in
theorem after_any (p t : Nat) (N : List Nd) (g nw : Nat) (w : World) (h : TagsIs w p N g nw) (hN : N.length ≤ 8192) (hg : g < 4611686018427387904) (hwr : nw + 8192 < 4611686018427387904) (hR : Rise N) (hf : ∀ n ∈ N, n.name ≤ g) :
    Calls Try.prog 36 #[ptrTo p, .int .u64 t] w (AfterPost p t N g nw w) := by
  have HF := Lib.hid (find_any p t N g nw w h)
  clear h
  unfold ptrTo at *
  go_enter Try.func36, Try.ntmps36
  go_wp2_with fail
  refine HF.out.mono ?_
  have HR := Lib.hid hR
  have HG := Lib.hid hf
  clear hR hf HF
  rintro e w1 ⟨m, hd, hB0, ⟨x, hx, rfl, rfl⟩ | ⟨hx, rfl⟩⟩
  all_goals have HB0 := Lib.hid hB0
  all_goals have hT := hB0.1
  all_goals clear hB0
  · obtain ⟨k, hk⟩ := List.mem_iff_getElem?.1 hx
    have HL := Lib.hid (len_old p m hd N g nw w1 hT hN)
    have HT := Lib.hid hT
    have HK := Lib.hid hk
    have hkl : k ≤ N.length := by have := (List.getElem?_eq_some_iff.1 hk).1; simp at this; omega
    clear hT hk hx
    unfold ptrTo at *
    go_wp2_with fail
    refine HL.out.mono ?_
    rintro e w2 ⟨rfl, rfl⟩
    by_cases hn : 8192 ≤ N.length
    · have hnd : decide ((N.length : Int) ≥ 8192) = true := decide_eq_true (by omega)
      go_wp2
      go_ret2
      exact ⟨w1, m, hd, HB0.out, Or.inr ⟨k, x, HK.out, rfl, Or.inl ⟨rfl, hn, rfl⟩⟩⟩
    · have hnd : decide ((N.length : Int) ≥ 8192) = false := decide_eq_false (by omega)
      have HP : ∀ e w', OneMore p m hd N g nw k w1 e w' → AfterPost p x.name N g nw w e w' := fun e w' hP => ⟨w1, m, hd, HB0.out, Or.inr ⟨k, x, HK.out, rfl, Or.inr ⟨by omega, hP⟩⟩⟩
      have HP := Lib.hid HP
      have hnew : ∀ n ∈ hd :: N, n.name ≠ g + 1 := fun n hn e => by
        rcases List.mem_cons.1 hn with rfl | hn
        · have := HT.out.zero.1; omega
        · have := HG.out n hn; omega
      obtain ⟨L, hM, hI, hF, hL⟩ := MapIs.entries HT.out hnew
      have HM := Lib.hid hM
      have HI := Lib.hid hI
      have HFN := Lib.hid hF
      have HLP := Lib.hid hL
      have HNEW := Lib.hid hnew
      have hmp : m ≠ p := hM.ne HT.out.top
      have bx := HT.out.nodes k x HK.out
      obtain ⟨pv, hpv⟩ : ∃ pv, pv = (if k = 0 then none else (hd :: N)[k - 1]?) := ⟨_, rfl⟩
      rw [← hpv] at bx
      have HPV := Lib.hid hpv
      clear hpv
      have hmx : m ≠ x.blk := hM.ne bx
      have lm := hM.lt
      have hxl : labAt N k = x.label := labAt_of HT.out.zero.2 HK.out
      have hr := HR.out k hkl
      have h2 : w1.cell? ⟨p, 2, none⟩ = some (.int .u64 g) := HT.out.top.cell 2
      have h0 : w1.cell? ⟨p, 0, none⟩ = some (.map (some m)) := HT.out.top.cell 0
      have f2 := HT.out.top.free 2
      have hx1 : w1.cell? ⟨x.blk, 1, none⟩ = some (.int .u64 x.label) := bx.cell 1
      have fx3 := bx.free 3
      have lx := bx.lt
      have lp := HT.out.top.lt
      have hpx : p ≠ x.blk := HT.out.top.ty bx (by decide)
      have hx3 : w1.cell? ⟨x.blk, 3, none⟩ = some (ptrN (hd :: N)[k + 1]?) := bx.cell 3
      rw [List.getElem?_cons_succ] at hx3
      clear hM hI hF hL hnew
      have hb : ∃ b, b = w1.heap.size := ⟨_, rfl⟩
      obtain ⟨b, hb⟩ := hb
      have HB := Lib.hid hb
      clear hb
      cases hy : N[k]? with
      | none =>
        have hyl : labAt N (k + 1) = 4611686018427387904 := by simp [labAt, hy]
        rw [hxl, hyl] at hr
        obtain ⟨top, htop⟩ : ∃ top : Nat, top = 4611686018427387904 := ⟨_, rfl⟩
        have HTOP := Lib.hid htop
        have HGAP : Hid (gapAt N k = top - x.label) := Lib.hid (by unfold gapAt; rw [hxl, hyl, htop])
        rw [← htop] at hr
        have HXL := Lib.hid hxl
        rw [hy, show ptrN none = Value.pointer none from rfl] at hx3
        rw [List.getElem?_cons_succ, hy] at bx
        have HY := Lib.hid hy
        have BX := Lib.hid bx
        clear hy bx hxl hyl htop
        have hr1 := hr.1
        have hr2 : top ≤ 4611686018427387904 := Nat.le_of_eq HTOP.out
        clear hr
        go_wp2
        go_region
        go_wp2
        generalize hw2 : World.drew _ = w2
        have X2 : Blk w2 x.blk (ndCells x pv none) 130 := by rw [← hw2]; exact (BX.out.far ⟨p, 2, none⟩ _ hpx.symm).alloc _
        have P2 : Blk w2 p [.map (some m), ptrTo hd.blk, .int .u64 ((g : Int) + 1), .int .u64 nw] 73 := by rw [← hw2]; exact (HT.out.top.set 2 (.int .u64 ((g : Int) + 1))).alloc _
        have B2 : Blk w2 w1.heap.size [.int .u64 ((g : Int) + 1), .int .u64 0, .pointer (some ⟨x.blk, 0, none⟩), .pointer none] 130 := by rw [← hw2]; exact Blk.new' (by simp)
        have U2 : Upd w1 w2 (· = p) := by rw [← hw2]; exact (((Upd.refl w1 (· = p)).set _ _ (fun _ => rfl)).alloc _).drew
        rw [← HB.out] at B2
        rw [← HB.out]
        have H2 := Lib.hid (And.intro X2 (And.intro P2 (And.intro B2 U2)))
        have HC := fun n => Calls.quiet_of_same (w := w2) (n := n) ((past_last x _ (w2.drewN n) X2).mono fun _ _ h => ⟨h.1, h.2.symm⟩)
        rw [show (4611686018427387904 : Int) = (top : Int) by rw [HTOP.out]; rfl] at HC
        have HC := Lib.hid HC
        have x1 : w2.cell? ⟨x.blk, 1, none⟩ = some (.int .u64 x.label) := X2.cell 1
        clear X2 P2 B2 U2 hw2
        unfold ptrTo at HC
        go_quiet ((go_at_call 64; exact HC.out _))
        by_cases hgap : 2 ≤ top - x.label
        · have hgd : decide ((top : Int) - (x.label : Int) ≥ 2) = true := decide_eq_true (by omega)
          obtain ⟨lab, hlab⟩ : ∃ lab, lab = x.label + (top - x.label) / 2 := ⟨_, rfl⟩
          have hlb : 0 < lab ∧ lab < 4611686018427387904 := by omega
          have HLAB := Lib.hid hlab
          clear hlab
          go_wp2_with fail
          rw [show (x.label : Int) + ((top : Int) - (x.label : Int)) / 2 = (lab : Int) by have := HLAB.out; omega]
          obtain ⟨X2, P2, B2, U2⟩ := H2.out
          have HC2 := Lib.hid (fun nq => write_other p b _ _ 0 lab nw (w2.drewN nq) B2 rfl P2 rfl (by omega) (by omega))
          clear X2 P2 B2 U2
          unfold ptrTo at HC2
          refine (HC2.out _).mono ?_
          rintro e w3 ⟨rfl, hw3⟩
          have HW3 := Lib.hid hw3
          clear hw3
          obtain ⟨X3, P3, B3, M3, U3⟩ : Blk w3 x.blk (ndCells x pv none) 130 ∧ Blk w3 p [.map (some m), ptrTo hd.blk, .int .u64 ((g : Int) + 1), .int .u64 (nw + 1 : Nat)] 73 ∧ Blk w3 b [.int .u64 ((g : Int) + 1), .int .u64 lab, .pointer (some ⟨x.blk, 0, none⟩), .pointer none] 130 ∧ MapIs w3 m L ∧ Upd w1 w3 (· = p) := by
            obtain ⟨X2, P2, B2, U2⟩ := H2.out
            have hbs := HB.out
            have e3 := HW3.out
            rw [← e3]
            refine ⟨Blk.far (Blk.far X2 _ _ (by show _ ≠ b; omega)) _ _ (by show _ ≠ p; omega), Blk.set (Blk.far P2 _ _ (by show _ ≠ b; omega)) 3 _, Blk.far (Blk.set B2 1 _) _ _ (by show _ ≠ p; omega), ?_, ?_⟩
            · refine HM.out.at_ ((heap_set_ne _ _ _ _ hmp).trans ((heap_set_ne _ _ _ _ (by show _ ≠ b; omega)).trans (U2.block m lm hmp)))
            · exact (Upd.set (Upd.set (U2.drewN _) _ _ (fun h => absurd h (by show ¬ (b < _); omega))) _ _ (fun _ => rfl))
          have p0 : w3.cell? ⟨p, 0, none⟩ = some (.map (some m)) := P3.cell 0
          have x3 : w3.cell? ⟨x.blk, 3, none⟩ = some (.pointer none) := X3.cell 3
          have b0 : w3.cell? ⟨b, 0, none⟩ = some (.int .u64 ((g : Int) + 1)) := B3.cell 0
          have b1 : w3.cell? ⟨b, 1, none⟩ = some (.int .u64 lab) := B3.cell 1
          have fx := X3.free 3
          have ne1 : b ≠ x.blk := by have := HB.out; omega
          have H3 := Lib.hid (And.intro X3 (And.intro P3 (And.intro B3 (And.intro M3 U3))))
          clear X3 P3 B3 M3 U3 x1
          go_wp2
          refine stillT 9 (by kernel_rfl) (by kernel_rfl) ?_
          simp only [List.take_succ_cons, List.take_zero, List.drop_succ_cons, List.drop_zero]
          repeat still_step
          refine wpStill_nil ?_
          generalize hw4 : World.drew _ = w4
          have HW4 := Lib.hid hw4
          clear hw4
          have hbs := HB.out
          obtain ⟨X4, P4, B4, M4, U4, O4⟩ : Blk w4 x.blk (ndCells x pv (some ⟨g + 1, lab, b⟩)) 130 ∧ Blk w4 p [.map (some m), ptrTo hd.blk, .int .u64 ((g : Int) + 1), .int .u64 (nw + 1 : Nat)] 73 ∧ Blk w4 b [.int .u64 ((g : Int) + 1), .int .u64 lab, .pointer (some ⟨x.blk, 0, none⟩), .pointer none] 130 ∧ MapIs w4 m L ∧ Upd w1 w4 (fun i => i = p ∨ i = x.blk) ∧ (∀ i, i < w1.heap.size → i ≠ p → i ≠ x.blk → w4.heap[i]? = w1.heap[i]?) := by
            obtain ⟨X3, P3, B3, M3, U3⟩ := H3.out
            have U4 : Upd w1 w4 (fun i => i = p ∨ i = x.blk) := by
              rw [← HW4.out]
              refine Upd.drew (Upd.set (U3.mono ?_) _ _ ?_)
              · exact fun _ _ h => Or.inl h
              · exact fun _ => Or.inr rfl
            refine ⟨?_, ?_, ?_, ?_, U4, fun i hi h1 h2 => U4.block i hi (fun h => by rcases h with h | h <;> contradiction)⟩ <;> rw [← HW4.out]
            · exact X3.set 3 _
            · exact P3.far _ _ hpx
            · exact B3.far _ _ ne1
            · exact M3.at_ (hq_set hmx)
          have H4 := Lib.hid (And.intro X4 (And.intro P4 (And.intro U4 O4)))
          clear X4 P4 U4 O4 hbs p0 x3 b0 b1 fx
          go_wp2_with (refine wpl_insert rfl (Or.inr rfl) Try.underlying69 Try.underlying74 rfl (k := (g : Int) + 1) rfl (val := .pointer (some ⟨b, 0, none⟩)) rfl M4 HI.out (by exact_mod_cast HFN.out) ?_; intro w5 hM5 hU5; have B5 := hU5.blk B4 (by have := HB.out; show ¬ (b = m); omega); have b0 : w5.cell? ⟨b, 0, none⟩ = some (.int .u64 ((g : Int) + 1)) := B5.cell 0; have b1 : w5.cell? ⟨b, 1, none⟩ = some (.int .u64 lab) := B5.cell 1; have hl0 : ((lab : Int) == 0) = false := by rw [beq_eq_false_iff_ne]; omega)
          go_ret2
          have HINS : TagsAt w5 p m hd (N.insertIdx k ⟨g + 1, lab, b⟩) (g + 1) (nw + 1) ∧ Upd w1 w5 (Foot p m (hd :: N)) := by
            obtain ⟨X4, P4, U4, O4⟩ := H4.out
            refine ⟨TagsAt.ins HT.out HK.out (new := ⟨g + 1, lab, b⟩) HNEW.out (g' := g + 1) (nw' := nw + 1) ?_ ?_ ?_ ?_ ?_ ?_, ?_⟩
            · exact hU5.blk P4 (by show ¬ (p = m); omega)
            · have e := HY.out
              rw [List.getElem?_cons_succ, e]
              exact B5
            · rw [← HPV.out]
              exact hU5.blk X4 (by show ¬ (x.blk = m); omega)
            · intro y' hy'
              rw [List.getElem?_cons_succ, HY.out] at hy'
              cases hy'
            · intro j n hj h1 h2
              have bn := HT.out.nodes j n hj
              have nx : n.blk ≠ x.blk := fun e => h1 (HT.out.nodes.inj HT.out.names hj HK.out e)
              have np : n.blk ≠ p := (HT.out.top.ty bn (by decide)).symm
              exact hU5.blk (bn.at_ (O4 _ bn.lt np nx)) (by have := HM.out.ne bn; show ¬ (n.blk = m); omega)
            · exact ⟨_, hM5, HLP.out.append_right _⟩
            · refine (U4.mono (G := Foot p m (hd :: N)) ?_).trans hU5 (fun i _ e => Or.inr (Or.inl e))
              intro i _ h
              rcases h with h | h
              · exact Or.inl h
              · exact Or.inr (Or.inr ⟨x, List.mem_of_getElem? HK.out, h⟩)
          refine HP.out _ _ ⟨b, _, _, rfl, HINS.1, HINS.2, by have := HB.out; omega, Or.inl ⟨by rw [HGAP.out]; exact hgap, by rw [HGAP.out, HXL.out, ← HLAB.out], rfl⟩⟩
        · have hgd : decide ((top : Int) - (x.label : Int) ≥ 2) = false := decide_eq_false (by omega)
          obtain ⟨lab, hlab⟩ : ∃ lab : Nat, lab = 0 := ⟨_, rfl⟩
          have HLAB := Lib.hid hlab
          clear hlab
          generalize hw3 : World.drewN w2 _ = w3
          have HW3 := Lib.hid hw3
          clear hw3
          obtain ⟨X3, P3, B3, M3, U3⟩ : Blk w3 x.blk (ndCells x pv none) 130 ∧ Blk w3 p [.map (some m), ptrTo hd.blk, .int .u64 ((g : Int) + 1), .int .u64 (nw : Nat)] 73 ∧ Blk w3 b [.int .u64 ((g : Int) + 1), .int .u64 lab, .pointer (some ⟨x.blk, 0, none⟩), .pointer none] 130 ∧ MapIs w3 m L ∧ Upd w1 w3 (· = p) := by
            obtain ⟨X2, P2, B2, U2⟩ := H2.out
            have hbs := HB.out
            have e3 := HW3.out
            rw [← e3]
            refine ⟨X2, P2, by rw [HLAB.out]; exact B2, HM.out.at_ (U2.block m lm hmp), U2.drewN _⟩
          have p0 : w3.cell? ⟨p, 0, none⟩ = some (.map (some m)) := P3.cell 0
          have x3 : w3.cell? ⟨x.blk, 3, none⟩ = some (.pointer none) := X3.cell 3
          have b0 : w3.cell? ⟨b, 0, none⟩ = some (.int .u64 ((g : Int) + 1)) := B3.cell 0
          have b1 : w3.cell? ⟨b, 1, none⟩ = some (.int .u64 lab) := B3.cell 1
          have fx := X3.free 3
          have ne1 : b ≠ x.blk := by have := HB.out; omega
          have H3 := Lib.hid (And.intro X3 (And.intro P3 (And.intro B3 (And.intro M3 U3))))
          clear X3 P3 B3 M3 U3 x1
          go_wp2
          refine stillT 9 (by kernel_rfl) (by kernel_rfl) ?_
          simp only [List.take_succ_cons, List.take_zero, List.drop_succ_cons, List.drop_zero]
          repeat still_step
          refine wpStill_nil ?_
          generalize hw4 : World.drew _ = w4
          have HW4 := Lib.hid hw4
          clear hw4
          have hbs := HB.out
          obtain ⟨X4, P4, B4, M4, U4, O4⟩ : Blk w4 x.blk (ndCells x pv (some ⟨g + 1, lab, b⟩)) 130 ∧ Blk w4 p [.map (some m), ptrTo hd.blk, .int .u64 ((g : Int) + 1), .int .u64 (nw : Nat)] 73 ∧ Blk w4 b [.int .u64 ((g : Int) + 1), .int .u64 lab, .pointer (some ⟨x.blk, 0, none⟩), .pointer none] 130 ∧ MapIs w4 m L ∧ Upd w1 w4 (fun i => i = p ∨ i = x.blk) ∧ (∀ i, i < w1.heap.size → i ≠ p → i ≠ x.blk → w4.heap[i]? = w1.heap[i]?) := by
            obtain ⟨X3, P3, B3, M3, U3⟩ := H3.out
            have U4 : Upd w1 w4 (fun i => i = p ∨ i = x.blk) := by
              rw [← HW4.out]
              refine Upd.drew (Upd.set (U3.mono ?_) _ _ ?_)
              · exact fun _ _ h => Or.inl h
              · exact fun _ => Or.inr rfl
            refine ⟨?_, ?_, ?_, ?_, U4, fun i hi h1 h2 => U4.block i hi (fun h => by rcases h with h | h <;> contradiction)⟩ <;> rw [← HW4.out]
            · exact X3.set 3 _
            · exact P3.far _ _ hpx
            · exact B3.far _ _ ne1
            · exact M3.at_ (hq_set hmx)
          have H4 := Lib.hid (And.intro X4 (And.intro P4 (And.intro U4 O4)))
          clear X4 P4 U4 O4 hbs p0 x3 b0 b1 fx
          go_wp2_with (refine wpl_insert rfl (Or.inr rfl) Try.underlying69 Try.underlying74 rfl (k := (g : Int) + 1) rfl (val := .pointer (some ⟨b, 0, none⟩)) rfl M4 HI.out (by exact_mod_cast HFN.out) ?_; intro w5 hM5 hU5; have B5 := hU5.blk B4 (by have := HB.out; show ¬ (b = m); omega); have b0 : w5.cell? ⟨b, 0, none⟩ = some (.int .u64 ((g : Int) + 1)) := B5.cell 0; have b1 : w5.cell? ⟨b, 1, none⟩ = some (.int .u64 lab) := B5.cell 1; have hl0 : ((lab : Int) == 0) = true := by rw [HLAB.out]; rfl)
          have HINS : TagsAt w5 p m hd (N.insertIdx k ⟨g + 1, lab, b⟩) (g + 1) nw ∧ Upd w1 w5 (Foot p m (hd :: N)) := by
            obtain ⟨X4, P4, U4, O4⟩ := H4.out
            refine ⟨TagsAt.ins HT.out HK.out (new := ⟨g + 1, lab, b⟩) HNEW.out (g' := g + 1) (nw' := nw) ?_ ?_ ?_ ?_ ?_ ?_, ?_⟩
            · exact hU5.blk P4 (by show ¬ (p = m); omega)
            · have e := HY.out
              rw [List.getElem?_cons_succ, e]
              exact B5
            · rw [← HPV.out]
              exact hU5.blk X4 (by show ¬ (x.blk = m); omega)
            · intro y' hy'
              rw [List.getElem?_cons_succ, HY.out] at hy'
              cases hy'
            · intro j n hj h1 h2
              have bn := HT.out.nodes j n hj
              have nx : n.blk ≠ x.blk := fun e => h1 (HT.out.nodes.inj HT.out.names hj HK.out e)
              have np : n.blk ≠ p := (HT.out.top.ty bn (by decide)).symm
              exact hU5.blk (bn.at_ (O4 _ bn.lt np nx)) (by have := HM.out.ne bn; show ¬ (n.blk = m); omega)
            · exact ⟨_, hM5, HLP.out.append_right _⟩
            · refine (U4.mono (G := Foot p m (hd :: N)) ?_).trans hU5 (fun i _ e => Or.inr (Or.inl e))
              intro i _ h
              rcases h with h | h
              · exact Or.inl h
              · exact Or.inr (Or.inr ⟨x, List.mem_of_getElem? HK.out, h⟩)
          have hlen : (N.insertIdx k ⟨g + 1, lab, b⟩).length = N.length + 1 := by rw [List.length_insertIdx, if_pos hkl]
          have HS := Lib.hid (spread_any p m hd _ (g + 1) nw w5 HINS.1 (by rw [hlen]; omega) (by omega))
          have HINS := Lib.hid HINS.2
          have HLEN := Lib.hid hlen
          clear hlen
          unfold ptrTo at HS
          refine HS.out.mono ?_
          rintro e w6 ⟨rfl, nw6, hT6, hW6, hU6⟩
          rw [HLEN.out] at hT6 hW6
          have b6 : ∃ c, Blk w6 b c 130 ∧ c[0]? = some (.int .u64 ((g : Int) + 1)) := by
            have hi : (hd :: relab (stepOf (N.length + 1)) (N.length + 1) (N.insertIdx k ⟨g + 1, lab, b⟩))[k + 1]? = some ((⟨g + 1, lab, b⟩ : Nd).put (stepOf (N.length + 1) * (k + 1))) := by
              rw [List.getElem?_cons_succ, relab_get, List.getElem?_insertIdx_self, if_pos hkl, Option.map_some, if_pos (by omega)]
            have := hT6.nodes _ _ hi
            exact ⟨_, this, rfl⟩
          obtain ⟨c6, b6, e6⟩ := b6
          have b60 : w6.cell? ⟨b, 0, none⟩ = some (.int .u64 ((g : Int) + 1)) := (b6.cell 0).trans e6
          have H6 := Lib.hid (And.intro hT6 (And.intro hW6 hU6))
          clear hT6 hW6 hU6 b6 e6
          go_wp2
          go_ret2
          obtain ⟨hT6, hW6, hU6⟩ := H6.out
          rw [HLAB.out] at hT6 hW6
          refine HP.out _ _ ⟨b, _, nw6, rfl, hT6, HINS.out.trans hU6 ?_, by have := HB.out; omega, Or.inr ⟨by rw [HGAP.out]; omega, rfl, hW6⟩⟩
          intro i hi h
          rcases h with h | h | ⟨n, hn, h⟩
          · exact Or.inl h
          · exact Or.inr (Or.inl h)
          · rcases List.mem_cons.1 hn with rfl | hn
            · exact Or.inr (Or.inr ⟨_, List.mem_cons_self, h⟩)
            · rcases List.mem_insertIdx hkl |>.1 hn with rfl | hn
              · exact absurd h (by have := HB.out; show ¬ (i = b); omega)
              · exact Or.inr (Or.inr ⟨n, List.mem_cons_of_mem _ hn, h⟩)
      | some y =>
        have by' := HT.out.nodes (k + 1) y (by rw [List.getElem?_cons_succ]; exact hy)
        have hyl : labAt N (k + 1) = y.label := by simp [labAt, hy]
        rw [hxl, hyl] at hr
        obtain ⟨top, htop⟩ : ∃ top, top = y.label := ⟨_, rfl⟩
        have HTOP := Lib.hid htop
        have HGAP : Hid (gapAt N k = top - x.label) := Lib.hid (by unfold gapAt; rw [hxl, hyl, htop])
        rw [← htop] at hr
        have HXL := Lib.hid hxl
        have hxy : x.blk ≠ y.blk := fun e => by have := HT.out.nodes.inj HT.out.names HK.out (show (hd :: N)[k + 1]? = some y by rw [List.getElem?_cons_succ]; exact hy) e; omega
        have hpy : p ≠ y.blk := HT.out.top.ty by' (by decide)
        have hmy : m ≠ y.blk := HM.out.ne by'
        have ly := by'.lt
        rw [hy, show ptrN (some y) = Value.pointer (some ⟨y.blk, 0, none⟩) from rfl] at hx3
        rw [List.getElem?_cons_succ, hy] at bx
        rw [if_neg (by omega), show k + 1 - 1 = k by omega, HK.out, List.getElem?_cons_succ] at by'
        have hy2 : w1.cell? ⟨y.blk, 2, none⟩ = some (ptrN (some x)) := by'.cell 2
        have fy2 := by'.free 2
        have HY := Lib.hid hy
        have BX := Lib.hid bx
        have BY := Lib.hid by'
        clear hy bx by' hxl hyl htop
        have hr1 := hr.1
        have hr2 : top ≤ 4611686018427387904 := hr.2
        clear hr
        go_wp2
        go_region
        go_wp2
        generalize hw2 : World.drew _ = w2
        have X2 : Blk w2 x.blk (ndCells x pv (some y)) 130 := by rw [← hw2]; exact (BX.out.far ⟨p, 2, none⟩ _ hpx.symm).alloc _
        have Y2 : Blk w2 y.blk (ndCells y (some x) N[k + 1]?) 130 := by rw [← hw2]; exact (BY.out.far ⟨p, 2, none⟩ _ hpy.symm).alloc _
        have P2 : Blk w2 p [.map (some m), ptrTo hd.blk, .int .u64 ((g : Int) + 1), .int .u64 nw] 73 := by rw [← hw2]; exact (HT.out.top.set 2 (.int .u64 ((g : Int) + 1))).alloc _
        have B2 : Blk w2 w1.heap.size [.int .u64 ((g : Int) + 1), .int .u64 0, .pointer (some ⟨x.blk, 0, none⟩), .pointer (some ⟨y.blk, 0, none⟩)] 130 := by rw [← hw2]; exact Blk.new' (by simp)
        have U2 : Upd w1 w2 (· = p) := by rw [← hw2]; exact (((Upd.refl w1 (· = p)).set _ _ (fun _ => rfl)).alloc _).drew
        rw [← HB.out] at B2
        rw [← HB.out]
        have H2 := Lib.hid (And.intro X2 (And.intro Y2 (And.intro P2 (And.intro B2 U2))))
        have HC := fun n => Calls.quiet_of_same (w := w2) (n := n) ((past_next x y _ _ (w2.drewN n) X2 Y2).mono fun _ _ h => ⟨h.1, h.2.symm⟩)
        rw [← HTOP.out] at HC
        have HC := Lib.hid HC
        have x1 : w2.cell? ⟨x.blk, 1, none⟩ = some (.int .u64 x.label) := X2.cell 1
        clear X2 Y2 P2 B2 U2 hw2
        unfold ptrTo at HC
        go_quiet ((go_at_call 64; exact HC.out _))
        by_cases hgap : 2 ≤ top - x.label
        · have hgd : decide ((top : Int) - (x.label : Int) ≥ 2) = true := decide_eq_true (by omega)
          obtain ⟨lab, hlab⟩ : ∃ lab, lab = x.label + (top - x.label) / 2 := ⟨_, rfl⟩
          have hlb : 0 < lab ∧ lab < 4611686018427387904 := by omega
          have HLAB := Lib.hid hlab
          clear hlab
          go_wp2_with fail
          rw [show (x.label : Int) + ((top : Int) - (x.label : Int)) / 2 = (lab : Int) by have := HLAB.out; omega]
          obtain ⟨X2, Y2, P2, B2, U2⟩ := H2.out
          have HC2 := Lib.hid (fun nq => write_other p b _ _ 0 lab nw (w2.drewN nq) B2 rfl P2 rfl (by omega) (by omega))
          clear X2 Y2 P2 B2 U2
          unfold ptrTo at HC2
          refine (HC2.out _).mono ?_
          rintro e w3 ⟨rfl, hw3⟩
          have HW3 := Lib.hid hw3
          clear hw3
          obtain ⟨X3, Y3, P3, B3, M3, U3⟩ : Blk w3 x.blk (ndCells x pv (some y)) 130 ∧ Blk w3 y.blk (ndCells y (some x) N[k + 1]?) 130 ∧ Blk w3 p [.map (some m), ptrTo hd.blk, .int .u64 ((g : Int) + 1), .int .u64 (nw + 1 : Nat)] 73 ∧ Blk w3 b [.int .u64 ((g : Int) + 1), .int .u64 lab, .pointer (some ⟨x.blk, 0, none⟩), .pointer (some ⟨y.blk, 0, none⟩)] 130 ∧ MapIs w3 m L ∧ Upd w1 w3 (· = p) := by
            obtain ⟨X2, Y2, P2, B2, U2⟩ := H2.out
            have hbs := HB.out
            have e3 := HW3.out
            rw [← e3]
            refine ⟨Blk.far (Blk.far X2 _ _ (by show _ ≠ b; omega)) _ _ (by show _ ≠ p; omega), Blk.far (Blk.far Y2 _ _ (by show _ ≠ b; omega)) _ _ (by show _ ≠ p; omega), Blk.set (Blk.far P2 _ _ (by show _ ≠ b; omega)) 3 _, Blk.far (Blk.set B2 1 _) _ _ (by show _ ≠ p; omega), ?_, ?_⟩
            · refine HM.out.at_ ((heap_set_ne _ _ _ _ hmp).trans ((heap_set_ne _ _ _ _ (by show _ ≠ b; omega)).trans (U2.block m lm hmp)))
            · exact (Upd.set (Upd.set (U2.drewN _) _ _ (fun h => absurd h (by show ¬ (b < _); omega))) _ _ (fun _ => rfl))
          have p0 : w3.cell? ⟨p, 0, none⟩ = some (.map (some m)) := P3.cell 0
          have x3 : w3.cell? ⟨x.blk, 3, none⟩ = some (.pointer (some ⟨y.blk, 0, none⟩)) := X3.cell 3
          have b0 : w3.cell? ⟨b, 0, none⟩ = some (.int .u64 ((g : Int) + 1)) := B3.cell 0
          have b1 : w3.cell? ⟨b, 1, none⟩ = some (.int .u64 lab) := B3.cell 1
          have fx := X3.free 3
          have ne1 : b ≠ x.blk := by have := HB.out; omega
          have y2 : w3.cell? ⟨y.blk, 2, none⟩ = some (ptrN (some x)) := Y3.cell 2
          have fy := Y3.free 2
          have ne2 : b ≠ y.blk := by have := HB.out; omega
          have H3 := Lib.hid (And.intro X3 (And.intro Y3 (And.intro P3 (And.intro B3 (And.intro M3 U3)))))
          clear X3 Y3 P3 B3 M3 U3 x1
          go_wp2
          refine stillT 9 (by kernel_rfl) (by kernel_rfl) ?_
          simp only [List.take_succ_cons, List.take_zero, List.drop_succ_cons, List.drop_zero]
          repeat still_step
          refine wpStill_nil ?_
          generalize hw4 : World.drew _ = w4
          have HW4 := Lib.hid hw4
          clear hw4
          have hbs := HB.out
          obtain ⟨X4, Y4, P4, B4, M4, U4, O4⟩ : Blk w4 x.blk (ndCells x pv (some ⟨g + 1, lab, b⟩)) 130 ∧ Blk w4 y.blk (ndCells y (some ⟨g + 1, lab, b⟩) N[k + 1]?) 130 ∧ Blk w4 p [.map (some m), ptrTo hd.blk, .int .u64 ((g : Int) + 1), .int .u64 (nw + 1 : Nat)] 73 ∧ Blk w4 b [.int .u64 ((g : Int) + 1), .int .u64 lab, .pointer (some ⟨x.blk, 0, none⟩), .pointer (some ⟨y.blk, 0, none⟩)] 130 ∧ MapIs w4 m L ∧ Upd w1 w4 (fun i => i = p ∨ i = x.blk ∨ i = y.blk) ∧ (∀ i, i < w1.heap.size → i ≠ p → i ≠ x.blk → i ≠ y.blk → w4.heap[i]? = w1.heap[i]?) := by
            obtain ⟨X3, Y3, P3, B3, M3, U3⟩ := H3.out
            have U4 : Upd w1 w4 (fun i => i = p ∨ i = x.blk ∨ i = y.blk) := by
              rw [← HW4.out]
              refine Upd.drew (Upd.set (Upd.set (U3.mono ?_) _ _ ?_) _ _ ?_)
              · exact fun _ _ h => Or.inl h
              · exact fun _ => Or.inr (Or.inr rfl)
              · exact fun _ => Or.inr (Or.inl rfl)
            refine ⟨?_, ?_, ?_, ?_, ?_, U4, fun i hi h1 h2 h3 => U4.block i hi (fun h => by rcases h with h | h | h <;> contradiction)⟩ <;> rw [← HW4.out]
            · exact (X3.far _ _ hxy).set 3 _
            · exact (Y3.set 2 _).far _ _ hxy.symm
            · exact (P3.far _ _ hpy).far _ _ hpx
            · exact (B3.far _ _ ne2).far _ _ ne1
            · exact M3.at_ ((hq_set hmx).trans (hq_set hmy))
          have H4 := Lib.hid (And.intro X4 (And.intro Y4 (And.intro P4 (And.intro U4 O4))))
          clear X4 Y4 P4 U4 O4 hbs p0 x3 y2 b0 b1 fx fy
          go_wp2_with (refine wpl_insert rfl (Or.inr rfl) Try.underlying69 Try.underlying74 rfl (k := (g : Int) + 1) rfl (val := .pointer (some ⟨b, 0, none⟩)) rfl M4 HI.out (by exact_mod_cast HFN.out) ?_; intro w5 hM5 hU5; have B5 := hU5.blk B4 (by have := HB.out; show ¬ (b = m); omega); have b0 : w5.cell? ⟨b, 0, none⟩ = some (.int .u64 ((g : Int) + 1)) := B5.cell 0; have b1 : w5.cell? ⟨b, 1, none⟩ = some (.int .u64 lab) := B5.cell 1; have hl0 : ((lab : Int) == 0) = false := by rw [beq_eq_false_iff_ne]; omega)
          go_ret2
          have HINS : TagsAt w5 p m hd (N.insertIdx k ⟨g + 1, lab, b⟩) (g + 1) (nw + 1) ∧ Upd w1 w5 (Foot p m (hd :: N)) := by
            obtain ⟨X4, Y4, P4, U4, O4⟩ := H4.out
            refine ⟨TagsAt.ins HT.out HK.out (new := ⟨g + 1, lab, b⟩) HNEW.out (g' := g + 1) (nw' := nw + 1) ?_ ?_ ?_ ?_ ?_ ?_, ?_⟩
            · exact hU5.blk P4 (by show ¬ (p = m); omega)
            · have e := HY.out
              rw [List.getElem?_cons_succ, e]
              exact B5
            · rw [← HPV.out]
              exact hU5.blk X4 (by show ¬ (x.blk = m); omega)
            · intro y' hy'
              rw [List.getElem?_cons_succ, HY.out] at hy'
              cases hy'
              rw [List.getElem?_cons_succ]
              exact hU5.blk Y4 (by show ¬ (y.blk = m); omega)
            · intro j n hj h1 h2
              have bn := HT.out.nodes j n hj
              have nx : n.blk ≠ x.blk := fun e => h1 (HT.out.nodes.inj HT.out.names hj HK.out e)
              have ny : n.blk ≠ y.blk := fun e => h2 (HT.out.nodes.inj HT.out.names hj (show (hd :: N)[k + 1]? = some y by rw [List.getElem?_cons_succ]; exact HY.out) e)
              have np : n.blk ≠ p := (HT.out.top.ty bn (by decide)).symm
              exact hU5.blk (bn.at_ (O4 _ bn.lt np nx ny)) (by have := HM.out.ne bn; show ¬ (n.blk = m); omega)
            · exact ⟨_, hM5, HLP.out.append_right _⟩
            · refine (U4.mono (G := Foot p m (hd :: N)) ?_).trans hU5 (fun i _ e => Or.inr (Or.inl e))
              intro i _ h
              rcases h with h | h | h
              · exact Or.inl h
              · exact Or.inr (Or.inr ⟨x, List.mem_of_getElem? HK.out, h⟩)
              · exact Or.inr (Or.inr ⟨y, List.mem_cons_of_mem _ (List.mem_of_getElem? HY.out), h⟩)
          refine HP.out _ _ ⟨b, _, _, rfl, HINS.1, HINS.2, by have := HB.out; omega, Or.inl ⟨by rw [HGAP.out]; exact hgap, by rw [HGAP.out, HXL.out, ← HLAB.out], rfl⟩⟩
        · have hgd : decide ((top : Int) - (x.label : Int) ≥ 2) = false := decide_eq_false (by omega)
          obtain ⟨lab, hlab⟩ : ∃ lab : Nat, lab = 0 := ⟨_, rfl⟩
          have HLAB := Lib.hid hlab
          clear hlab
          generalize hw3 : World.drewN w2 _ = w3
          have HW3 := Lib.hid hw3
          clear hw3
          obtain ⟨X3, Y3, P3, B3, M3, U3⟩ : Blk w3 x.blk (ndCells x pv (some y)) 130 ∧ Blk w3 y.blk (ndCells y (some x) N[k + 1]?) 130 ∧ Blk w3 p [.map (some m), ptrTo hd.blk, .int .u64 ((g : Int) + 1), .int .u64 (nw : Nat)] 73 ∧ Blk w3 b [.int .u64 ((g : Int) + 1), .int .u64 lab, .pointer (some ⟨x.blk, 0, none⟩), .pointer (some ⟨y.blk, 0, none⟩)] 130 ∧ MapIs w3 m L ∧ Upd w1 w3 (· = p) := by
            obtain ⟨X2, Y2, P2, B2, U2⟩ := H2.out
            have hbs := HB.out
            have e3 := HW3.out
            rw [← e3]
            refine ⟨X2, Y2, P2, by rw [HLAB.out]; exact B2, HM.out.at_ (U2.block m lm hmp), U2.drewN _⟩
          have p0 : w3.cell? ⟨p, 0, none⟩ = some (.map (some m)) := P3.cell 0
          have x3 : w3.cell? ⟨x.blk, 3, none⟩ = some (.pointer (some ⟨y.blk, 0, none⟩)) := X3.cell 3
          have b0 : w3.cell? ⟨b, 0, none⟩ = some (.int .u64 ((g : Int) + 1)) := B3.cell 0
          have b1 : w3.cell? ⟨b, 1, none⟩ = some (.int .u64 lab) := B3.cell 1
          have fx := X3.free 3
          have ne1 : b ≠ x.blk := by have := HB.out; omega
          have y2 : w3.cell? ⟨y.blk, 2, none⟩ = some (ptrN (some x)) := Y3.cell 2
          have fy := Y3.free 2
          have ne2 : b ≠ y.blk := by have := HB.out; omega
          have H3 := Lib.hid (And.intro X3 (And.intro Y3 (And.intro P3 (And.intro B3 (And.intro M3 U3)))))
          clear X3 Y3 P3 B3 M3 U3 x1
          go_wp2
          refine stillT 9 (by kernel_rfl) (by kernel_rfl) ?_
          simp only [List.take_succ_cons, List.take_zero, List.drop_succ_cons, List.drop_zero]
          repeat still_step
          refine wpStill_nil ?_
          generalize hw4 : World.drew _ = w4
          have HW4 := Lib.hid hw4
          clear hw4
          have hbs := HB.out
          obtain ⟨X4, Y4, P4, B4, M4, U4, O4⟩ : Blk w4 x.blk (ndCells x pv (some ⟨g + 1, lab, b⟩)) 130 ∧ Blk w4 y.blk (ndCells y (some ⟨g + 1, lab, b⟩) N[k + 1]?) 130 ∧ Blk w4 p [.map (some m), ptrTo hd.blk, .int .u64 ((g : Int) + 1), .int .u64 (nw : Nat)] 73 ∧ Blk w4 b [.int .u64 ((g : Int) + 1), .int .u64 lab, .pointer (some ⟨x.blk, 0, none⟩), .pointer (some ⟨y.blk, 0, none⟩)] 130 ∧ MapIs w4 m L ∧ Upd w1 w4 (fun i => i = p ∨ i = x.blk ∨ i = y.blk) ∧ (∀ i, i < w1.heap.size → i ≠ p → i ≠ x.blk → i ≠ y.blk → w4.heap[i]? = w1.heap[i]?) := by
            obtain ⟨X3, Y3, P3, B3, M3, U3⟩ := H3.out
            have U4 : Upd w1 w4 (fun i => i = p ∨ i = x.blk ∨ i = y.blk) := by
              rw [← HW4.out]
              refine Upd.drew (Upd.set (Upd.set (U3.mono ?_) _ _ ?_) _ _ ?_)
              · exact fun _ _ h => Or.inl h
              · exact fun _ => Or.inr (Or.inr rfl)
              · exact fun _ => Or.inr (Or.inl rfl)
            refine ⟨?_, ?_, ?_, ?_, ?_, U4, fun i hi h1 h2 h3 => U4.block i hi (fun h => by rcases h with h | h | h <;> contradiction)⟩ <;> rw [← HW4.out]
            · exact (X3.far _ _ hxy).set 3 _
            · exact (Y3.set 2 _).far _ _ hxy.symm
            · exact (P3.far _ _ hpy).far _ _ hpx
            · exact (B3.far _ _ ne2).far _ _ ne1
            · exact M3.at_ ((hq_set hmx).trans (hq_set hmy))
          have H4 := Lib.hid (And.intro X4 (And.intro Y4 (And.intro P4 (And.intro U4 O4))))
          clear X4 Y4 P4 U4 O4 hbs p0 x3 y2 b0 b1 fx fy
          go_wp2_with (refine wpl_insert rfl (Or.inr rfl) Try.underlying69 Try.underlying74 rfl (k := (g : Int) + 1) rfl (val := .pointer (some ⟨b, 0, none⟩)) rfl M4 HI.out (by exact_mod_cast HFN.out) ?_; intro w5 hM5 hU5; have B5 := hU5.blk B4 (by have := HB.out; show ¬ (b = m); omega); have b0 : w5.cell? ⟨b, 0, none⟩ = some (.int .u64 ((g : Int) + 1)) := B5.cell 0; have b1 : w5.cell? ⟨b, 1, none⟩ = some (.int .u64 lab) := B5.cell 1; have hl0 : ((lab : Int) == 0) = true := by rw [HLAB.out]; rfl)
          have HINS : TagsAt w5 p m hd (N.insertIdx k ⟨g + 1, lab, b⟩) (g + 1) nw ∧ Upd w1 w5 (Foot p m (hd :: N)) := by
            obtain ⟨X4, Y4, P4, U4, O4⟩ := H4.out
            refine ⟨TagsAt.ins HT.out HK.out (new := ⟨g + 1, lab, b⟩) HNEW.out (g' := g + 1) (nw' := nw) ?_ ?_ ?_ ?_ ?_ ?_, ?_⟩
            · exact hU5.blk P4 (by show ¬ (p = m); omega)
            · have e := HY.out
              rw [List.getElem?_cons_succ, e]
              exact B5
            · rw [← HPV.out]
              exact hU5.blk X4 (by show ¬ (x.blk = m); omega)
            · intro y' hy'
              rw [List.getElem?_cons_succ, HY.out] at hy'
              cases hy'
              rw [List.getElem?_cons_succ]
              exact hU5.blk Y4 (by show ¬ (y.blk = m); omega)
            · intro j n hj h1 h2
              have bn := HT.out.nodes j n hj
              have nx : n.blk ≠ x.blk := fun e => h1 (HT.out.nodes.inj HT.out.names hj HK.out e)
              have ny : n.blk ≠ y.blk := fun e => h2 (HT.out.nodes.inj HT.out.names hj (show (hd :: N)[k + 1]? = some y by rw [List.getElem?_cons_succ]; exact HY.out) e)
              have np : n.blk ≠ p := (HT.out.top.ty bn (by decide)).symm
              exact hU5.blk (bn.at_ (O4 _ bn.lt np nx ny)) (by have := HM.out.ne bn; show ¬ (n.blk = m); omega)
            · exact ⟨_, hM5, HLP.out.append_right _⟩
            · refine (U4.mono (G := Foot p m (hd :: N)) ?_).trans hU5 (fun i _ e => Or.inr (Or.inl e))
              intro i _ h
              rcases h with h | h | h
              · exact Or.inl h
              · exact Or.inr (Or.inr ⟨x, List.mem_of_getElem? HK.out, h⟩)
              · exact Or.inr (Or.inr ⟨y, List.mem_cons_of_mem _ (List.mem_of_getElem? HY.out), h⟩)
          have hlen : (N.insertIdx k ⟨g + 1, lab, b⟩).length = N.length + 1 := by rw [List.length_insertIdx, if_pos hkl]
          have HS := Lib.hid (spread_any p m hd _ (g + 1) nw w5 HINS.1 (by rw [hlen]; omega) (by omega))
          have HINS := Lib.hid HINS.2
          have HLEN := Lib.hid hlen
          clear hlen
          unfold ptrTo at HS
          refine HS.out.mono ?_
          rintro e w6 ⟨rfl, nw6, hT6, hW6, hU6⟩
          rw [HLEN.out] at hT6 hW6
          have b6 : ∃ c, Blk w6 b c 130 ∧ c[0]? = some (.int .u64 ((g : Int) + 1)) := by
            have hi : (hd :: relab (stepOf (N.length + 1)) (N.length + 1) (N.insertIdx k ⟨g + 1, lab, b⟩))[k + 1]? = some ((⟨g + 1, lab, b⟩ : Nd).put (stepOf (N.length + 1) * (k + 1))) := by
              rw [List.getElem?_cons_succ, relab_get, List.getElem?_insertIdx_self, if_pos hkl, Option.map_some, if_pos (by omega)]
            have := hT6.nodes _ _ hi
            exact ⟨_, this, rfl⟩
          obtain ⟨c6, b6, e6⟩ := b6
          have b60 : w6.cell? ⟨b, 0, none⟩ = some (.int .u64 ((g : Int) + 1)) := (b6.cell 0).trans e6
          have H6 := Lib.hid (And.intro hT6 (And.intro hW6 hU6))
          clear hT6 hW6 hU6 b6 e6
          go_wp2
          go_ret2
          obtain ⟨hT6, hW6, hU6⟩ := H6.out
          rw [HLAB.out] at hT6 hW6
          refine HP.out _ _ ⟨b, _, nw6, rfl, hT6, HINS.out.trans hU6 ?_, by have := HB.out; omega, Or.inr ⟨by rw [HGAP.out]; omega, rfl, hW6⟩⟩
          intro i hi h
          rcases h with h | h | ⟨n, hn, h⟩
          · exact Or.inl h
          · exact Or.inr (Or.inl h)
          · rcases List.mem_cons.1 hn with rfl | hn
            · exact Or.inr (Or.inr ⟨_, List.mem_cons_self, h⟩)
            · rcases List.mem_insertIdx hkl |>.1 hn with rfl | hn
              · exact absurd h (by have := HB.out; show ¬ (i = b); omega)
              · exact Or.inr (Or.inr ⟨n, List.mem_cons_of_mem _ hn, h⟩)
  · go_wp2
    go_ret2
    exact ⟨w1, m, hd, HB0.out, Or.inl ⟨rfl, hx, rfl⟩⟩

end Go.Proofs.Ytnhgeoccknhiiaa
