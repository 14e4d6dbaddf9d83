/- slices.Clone of attributes, walked. -/
import Derived.Test.YtemmkobgpciflaaDoorOTree
import Derived.Test.YtemmkobgpciflaaDoorPRep
import Derived.Test.YtemmkobgpciflaaDoorOwn2
import Derived.Test.YtemmkobgpciflaaDoorLoadS
namespace Go.Proofs.YtemmkobgpciflaaDoor
open Go.RowKit
open Ch
namespace Pd

def ClonePost (w : World) (al : List Att) (e : Ending) (w' : World) : Prop := ∃ a c, e = .returned (.slice a al.length c) ∧ w'.ownsRow 0 146 2 (.slice a al.length c) al.length (atc al) ∧ InB w.heap.size w'.heap.size (.slice a al.length c) ∧ Below w.heap.size w w'

set_option maxRecDepth 100000 in
set_option maxHeartbeats 4000000 in
theorem clone_any (al : List Att) (aa : Option Addr) (ca : Nat) (w : World) (hA : Rd w (.slice aa al.length ca) al.length 2 (atc al)) (hs : al.length * 32 ≤ 140737488351232) : Calls Tryd.prog 100 #[.slice aa al.length ca] w (ClonePost w al) := by
  cases aa with
  | none =>
    have hca : ca = 0 := by
      obtain ⟨_, a, c, e, _, hn, _⟩ := hA
      cases e
      exact hn rfl
    have hal : al = [] := by
      obtain ⟨_, a, c, e, hc, hn, _⟩ := hA
      simp only [Value.slice.injEq] at e
      obtain ⟨rfl, _, rfl⟩ := e
      have := hn rfl
      exact List.eq_nil_of_length_eq_zero (by omega)
    subst hca hal
    clear hA hs
    have qn : ∀ (w : World) (n c : Nat), (binOp .eql 22 (.slice none n c) (.slice none 0 0)).run Tryd.prog w = .ok (.bool true) w := fun _ _ _ => by kernel_rfl
    go_enter Tryd.func100, Tryd.ntmps100
    go_wp2
    go_ret
    exact ⟨none, 0, rfl, own_none, (fun g h => by cases h), Below.refl _ _⟩
  | some ad =>
    have HH := Lib.hid (And.intro hA hs)
    clear hA hs
    have qn : ∀ (w : World) (a : Addr) (n c : Nat), (binOp .eql 22 (.slice (some a) n c) (.slice none 0 0)).run Tryd.prog w = .ok (.bool false) w := fun _ _ _ _ => by kernel_rfl
    go_enter Tryd.func100, Tryd.ntmps100
    go_wp2_with (at_builtin; refine halt_mk ?_)
    refine halt_go ?_
    obtain ⟨N, hN⟩ : ∃ N, N = w.heap.size := ⟨_, rfl⟩
    rw [← hN]
    generalize hW : World.alloc _ _ = W
    have T1 : Upd w W (fun _ => False) := by rw [← hW]; exact (Upd.refl w _).alloc _
    have O1 : W.ownsRow 0 146 2 (.slice (some ⟨N, 0, none⟩) 0 0) 0 [] := by rw [← hW]; exact own_lit_sz hN
    clear hW
    refine wpl_app rfl rfl elemAttr Tryd.underlying22 rfl O1 rfl (HH.out.1.keep T1 (fun _ _ h => h)) (atc_one al) (by have := HH.out; omega) ?_
    rintro v1 w4 ⟨O2, U2, b2⟩
    rw [Nat.zero_add, List.nil_append] at O2
    have hne : ∀ i, (Value.slice (some ⟨N, 0, none⟩) 0 0).ownBlock = some i → i = N := fun i e => by have := ob_eq e; omega
    have T2 : Upd w w4 (fun _ => False) := T1.trans U2 (fun i hi e => by have := hne _ e; omega)
    have hv1 : ∀ g, v1.ownBlock = some g → w.heap.size ≤ g := fun g hg => by
      rcases b2 with e | e
      · have := hne g (e ▸ hg); omega
      · have := ob_some (e.symm.trans hg); have := T1.size; omega
    obtain ⟨a1, c1, rfl, _⟩ := (Rd.ofOwn O2).form
    have H4 := Lib.hid (And.intro O2 (And.intro T2 hv1))
    clear O1 O2 U2 b2 hne T1 T2 hv1
    go_wp2
    go_ret
    exact ⟨_, _, rfl, H4.out.1, fun g hg => ⟨H4.out.2.2 g hg, own_lt H4.out.1 hg⟩, H4.out.2.1.below (Nat.le_refl _) (fun _ _ h => h)⟩

end Pd
end Go.Proofs.YtemmkobgpciflaaDoor

namespace Go.Proofs.YtemmkobgpciflaaDoor
open Go.RowKit
open Ch
namespace Pd

def NodePost (w : World) (i : Nat) (s : Im.Sl) (e : Ending) (w' : World) : Prop := Below w.heap.size w w' ∧ ((Im.slotB s = false ∧ e = .returned (.tuple #[.pointer none, .bool false])) ∨
  (Im.slotB s = true ∧ ∃ b av, e = .returned (.tuple #[ptr b, .bool true]) ∧ w.heap.size ≤ b ∧ Blk w' b (nodeC (i + 1) (Im.tidy s).g (Im.tidy s).lv (Im.tidy s).k (Im.tidy s).n av (Im.tidy s).t (.pointer none) (.slice none 0 0)) 160 ∧ w'.ownsRow 0 146 2 av (Im.tidy s).al.length (atc (Im.tidy s).al) ∧ ∀ g, av.ownBlock = some g → w.heap.size ≤ g))

theorem slotB_own {s : Im.Sl} (h : 1 ≤ s.g) (hl : s.lv = true) (ho : ownE s.k s.n s.al s.t = 0) : Im.slotB s = (decide (s.k = 1) || decide (s.ks.length = 0)) := by
  rw [Df.slotB_live h hl]
  unfold Df.slotOk
  rw [decide_eq_true ho]
  rfl
theorem own_kind {k : Int} {n : ByteArray} {al : List Att} {t : ByteArray} (h : ownE k n al t = 0) : k = 1 ∨ k = 2 := by
  unfold ownE at h
  by_cases h1 : k = 1
  · exact Or.inl h1
  · by_cases h2 : k = 2
    · exact Or.inr h2
    · rw [if_neg h1, if_neg h2] at h
      exact absurd h (by decide)

set_option maxRecDepth 100000 in
set_option maxHeartbeats 1600000 in
theorem node_any (Q : Nat → Prop) (i : Nat) (r : Df.Row) (s : Im.Sl) (w : World) (hr : Df.RowIs w Q r s) (hT : Tabs w) (hi : i < 1048576) (hal : s.al.length * 32 ≤ 140737488351232) :
    Calls Tryd.prog 109 #[.agg #[.int .u32 (r.g : Nat), .bool r.lv, .int .i64 r.k, .string r.n, .slice r.aa r.al r.ac, .string r.t, .int .u64 (r.p : Nat), .slice r.ka r.kl r.kc, .int .i64 ((i : Int) + 1)]] w (NodePost w i s) := by
  obtain ⟨X, hX⟩ : ∃ X, X = w.heap.size := ⟨_, rfl⟩
  have hkl := hr.kl
  have k1 : IntKind.u32.wrap ((i : Int) + 1) = (i : Int) + 1 := by rw [IntKind.wrap_u32]; omega
  obtain ⟨P, hP⟩ : ∃ P : Ending → World → Prop, P = NodePost w i s := ⟨_, rfl⟩
  rw [← hP]
  have HH := Lib.hid (And.intro hr (And.intro hT (And.intro hal (And.intro hX (And.intro hkl hP)))))
  clear hr hT hal hX hkl hP
  go_enter Tryd.func109, Tryd.ntmps109
  go_upto_region 1 with fail
  rw [← HH.out.2.2.2.1]
  generalize hW : World.alloc _ _ = W1
  have U1 : Upd w W1 (fun _ => False) := by rw [← hW]; exact (Upd.refl w _).alloc _
  have X1 : Blk W1 X [.int .u32 (r.g : Nat), .bool r.lv, .int .i64 r.k, .string r.n, .slice r.aa r.al r.ac, .string r.t, .int .u64 (r.p : Nat), .slice r.ka r.kl r.kc, .int .i64 ((i : Int) + 1)] 157 := by rw [← hW]; exact Blk.new' HH.out.2.2.2.1
  have x0 := X1.cell 0
  have x1 := X1.cell 1
  have x8 := X1.cell 8
  simp only [List.getElem?_cons_zero, List.getElem?_cons_succ] at x0 x1 x8
  obtain ⟨b, hb⟩ : ∃ b, b = W1.heap.size := ⟨_, rfl⟩
  have H1 := Lib.hid (And.intro U1 (And.intro X1 hb))
  clear hW U1 X1 hb
  go_upto_region 2 with fail
  rw [← H1.out.2.2]
  generalize hW : World.alloc _ _ = W2
  have U2 : Upd W1 W2 (fun _ => False) := by rw [← hW]; exact (Upd.refl W1 _).alloc _
  have b2 : Blk W2 b (nodeC (i + 1) r.g r.lv 0 ⟨#[]⟩ (.slice none 0 0) ⟨#[]⟩ (.pointer none) (.slice none 0 0)) 160 := by rw [← hW]; exact Blk.new' H1.out.2.2
  have X2 := U2.blk H1.out.2.1 (fun h => h)
  have V2 := H1.out.1.trans U2 (fun _ _ h => h)
  have hbw : w.heap.size ≤ b := by rw [H1.out.2.2]; exact H1.out.1.size
  have hXb : X ≠ b := by have := H1.out.2.1.lt; have := H1.out.2.2; omega
  have x0 := X2.cell 0
  have x1 := X2.cell 1
  simp only [List.getElem?_cons_zero, List.getElem?_cons_succ] at x0 x1
  have H2 := Lib.hid (And.intro V2 (And.intro X2 (And.intro b2 (And.intro hbw hXb))))
  clear hW U2 b2 X2 V2 hbw hXb x8 H1
  have fin : ∀ {w' : World}, Upd w w' (fun _ => False) → Below w.heap.size w w' := fun h => h.below (F := fun _ => False) (Nat.le_refl _) (fun _ _ h => h)
  by_cases hg : r.g = 0
  · have hB := Df.slotB_zero (s := s) (by rw [← HH.out.1.g]; exact hg)
    have HB := Lib.hid hB
    rw [hg] at x0
    clear hg hB
    go_wp2
    rw [HH.out.2.2.2.2.2]
    exact ⟨fin H2.out.1, Or.inl ⟨HB.out, rfl⟩⟩
  have hg0 : ((r.g : Int) == 0) = false := beq_eq_false_iff_ne.2 (by omega)
  have hg1 : (r.g == 0) = false := beq_eq_false_iff_ne.2 hg
  have hg2 : 1 ≤ s.g := by rw [← HH.out.1.g]; omega
  have HG := Lib.hid hg2
  clear hg hg2
  have hcase : r.lv = false ∨ r.lv = true := by cases r.lv <;> simp
  rcases hcase with hlv | hlv
  · rw [hlv] at x1
    have HLv := Lib.hid hlv
    clear hlv
    go_wp2
    have hs : s.lv = false := by rw [← HH.out.1.lv]; exact HLv.out
    have ht : Im.tidy s = Im.dead1 s.g := by unfold Im.tidy; rw [if_neg (by rw [hs]; simp)]
    rw [HH.out.2.2.2.2.2]
    refine ⟨fin H2.out.1, Or.inr ⟨Df.slotB_dead HG.out hs, b, .slice none 0 0, rfl, H2.out.2.2.2.1, ?_, ?_, fun g hg => by cases hg⟩⟩
    · rw [ht]
      have := H2.out.2.2.1
      rw [HLv.out, HH.out.1.g] at this
      exact this
    · rw [ht]; exact own_none
  rw [hlv] at x1
  have HLv := Lib.hid hlv
  clear hlv
  obtain ⟨M, hM⟩ : ∃ M, M = W2.heap.size := ⟨_, rfl⟩
  have HM := Lib.hid hM
  have X2 := H2.out.2.1
  have x2 := X2.cell 2
  have x3 := X2.cell 3
  have x4 := X2.cell 4
  have x5 := X2.cell 5
  simp only [List.getElem?_cons_zero, List.getElem?_cons_succ] at x2 x3 x4 x5
  clear hM X2
  go_upto_region 7 with fail
  rw [← HM.out]
  generalize hW : World.alloc _ _ = W3
  have U3 : Upd W2 W3 (fun _ => False) := by rw [← hW]; exact (Upd.refl W2 _).alloc _
  have M3 : Blk W3 M [.int .i64 r.k, .string r.n, .slice r.aa r.al r.ac, .string r.t, .slice none 0 0] 25 := by rw [← hW]; exact Blk.new' HM.out
  have V3 := H2.out.1.trans U3 (fun _ _ h => h)
  have X3 := U3.blk H2.out.2.1 (fun h => h)
  have b3 := U3.blk H2.out.2.2.1 (fun h => h)
  have q0 := M3.cell 0
  have q1 := M3.cell 1
  have q2 := M3.cell 2
  have q3 := M3.cell 3
  have q4 := M3.cell 4
  simp only [List.getElem?_cons_zero, List.getElem?_cons_succ] at q0 q1 q2 q3 q4
  have hRd := (HH.out.1.al.keep V3 (fun _ _ h => h)).1
  rw [HH.out.2.2.2.2.1.2] at hRd
  have C := own_any r.k r.n s.al r.t r.aa none r.ac 0 0 W3 hRd (HH.out.2.1.below (fin V3))
  rw [← HH.out.2.2.2.2.1.2] at C
  obtain ⟨E, hE⟩ : ∃ E, E = ownE r.k r.n s.al r.t := ⟨_, rfl⟩
  rw [← hE] at C
  have HC := Lib.hid C
  have H3 := Lib.hid (And.intro V3 (And.intro X3 (And.intro b3 hE)))
  clear hW U3 M3 V3 X3 b3 hRd C hE x0 x1 x2 x3 x4 x5
  go_wp2_with fail
  refine HC.out.mono ?_
  rintro e w4 ⟨rfl, B4⟩
  have U4 := Upd.ofBelow (F := fun _ => False) B4
  have V4 := H3.out.1.trans U4 (fun _ _ h => h)
  have X4 := U4.blk H3.out.2.1 (fun h => h)
  have b4 := U4.blk H3.out.2.2.1 (fun h => h)
  have x2 := X4.cell 2
  have x3 := X4.cell 3
  have x4 := X4.cell 4
  have x5 := X4.cell 5
  have x7 := X4.cell 7
  simp only [List.getElem?_cons_zero, List.getElem?_cons_succ] at x2 x3 x4 x5 x7
  have n3 := b4.cell 3
  have n4 := b4.cell 4
  have n5 := b4.cell 5
  have n6 := b4.cell 6
  have z3 := b4.free 3
  have z4 := b4.free 4
  have z5 := b4.free 5
  have z6 := b4.free 6
  unfold nodeC at n3 n4 n5 n6
  simp only [List.getElem?_cons_zero, List.getElem?_cons_succ] at n3 n4 n5 n6
  have H4 := Lib.hid (And.intro V4 (And.intro X4 (And.intro b4 H3.out.2.2.2)))
  clear B4 U4 V4 X4 b4 q0 q1 q2 q3 q4 HC H3
  have hs : s.lv = true := by rw [← HH.out.1.lv]; exact HLv.out
  have HS := Lib.hid hs
  clear hs
  by_cases hE0 : E = 0
  case neg =>
    have e1 : (E == 0) = false := beq_eq_false_iff_ne.2 hE0
    have e2 : (E != 0) = true := bne_iff_ne.2 hE0
    have hB : Im.slotB s = false := by
      have h := HH.out.1
      rw [Df.slotB_live HG.out HS.out, ← h.k, ← h.n, ← h.t]
      unfold Df.slotOk
      rw [← H4.out.2.2.2, decide_eq_false hE0]
      rfl
    have HB := Lib.hid hB
    clear hE0 hB
    go_wp2
    rw [HH.out.2.2.2.2.2]
    exact ⟨fin H4.out.1, Or.inl ⟨HB.out, rfl⟩⟩
  subst hE0
  have hBs : Im.slotB s = (decide (r.k = 1) || decide (r.kl = 0)) := by
    have h := HH.out.1
    rw [slotB_own HG.out HS.out (by rw [← h.k, ← h.n, ← h.t]; exact H4.out.2.2.2.symm), ← h.k, HH.out.2.2.2.2.1.1]
  rcases own_kind H4.out.2.2.2.symm with hk | hk
  · have hB : Im.slotB s = true := by rw [hBs, decide_eq_true hk]; rfl
    have hsk : s.k = 1 := by rw [← HH.out.1.k]; exact hk
    have ht : Im.tidy s = { s with t := ⟨#[]⟩ } := by unfold Im.tidy; rw [if_pos HS.out, if_neg (by rw [hsk]; decide)]
    rw [hk] at x2
    have HB := Lib.hid (And.intro hB (And.intro ht hk))
    clear hB hsk ht hBs hk
    go_upto_region 12 with fail
    generalize hW : World.setCell _ _ _ = W5
    have b5 := H4.out.2.2.1.set 3 (.int .i64 1)
    rw [hW] at b5
    have X5 := H4.out.2.1.far ⟨b, 3, none⟩ (.int .i64 1) H2.out.2.2.2.2
    rw [hW] at X5
    have U5 : Upd w4 W5 (· = b) := by rw [← hW]; exact (Upd.refl w4 (· = b)).set ⟨b, 3, none⟩ _ (fun _ => rfl)
    have V5 := H4.out.1.trans U5 (fun g hg e => by have := H2.out.2.2.2.1; omega)
    have H5 := Lib.hid (And.intro V5 (And.intro X5 b5))
    have x3 := X5.cell 3
    have x4 := X5.cell 4
    simp only [List.getElem?_cons_zero, List.getElem?_cons_succ] at x3 x4
    clear hW U5 X5 b5 V5 n3 n4 n5 n6 z3 z4 z5 z6 x2 x5 x7
    apply wp_reg (w := W5) (fun w' : World => w'.cell? ⟨X, 3, none⟩ = some (.string r.n) ∧ w'.cell? ⟨X, 4, none⟩ = some (.slice r.aa r.al r.ac)) [0, 1, 2, 3, 4, 5, 6, 7] [8, 9, 10, 11] [12, 13, 14] (by kernel_rfl) (by kernel_rfl) (fun _ _ d _ _ h => by cases d <;> exact h) ⟨x3, x4⟩
    · iterate 8 (apply reads_consL rfl rfl; (· intro w0 hS; obtain ⟨hS0, hS1⟩ := hS; go_simp; try rfl); simp only [Act.put, List.setIfInBounds_toArray, List.set_cons_zero, List.set_cons_succ])
      exact rfl
    have V0 : Upd W5 W5.drew (fun _ => False) := (Upd.refl W5 _).drew
    generalize W5.drew = W6 at V0 ⊢
    have V6 := H5.out.1.trans V0 (fun _ _ h => h)
    have C := clone_any s.al r.aa r.ac W6 (by have h1 := (HH.out.1.al.keep V6 (fun _ _ h => h)).1; rw [HH.out.2.2.2.2.1.2] at h1; exact h1) HH.out.2.2.1
    rw [← HH.out.2.2.2.2.1.2] at C
    have HC := Lib.hid C
    have H6 := Lib.hid (And.intro V6 (And.intro (V0.blk H5.out.2.1 (fun h => h)) (V0.blk H5.out.2.2 (fun h => h))))
    clear V0 V6 C x3 x4
    refine tail_consL rfl ?_
    go_wp2_with fail
    refine HC.out.mono ?_
    rintro e w7 ⟨a7, c7, rfl, O7, I7, B7⟩
    have U7 := Upd.ofBelow (F := fun _ => False) B7
    have X7 := U7.blk H6.out.2.1 (fun h => h)
    have b7 := U7.blk H6.out.2.2 (fun h => h)
    have S7 : w7.cell? ⟨X, 3, none⟩ = some (.string r.n) ∧ w7.cell? ⟨X, 4, none⟩ = some (.slice r.aa r.al r.ac) := ⟨X7.cell 3, X7.cell 4⟩
    have n4 := b7.cell 4
    have z4 := b7.free 4
    unfold nodeC at n4
    simp only [List.getElem?_cons_zero, List.getElem?_cons_succ, List.set_cons_zero, List.set_cons_succ] at n4
    have H7 := Lib.hid (And.intro (H6.out.1.trans U7 (fun _ _ h => h)) (And.intro X7 (And.intro b7 (And.intro O7 (fun g hg => Nat.le_trans H6.out.1.size (I7 g hg).1)))))
    clear O7 I7 B7 U7 X7 b7 HC
    go_wp2_with fail
    refine ⟨S7, tail_consL rfl ?_⟩
    go_wp2_with fail
    refine ⟨S7, tail_consL rfl ?_⟩
    go_wp2_with fail
    refine ⟨S7, tail_consL rfl ?_⟩
    go_wp2_with fail
    generalize hW : World.setCell _ _ _ = W8
    have b8 := H7.out.2.2.1.set 4 (.string r.n)
    rw [hW] at b8
    have X8 := H7.out.2.1.far ⟨b, 4, none⟩ (.string r.n) H2.out.2.2.2.2
    rw [hW] at X8
    have U8 : Upd w7 W8 (· = b) := by rw [← hW]; exact (Upd.refl w7 (· = b)).set ⟨b, 4, none⟩ _ (fun _ => rfl)
    have S8 : W8.cell? ⟨X, 3, none⟩ = some (.string r.n) ∧ W8.cell? ⟨X, 4, none⟩ = some (.slice r.aa r.al r.ac) := ⟨X8.cell 3, X8.cell 4⟩
    have n5 := b8.cell 5
    have z5 := b8.free 5
    unfold nodeC at n5
    simp only [List.getElem?_cons_zero, List.getElem?_cons_succ, List.set_cons_zero, List.set_cons_succ] at n5
    have H8 := Lib.hid (And.intro U8 b8)
    clear hW b8 X8 U8 n4 z4 S7
    refine ⟨S8, tail_threeL rfl rfl rfl ?_⟩
    clear S8
    go_wp2
    generalize hW : World.setCell _ _ _ = W9
    have b9 := H8.out.2.set 5 (.slice a7 s.al.length c7)
    rw [hW] at b9
    have U9 : Upd w7 W9 (· = b) := by rw [← hW]; exact H8.out.1.set ⟨b, 5, none⟩ _ (fun _ => rfl)
    clear hW
    rw [HH.out.2.2.2.2.2]
    obtain ⟨V7, X7, b7, O7, I7⟩ := H7.out
    have hne : ∀ g, (Value.slice a7 s.al.length c7).ownBlock = some g → g ≠ b := fun g hg e => by
      obtain ⟨_, hv⟩ := own_ty O7 hg
      exact b7.ty (e ▸ hv) (by decide) rfl
    refine ⟨fin (V7.trans U9 (fun g hg e => by have := H2.out.2.2.2.1; omega)), Or.inr ⟨HB.out.1, b, .slice a7 s.al.length c7, rfl, H2.out.2.2.2.1, ?_, ?_, ?_⟩⟩
    · rw [HB.out.2.1]
      have h := HH.out.1
      rw [HLv.out, h.g, h.n] at b9
      have e1 : s.k = 1 := by rw [← h.k]; exact HB.out.2.2
      show Blk W9 b (nodeC (i + 1) s.g s.lv s.k s.n (.slice a7 s.al.length c7) ⟨#[]⟩ (.pointer none) (.slice none 0 0)) 160
      rw [e1, HS.out]
      exact b9
    · rw [HB.out.2.1]
      show W9.ownsRow 0 146 2 (.slice a7 s.al.length c7) s.al.length (atc s.al)
      exact own_keep O7 U9 (fun g hg e => hne g hg e)
    · intro g hg
      exact I7 g hg
  · have HBs := Lib.hid hBs
    obtain ⟨kl, hkl⟩ : ∃ kl, kl = r.kl := ⟨_, rfl⟩
    rw [← hkl] at x7 HBs
    rw [hk] at x2 HBs
    have HK := Lib.hid (And.intro hk hkl)
    clear hBs hk hkl
    by_cases hz : kl = 0
    · subst hz
      have h0 : decide (0 < 0) = false := rfl
      go_upto_region 13 with fail
      generalize hW : World.setCell _ _ _ = W5
      have b5 := (H4.out.2.2.1.set 3 (.int .i64 2)).set 6 (.string r.t)
      rw [hW] at b5
      have U5 : Upd w4 W5 (· = b) := by rw [← hW]; exact ((Upd.refl w4 (· = b)).set ⟨b, 3, none⟩ _ (fun _ => rfl)).set ⟨b, 6, none⟩ _ (fun _ => rfl)
      have V5 := H4.out.1.trans U5 (fun g hg e => by have := H2.out.2.2.2.1; omega)
      have H5 := Lib.hid (And.intro V5 b5)
      clear hW U5 b5 V5 n3 n4 n5 n6 z3 z4 z5 z6 x2 x3 x4 x5 x7
      go_wp2
      rw [HH.out.2.2.2.2.2]
      have h := HH.out.1
      have hsk : s.k = 2 := by rw [← h.k]; exact HK.out.1
      have ht : Im.tidy s = { s with n := ⟨#[]⟩, al := [], ks := [] } := by unfold Im.tidy; rw [if_pos HS.out, if_pos hsk]
      refine ⟨fin H5.out.1, Or.inr ⟨by rw [HBs.out]; rfl, b, .slice none 0 0, rfl, H2.out.2.2.2.1, ?_, ?_, fun g hg => by cases hg⟩⟩
      · rw [ht]
        have b5 := H5.out.2
        rw [HLv.out, h.g, h.t] at b5
        show Blk W5 b (nodeC (i + 1) s.g s.lv s.k ⟨#[]⟩ (.slice none 0 0) s.t (.pointer none) (.slice none 0 0)) 160
        rw [hsk, HS.out]
        exact b5
      · rw [ht]
        exact own_none
    · have h1 : (0 : Int) < (kl : Int) := by omega
      have h2 : decide (0 < kl) = true := decide_eq_true (by omega)
      have hB : Im.slotB s = false := by rw [HBs.out, decide_eq_false hz]; rfl
      have HB := Lib.hid hB
      clear hz hB
      go_wp2
      rw [HH.out.2.2.2.2.2]
      exact ⟨fin H4.out.1, Or.inl ⟨HB.out, rfl⟩⟩

end Pd
end Go.Proofs.YtemmkobgpciflaaDoor
