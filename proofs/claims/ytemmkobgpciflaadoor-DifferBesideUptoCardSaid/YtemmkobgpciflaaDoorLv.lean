/- The living call of layer 18's statements: walked. -/
import Derived.Test.YtemmkobgpciflaaDoorPp
import Derived.Test.YtemmkobgpciflaaDoorDistA
import Derived.Test.YtemmkobgpciflaaDoorMetP
import Derived.Test.YtemmkobgpciflaaDoorCan
namespace Go.Proofs.YtemmkobgpciflaaDoor
open Go.RowKit
open Ch
namespace Pt

def nP : ByteArray := ⟨#[112]⟩
def nQ : ByteArray := ⟨#[113]⟩
def tP : T := .mk 1 nP [] ⟨#[]⟩ []
def tQ : T := .mk 1 nQ [] ⟨#[]⟩ []
def tB : T := .mk 1 nP [] ⟨#[]⟩ [tQ]
def leafV (n : ByteArray) : List Value := [.int .i64 1, .string n, .slice none 0 0, .string ⟨#[]⟩, .slice none 0 0]
def bothV (K : Nat) : List Value := [.int .i64 1, .string nP, .slice none 0 0, .string ⟨#[]⟩, .slice (some ⟨K, 0, none⟩) 1 1]

theorem tree_leaf (w : World) (P : Nat → Prop) (n : ByteArray) : TreeAt w P (.mk 1 n [] ⟨#[]⟩ []) (leafV n) :=
  ⟨none, 0, none, 0, [], rfl, ⟨Rd.nil _ _, fun h => absurd rfl h⟩, ⟨Rd.nil _ _, fun h => absurd rfl h⟩, rfl⟩
theorem tree_both {w : World} {P : Nat → Prop} {K : Nat} (h : Blk w K (leafV nQ) 25) (hK : P K) : TreeAt w P tB (bothV K) :=
  ⟨none, 0, some ⟨K, 0, none⟩, 1, leafV nQ, rfl, ⟨Rd.nil _ _, fun h => absurd rfl h⟩, ⟨Rd.ofBlk h 1 5 rfl, fun _ g hg => by have := ob_eq hg; rw [← this]; exact hK⟩, leafV nQ, [], by simp, tree_leaf w P nQ, rfl⟩
theorem forest_one {w : World} {P : Nat → Prop} {g : Nat} {t : T} {cs : List Value} (h : Blk w g cs 25) (hg : P g) (ht : TreeAt w P t cs) : Forest w P [t] (some ⟨g, 0, none⟩) 1 :=
  ⟨cs, ⟨Rd.ofBlk h 1 5 (TreeIs.len ht), fun _ g' hg' => by have := ob_eq hg'; rw [← this]; exact hg⟩, cs, [], by simp, ht, rfl⟩
theorem forest_two {w : World} {P : Nat → Prop} {g : Nat} {t u : T} {cs ds : List Value} (h : Blk w g (cs ++ ds) 25) (hg : P g) (ht : TreeAt w P t cs) (hu : TreeAt w P u ds) : Forest w P [t, u] (some ⟨g, 0, none⟩) 2 :=
  ⟨cs ++ ds, ⟨Rd.ofBlk h 2 5 (by have := TreeIs.len ht; have := TreeIs.len hu; rw [List.length_append]; omega), fun _ g' hg' => by have := ob_eq hg'; rw [← this]; exact hg⟩, cs, ds, rfl, ht, ds, [], by simp, hu, rfl⟩

theorem fits_leaf (n : ByteArray) (h : n.size ≤ 9223372036854775807) : Fits (.mk 1 n [] ⟨#[]⟩ []) := by
  rw [Fits, FitsL]
  exact ⟨⟨h, by decide, (fun a ha => by cases ha), by decide, by decide⟩, trivial⟩
theorem fP : Fits tP := fits_leaf nP (by decide)
theorem fQ : Fits tQ := fits_leaf nQ (by decide)
theorem fB : Fits tB := by
  unfold tB
  rw [Fits, FitsL, FitsL]
  exact ⟨⟨by decide, by decide, (fun a ha => by cases ha), by decide, by decide⟩, fQ, trivial⟩
theorem kP : chk tP 1 0 = 0 := by kernel_rfl
theorem kQ : chk tQ 1 0 = 0 := by kernel_rfl
theorem eP : canE [tP] = 0 := by kernel_rfl
theorem eQ : canE [tQ] = 0 := by kernel_rfl
theorem eB : canE [tB] = 0 := by kernel_rfl
theorem ePQ : canE [tP, tQ] = 0 := by kernel_rfl
theorem sz1 : T.sizeL [tP] = 1 := by kernel_rfl
theorem szB : T.sizeL [tB] = 2 := by kernel_rfl
theorem szPQ : T.sizeL [tP, tQ] = 2 := by kernel_rfl
theorem szQ : T.sizeL [tQ] = 1 := by kernel_rfl
theorem kdP : Df.kd tP = [] := if_pos rfl
theorem kdQ : Df.kd tQ = [] := if_pos rfl
theorem kdB : Df.kd tB = [tQ] := if_pos rfl
theorem d1 : Df.distN [tB] [tP] = 1 := by
  have h1 := (Df.distN_size [tB] [tP]).2.1
  rw [szB, sz1] at h1
  have h2 : Df.Al ([] ++ [tB]) ([] ++ [tP]) (0 + 1 + Df.turnN tB tP) := Df.Al.mat .nil (by
    rw [kdB, kdP]
    have := Df.al_left _ [tQ] (Nat.le_refl _)
    rwa [szQ] at this)
  have h3 : Df.turnN tB tP = 0 := by kernel_rfl
  rw [h3] at h2
  have h4 := Df.distN_le h2
  have h5 : Df.distN [tB] [tP] ≤ 1 := h4
  omega
theorem d2 : Df.distN [tP, tQ] [tB] = 2 := by
  have h := Df.distN_al [tP, tQ] [tB]
  have hu : Df.distN [tP, tQ] [tB] ≤ 2 := by
    have h2 : Df.Al ([] ++ [tP]) ([] ++ [tB]) (0 + 1 + Df.turnN tP tB) := Df.Al.mat .nil (by
      rw [kdB, kdP]
      have := Df.al_right [tQ]
      rwa [szQ] at this)
    have h3 : Df.turnN tP tB = 0 := by kernel_rfl
    rw [h3] at h2
    have h1 : Df.Al ([tP] ++ [tQ]) [tB] 2 := Df.Al.del (n := 1) (by
      rw [kdQ, List.append_nil]
      exact h2)
    exact Df.distN_le h1
  have hl : 2 ≤ Df.distN [tP, tQ] [tB] := by
    generalize Df.distN [tP, tQ] [tB] = n at h
    rcases h.cases' with ⟨e, _, _⟩ | ⟨f', t, n', e, hn, a1⟩ | ⟨g', t, n', e, hn, a1⟩ | ⟨f', g', s, t, p, q, e, e2, hn, a1, a2⟩
    · cases e
    · obtain ⟨rfl, rfl⟩ := Df.snoc_inj (a := [tP]) e
      have := a1.size.2
      rw [kdQ, List.append_nil, szB, sz1] at this
      omega
    · obtain ⟨rfl, rfl⟩ := Df.snoc_inj (a := []) e
      have := a1.size.1
      rw [kdB, List.nil_append, szPQ, szQ] at this
      omega
    · obtain ⟨rfl, rfl⟩ := Df.snoc_inj (a := [tP]) e
      obtain ⟨rfl, rfl⟩ := Df.snoc_inj (a := []) e2
      have h1 := a1.size.1
      have h2 := a2.size.2
      rw [sz1, T.sizeL] at h1
      rw [kdB, kdQ, szQ, T.sizeL] at h2
      omega
  omega

end Pt
end Go.Proofs.YtemmkobgpciflaaDoor

namespace Go.Proofs.YtemmkobgpciflaaDoor
open Go.RowKit
open Ch
namespace Pt

theorem dr1 : Df.distR [tB] [tP] = (1, 0) := by
  unfold Df.distR
  rw [if_neg (by rw [eB]; simp), if_neg (by rw [eP]; simp), if_neg (by rw [Df.postL_size, Df.postL_size, szB, sz1]; simp), d1]
  rfl
theorem dr2 : Df.distR [tP, tQ] [tB] = (2, 0) := by
  unfold Df.distR
  rw [if_neg (by rw [ePQ]; simp), if_neg (by rw [eB]; simp), if_neg (by rw [Df.postL_size, Df.postL_size, szB, szPQ]; simp), d2]
  rfl

structure LvSt (w : World) (P Q B K : Nat) (w' : World) : Prop where
  k : Blk w' K (leafV nQ) 25
  b : Blk w' B (bothV K) 25
  q : Blk w' Q (leafV nQ) 25
  p : Blk w' P (leafV nP) 25
  e : Below w.heap.size w w'
theorem LvSt.next {w : World} {P Q B K : Nat} {w' w'' : World} (h : LvSt w P Q B K w') (hU : Upd w' w'' (fun _ => False)) : LvSt w P Q B K w'' :=
  ⟨hU.blk h.k (fun h => h), hU.blk h.b (fun h => h), hU.blk h.q (fun h => h), hU.blk h.p (fun h => h), below_tr h.e (hU.below (Nat.le_refl _) (fun _ _ h => h))⟩

theorem s12 : Df.same4L [tP] [tQ] = false := by kernel_rfl
theorem s11 : Df.same4L [tQ] [tQ] = true := by kernel_rfl
theorem scr_out {w' : World} {a : Option Addr} {n c : Nat} {r : Int} (h : Df.ScrIs w' [tP] [tQ] a n c r) : n = 2 ∧ r = 0 ∧ ∃ cs, Rd w' (.slice a 2 c) 2 11 (Df.delRow 4294967297 ++ Df.insRow cs) ∧ TreeAt w' (fun _ => True) tQ cs := by
  unfold Df.ScrIs at h
  rw [if_neg (by rw [eP]; simp), if_neg (by rw [eQ]; simp), s12] at h
  obtain ⟨hr, h⟩ := h
  rw [if_neg (by simp)] at h
  obtain ⟨hn, ys, hR, hI⟩ := h
  have hn : n = 2 := hn
  subst hn
  obtain ⟨cs, d, e, hT, hd⟩ := hI
  have hd : d = [] := hd
  subst hd
  rw [List.append_nil] at e
  subst e
  refine ⟨rfl, hr, cs, ?_, hT⟩
  have e2 : Df.delC [tP] [tP].length = Df.delRow 4294967297 := by kernel_rfl
  rwa [e2] at hR

set_option maxRecDepth 100000 in
set_option maxHeartbeats 1600000 in
theorem lives_any (w : World) (hT : Tabs w) : Calls Tryd.prog 49 #[] w (fun e w' => e = .returned (.bool true) ∧ Below w.heap.size w w') := by
  obtain ⟨P, hP⟩ : ∃ P, P = w.heap.size := ⟨_, rfl⟩
  have HH := Lib.hid (And.intro hT hP)
  clear hT hP
  go_enter Tryd.func49, Tryd.ntmps49
  go_upto_region 2 with fail
  rw [← HH.out.2]
  generalize hW : World.alloc _ _ = W1
  have U1 : Upd w W1 (fun _ => False) := by rw [← hW]; exact (Upd.refl w _).alloc _
  have P1 : Blk W1 P (leafV nP) 25 := by rw [← hW]; exact Blk.new' HH.out.2
  have S1 : W1.heap.size = P + 1 := by rw [← hW, HH.out.2]; simp
  have H1 := Lib.hid (And.intro U1 (And.intro P1 S1))
  clear hW U1 P1 S1
  obtain ⟨Q, hQ⟩ : ∃ Q, Q = W1.heap.size := ⟨_, rfl⟩
  have HQ := Lib.hid hQ
  clear hQ
  go_upto_region 3 with fail
  rw [← HQ.out]
  generalize hW : World.alloc _ _ = W2
  have U2 : Upd W1 W2 (fun _ => False) := by rw [← hW]; exact (Upd.refl _ _).alloc _
  have Q2 : Blk W2 Q (leafV nQ) 25 := by rw [← hW]; exact Blk.new' HQ.out
  have P2 := U2.blk H1.out.2.1 (fun h => h)
  have S2 : W2.heap.size = P + 2 := by rw [← hW, World.size_alloc, H1.out.2.2]
  have p0 := P2.cell 0
  have p1 := P2.cell 1
  have p2 := P2.cell 2
  have p3 := P2.cell 3
  have p4 := P2.cell 4
  unfold leafV at p0 p1 p2 p3 p4
  simp only [List.getElem?_cons_zero, List.getElem?_cons_succ] at p0 p1 p2 p3 p4
  have H2 := Lib.hid (And.intro U2 (And.intro Q2 (And.intro P2 S2)))
  clear hW U2 Q2 P2 S2
  obtain ⟨B, hB⟩ : ∃ B, B = W2.heap.size := ⟨_, rfl⟩
  have HB := Lib.hid hB
  clear hB
  go_upto_region 4 with fail
  rw [← HB.out]
  generalize hW : World.alloc _ _ = W3
  have U3 : Upd W2 W3 (fun _ => False) := by rw [← hW]; exact (Upd.refl _ _).alloc _
  have B3 : Blk W3 B (leafV nP) 25 := by rw [← hW]; exact Blk.new' HB.out
  have Q3 := U3.blk H2.out.2.1 (fun h => h)
  have P3 := U3.blk H2.out.2.2.1 (fun h => h)
  have S3 : W3.heap.size = P + 3 := by rw [← hW, World.size_alloc, H2.out.2.2.2]
  have q0 := Q3.cell 0
  have q1 := Q3.cell 1
  have q2 := Q3.cell 2
  have q3 := Q3.cell 3
  have q4 := Q3.cell 4
  unfold leafV at q0 q1 q2 q3 q4
  simp only [List.getElem?_cons_zero, List.getElem?_cons_succ] at q0 q1 q2 q3 q4
  have b4 : ∀ o, (W3.alloc o).cell? ⟨B, 4, none⟩ = some (.slice none 0 0) := fun o => (B3.alloc o).cell 4
  have z4 : ∀ o, (W3.alloc o).frozen? ⟨B, 4, none⟩ = false := fun o => (B3.alloc o).free 4
  have H3 := Lib.hid (And.intro U3 (And.intro B3 (And.intro Q3 (And.intro P3 S3))))
  clear hW U3 B3 Q3 P3 S3 p0 p1 p2 p3 p4
  obtain ⟨K, hK⟩ : ∃ K, K = W3.heap.size := ⟨_, rfl⟩
  have HK := Lib.hid hK
  clear hK
  go_upto_region 5 with fail
  rw [← HK.out]
  generalize hW : World.setCell _ _ _ = W4
  have U4 : Upd W3 W4 (· = B) := by rw [← hW]; exact ((Upd.refl W3 (· = B)).alloc _).set ⟨B, 4, none⟩ _ (fun _ => rfl)
  have nKB : K ≠ B := by have := H3.out.2.1.lt; have := HK.out; omega
  have K4 : Blk W4 K (leafV nQ) 25 := by rw [← hW]; exact (Blk.new' HK.out).far _ _ nKB
  have B4 : Blk W4 B (bothV K) 25 := by rw [← hW]; exact (H3.out.2.1.alloc _).set 4 _
  have Q4 := U4.blk H3.out.2.2.1 (by have := H1.out.2.2; have := HQ.out; have := HB.out; have := H2.out.2.2.2; omega)
  have P4 := U4.blk H3.out.2.2.2.1 (by have := HB.out; have := H2.out.2.2.2; omega)
  have E4 : Below w.heap.size w W4 := (((H1.out.1.trans H2.out.1 (fun _ _ h => h)).trans H3.out.1 (fun _ _ h => h)).trans U4 (fun g hg e => by have := HB.out; have := H2.out.2.2.2; have := HH.out.2; omega)).below (F := fun _ => False) (Nat.le_refl _) (fun _ _ h => h)
  have H4 := Lib.hid (And.intro K4 (And.intro B4 (And.intro Q4 (And.intro P4 E4))))
  clear hW U4 nKB K4 B4 Q4 P4 E4 q0 q1 q2 q3 q4 b4 z4
  clear H1 H2 H3 HK HB HQ
  obtain ⟨K4, B4, Q4, P4, E4⟩ := H4.out
  have hX : ∀ o, Blk (W4.alloc o) P (leafV nP) 25 := fun o => P4.alloc o
  have b0 := B4.cell 0
  have b1 := B4.cell 1
  have b2 := B4.cell 2
  have b3 := B4.cell 3
  have b4 := B4.cell 4
  have p0 : ∀ o, (W4.alloc o).cell? ⟨P, 0, none⟩ = _ := fun o => (P4.alloc o).cell 0
  have p1 : ∀ o, (W4.alloc o).cell? ⟨P, 1, none⟩ = _ := fun o => (P4.alloc o).cell 1
  have p2 : ∀ o, (W4.alloc o).cell? ⟨P, 2, none⟩ = _ := fun o => (P4.alloc o).cell 2
  have p3 : ∀ o, (W4.alloc o).cell? ⟨P, 3, none⟩ = _ := fun o => (P4.alloc o).cell 3
  have p4 : ∀ o, (W4.alloc o).cell? ⟨P, 4, none⟩ = _ := fun o => (P4.alloc o).cell 4
  unfold bothV at b0 b1 b2 b3 b4
  unfold leafV at p0 p1 p2 p3 p4
  simp only [List.getElem?_cons_zero, List.getElem?_cons_succ] at b0 b1 b2 b3 b4 p0 p1 p2 p3 p4
  obtain ⟨A1, hA1⟩ : ∃ A1, A1 = W4.heap.size := ⟨_, rfl⟩
  have HA := Lib.hid hA1
  obtain ⟨W5, hW5⟩ : ∃ W5, W5 = (W4.alloc (.cells (bothV K).toArray 25)).alloc (.cells (leafV nP).toArray 25) := ⟨_, rfl⟩
  have a1 : Blk W5 A1 (bothV K) 25 := by rw [hW5]; exact (Blk.new' hA1).alloc _
  have a2 : Blk W5 (A1 + 1) (leafV nP) 25 := by rw [hW5]; exact Blk.new' (by rw [World.size_alloc, hA1])
  have V5 : Upd W4 W5 (fun _ => False) := by rw [hW5]; exact ((Upd.refl _ _).alloc _).alloc _
  have S5 := V5.size
  have C := Df.distA_any W5.heap.size [tB] [tP] _ _ _ _ W5 (forest_one a1 a1.lt (tree_both (V5.blk K4 (fun h => h)) (V5.blk K4 (fun h => h)).lt)) (forest_one a2 a2.lt (tree_leaf _ _ _)) (by intro x hx; simp at hx; subst hx; exact fB) (by intro x hx; simp at hx; subst hx; exact fP) (by simp) (by simp) (Nat.le_refl _) (HH.out.1.below (below_tr E4 (V5.below (F := fun _ => False) (Nat.le_refl _) (fun _ _ h => h))))
  rw [hW5] at C
  unfold bothV leafV at C
  simp only [List.length_cons, List.length_nil, Nat.zero_add] at C
  have H5 := Lib.hid (And.intro V5 hW5)
  have HC := Lib.hid C
  clear K4 B4 Q4 P4 E4 hX hA1 hW5 a1 a2 V5 S5 C
  have L4 : LvSt w P Q B K W4 := ⟨H4.out.1, H4.out.2.1, H4.out.2.2.1, H4.out.2.2.2.1, H4.out.2.2.2.2⟩
  have HL := Lib.hid (L4.next H5.out.1)
  clear H4 L4
  go_wp2_with fail
  rw [← HA.out]
  refine HC.out.mono ?_
  rintro e w6 ⟨r, c, rfl, hr, E6⟩
  have hr := hr.out
  rw [dr1] at hr
  simp only [Prod.mk.injEq] at hr
  obtain ⟨rfl, rfl⟩ := hr
  have hw := H5.out.2
  unfold bothV leafV at hw
  rw [← hw] at E6
  have L6 := HL.out.next (Upd.ofBelow E6)
  clear hw E6 HC HL H5 HA b0 b1 b2 b3 b4 p0 p1 p2 p3 p4
  have q0 := L6.q.cell 0
  have q1 := L6.q.cell 1
  have q2 := L6.q.cell 2
  have q3 := L6.q.cell 3
  have q4 := L6.q.cell 4
  have p0 := L6.p.cell 0
  have p1 := L6.p.cell 1
  have p2 := L6.p.cell 2
  have p3 := L6.p.cell 3
  have p4 := L6.p.cell 4
  have b0 : ∀ o, (w6.alloc o).cell? ⟨B, 0, none⟩ = _ := fun o => (L6.b.alloc o).cell 0
  have b1 : ∀ o, (w6.alloc o).cell? ⟨B, 1, none⟩ = _ := fun o => (L6.b.alloc o).cell 1
  have b2 : ∀ o, (w6.alloc o).cell? ⟨B, 2, none⟩ = _ := fun o => (L6.b.alloc o).cell 2
  have b3 : ∀ o, (w6.alloc o).cell? ⟨B, 3, none⟩ = _ := fun o => (L6.b.alloc o).cell 3
  have b4 : ∀ o, (w6.alloc o).cell? ⟨B, 4, none⟩ = _ := fun o => (L6.b.alloc o).cell 4
  unfold bothV at b0 b1 b2 b3 b4
  unfold leafV at p0 p1 p2 p3 p4 q0 q1 q2 q3 q4
  simp only [List.getElem?_cons_zero, List.getElem?_cons_succ] at b0 b1 b2 b3 b4 p0 p1 p2 p3 p4 q0 q1 q2 q3 q4
  obtain ⟨A1, hA1⟩ : ∃ A1, A1 = w6.heap.size := ⟨_, rfl⟩
  have HA := Lib.hid hA1
  obtain ⟨W7, hW7⟩ : ∃ W7, W7 = (w6.alloc (.cells (leafV nP ++ leafV nQ).toArray 25)).alloc (.cells (bothV K).toArray 25) := ⟨_, rfl⟩
  have a1 : Blk W7 A1 (leafV nP ++ leafV nQ) 25 := by rw [hW7]; exact (Blk.new' hA1).alloc _
  have a2 : Blk W7 (A1 + 1) (bothV K) 25 := by rw [hW7]; exact Blk.new' (by rw [World.size_alloc, hA1])
  have V7 : Upd w6 W7 (fun _ => False) := by rw [hW7]; exact ((Upd.refl _ _).alloc _).alloc _
  have L7 := L6.next V7
  have C := Df.distA_any W7.heap.size [tP, tQ] [tB] _ _ _ _ W7 (forest_two a1 a1.lt (tree_leaf _ _ _) (tree_leaf _ _ _)) (forest_one a2 a2.lt (tree_both L7.k L7.k.lt)) (by intro x hx; simp at hx; rcases hx with rfl | rfl; exact fP; exact fQ) (by intro x hx; simp at hx; subst hx; exact fB) (by simp) (by simp) (Nat.le_refl _) (HH.out.1.below L7.e)
  rw [hW7] at C
  unfold bothV leafV at C
  simp only [List.length_cons, List.length_nil, Nat.zero_add] at C
  have HL := Lib.hid (And.intro L7 hW7)
  have HC := Lib.hid C
  clear L6 hA1 hW7 a1 a2 V7 L7 C
  go_wp2_with fail
  rw [← HA.out]
  refine HC.out.mono ?_
  rintro e w8 ⟨r, c, rfl, hr, E8⟩
  have hr := hr.out
  rw [dr2] at hr
  simp only [Prod.mk.injEq] at hr
  obtain ⟨rfl, rfl⟩ := hr
  have hw := HL.out.2
  unfold bothV leafV at hw
  rw [← hw] at E8
  have L8 := HL.out.1.next (Upd.ofBelow E8)
  clear hw E8 HC HL HA b0 b1 b2 b3 b4 p0 p1 p2 p3 p4 q0 q1 q2 q3 q4
  have p0 := L8.p.cell 0
  have p1 := L8.p.cell 1
  have p2 := L8.p.cell 2
  have p3 := L8.p.cell 3
  have p4 := L8.p.cell 4
  have q0 : ∀ o, (w8.alloc o).cell? ⟨Q, 0, none⟩ = _ := fun o => (L8.q.alloc o).cell 0
  have q1 : ∀ o, (w8.alloc o).cell? ⟨Q, 1, none⟩ = _ := fun o => (L8.q.alloc o).cell 1
  have q2 : ∀ o, (w8.alloc o).cell? ⟨Q, 2, none⟩ = _ := fun o => (L8.q.alloc o).cell 2
  have q3 : ∀ o, (w8.alloc o).cell? ⟨Q, 3, none⟩ = _ := fun o => (L8.q.alloc o).cell 3
  have q4 : ∀ o, (w8.alloc o).cell? ⟨Q, 4, none⟩ = _ := fun o => (L8.q.alloc o).cell 4
  unfold leafV at p0 p1 p2 p3 p4 q0 q1 q2 q3 q4
  simp only [List.getElem?_cons_zero, List.getElem?_cons_succ] at p0 p1 p2 p3 p4 q0 q1 q2 q3 q4
  obtain ⟨A2, hA2⟩ : ∃ A2, A2 = w8.heap.size := ⟨_, rfl⟩
  have HA := Lib.hid hA2
  obtain ⟨W9, hW9⟩ : ∃ W9, W9 = (w8.alloc (.cells (leafV nP).toArray 25)).alloc (.cells (leafV nQ).toArray 25) := ⟨_, rfl⟩
  have a1 : Blk W9 A2 (leafV nP) 25 := by rw [hW9]; exact (Blk.new' hA2).alloc _
  have a2 : Blk W9 (A2 + 1) (leafV nQ) 25 := by rw [hW9]; exact Blk.new' (by rw [World.size_alloc, hA2])
  have V9 : Upd w8 W9 (fun _ => False) := by rw [hW9]; exact ((Upd.refl _ _).alloc _).alloc _
  have L9 := L8.next V9
  have C := Df.script_any W9.heap.size [tP] [tQ] _ _ _ _ W9 (forest_one a1 a1.lt (tree_leaf _ _ _)) (forest_one a2 a2.lt (tree_leaf _ _ _)) (by intro x hx; simp at hx; subst hx; exact fP) (by intro x hx; simp at hx; subst hx; exact fQ) (by simp) (by simp) (Nat.le_refl _) (HH.out.1.below L9.e)
  rw [hW9] at C
  unfold leafV at C
  simp only [List.length_cons, List.length_nil, Nat.zero_add] at C
  have HL := Lib.hid (And.intro L9 hW9)
  have HC := Lib.hid C
  clear L8 hA2 hW9 a1 a2 V9 L9 C
  go_wp2_with fail
  rw [← HA.out]
  refine HC.out.mono ?_
  rintro e w10 ⟨la, ln, lc, lr, rfl, E10, hS, hc⟩
  obtain ⟨rfl, rfl, cs, hR, hcs⟩ := scr_out hS.out
  have hw := HL.out.2
  unfold leafV at hw
  rw [← hw] at E10
  have L10 := HL.out.1.next (Upd.ofBelow E10)
  clear hw E10 HC HL HA p0 p1 p2 p3 p4 q0 q1 q2 q3 q4 hS hc
  have p0 := L10.p.cell 0
  have p1 := L10.p.cell 1
  have p2 := L10.p.cell 2
  have p3 := L10.p.cell 3
  have p4 := L10.p.cell 4
  unfold leafV at p0 p1 p2 p3 p4
  simp only [List.getElem?_cons_zero, List.getElem?_cons_succ] at p0 p1 p2 p3 p4
  obtain ⟨A3, hA3⟩ : ∃ A3, A3 = w10.heap.size := ⟨_, rfl⟩
  have HA := Lib.hid hA3
  obtain ⟨W11, hW11⟩ : ∃ W11, W11 = w10.alloc (.cells (leafV nP).toArray 25) := ⟨_, rfl⟩
  have a1 : Blk W11 A3 (leafV nP) 25 := by rw [hW11]; exact Blk.new' hA3
  have V11 : Upd w10 W11 (fun _ => False) := by rw [hW11]; exact (Upd.refl _ _).alloc _
  have L11 := L10.next V11
  have R11 := hR.keep V11 (fun _ _ h => h)
  have T11 := hcs.keep V11 (fun _ _ h => h)
  have C := patch_leaf W11.heap.size nP ⟨#[]⟩ nQ ⟨#[]⟩ _ _ la lc cs W11 (forest_one a1 a1.lt (tree_leaf _ _ _)) fP kP eP R11 T11 fQ kQ (Nat.le_refl _) (HH.out.1.below L11.e)
  rw [hW11] at C
  unfold leafV at C
  try simp only [List.length_cons, List.length_nil, Nat.zero_add] at C
  have HL := Lib.hid (And.intro L11 hW11)
  have HC := Lib.hid C
  clear L10 hA3 hW11 a1 V11 L11 C R11 T11 hR hcs
  go_wp2_with fail
  rw [← HA.out]
  refine HC.out.mono ?_
  rintro e w12 ⟨ha, hc, rfl, hF, E12⟩
  have hw := HL.out.2
  unfold leafV at hw
  rw [← hw] at E12
  have L12 := HL.out.1.next (Upd.ofBelow E12)
  clear hw E12 HC HL HA p0 p1 p2 p3 p4
  have q0 := L12.q.cell 0
  have q1 := L12.q.cell 1
  have q2 := L12.q.cell 2
  have q3 := L12.q.cell 3
  have q4 := L12.q.cell 4
  unfold leafV at q0 q1 q2 q3 q4
  simp only [List.getElem?_cons_zero, List.getElem?_cons_succ] at q0 q1 q2 q3 q4
  obtain ⟨A4, hA4⟩ : ∃ A4, A4 = w12.heap.size := ⟨_, rfl⟩
  have HA := Lib.hid hA4
  obtain ⟨W13, hW13⟩ : ∃ W13, W13 = w12.alloc (.cells (leafV nQ).toArray 25) := ⟨_, rfl⟩
  have a1 : Blk W13 A4 (leafV nQ) 25 := by rw [hW13]; exact Blk.new' hA4
  have V13 : Upd w12 W13 (fun _ => False) := by rw [hW13]; exact (Upd.refl _ _).alloc _
  have L13 := L12.next V13
  have F13 := hF.keep V13 (fun _ _ h => h)
  have C := Df.msame_any (fun _ => True) [tQ] [tQ] ha _ hc _ W13 F13 (forest_one a1 trivial (tree_leaf _ _ _)) (by intro x hx; simp at hx; subst hx; exact fQ) (by simp)
  rw [hW13, s11] at C
  unfold leafV at C
  try simp only [List.length_cons, List.length_nil, Nat.zero_add] at C
  have HL := Lib.hid (And.intro L13 hW13)
  have HC := Lib.hid C
  clear L12 hA4 hW13 a1 V13 L13 C F13 hF
  go_wp2_with fail
  rw [← HA.out]
  refine HC.out.mono ?_
  rintro e w14 ⟨rfl, E14⟩
  have hw := HL.out.2
  unfold leafV at hw
  rw [← hw] at E14
  have H14 := Lib.hid (below_tr HL.out.1.e E14)
  clear hw E14 HC HL HA q0 q1 q2 q3 q4
  go_wp2
  go_ret
  exact ⟨rfl, H14.out⟩

end Pt
end Go.Proofs.YtemmkobgpciflaaDoor

namespace Go.Proofs.YtemmkobgpciflaaDoor
open Go.RowKit
open Ch
namespace Pt

theorem len_sizeL : ∀ l : List T, l.length ≤ T.sizeL l
  | [] => Nat.le_refl _
  | t :: l => by
    have := len_sizeL l
    have := T.size_pos t
    rw [T.sizeL, List.length_cons]
    omega

set_option maxRecDepth 100000 in
set_option maxHeartbeats 2000000 in
theorem size_step (P : Nat → Prop) (f : List T) (ih : ∀ x ∈ f, ∀ (ak : Option Addr) (ck : Nat) (w : World), Forest w P x.kids ak ck → (∀ y ∈ x.kids, Fits y) → T.sizeL x.kids ≤ 4096 → Calls Tryd.prog 50 #[.slice ak x.kids.length ck] w fun e w' => e = .returned (.int .i64 (T.sizeL x.kids)) ∧ Below w.heap.size w w')
    (ak : Option Addr) (ck : Nat) (w : World) (hf : Forest w P f ak ck) (ff : ∀ x ∈ f, Fits x) (hS : T.sizeL f ≤ 4096) : Calls Tryd.prog 50 #[.slice ak f.length ck] w fun e w' => e = .returned (.int .i64 (T.sizeL f)) ∧ Below w.heap.size w w' := by
  have hlen := len_sizeL f
  obtain ⟨S, hSz⟩ : ∃ S, T.sizeL f = S := ⟨_, rfl⟩
  have HH := Lib.hid (And.intro hf (And.intro ff (And.intro ih (And.intro hS (And.intro hSz hlen)))))
  rw [hSz]
  clear hf ff ih hS hSz hlen
  go_enter Tryd.func50, Tryd.ntmps50
  go_wp2
  go_loopg [3, 4] f.length (fun kq v3 v w' => ∃ i m : Nat, v = .int .i64 i ∧ v3 = .int .i64 m ∧ Hid (kq = f.length - i ∧ i ≤ f.length ∧ m + i = f.length + T.sizeL (f.take i)) ∧ Hid (Below w.heap.size w w'))
  case atStart => exact ⟨0, f.length, rfl, rfl, Lib.hid ⟨rfl, Nat.zero_le _, by simp [T.sizeL]⟩, Lib.hid (Below.refl _ _)⟩
  case round =>
    obtain ⟨i, m, rfl, rfl, HI, HB⟩ := hrel
    have hi0 : (0 : Int) ≤ (i : Int) := by omega
    by_cases hi : i < f.length
    · have hi1 : (i : Int) < (f.length : Int) := by omega
      have hi2 : decide (i < f.length) = true := decide_eq_true hi
      obtain ⟨x, hx⟩ : ∃ x, f[i]? = some x := ⟨f[i], List.getElem?_eq_getElem hi⟩
      have hsx := size_mem hx
      have hle := len_sizeL (f.take i)
      have hFr : Forest wr P f ak ck := HH.out.1.keep (Upd.ofBelow (F := fun _ => False) HB.out) (fun _ _ h => h)
      obtain ⟨g, off, xk, xn, xa, xla, xca, xt, xkk, xlk, xkc, rfl, hck, y0, y1, y2, y3, y4, hxA⟩ := hFr.kid hx
      have IH := HH.out.2.2.1 x (List.mem_of_getElem? hx)
      have fx := HH.out.2.1 x (List.mem_of_getElem? hx)
      have hat := sizeL_at hx
      cases x with
      | mk k n al t ks =>
      obtain ⟨aa, xa', kk, xk', e, hAl, hAk⟩ := TreeAt.forest hxA
      simp at e
      obtain ⟨rfl, rfl, ⟨rfl, rfl, rfl⟩, rfl, rfl, rfl, rfl⟩ := e
      by_cases h1 : xk = 1
      · subst h1
        rw [T.size, if_pos rfl] at hsx hat
        have C := IH xkk xkc wr hAk fx.kid (by have := HH.out.2.2.2.1; have := hsx; simp only [T.kids]; omega)
        simp only [T.kids] at C
        obtain ⟨z, hz⟩ : ∃ z, T.sizeL ks = z := ⟨_, rfl⟩
        rw [hz] at C hsx hat
        have hmz : (m : Int) + (z : Int) ≤ 20000 := by have := HI.out.2.2; have := HH.out; have := hle; omega
        have HX := Lib.hid (And.intro hi hat)
        clear hFr hx hi hz hsx hle hxA IH fx hAl hAk hat
        go_wp2_with fail
        refine C.mono ?_
        rintro e w3 ⟨rfl, hB3⟩
        have HU := Lib.hid (below_tr HB.out hB3)
        clear hB3 C y0 y1 y2 y3 y4
        go_wp2
        go_roundg (f.length - (i + 1))
        case measure => have := HI.out; have := HX.out; omega
        case rel =>
          refine ⟨i + 1, m + z, v64s HX.out.1 (by have := HH.out; omega), by go_num, Lib.hid ⟨rfl, HX.out.1, ?_⟩, HU⟩
          have := HI.out.2.2
          have := HX.out.2
          omega
      · have h1b : (xk == 1) = false := beq_eq_false_iff_ne.2 h1
        rw [T.size, if_neg h1] at hsx hat
        have HX := Lib.hid (And.intro hi hat)
        clear hFr hx hi hsx hle hxA IH fx hAl hAk hat h1
        go_wp2
        go_roundg (f.length - (i + 1))
        case measure => have := HI.out; have := HX.out; omega
        case rel =>
          refine ⟨i + 1, m, v64s HX.out.1 (by have := HH.out; omega), rfl, Lib.hid ⟨rfl, HX.out.1, ?_⟩, HB⟩
          have := HI.out.2.2
          have := HX.out.2
          omega
    · have hi1 : ¬ (i : Int) < (f.length : Int) := by omega
      have hi2 : decide (i < f.length) = false := decide_eq_false hi
      have ei : i = f.length := by have := HI.out; omega
      clear hi
      go_wp2
      go_ret
      refine ⟨ret_int ?_, HB.out⟩
      have h := HI.out.2.2
      rw [ei, List.take_length] at h
      have := HH.out.2.2.2.2.1
      omega

theorem size_any (P : Nat → Prop) (f : List T) (ak : Option Addr) (ck : Nat) (w : World) (hf : Forest w P f ak ck) (ff : ∀ x ∈ f, Fits x) (hS : T.sizeL f ≤ 4096) : Calls Tryd.prog 50 #[.slice ak f.length ck] w fun e w' => e = .returned (.int .i64 (T.sizeL f)) ∧ Below w.heap.size w w' := by
  refine size_step P f (fun x _ => ?_) ak ck w hf ff hS
  have : ∀ t : T, ∀ (ak : Option Addr) (ck : Nat) (w : World), Forest w P t.kids ak ck → (∀ y ∈ t.kids, Fits y) → T.sizeL t.kids ≤ 4096 → Calls Tryd.prog 50 #[.slice ak t.kids.length ck] w fun e w' => e = .returned (.int .i64 (T.sizeL t.kids)) ∧ Below w.heap.size w w' := by
    refine T.ind ?_
    intro k n al t ks ih ak ck w h1 h2 h3
    exact size_step P ks ih ak ck w h1 h2 h3
  exact this x

end Pt
end Go.Proofs.YtemmkobgpciflaaDoor
