/- The program's Distance, walked. -/
import Derived.Test.YtmmjmfadipmfiaaDoorDist
import Derived.Test.YtmmjmfadipmfiaaDoorCan
namespace Go.Proofs.YtmmjmfadipmfiaaDoor
open Go.RowKit
open Ch
namespace Df

/-- What Distance answers. -/
def distR (f g : List T) : Int × Int := if canE f ≠ 0 then (0, canE f) else if canE g ≠ 0 then (0, canE g) else if 32 < (postL f []).length ∨ 32 < (postL g []).length then (0, 2) else ((distN f g : Nat), 0)
def DPost (w : World) (f g : List T) (e : Ending) (w' : World) : Prop := ∃ r c, e = .returned (.tuple #[.int .i64 r, .int .i64 c]) ∧ Hid ((r, c) = distR f g) ∧ Below w.heap.size w w'

theorem NodesAt.mono {w : World} {P Q : Nat → Prop} (h : ∀ g, P g → Q g) : ∀ {l : List Nd} {xs : List Value}, NodesAt w P l xs → NodesAt w Q l xs
  | [], _, h1 => h1
  | y :: l, xs, h1 => by
    obtain ⟨a, d, e, h2, h3⟩ := h1
    exact ⟨a, d, e, h2.mono h, NodesAt.mono h h3⟩
theorem NodesOwn.rd {w : World} {B M : Nat} {A : List Nd} {v : Value} (h : NodesOwn w B A v) (hM : B ≤ M) (hv : ∀ g, v.ownBlock = some g → g ≠ M) : NodesRd w (· ≠ M) A v := by
  obtain ⟨⟨xs, h1, h2⟩, _⟩ := h
  exact ⟨xs, Rd.ofOwn h1, h2.mono (fun g (hg : g < B) => by show g ≠ M; omega), hv⟩

set_option maxRecDepth 100000 in
set_option maxHeartbeats 4000000 in
theorem distA_any (B : Nat) (f g : List T) (ak bk : Option Addr) (ck dk : Nat) (w : World) (hf : Forest w (· < B) f ak ck) (hg : Forest w (· < B) g bk dk) (ff : ∀ x ∈ f, Fits x) (fg : ∀ x ∈ g, Fits x) (lf : f.length * 88 ≤ 140737488351232) (lg : g.length * 88 ≤ 140737488351232) (hB : B ≤ w.heap.size) (hT : Tabs w) :
    Calls Tryd.prog 9 #[.slice ak f.length ck, .slice bk g.length dk] w (DPost w f g) := by
  obtain ⟨L, hL⟩ : ∃ L, L = w.heap.size := ⟨_, rfl⟩
  have HH := Lib.hid (And.intro hf (And.intro hg (And.intro ff (And.intro fg (And.intro lf (And.intro lg (And.intro hB (And.intro hT hL))))))))
  clear hf hg ff fg lf lg hB hT hL
  go_enter Tryd.func9, Tryd.ntmps9
  go_wp2
  rw [← HH.out.2.2.2.2.2.2.2.2]
  generalize hW : World.alloc _ _ = W1
  have B1 : Below w.heap.size w W1 := by rw [← hW]; exact below_al (Below.refl _ _) (Nat.le_refl _) _
  have L1 : Blk W1 L [.slice ak f.length ck, .slice bk g.length dk] 23 := by rw [← hW]; exact Blk.new' HH.out.2.2.2.2.2.2.2.2
  have H1 := Lib.hid (And.intro B1 L1)
  clear hW B1 L1
  go_loopg [7, 8, 14] 2 (fun kq v7 v8 v14 w' => ∃ i : Nat, v14 = .int .i64 i ∧ Hid (kq = 2 - i ∧ i ≤ 2 ∧ (1 ≤ i → canE f = 0) ∧ (2 ≤ i → canE g = 0)) ∧ Hid (Below w.heap.size w w') ∧ Hid (Blk w' L [.slice ak f.length ck, .slice bk g.length dk] 23))
  case atStart => exact ⟨0, rfl, Lib.hid ⟨rfl, Nat.zero_le _, fun h => by omega, fun h => by omega⟩, Lib.hid H1.out.1, Lib.hid H1.out.2⟩
  case round =>
    obtain ⟨i, rfl, HJ, HB, HL⟩ := hrel
    have b0 := HL.out.cell 0
    have b1 := HL.out.cell 1
    simp only [List.getElem?_cons_zero, List.getElem?_cons_succ] at b0 b1
    have Uw := Upd.ofBelow (F := fun _ => False) HB.out
    have hBr : B ≤ wr.heap.size := Nat.le_trans HH.out.2.2.2.2.2.2.1 HB.out.size
    have hTr : Tabs wr := HH.out.2.2.2.2.2.2.2.1.below HB.out
    by_cases h0 : i = 0
    · subst h0
      have C := dcan_any f ak ck wr B (HH.out.1.keep Uw (fun _ _ h => h)) HH.out.2.2.1 HH.out.2.2.2.2.1 hBr hTr
      obtain ⟨r, hr⟩ : ∃ r, r = canE f := ⟨_, rfl⟩
      rw [← hr] at C
      have HC := Lib.hid C
      have HR := Lib.hid hr
      clear C hr Uw hBr hTr
      simp only [Int.ofNat_zero, Int.natCast_zero]
      go_wp2_with fail
      refine HC.out.mono ?_
      rintro e w2 ⟨rfl, B2⟩
      have H2 := Lib.hid B2
      clear B2
      by_cases hr : r = 0
      · have hr1 : (r == 0) = true := beq_iff_eq.2 hr
        have hr2 : (r != 0) = false := by simp [hr]
        have HR0 := Lib.hid hr
        clear hr
        go_wp2
        go_roundg 1
        case measure => have := HJ.out; omega
        case rel => exact ⟨1, rfl, Lib.hid ⟨rfl, by omega, fun _ => HR.out.symm.trans HR0.out, fun h => by omega⟩, Lib.hid (below_tr HB.out H2.out), Lib.hid ((Upd.ofBelow (F := fun _ => False) H2.out).blk HL.out (fun h => h))⟩
      · have hr1 : (r == 0) = false := beq_eq_false_iff_ne.2 hr
        have hr2 : (r != 0) = true := by simp [hr]
        have HR0 := Lib.hid hr
        clear hr
        go_wp2
        go_ret2
        exact ⟨0, r, rfl, Lib.hid (by unfold distR; rw [← HR.out, if_pos HR0.out]), below_tr HB.out H2.out⟩
    · by_cases h1 : i = 1
      · subst h1
        have C := dcan_any g bk dk wr B (HH.out.2.1.keep Uw (fun _ _ h => h)) HH.out.2.2.2.1 HH.out.2.2.2.2.2.1 hBr hTr
        obtain ⟨r, hr⟩ : ∃ r, r = canE g := ⟨_, rfl⟩
        rw [← hr] at C
        have HC := Lib.hid C
        have HR := Lib.hid hr
        clear C hr Uw hBr hTr h0
        simp only [Int.ofNat_one, Int.natCast_one]
        go_wp2_with fail
        refine HC.out.mono ?_
        rintro e w2 ⟨rfl, B2⟩
        have H2 := Lib.hid B2
        clear B2
        by_cases hr : r = 0
        · have hr1 : (r == 0) = true := beq_iff_eq.2 hr
          have hr2 : (r != 0) = false := by simp [hr]
          have HR0 := Lib.hid hr
          clear hr
          go_wp2
          go_roundg 0
          case measure => have := HJ.out; omega
          case rel => exact ⟨2, rfl, Lib.hid ⟨rfl, by omega, fun _ => HJ.out.2.2.1 (by omega), fun _ => HR.out.symm.trans HR0.out⟩, Lib.hid (below_tr HB.out H2.out), Lib.hid ((Upd.ofBelow (F := fun _ => False) H2.out).blk HL.out (fun h => h))⟩
        · have hr1 : (r == 0) = false := beq_eq_false_iff_ne.2 hr
          have hr2 : (r != 0) = true := by simp [hr]
          have HR0 := Lib.hid hr
          clear hr
          go_wp2
          go_ret2
          exact ⟨0, r, rfl, Lib.hid (by unfold distR; rw [if_neg (fun h => h (HJ.out.2.2.1 (by omega))), ← HR.out, if_pos HR0.out]), below_tr HB.out H2.out⟩
      · have h2 : i = 2 := by have := HJ.out; omega
        subst h2
        have cf := HJ.out.2.2.1 (by omega)
        have cg := HJ.out.2.2.2 (by omega)
        obtain ⟨sf, kf⟩ := canGo_ok f 0 cf
        obtain ⟨sg, kg⟩ := canGo_ok g 0 cg
        have C := ends_any B f ak ck [] (.slice none 0 0) wr (HH.out.1.keep Uw (fun _ _ h => h)) HH.out.2.2.2.2.1 HH.out.2.2.1 (NodesOwn.nil wr B) hBr (by simp; omega)
        have fA := postL_fine f [] kf HH.out.2.2.1 Fine.nil
        have fB := postL_fine g [] kg HH.out.2.2.2.1 Fine.nil
        have HC := Lib.hid C
        have HF := Lib.hid (And.intro cf (And.intro cg (And.intro sf (And.intro sg (And.intro fA fB)))))
        clear h0 h1 cf cg sf kf sg kg C fA fB Uw hBr hTr b0 b1
        simp only [show ((2 : Nat) : Int) = 2 from rfl]
        go_wp2_with fail
        refine HC.out.mono ?_
        rintro e w2 ⟨v1, rfl, N2, O2⟩
        obtain ⟨a1, c1, rfl, _⟩ := N2.form
        have U2 : Upd w w2 (fun _ => False) := (Upd.ofBelow HB.out).trans O2.1 (fun g _ e => by cases e)
        have C2 := ends_any B g bk dk [] (.slice none 0 0) w2 (HH.out.2.1.keep U2 (fun _ _ h => h)) HH.out.2.2.2.2.2.1 HH.out.2.2.2.1 (NodesOwn.nil w2 B) (Nat.le_trans HH.out.2.2.2.2.2.2.1 U2.size) (by have := HF.out; simp; omega)
        obtain ⟨A, hA⟩ : ∃ A, A = postL f [] := ⟨_, rfl⟩
        rw [← hA] at N2 O2 ⊢
        have H2 := Lib.hid (And.intro N2 (And.intro U2 hA))
        have HC2 := Lib.hid C2
        clear N2 U2 C2 O2 hA
        go_wp2_with fail
        refine HC2.out.mono ?_
        rintro e w3 ⟨v2, rfl, N3, O3⟩
        obtain ⟨a2, c2, rfl, _⟩ := N3.form
        obtain ⟨A2, hA2⟩ : ∃ A, A = postL g [] := ⟨_, rfl⟩
        rw [← hA2] at N3 O3 ⊢
        have U3 : Upd w2 w3 (fun _ => False) := O3.1.mono (fun g _ e => by cases e)
        have H3 := Lib.hid (And.intro N3 (And.intro U3 hA2))
        clear N3 U3 O3 hA2
        obtain ⟨M, hM⟩ : ∃ M, M = w3.heap.size := ⟨_, rfl⟩
        have HM := Lib.hid hM
        clear hM
        have hmm := @run_makeMap Tryd.prog
        go_upto_region 9 with fail
        clear hmm
        rw [← HM.out]
        generalize hW : World.alloc _ _ = W4
        have hXM : Blk W4 (M + 1) [.slice a1 A.length c1, .slice a2 A2.length c2, .map (some M)] 52 := by rw [← hW]; exact Blk.new' (by rw [HM.out]; simp)
        have hMM : MapIs W4 M [] := by
          rw [← hW]
          exact (MapIs.new' HM.out).at_ (heap_alloc_lt _ _ _ (by rw [HM.out]; simp))
        have B4 : Below w3.heap.size w3 W4 := by rw [← hW]; exact below_al (below_al (Below.refl _ _) (Nat.le_refl _) _) (Nat.le_refl _) _
        have U4 : Upd w3 W4 (fun _ => False) := Upd.ofBelow B4
        have hBM : B ≤ M := by
          have h1 := HH.out.2.2.2.2.2.2.1
          have h2 := H2.out.2.1.size
          have h3 := H3.out.2.1.size
          have h4 := HM.out
          omega
        have NA := (H2.out.1.keep H3.out.2.1 (fun _ h => h.elim)).keep U4 (fun _ h => h.elim)
        have NB := H3.out.1.keep U4 (fun _ h => h.elim)
        have RA : NodesRd W4 (· ≠ M) A (.slice a1 A.length c1) := NA.rd hBM (fun g hg e => by
          have := (H2.out.1).lt hg
          have := H3.out.2.1.size
          have := HM.out
          omega)
        have RB : NodesRd W4 (· ≠ M) A2 (.slice a2 A2.length c2) := NB.rd hBM (fun g hg e => by
          have := (H3.out.1).lt hg
          have := HM.out
          omega)
        have UW : Upd w W4 (fun _ => False) := (H2.out.2.1.trans H3.out.2.1 (fun _ _ h => h)).trans U4 (fun _ _ h => h)
        have x0 := hXM.cell 0
        have x1 := hXM.cell 1
        simp only [List.getElem?_cons_zero, List.getElem?_cons_succ] at x0 x1
        have H4 := Lib.hid (And.intro hXM (And.intro hMM (And.intro RA (And.intro RB UW))))
        clear hW hXM hMM B4 U4 hBM NA NB RA RB UW
        have hd0 : distR f g = (if 32 < A.length ∨ 32 < A2.length then ((0 : Int), (2 : Int)) else (((distN f g : Nat) : Int), (0 : Int))) := by
          unfold distR
          rw [if_neg (fun h => h HF.out.1), if_neg (fun h => h HF.out.2.1), H2.out.2.2, H3.out.2.2]
        have HD := Lib.hid hd0
        clear hd0
        by_cases hA : 32 < A.length
        · have hA1 : (A.length : Int) > 32 := by omega
          have HA := Lib.hid hA
          clear hA
          go_wp2
          go_ret2
          exact ⟨0, 2, rfl, Lib.hid (by rw [HD.out, if_pos (Or.inl HA.out)]), H4.out.2.2.2.2.below (Nat.le_refl _) (fun _ _ h => h)⟩
        · have hA1 : ¬ (A.length : Int) > 32 := by omega
          have hA2 : decide (32 < A.length) = false := decide_eq_false hA
          by_cases hB2 : 32 < A2.length
          · have hB1 : (A2.length : Int) > 32 := by omega
            have HA := Lib.hid hB2
            clear hA hB2
            go_wp2
            go_ret2
            exact ⟨0, 2, rfl, Lib.hid (by rw [HD.out, if_pos (Or.inr HA.out)]), H4.out.2.2.2.2.below (Nat.le_refl _) (fun _ _ h => h)⟩
          · have hB1 : ¬ (A2.length : Int) > 32 := by omega
            have hB3 : decide (32 < A2.length) = false := decide_eq_false hB2
            have CO := of_any (M + 1) M A A2 (.slice a1 A.length c1) (.slice a2 A2.length c2) (by rw [H2.out.2.2]; exact (postL_ext f [] Good.nil).1) (by rw [H3.out.2.2]; exact (postL_ext g [] Good.nil).1) (by rw [H2.out.2.2]; exact HF.out.2.2.2.2.1) (by rw [H3.out.2.2]; exact HF.out.2.2.2.2.2) _ 0 A.length 0 A2.length (Nat.le_refl _) W4.drew
              (FarOk.keep ⟨H4.out.1, by omega, H4.out.2.2.1, H4.out.2.2.2.1⟩ (Upd.refl W4 _).drew) ⟨[], H4.out.2.1.at_ rfl, Right.nil A A2⟩ (Part.whole A) (Part.whole A2) (by omega) (by omega)
            obtain ⟨r, hr⟩ : ∃ r, r = far A A2 0 A.length 0 A2.length := ⟨_, rfl⟩
            rw [← hr] at CO
            have hrd : ((r : Int), (0 : Int)) = distR f g := by
              rw [HD.out, if_neg (by omega), hr]
              unfold distN
              rw [H2.out.2.2, H3.out.2.2]
            have HCO := Lib.hid CO
            have HR := Lib.hid hrd
            clear hA hB2 CO hr hrd
            go_wp2
            apply wp_reg (fun w' : World => w'.cell? ⟨M + 1, 0, none⟩ = some (.slice a1 A.length c1) ∧ w'.cell? ⟨M + 1, 1, none⟩ = some (.slice a2 A2.length c2)) [0, 1, 2, 3, 4, 5, 6, 7, 8, 9, 10] [11] [12, 13] (by kernel_rfl) (by kernel_rfl) (fun _ _ d _ _ h => by cases d <;> exact h) ⟨x0, x1⟩
            · iterate 11 (apply reads_consL rfl rfl; (· intro w0 hS; obtain ⟨hS0, hS1⟩ := hS; go_simp; try rfl); simp only [Act.put, List.setIfInBounds_toArray, List.set_cons_zero, List.set_cons_succ])
              exact rfl
            refine tail_consL rfl ?_
            clear x0 x1
            go_wp2_with fail
            simp only [Int.ofNat_zero, Int.natCast_zero] at HCO
            refine HCO.out.mono ?_
            rintro e w5 ⟨rfl, _, U5⟩
            have y0 : w5.cell? ⟨M + 1, 0, none⟩ = some (.slice a1 A.length c1) := ((U5.blk H4.out.1.drew (by show ¬ M + 1 = M; omega)).cell 0)
            have y1 : w5.cell? ⟨M + 1, 1, none⟩ = some (.slice a2 A2.length c2) := ((U5.blk H4.out.1.drew (by show ¬ M + 1 = M; omega)).cell 1)
            have HU := Lib.hid (H4.out.2.2.2.2.drew.trans U5 (G := (· = M)) (fun g hg e => by
              have h2 := H2.out.2.1.size
              have h3 := H3.out.2.1.size
              have h4 := HM.out
              omega))
            clear U5
            go_wp2_with fail
            refine ⟨⟨y0, y1⟩, tail_twoL rfl rfl ?_⟩
            clear y0 y1
            go_wp2
            go_ret2
            exact ⟨r, 0, rfl, HR, HU.out.below (Nat.le_refl _) (fun _ _ h => h)⟩

end Df
end Go.Proofs.YtmmjmfadipmfiaaDoor
