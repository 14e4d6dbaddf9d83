/- The document's Distance, walked. -/
import Derived.Test.YtemmkobgpciflaaDoorDistA
import Derived.Test.YtemmkobgpciflaaDoorRCan
namespace Go.Proofs.YtemmkobgpciflaaDoor
open Go.RowKit
open Ch
namespace Df

@[go_sem] theorem buildPost (w : World) : (Instr.build 101 #[]).run Tryd.prog w = .ok (.agg #[.slice none 0 0, .slice none 0 0]) w := run_build w 101 _ _ (by kernel_rfl)

theorem TreesRd.of {w : World} {B K : Nat} {A : List Nd} {v u : Value} (h : PostOwn w B A v u) (hK : B ≤ K) (hv : ∀ g, v.ownBlock = some g → g ≠ K) (hu : ∀ g, u.ownBlock = some g → g ≠ K) : TreesRd w (· ≠ K) A v ∧ FirstsRd w (· ≠ K) A u := by
  obtain ⟨⟨xs, h1, h2⟩, h3, h4, h5⟩ := h
  refine ⟨⟨xs, ⟨Rd.ofOwn h1, fun _ g hg => hv g hg⟩, ?_⟩, ⟨Rd.ofOwn h3, fun _ g hg => hu g hg⟩⟩
  exact ForestIs.mono (fun _ _ _ h => RdP.mono h (fun g (hg : g < B) => by show g ≠ K; omega)) (fun _ _ _ h => RdP.mono h (fun g (hg : g < B) => by show g ≠ K; omega)) h2

set_option maxRecDepth 100000 in
set_option maxHeartbeats 4000000 in
theorem distB_any (B : Nat) (f g : List T) (ak bk : Option Addr) (ck dk : Nat) (w : World) (hf : Forest w (· < B) f ak ck) (hg : Forest w (· < B) g bk dk) (ff : ∀ x ∈ f, Fits x) (fg : ∀ x ∈ g, Fits x) (lf : f.length * 88 ≤ 140737488351232) (lg : g.length * 88 ≤ 140737488351232) (hB : B ≤ w.heap.size) (hT : Tabs w) :
    Calls Tryd.prog 16 #[.slice ak f.length ck, .slice bk g.length dk] w (DPost w f g) := by
  have C := rcan_any f ak ck w B hf ff lf hB hT
  obtain ⟨r, hr⟩ : ∃ r, r = canE f := ⟨_, rfl⟩
  rw [← hr] at C
  have HH := Lib.hid (And.intro hf (And.intro hg (And.intro ff (And.intro fg (And.intro lf (And.intro lg (And.intro hB hT)))))))
  have HC := Lib.hid C
  have HR := Lib.hid hr
  clear hf hg ff fg lf lg hB hT C hr
  go_enter Tryd.func16, Tryd.ntmps16
  go_wp2_with fail
  refine HC.out.mono ?_
  rintro e w1 ⟨rfl, B1⟩
  by_cases h0 : r = 0
  · have h0' : (r == 0) = true := beq_iff_eq.2 h0
    have H1 := Lib.hid (And.intro B1 h0)
    have hcf : canE f = 0 := HR.out.symm.trans h0
    have U1 := Upd.ofBelow (F := fun _ => False) B1
    have C2 := rcan_any g bk dk w1 B (HH.out.2.1.keep U1 (fun _ _ h => h)) HH.out.2.2.2.1 HH.out.2.2.2.2.2.1 (Nat.le_trans HH.out.2.2.2.2.2.2.1 B1.size) (HH.out.2.2.2.2.2.2.2.below B1)
    obtain ⟨r2, hr2⟩ : ∃ r, r = canE g := ⟨_, rfl⟩
    rw [← hr2] at C2
    have HC2 := Lib.hid C2
    have HR2 := Lib.hid (And.intro hr2 hcf)
    clear B1 h0 U1 C2 hr2 hcf
    go_wp2_with fail
    refine HC2.out.mono ?_
    rintro e w2 ⟨rfl, B2⟩
    have H2 := Lib.hid B2
    clear B2
    by_cases h2 : r2 = 0
    · have h2' : (r2 == 0) = true := beq_iff_eq.2 h2
      have h2n : (r2 != 0) = false := by simp [h2]
      have cf := HR2.out.2
      have cg : canE g = 0 := HR2.out.1.symm.trans h2
      obtain ⟨sf, kf⟩ := canGo_ok f 0 cf
      obtain ⟨sg, kg⟩ := canGo_ok g 0 cg
      have U2 : Upd w w2 (fun _ => False) := (Upd.ofBelow H1.out.1).trans (Upd.ofBelow (F := fun _ => False) H2.out) (fun _ _ h => h)
      have C3 := posted_any B f ak ck [] (.slice none 0 0) (.slice none 0 0) w2 (HH.out.1.keep U2 (fun _ _ h => h)) HH.out.2.2.2.2.1 HH.out.2.2.1 (PostOwn.nil w2 B) (Nat.le_trans HH.out.2.2.2.2.2.2.1 U2.size) (by simp; omega)
      have fA := postL_fine f [] kf HH.out.2.2.1 Fine.nil
      have fB := postL_fine g [] kg HH.out.2.2.2.1 Fine.nil
      have HC3 := Lib.hid C3
      have HF := Lib.hid (And.intro cf (And.intro cg (And.intro sf (And.intro sg (And.intro fA fB)))))
      have HU2 := Lib.hid U2
      clear h2 cf cg sf kf sg kg C3 fA fB U2
      go_wp2_with fail
      refine HC3.out.mono ?_
      rintro e w3 ⟨v1, u1, rfl, P3, O3⟩
      obtain ⟨a1, c1, b1, d1, rfl, rfl⟩ := P3.form
      have U3 : Upd w w3 (fun _ => False) := HU2.out.trans O3.1 (fun g _ e => by rcases e with e | e <;> cases e)
      have C4 := posted_any B g bk dk [] (.slice none 0 0) (.slice none 0 0) w3 (HH.out.2.1.keep U3 (fun _ _ h => h)) HH.out.2.2.2.2.2.1 HH.out.2.2.2.1 (PostOwn.nil w3 B) (Nat.le_trans HH.out.2.2.2.2.2.2.1 U3.size) (by have := HF.out; simp; omega)
      obtain ⟨A, hA⟩ : ∃ A, A = postL f [] := ⟨_, rfl⟩
      rw [← hA] at P3 O3 ⊢
      have H3 := Lib.hid (And.intro P3 (And.intro U3 hA))
      have HC4 := Lib.hid C4
      clear P3 U3 C4 O3 hA
      go_wp2_with fail
      refine HC4.out.mono ?_
      rintro e w4 ⟨v2, u2, rfl, P4, O4⟩
      obtain ⟨a2, c2, b2, d2, rfl, rfl⟩ := P4.form
      obtain ⟨A2, hA2⟩ : ∃ A, A = postL g [] := ⟨_, rfl⟩
      rw [← hA2] at P4 O4 ⊢
      have U4 : Upd w3 w4 (fun _ => False) := O4.1.mono (fun g _ e => by rcases e with e | e <;> cases e)
      have H4 := Lib.hid (And.intro P4 (And.intro U4 hA2))
      clear P4 U4 O4 hA2
      obtain ⟨X, hX⟩ : ∃ X, X = w4.heap.size := ⟨_, rfl⟩
      have HX := Lib.hid hX
      clear hX
      go_upto_region 7 with fail
      rw [← HX.out]
      generalize hW : World.alloc _ _ = W5
      have X5 : Blk W5 X [.slice a1 A.length c1, .slice b1 A.length d1, .slice a2 A2.length c2, .slice b2 A2.length d2, .slice none 0 0] 104 := by rw [← hW]; exact Blk.new' HX.out
      have B5 : Below w4.heap.size w4 W5 := by rw [← hW]; exact below_al (Below.refl _ _) (Nat.le_refl _) _
      have U5 : Upd w W5 (fun _ => False) := (H3.out.2.1.trans H4.out.2.1 (fun _ _ h => h)).trans (Upd.ofBelow (F := fun _ => False) B5) (fun _ _ h => h)
      have P1 := (H3.out.1.keep H4.out.2.1 (fun _ _ h => h) (fun _ _ h => h) (fun _ _ h => h)).keep (Upd.ofBelow (F := fun _ => False) B5) (fun _ _ h => h) (fun _ _ h => h) (fun _ _ h => h)
      have P2 := H4.out.1.keep (Upd.ofBelow (F := fun _ => False) B5) (fun _ _ h => h) (fun _ _ h => h) (fun _ _ h => h)
      have x0 := X5.cell 0
      have x1 := X5.cell 1
      have x2 := X5.cell 2
      have x3 := X5.cell 3
      have x4 := X5.cell 4
      have e4 := X5.free 4
      simp only [List.getElem?_cons_zero, List.getElem?_cons_succ] at x0 x1 x2 x3 x4
      have H5 := Lib.hid (And.intro X5 (And.intro U5 (And.intro P1 P2)))
      clear hW X5 B5 U5 P1 P2
      have hd0 : distR f g = (if 32 < A.length ∨ 32 < A2.length then ((0 : Int), (2 : Int)) else (((distN f g : Nat) : Int), (0 : Int))) := by
        unfold distR
        rw [if_neg (fun h => h HF.out.1), if_neg (fun h => h HF.out.2.1), H3.out.2.2, H4.out.2.2]
      have HD := Lib.hid hd0
      clear hd0
      by_cases hA : 32 < A.length
      · have hA1 : (A.length : Int) > 32 := by omega
        have HA := Lib.hid hA
        clear hA
        go_wp2
        go_ret2
        exact ⟨0, 2, rfl, Lib.hid (by rw [HD.out, if_pos (Or.inl HA.out)]), H5.out.2.1.below (Nat.le_refl _) (fun _ _ h => h)⟩
      · have hA1 : ¬ (A.length : Int) > 32 := by omega
        have hA2 : decide (32 < A.length) = false := decide_eq_false hA
        by_cases hB2 : 32 < A2.length
        · have hB1 : (A2.length : Int) > 32 := by omega
          have HA := Lib.hid hB2
          clear hA hB2
          go_wp2
          go_ret2
          exact ⟨0, 2, rfl, Lib.hid (by rw [HD.out, if_pos (Or.inr HA.out)]), H5.out.2.1.below (Nat.le_refl _) (fun _ _ h => h)⟩
        · have hB1 : ¬ (A2.length : Int) > 32 := by omega
          have hB3 : decide (32 < A2.length) = false := decide_eq_false hB2
          have HAB := Lib.hid (And.intro hA hB2)
          clear hA hB2
          obtain ⟨S, hS⟩ : ∃ S : Nat, S = 1185921 := ⟨_, rfl⟩
          have HS := Lib.hid hS
          clear hS
          obtain ⟨iI, ii, iz, isz, iby⟩ := elemInt.info
          have HI := Lib.hid (And.intro ii (And.intro iz (And.intro isz iby)))
          clear ii iz isz iby
          go_wp2_with (at_make; refine halt_mk ?_)
          refine halt_go ?_
          refine wpList_make_full _ rfl _ _ 68 rfl 0 3 iI _ 1 Tryd.underlying68 HI.out.1 HI.out.2.1 HI.out.2.2.1 _ _ _ _ S rfl rfl (by rw [HS.out]; rfl) (by rw [HS.out]; rfl) (by rw [HI.out.2.2.2, HS.out]; decide) (by rw [HS.out]; unfold maxLen; decide) (Nat.zero_le _) ?_
          intro W6 hown hgrow
          obtain ⟨K, hK⟩ : ∃ K, K = W5.heap.size := ⟨_, rfl⟩
          rw [← hK] at hown ⊢
          have HK6 : ∃ vs, Blk W6 K vs 3 ∧ vs.length = S := by
            obtain ⟨_, ⟨e, _⟩ | ⟨g', cap, cur, e, _, hh, _, _, hsz, _⟩⟩ := hown
            · cases e
            · simp only [Value.slice.injEq, Option.some.injEq, Addr.mk.injEq] at e
              obtain ⟨⟨rfl, _, _⟩, _, rfl⟩ := e
              exact ⟨cur.toList, by unfold Blk; simpa using hh, by simpa using hsz⟩
          have B6 : Below W5.heap.size W5 W6 := Below.grown (Below.refl _ _) hgrow (Nat.le_refl _) (fun k hk => by cases hk)
          have X6 : Blk W6 X [.slice a1 A.length c1, .slice b1 A.length d1, .slice a2 A2.length c2, .slice b2 A2.length d2, .slice none 0 0] 104 := (Upd.ofBelow (F := fun _ => False) B6).blk H5.out.1 (fun h => h)
          have hXK : X ≠ K := fun e => by have := H5.out.1.lt; omega
          have z4 : W6.cell? ⟨X, 4, none⟩ = some (.slice none 0 0) := X6.cell 4
          have f4 := X6.free 4
          have H6 := Lib.hid (And.intro HK6 (And.intro B6 (And.intro X6 (And.intro hXK hK))))
          clear HK6 B6 X6 hXK hK hown hgrow x0 x1 x2 x3 x4 e4
          go_wp2
          generalize hW : World.setCell _ _ _ = W7
          have X7 : Blk W7 X [.slice a1 A.length c1, .slice b1 A.length d1, .slice a2 A2.length c2, .slice b2 A2.length d2, .slice (some ⟨K, 0, none⟩) S S] 104 := by rw [← hW]; exact H6.out.2.2.1.set 4 _
          obtain ⟨vs0, k0, l0⟩ := H6.out.1
          have K7 : Blk W7 K vs0 3 := by rw [← hW]; exact k0.far ⟨X, 4, none⟩ _ H6.out.2.2.2.1.symm
          have U67 : Upd W6 W7 (· = X) := by rw [← hW]; exact (Upd.refl W6 (· = X)).set ⟨X, 4, none⟩ _ (fun _ => rfl)
          have H7 := Lib.hid (And.intro X7 (And.intro K7 (And.intro l0 U67)))
          clear hW X7 K7 U67 k0 l0 z4 f4
          go_loopg [8] S (fun kq v8 w' => ∃ i : Nat, v8 = .int .i64 i ∧ Hid (kq = S - i ∧ i ≤ S) ∧ Hid (∃ vs, Blk w' K vs 3 ∧ vs.length = S ∧ ∀ j, j < i → vs[j]? = some (.int .i64 (-1))) ∧ Hid (Upd W7 w' (· = K)))
          case atStart => exact ⟨0, rfl, Lib.hid ⟨rfl, Nat.zero_le _⟩, Lib.hid ⟨vs0, H7.out.2.1, H7.out.2.2.1, fun j hj => by omega⟩, Lib.hid (Upd.refl _ _)⟩
          case round =>
            obtain ⟨i, rfl, HJ, HV, HU⟩ := hrel
            have hi0 : (0 : Int) ≤ (i : Int) := by omega
            have Xr := HU.out.blk H7.out.1 H6.out.2.2.2.1
            by_cases hi : i < S
            · have hi1 : (i : Int) < (S : Int) := by omega
              have hi2 : decide (i < S) = true := decide_eq_true hi
              obtain ⟨vs, kb, kl, kv⟩ := HV.out
              have y4 := Xr.cell 4
              simp only [List.getElem?_cons_zero, List.getElem?_cons_succ] at y4
              obtain ⟨u, hu⟩ : ∃ u, vs[i]? = some u := ⟨vs[i]'(by omega), List.getElem?_eq_getElem _⟩
              have kz := (kb.cell i).trans hu
              have kf := kb.free i
              have HX' := Lib.hid (And.intro kb (And.intro kl (And.intro kv hi)))
              clear Xr kb kl kv hu hi
              go_wp2
              go_roundg (S - (i + 1))
              case measure => have := HJ.out; have := HX'.out; omega
              case rel =>
                obtain ⟨kb, kl, kv, hi⟩ := HX'.out
                refine ⟨i + 1, v64s hi (by rw [HS.out]; decide), Lib.hid ⟨rfl, hi⟩, Lib.hid ⟨_, kb.set i _, by rw [List.length_set]; exact kl, fun j hj => ?_⟩, Lib.hid (HU.out.set ⟨K, i, none⟩ _ (fun _ => rfl))⟩
                by_cases ej : i = j
                · subst ej; rw [List.getElem?_set_self (by omega)]
                · rw [List.getElem?_set_ne ej]; exact kv j (by omega)
            · have hi1 : ¬ (i : Int) < (S : Int) := by omega
              have hi2 : decide (i < S) = false := decide_eq_false hi
              have ei : i = S := by have := HJ.out; omega
              have y0 := Xr.cell 0
              have y2 := Xr.cell 2
              have y4 := Xr.cell 4
              simp only [List.getElem?_cons_zero, List.getElem?_cons_succ] at y0 y2 y4
              have HE := Lib.hid (And.intro ei Xr)
              clear Xr hi ei
              have U5r : Upd W5 wr (fun g => g = X ∨ g = K) := ((Upd.ofBelow (F := fun g => g = X ∨ g = K) H6.out.2.1).trans H7.out.2.2.2 (fun _ _ h => Or.inl h)).trans HU.out (fun _ _ h => Or.inr h)
              have hs1 := H5.out.2.1.size
              have hBw := HH.out.2.2.2.2.2.2.1
              have hXe := HX.out
              have hKe := H6.out.2.2.2.2
              have hs3 := H3.out.2.1.size
              have hs4 := H4.out.2.1.size
              have hXlt := H5.out.1.lt
              obtain ⟨_, _, P1, P2⟩ := H5.out
              have ap1 := P1.apart H5.out.1 (by decide) (by decide)
              have ap2 := P2.apart H5.out.1 (by decide) (by decide)
              have nX1 : ∀ g, (Value.slice a1 A.length c1).ownBlock = some g → ¬ (g = X ∨ g = K) := fun g hg h => by
                have hl := P1.ltN hg
                rcases h with h | h
                · exact ap1.1 (h ▸ hg)
                · omega
              have nX2 : ∀ g, (Value.slice b1 A.length d1).ownBlock = some g → ¬ (g = X ∨ g = K) := fun g hg h => by
                have hl := P1.ltF hg
                rcases h with h | h
                · exact ap1.2 (h ▸ hg)
                · omega
              have nX3 : ∀ g, (Value.slice a2 A2.length c2).ownBlock = some g → ¬ (g = X ∨ g = K) := fun g hg h => by
                have hl := P2.ltN hg
                rcases h with h | h
                · exact ap2.1 (h ▸ hg)
                · omega
              have nX4 : ∀ g, (Value.slice b2 A2.length d2).ownBlock = some g → ¬ (g = X ∨ g = K) := fun g hg h => by
                have hl := P2.ltF hg
                rcases h with h | h
                · exact ap2.2 (h ▸ hg)
                · omega
              have hlow : ∀ g, g < B → ¬ (g = X ∨ g = K) := fun g hg h => by rcases h with h | h <;> omega
              obtain ⟨R1, R2⟩ := TreesRd.of (K := K) (P1.keep U5r nX1 nX2 hlow) (by omega) (fun g hg h => nX1 g hg (Or.inr h)) (fun g hg h => nX2 g hg (Or.inr h))
              obtain ⟨R3, R4⟩ := TreesRd.of (K := K) (P2.keep U5r nX3 nX4 hlow) (by omega) (fun g hg h => nX3 g hg (Or.inr h)) (fun g hg h => nX4 g hg (Or.inr h))
              have FR : FarR wr X K S A A2 (.slice a1 A.length c1) (.slice b1 A.length d1) (.slice a2 A2.length c2) (.slice b2 A2.length d2) S := ⟨HE.out.2, H6.out.2.2.2.1, Nat.le_refl _, R1, R2, R3, R4⟩
              have KR : KnownIs wr K S A A2 := by
                obtain ⟨vs, kb, kl, kv⟩ := HV.out
                exact ⟨vs, kb, kl, fun j hj => ⟨-1, kv j (by rw [HE.out.1]; exact hj), fun h => absurd h (by decide)⟩⟩
              have UW : Upd w wr (fun g => w.heap.size ≤ g) := (H5.out.2.1.mono (fun _ _ h => h.elim)).trans U5r (fun g _ h => by show w.heap.size ≤ g; rcases h with h | h <;> omega)
              have CO := dist_any X K S HS.out A A2 (.slice a1 A.length c1) (.slice b1 A.length d1) (.slice a2 A2.length c2) (.slice b2 A2.length d2) S (by rw [H3.out.2.2]; exact (postL_ext f [] Good.nil).1) (by rw [H4.out.2.2]; exact (postL_ext g [] Good.nil).1) (by rw [H3.out.2.2]; exact HF.out.2.2.2.2.1) (by rw [H4.out.2.2]; exact HF.out.2.2.2.2.2) _ 0 A.length 0 A2.length (Nat.le_refl _) wr.drew
                (FR.keep (Upd.refl wr _).drew) KR (Part.whole A) (Part.whole A2) (by have := HAB.out; omega) (by have := HAB.out; omega)
              obtain ⟨r, hr⟩ : ∃ r, r = far A A2 0 A.length 0 A2.length := ⟨_, rfl⟩
              rw [← hr] at CO
              have hrd : ((r : Int), (0 : Int)) = distR f g := by
                rw [HD.out, if_neg (by have := HAB.out; omega), hr]
                unfold distN
                rw [H3.out.2.2, H4.out.2.2]
              have HCO := Lib.hid CO
              have HRD := Lib.hid hrd
              have HUW := Lib.hid (And.intro UW (And.intro hKe hs1))
              clear U5r hs1 hBw hXe hKe hs3 hs4 hXlt P1 P2 ap1 ap2 nX1 nX2 nX3 nX4 hlow R1 R2 R3 R4 FR KR UW CO hr hrd
              go_wp2
              apply wp_reg (fun w' : World => w'.cell? ⟨X, 0, none⟩ = some (.slice a1 A.length c1) ∧ w'.cell? ⟨X, 2, none⟩ = some (.slice a2 A2.length c2)) [0, 1, 2, 3, 4, 5, 6, 7, 8, 9, 10, 11, 12] [13] [14, 15] (by kernel_rfl) (by kernel_rfl) (fun _ _ d _ _ h => by cases d <;> exact h) ⟨y0, y2⟩
              · iterate 13 (apply reads_consL rfl rfl; (· intro w0 hS; obtain ⟨hS0, hS1⟩ := hS; go_simp; try rfl); simp only [Act.put, List.setIfInBounds_toArray, List.set_cons_zero, List.set_cons_succ])
                exact rfl
              refine tail_consL rfl ?_
              clear y0 y2 y4
              go_wp2_with fail
              simp only [Int.ofNat_zero, Int.natCast_zero] at HCO
              refine HCO.out.mono ?_
              rintro e w9 ⟨rfl, _, U9⟩
              have X9 := U9.blk HE.out.2.drew H6.out.2.2.2.1
              have y0 := X9.cell 0
              have y2 := X9.cell 2
              simp only [List.getElem?_cons_zero, List.getElem?_cons_succ] at y0 y2
              have HU9 := Lib.hid (HUW.out.1.drew.trans U9 (fun g _ h => by show w.heap.size ≤ g; have := HUW.out; omega))
              clear U9 X9
              go_wp2_with fail
              refine ⟨⟨y0, y2⟩, tail_twoL rfl rfl ?_⟩
              clear y0 y2
              go_wp2
              go_ret2
              exact ⟨r, 0, rfl, HRD, HU9.out.below (Nat.le_refl _) (fun g hg h => by omega)⟩
    · have h2' : (r2 == 0) = false := beq_eq_false_iff_ne.2 h2
      have h2n : (r2 != 0) = true := by simp [h2]
      have HN := Lib.hid h2
      clear h2
      go_wp2
      go_ret2
      exact ⟨0, r2, rfl, Lib.hid (by unfold distR; rw [if_neg (fun h => h HR2.out.2), ← HR2.out.1, if_pos HN.out]), below_tr H1.out.1 H2.out⟩
  · have h0' : (r == 0) = false := beq_eq_false_iff_ne.2 h0
    have h0n : (r != 0) = true := by simp [h0]
    have H1 := Lib.hid (And.intro B1 h0)
    clear B1 h0
    go_wp2
    go_ret2
    exact ⟨0, r, rfl, Lib.hid (by unfold distR; rw [← HR.out, if_pos H1.out.2]), H1.out.1⟩

end Df
end Go.Proofs.YtemmkobgpciflaaDoor
