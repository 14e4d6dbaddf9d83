/- DifferScripts, walked: true for every two forests. -/
import Derived.Test.YtmmjmfadipmfiaaDoorPatch
import Derived.Test.YtmmjmfadipmfiaaDoorCopyF
import Derived.Test.YtmmjmfadipmfiaaDoorWeight
namespace Go.Proofs.YtmmjmfadipmfiaaDoor
open Go.RowKit
open Ch
namespace Df

theorem norm_idem : ∀ t : T, norm (norm t) = norm t := by
  refine T.ind ?_
  intro k n al t ks ih
  rw [norm]
  split
  · rw [norm, if_pos rfl]
  · rename_i h
    rw [norm, if_neg h]
    congr 1
    rw [normL_map, normL_map, List.map_map]
    exact List.map_congr_left fun x hx => ih x hx
theorem normL_idem (l : List T) : normL (normL l) = normL l := by
  rw [normL_map, normL_map, List.map_map]
  exact List.map_congr_left fun x _ => norm_idem x
theorem kinds_norm : ∀ t : T, Kinds t → Kinds (norm t) := by
  refine T.ind ?_
  intro k n al t ks ih h
  rw [Kinds] at h
  rw [norm]
  rcases h with ⟨h1, h2⟩ | h2
  · subst h1
    rw [if_neg (by omega), Kinds]
    refine Or.inl ⟨rfl, KindsL.all.2 fun x hx => ?_⟩
    rw [normL_map] at hx
    obtain ⟨y, hy, rfl⟩ := List.mem_map.1 hx
    exact ih y hy (KindsL.all.1 h2 y hy)
  · rw [if_pos h2, Kinds]
    exact Or.inr rfl
theorem kindsL_norm {l : List T} (h : KindsL l) : KindsL (normL l) := KindsL.all.2 fun x hx => by
  rw [normL_map] at hx
  obtain ⟨y, hy, rfl⟩ := List.mem_map.1 hx
  exact kinds_norm y (KindsL.all.1 h y hy)
theorem fits_norm : ∀ t : T, Fits t → Fits (norm t) := by
  refine T.ind ?_
  intro k n al t ks ih h
  have hs := h.small
  unfold Small at hs
  rw [norm]
  split
  · rw [Fits, FitsL]
    refine ⟨⟨by simp [ByteArray.size], hs.2.1, ?_, by simp, by simp⟩, trivial⟩
    intro a ha
    cases ha
  · rw [Fits]
    refine ⟨⟨hs.1, by simp [ByteArray.size], hs.2.2.1, hs.2.2.2.1, by rw [normL_map, List.length_map]; exact hs.2.2.2.2⟩, FitsL.all.2 fun x hx => ?_⟩
    rw [normL_map] at hx
    obtain ⟨y, hy, rfl⟩ := List.mem_map.1 hx
    exact ih y hy (h.kid y hy)
theorem same3_refl (l : List T) : same3L l l = true := (same3L_norm l l).2 rfl

/-- What Patch gives back, by Script's edits. -/
theorem back_same (f g h : List T) (hf : KindsL f) (hg : KindsL g) (hh : (same4L f g = true ∧ h = f) ∨ h = g) : same4L (normL h) g = true := by
  rcases hh with ⟨h1, h2⟩ | h2
  · rw [h2]
    refine (same4L_norm _ _ (kindsL_norm hf)).2 ?_
    rw [normL_idem]
    exact (same4L_norm f g hf).1 h1
  · rw [h2]
    refine (same4L_norm _ _ (kindsL_norm hg)).2 ?_
    rw [normL_idem]

theorem leaf (wa wb n : Nat) (ha : wa ≤ 36028797018963968) (hb : wb ≤ 36028797018963968) (hn : n ≤ wa + wb) :
    wrap64 ((wa : Int) + (wb : Int)) = (wa : Int) + (wb : Int) ∧ wrap64 (16 * ((wa : Int) + (wb : Int))) = 16 * ((wa : Int) + (wb : Int)) ∧ wrap64 (16 * ((wa : Int) + (wb : Int)) + 16) = 16 * ((wa : Int) + (wb : Int)) + 16 ∧ ¬ (16 * ((wa : Int) + (wb : Int)) + 16 < (n : Int)) := by
  refine ⟨?_, ?_, ?_, by omega⟩
  · rw [Go.IntWalk.wrap64_in _ (by omega)]
  · rw [Go.IntWalk.wrap64_in _ (by omega)]
  · rw [Go.IntWalk.wrap64_in _ (by omega)]

theorem weigh (f g : List T) (n : Nat) (ff : ∀ x ∈ f, Fits x) (fg : ∀ x ∈ g, Fits x) (sf : T.sizeL f ≤ 4096) (sg : T.sizeL g ≤ 4096) (hn : n ≤ f.length + g.length) : weightL f ≤ 36028797018963968 ∧ weightL g ≤ 36028797018963968 ∧ n ≤ weightL f + weightL g := by
  have key : ∀ l : List T, l.length ≤ weightL l := by
    intro l
    induction l with
    | nil => simp [weightL]
    | cons x l ih =>
      rw [weightL, List.length_cons]
      cases x
      rw [weight]
      omega
  have hf := key f
  have hg := key g
  have one : ∀ l : List T, (∀ x ∈ l, Fits x) → T.sizeL l ≤ 4096 → weightL l ≤ 36028797018963968 := by
    intro l hl hs
    have h1 := weightL_size l hl
    have h2 : T.sizeL l * 4398046511104 ≤ 4096 * 4398046511104 := Nat.mul_le_mul_right _ hs
    have h3 : 4096 * 4398046511104 ≤ 36028797018963968 := by decide
    exact Nat.le_trans h1 (Nat.le_trans h2 h3)
  exact ⟨one f ff sf, one g fg sg, by omega⟩

theorem ScrIs.ok {w : World} {f g : List T} {a : Option Addr} {n c : Nat} {r : Int} (h : ScrIs w f g a n c r) (cf : canE f = 0) (cg : canE g = 0) : r = 0 ∧ ∃ h', ((same4L f g = true ∧ h' = f) ∨ h' = g) ∧ n ≤ f.length + g.length ∧ (0 < n → same4L f g = false) ∧ ((n = 0 ∧ h' = f) ∨ (n = f.length + g.length ∧ h' = g ∧ ∃ ys, Rd w (.slice a n c) n 11 (delC f f.length ++ ys) ∧ InsIs w (fun _ => True) g ys)) := by
  unfold ScrIs at h
  rw [if_neg (fun h => h cf), if_neg (fun h => h cg)] at h
  refine ⟨h.1, ?_⟩
  have h2 := h.2
  by_cases hs : same4L f g = true
  · rw [if_pos hs] at h2
    exact ⟨f, Or.inl ⟨hs, rfl⟩, by omega, fun h => by omega, Or.inl ⟨h2, rfl⟩⟩
  · rw [if_neg hs] at h2
    exact ⟨g, Or.inr rfl, by omega, fun _ => by simpa using hs, Or.inr ⟨h2.1, rfl, h2.2⟩⟩

set_option maxRecDepth 100000 in
set_option maxHeartbeats 1000000 in
theorem scr_any (f g : List T) (ak bk : Option Addr) (ck dk : Nat) (w : World) (hf : Forest w (· < w.heap.size) f ak ck) (hg : Forest w (· < w.heap.size) g bk dk) (ff : ∀ x ∈ f, Fits x) (fg : ∀ x ∈ g, Fits x) (lf : f.length * 88 ≤ 140737488351232) (lg : g.length * 88 ≤ 140737488351232) (hT : Tabs w) :
    Calls Tryd.prog 5 #[.slice ak f.length ck, .slice bk g.length dk] w fun e w' => e = .returned (.bool true) ∧ Below w.heap.size w w' := by
  have C := copyF_any _ f ak ck w hf ff lf
  have HH := Lib.hid (And.intro hf (And.intro hg (And.intro ff (And.intro fg (And.intro lf (And.intro lg hT))))))
  have HC := Lib.hid C
  clear hf hg ff fg lf lg hT C
  go_enter Tryd.func5, Tryd.ntmps5
  go_wp2_with fail
  refine HC.out.mono ?_
  rintro e w1 ⟨l1, c1, rfl, O1, B1⟩
  have C2 := copyF_any _ g bk dk w1 (HH.out.2.1.below B1) HH.out.2.2.2.1 HH.out.2.2.2.2.2.1
  have F1 := O1.forest
  have H1 := Lib.hid (And.intro F1 B1)
  have HC2 := Lib.hid C2
  clear O1 B1 C2 F1
  go_wp2_with fail
  refine HC2.out.mono ?_
  rintro e w2 ⟨l2, c2, rfl, O2, B2⟩
  have F2 := O2.forest.mono (Q := fun _ => True) (fun _ _ => trivial)
  have F2' := O2.forest
  have F1 := (H1.out.1.below B2).mono (Q := fun _ => True) (fun _ _ => trivial)
  have F1' := H1.out.1.below B2
  have hs := B2.size
  have BB := below_tr H1.out.2 B2
  have C3 := script_any w2.heap.size f g l1 l2 c1 c2 w2 (F1'.mono (fun g h => by have := h.2; omega)) (F2'.mono (fun g h => h.2)) HH.out.2.2.1 HH.out.2.2.2.1 HH.out.2.2.2.2.1 HH.out.2.2.2.2.2.1 (Nat.le_refl _) (HH.out.2.2.2.2.2.2.below BB)
  have H2 := Lib.hid (And.intro BB (And.intro F1 F2))
  have HC3 := Lib.hid C3
  clear O2 B2 C3 F1 F2 F1' F2' hs BB
  go_wp2_with fail
  refine HC3.out.mono ?_
  rintro e w3 ⟨sa, n, sc, r, rfl, B3, HR, hnc⟩
  have BB := below_tr H2.out.1 B3
  have U3 := Upd.ofBelow (F := fun _ => False) BB
  have C4 := rcan_any f ak ck w3 w.heap.size (HH.out.1.keep U3 (fun _ _ h => h)) HH.out.2.2.1 HH.out.2.2.2.2.1 BB.size (HH.out.2.2.2.2.2.2.below BB)
  obtain ⟨ef, hef⟩ : ∃ ef, ef = canE f := ⟨_, rfl⟩
  rw [← hef] at C4
  have H3 := Lib.hid (And.intro BB (And.intro B3 (And.intro hef hnc)))
  have HC4 := Lib.hid C4
  clear B3 BB U3 C4 hef hnc
  go_wp2_with fail
  refine HC4.out.mono ?_
  rintro e w4 ⟨rfl, B4⟩
  have H4 := Lib.hid (below_tr H3.out.1 B4)
  have H34 := Lib.hid B4
  clear B4
  by_cases h0 : ef = 0
  · subst h0
    have BB := H4.out
    have C5 := rcan_any g bk dk w4 w.heap.size (HH.out.2.1.keep (Upd.ofBelow (F := fun _ => False) BB) (fun _ _ h => h)) HH.out.2.2.2.1 HH.out.2.2.2.2.2.1 BB.size (HH.out.2.2.2.2.2.2.below BB)
    obtain ⟨eg, heg⟩ : ∃ eg, eg = canE g := ⟨_, rfl⟩
    rw [← heg] at C5
    have HE := Lib.hid heg
    have HC5 := Lib.hid C5
    clear BB C5 heg
    go_wp2_with fail
    refine HC5.out.mono ?_
    rintro e w5 ⟨rfl, B5⟩
    have H5 := Lib.hid (below_tr H4.out B5)
    have H35 := Lib.hid (below_tr H34.out B5)
    clear B5
    by_cases h1 : eg = 0
    · subst h1
      have cf : canE f = 0 := H3.out.2.2.1.symm
      have cg : canE g = 0 := HE.out.symm
      obtain ⟨sf, kf⟩ := canGo_ok f 0 cf
      obtain ⟨sg, kg⟩ := canGo_ok g 0 cg
      have hKf : KindsL f := KindsL.all.2 fun x hx => chk_kinds x 1 0 (kf x hx)
      have hKg : KindsL g := KindsL.all.2 fun x hx => chk_kinds x 1 0 (kg x hx)
      obtain ⟨rfl, h, hh, hnfg, hnS, hops⟩ := HR.out.ok cf cg
      obtain ⟨hw1, hw2, hw3⟩ := weigh f g n HH.out.2.2.1 HH.out.2.2.2.1 (by omega) (by omega) hnfg
      obtain ⟨wa, hwa⟩ : ∃ wa, wa = weightL f := ⟨_, rfl⟩
      obtain ⟨wb, hwb⟩ : ∃ wb, wb = weightL g := ⟨_, rfl⟩
      obtain ⟨lf1, lf2, lf3, lf4⟩ := leaf wa wb n (hwa ▸ hw1) (hwb ▸ hw2) (hwa ▸ hwb ▸ hw3)
      have HK := Lib.hid (And.intro cf (And.intro cg (And.intro hKf (And.intro hKg (And.intro hh (And.intro hnS hops))))))
      have HW := Lib.hid (And.intro hwa (And.intro hwb (And.intro (Nat.le_trans hw1 (by decide : (36028797018963968 : Nat) ≤ 1152921504606846976)) (Nat.le_trans hw2 (by decide : (36028797018963968 : Nat) ≤ 1152921504606846976)))))
      clear cf cg sf kf sg kg hKf hKg hh hnfg hnS hops hw1 hw2 hw3 hwa hwb
      -- the copies stay
      have U25 : Upd w2 w5 (fun _ => False) := (Upd.ofBelow H3.out.2.1).trans (Upd.ofBelow (F := fun _ => False) H35.out) (fun _ _ h => h)
      have U05 := Upd.ofBelow (F := fun _ => False) H5.out
      have C6 := forests_any (fun _ => True) f f l1 ak c1 ck w5 (H2.out.2.1.keep U25 (fun _ _ h => h)) ((HH.out.1.keep U05 (fun _ _ h => h)).mono (fun _ _ => trivial)) HH.out.2.2.1 HH.out.2.2.2.2.1
      rw [same3_refl] at C6
      have HC6 := Lib.hid C6
      have HU25 := Lib.hid U25
      clear U25 U05 C6
      go_wp2_with fail
      refine HC6.out.mono ?_
      rintro e w6 ⟨rfl, B6⟩
      have BB := below_tr H5.out B6
      have U26 := HU25.out.trans (Upd.ofBelow (F := fun _ => False) B6) (fun _ _ h => h)
      have C7 := forests_any (fun _ => True) g g l2 bk c2 dk w6 (H2.out.2.2.keep U26 (fun _ _ h => h)) ((HH.out.2.1.keep (Upd.ofBelow (F := fun _ => False) BB) (fun _ _ h => h)).mono (fun _ _ => trivial)) HH.out.2.2.2.1 HH.out.2.2.2.2.2.1
      rw [same3_refl] at C7
      have HC7 := Lib.hid C7
      have H6 := Lib.hid (And.intro BB (below_tr H35.out B6))
      clear B6 BB U26 C7
      go_wp2_with fail
      refine HC7.out.mono ?_
      rintro e w7 ⟨rfl, B7⟩
      have BB := below_tr H6.out.1 B7
      have C8 := weight_any (· < w.heap.size) f ak ck w7 (HH.out.1.keep (Upd.ofBelow (F := fun _ => False) BB) (fun _ _ h => h)) HH.out.2.2.2.2.1 HH.out.2.2.1 HW.out.2.2.1
      rw [← HW.out.1] at C8
      have HC8 := Lib.hid C8
      have H7 := Lib.hid (And.intro BB (below_tr H6.out.2 B7))
      clear B7 BB C8
      go_wp2_with fail
      refine HC8.out.mono ?_
      rintro e w8 ⟨rfl, B8⟩
      have BB := below_tr H7.out.1 B8
      have C9 := weight_any (· < w.heap.size) g bk dk w8 (HH.out.2.1.keep (Upd.ofBelow (F := fun _ => False) BB) (fun _ _ h => h)) HH.out.2.2.2.2.2.1 HH.out.2.2.2.1 HW.out.2.2.2
      rw [← HW.out.2.1] at C9
      have HC9 := Lib.hid C9
      have H8 := Lib.hid (And.intro BB (below_tr H7.out.2 B8))
      clear B8 BB C9
      go_wp2_with fail
      refine HC9.out.mono ?_
      rintro e w9 ⟨rfl, B9⟩
      have H9 := Lib.hid (And.intro (below_tr H8.out.1 B9) (below_tr H8.out.2 B9))
      clear B9
      have hcase : n = 0 ∨ 0 < n := Nat.eq_zero_or_pos n
      rcases hcase with hn | hn
      case' inl =>
        have n1 : ¬ ((0 : Int) < (n : Int)) := by omega
        have n2 : decide (0 < n) = false := decide_eq_false (by omega)
        obtain ⟨w10, hw10⟩ : ∃ w10, w10 = w9 := ⟨_, rfl⟩
        rw [← hw10] at H9 ⊢
        clear hw10 hn
        have H10 := H9
        clear H9
      case' inr =>
        have n1 : (0 : Int) < (n : Int) := by omega
        have n2 : decide (0 < n) = true := decide_eq_true hn
        have C10 := s4_any (· < w.heap.size) f g ak bk ck dk w9 (HH.out.1.keep (Upd.ofBelow (F := fun _ => False) H9.out.1) (fun _ _ h => h)) (HH.out.2.1.keep (Upd.ofBelow (F := fun _ => False) H9.out.1) (fun _ _ h => h)) HH.out.2.2.1 HH.out.2.2.2.2.1
        rw [HK.out.2.2.2.2.2.1 hn] at C10
        have HC10 := Lib.hid C10
        clear C10 hn
        go_wp2_with fail
        refine HC10.out.mono ?_
        rintro e w10 ⟨rfl, B10⟩
        have H10 := Lib.hid (And.intro (below_tr H9.out.1 B10) (below_tr H9.out.2 B10))
        clear B10 HC10 H9
      all_goals
        have U10 := Upd.ofBelow (F := fun _ => False) H10.out.1
        have U310 := Upd.ofBelow (F := fun _ => False) H10.out.2
        have CP := patch_any w.heap.size f g h ak ck sa n sc w10 (HH.out.1.keep U10 (fun _ _ h => h)) HH.out.2.2.1 HH.out.2.2.2.2.1 U10.size (HH.out.2.2.2.2.2.2.below H10.out.1) HK.out.1 HK.out.2.1 HH.out.2.2.2.1 H3.out.2.2.2 (by
          rcases HK.out.2.2.2.2.2.2 with h1 | ⟨h1, h2, ys, h3, h4⟩
          · exact Or.inl h1
          · exact Or.inr ⟨h1, h2, ys, h3.keep U310 (fun _ _ h => h), h4.keep fun t c ht => ht.keep U310 (fun _ _ h => h)⟩)
        have HCP := Lib.hid CP
        clear U10 U310 CP
        go_wp2_with fail
        refine HCP.out.mono ?_
        rintro e w11 ⟨fa, fc, z, rfl, F11, B11⟩
        have BB := below_tr H10.out.1 B11
        have CQ := copyF_any _ g bk dk w11 (HH.out.2.1.keep (Upd.ofBelow (F := fun _ => False) BB) (fun _ _ h => h)) HH.out.2.2.2.1 HH.out.2.2.2.2.2.1
        have HCQ := Lib.hid CQ
        have H11 := Lib.hid (And.intro F11 BB)
        clear F11 B11 BB CQ n1 n2
        go_wp2_with fail
        refine HCQ.out.mono ?_
        rintro e w12 ⟨l3, c3, rfl, O3, B12⟩
        have F3 := O3.forest
        have BB := below_tr H11.out.2 B12
        have CR := copyF_any _ f ak ck w12 (HH.out.1.keep (Upd.ofBelow (F := fun _ => False) BB) (fun _ _ h => h)) HH.out.2.2.1 HH.out.2.2.2.2.1
        have HCR := Lib.hid CR
        have H12 := Lib.hid (And.intro BB (And.intro B12 F3))
        clear O3 B12 BB CR F3
        go_wp2_with fail
        refine HCR.out.mono ?_
        rintro e w13 ⟨l4, c4, rfl, O4, B13⟩
        have F4 := O4.forest
        have F3 := H12.out.2.2.below B13
        have hs := B13.size
        have BB := below_tr H12.out.1 B13
        have CS := script_any w13.heap.size g f l3 l4 c3 c4 w13 (F3.mono (fun g h => by have := h.2; omega)) (F4.mono (fun g h => h.2)) HH.out.2.2.2.1 HH.out.2.2.1 HH.out.2.2.2.2.2.1 HH.out.2.2.2.2.1 (Nat.le_refl _) (HH.out.2.2.2.2.2.2.below BB)
        have HCS := Lib.hid CS
        have H13 := Lib.hid (And.intro BB (below_tr H12.out.2.1 B13))
        clear O4 B13 CS F3 F4 hs BB
        go_wp2_with fail
        refine HCS.out.mono ?_
        rintro e w14 ⟨sb, n', sc', r', rfl, B14, HR', hnc'⟩
        obtain ⟨rfl, h', hh', _, _, hops'⟩ := HR'.out.ok HK.out.2.1 HK.out.1
        have BB := below_tr H13.out.1 B14
        have CT := patch_any w.heap.size g f h' bk dk sb n' sc' w14 (HH.out.2.1.keep (Upd.ofBelow (F := fun _ => False) BB) (fun _ _ h => h)) HH.out.2.2.2.1 HH.out.2.2.2.2.2.1 BB.size (HH.out.2.2.2.2.2.2.below BB) HK.out.2.1 HK.out.1 HH.out.2.2.1 hnc' hops'
        have HCT := Lib.hid CT
        have H14 := Lib.hid (And.intro BB (And.intro (below_tr H13.out.2 B14) hh'))
        clear B14 HR' hnc' hh' hops' BB CT
        go_wp2_with fail
        refine HCT.out.mono ?_
        rintro e w15 ⟨fb, fd, z', rfl, F15, B15⟩
        have BB := below_tr H14.out.1 B15
        have hK : KindsL h := by
          rcases HK.out.2.2.2.2.1 with ⟨_, h2⟩ | h2 <;> rw [h2]
          · exact HK.out.2.2.1
          · exact HK.out.2.2.2.1
        have hFh : ∀ x ∈ normL h, Fits x := by
          intro x hx
          rw [normL_map] at hx
          obtain ⟨y, hy, rfl⟩ := List.mem_map.1 hx
          refine fits_norm y ?_
          rcases HK.out.2.2.2.2.1 with ⟨_, h2⟩ | h2 <;> rw [h2] at hy
          · exact HH.out.2.2.1 y hy
          · exact HH.out.2.2.2.1 y hy
        have hlh : (normL h).length * 88 ≤ 140737488351232 := by
          rw [normL_map, List.length_map]
          rcases HK.out.2.2.2.2.1 with ⟨_, h2⟩ | h2 <;> rw [h2]
          · exact HH.out.2.2.2.2.1
          · exact HH.out.2.2.2.2.2.1
        have U1115 := Upd.ofBelow (F := fun _ => False) (below_tr H14.out.2.1 B15)
        have CU := s4_any (fun _ => True) (normL h) g fa bk fc dk w15 (H11.out.1.keep U1115 (fun _ _ h => h)) ((HH.out.2.1.keep (Upd.ofBelow (F := fun _ => False) BB) (fun _ _ h => h)).mono (fun _ _ => trivial)) hFh hlh
        rw [back_same f g h HK.out.2.2.1 HK.out.2.2.2.1 HK.out.2.2.2.2.1] at CU
        have HCU := Lib.hid CU
        have H15 := Lib.hid (And.intro BB F15)
        clear F15 B15 BB hK hFh hlh U1115 CU
        go_wp2_with fail
        refine HCU.out.mono ?_
        rintro e w16 ⟨rfl, B16⟩
        have BB := below_tr H15.out.1 B16
        have hFh : ∀ x ∈ normL h', Fits x := by
          intro x hx
          rw [normL_map] at hx
          obtain ⟨y, hy, rfl⟩ := List.mem_map.1 hx
          refine fits_norm y ?_
          rcases H14.out.2.2 with ⟨_, h2⟩ | h2 <;> rw [h2] at hy
          · exact HH.out.2.2.2.1 y hy
          · exact HH.out.2.2.1 y hy
        have hlh : (normL h').length * 88 ≤ 140737488351232 := by
          rw [normL_map, List.length_map]
          rcases H14.out.2.2 with ⟨_, h2⟩ | h2 <;> rw [h2]
          · exact HH.out.2.2.2.2.2.1
          · exact HH.out.2.2.2.2.1
        have CV := s4_any (fun _ => True) (normL h') f fb ak fd ck w16 (H15.out.2.below B16) ((HH.out.1.keep (Upd.ofBelow (F := fun _ => False) BB) (fun _ _ h => h)).mono (fun _ _ => trivial)) hFh hlh
        rw [back_same g f h' HK.out.2.2.2.1 HK.out.2.2.1 H14.out.2.2] at CV
        have HCV := Lib.hid CV
        have H16 := Lib.hid BB
        clear B16 BB hFh hlh CV
        go_wp2_with fail
        refine HCV.out.mono ?_
        rintro e w17 ⟨rfl, B17⟩
        have H17 := Lib.hid (below_tr H16.out B17)
        clear B17
        go_wp2
        go_ret
        exact ⟨rfl, H17.out⟩
    · have h1b : (eg == 0) = false := beq_eq_false_iff_ne.2 h1
      have h1c : (eg != 0) = true := by simp [h1]
      have hsc : n = 0 ∧ r = eg := by
        have h := HR.out
        unfold ScrIs at h
        rw [if_neg (fun h => h H3.out.2.2.1.symm), if_pos (fun h => h1 (HE.out.trans h))] at h
        exact ⟨h.1, h.2.trans HE.out.symm⟩
      obtain ⟨rfl, rfl⟩ := hsc
      have HN1 := Lib.hid h1
      clear h1
      go_wp2
      go_ret
      exact ⟨rfl, H5.out⟩
  · have h0b : (ef == 0) = false := beq_eq_false_iff_ne.2 h0
    have h0c : (ef != 0) = true := by simp [h0]
    have hsc : n = 0 ∧ r = ef := by
      have h := HR.out
      unfold ScrIs at h
      rw [if_pos (fun h => h0 (H3.out.2.2.1.trans h))] at h
      exact ⟨h.1, h.2.trans H3.out.2.2.1.symm⟩
    obtain ⟨rfl, rfl⟩ := hsc
    have HN0 := Lib.hid h0
    clear h0
    go_wp2
    go_ret
    exact ⟨rfl, H4.out⟩

end Df
end Go.Proofs.YtmmjmfadipmfiaaDoor
