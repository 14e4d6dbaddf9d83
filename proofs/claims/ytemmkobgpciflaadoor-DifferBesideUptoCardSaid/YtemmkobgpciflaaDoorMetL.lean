/- DifferMetric, walked: true for every three forests. -/
import Derived.Test.YtemmkobgpciflaaDoorLv
import Derived.Test.YtemmkobgpciflaaDoorDistL
namespace Go.Proofs.YtemmkobgpciflaaDoor
open Go.RowKit
open Ch
namespace Pt

/-- A forest that is handed in. -/
structure In (w : World) (P : Nat → Prop) (f : List T) (a : Option Addr) (c : Nat) : Prop where
  fo : Forest w P f a c
  s : ∀ x ∈ f, Fits x
  l : f.length * 88 ≤ 140737488351232
theorem In.below {w w' : World} {P : Nat → Prop} {f : List T} {a : Option Addr} {c : Nat} (h : In w P f a c) (hB : Below w.heap.size w w') : In w' P f a c := ⟨h.fo.below hB, h.s, h.l⟩

theorem distR_bad {f g : List T} {r c r' c' : Int} (h : (r, c) = Df.distR f g) (h' : (r', c') = Df.distR g f) (hc : c ≠ 0) : r = 0 ∧ r' = 0 ∧ c' ≠ 0 := by
  unfold Df.distR at h h'
  by_cases h1 : canE f ≠ 0
  · rw [if_pos h1] at h
    simp only [Prod.mk.injEq] at h
    by_cases h2 : canE g ≠ 0
    · rw [if_pos h2] at h'
      simp only [Prod.mk.injEq] at h'
      exact ⟨h.1, h'.1, by rw [h'.2]; exact h2⟩
    · rw [if_neg h2, if_pos h1] at h'
      simp only [Prod.mk.injEq] at h'
      exact ⟨h.1, h'.1, by rw [h'.2]; exact h1⟩
  · rw [if_neg h1] at h
    by_cases h2 : canE g ≠ 0
    · rw [if_pos h2] at h h'
      simp only [Prod.mk.injEq] at h h'
      exact ⟨h.1, h'.1, by rw [h'.2]; exact h2⟩
    · rw [if_neg h2] at h
      rw [if_neg h2, if_neg h1] at h'
      by_cases h3 : 32 < (Df.postL f []).length ∨ 32 < (Df.postL g []).length
      · rw [if_pos h3] at h
        rw [if_pos (by rcases h3 with h | h; exact Or.inr h; exact Or.inl h)] at h'
        simp only [Prod.mk.injEq] at h h'
        exact ⟨h.1, h'.1, by rw [h'.2]; decide⟩
      · rw [if_neg h3] at h
        simp only [Prod.mk.injEq] at h
        exact absurd h.2 hc
theorem distR_good {f g : List T} {r : Int} (h : (r, 0) = Df.distR f g) : r = (Df.distN f g : Nat) ∧ canE f = 0 ∧ canE g = 0 ∧ T.sizeL f ≤ 32 ∧ T.sizeL g ≤ 32 := by
  unfold Df.distR at h
  by_cases h1 : canE f ≠ 0
  · rw [if_pos h1] at h
    simp only [Prod.mk.injEq] at h
    exact absurd h.2.symm h1
  · rw [if_neg h1] at h
    by_cases h2 : canE g ≠ 0
    · rw [if_pos h2] at h
      simp only [Prod.mk.injEq] at h
      exact absurd h.2.symm h2
    · rw [if_neg h2] at h
      by_cases h3 : 32 < (Df.postL f []).length ∨ 32 < (Df.postL g []).length
      · rw [if_pos h3] at h
        simp only [Prod.mk.injEq] at h
        exact absurd h.2 (by decide)
      · rw [if_neg h3] at h
        simp only [Prod.mk.injEq] at h
        rw [Df.postL_size, Df.postL_size] at h3
        simp only [List.length_nil, Nat.zero_add] at h3
        exact ⟨h.1, Decidable.not_not.1 h1, Decidable.not_not.1 h2, by omega, by omega⟩
theorem kinds_of {f : List T} (h : canE f = 0) : Df.KindsL f := by
  obtain ⟨_, k⟩ := canGo_ok f 0 h
  exact Df.KindsL.all.2 fun x hx => Df.chk_kinds x 1 0 (k x hx)

/-- What the law needs of two distances that came. -/
theorem met_two {f g : List T} {r r' : Int} (h : (r, 0) = Df.distR f g) (h' : (r', 0) = Df.distR g f) :
    r' = r ∧ 0 ≤ r ∧ r ≤ 64 ∧ (Df.same4L f g = (r == 0)) ∧ T.sizeL f ≤ 32 ∧ T.sizeL g ≤ 32 ∧ r ≤ (T.sizeL f : Int) + (T.sizeL g : Int) ∧ (T.sizeL f : Int) - (T.sizeL g : Int) ≤ r ∧ (T.sizeL g : Int) - (T.sizeL f : Int) ≤ r := by
  obtain ⟨e, cf, cg, sf, sg⟩ := distR_good h
  obtain ⟨e', _⟩ := distR_good h'
  obtain ⟨z1, z2, z3⟩ := Df.distN_size f g
  have hz := Df.distN_zero f g (kinds_of cf)
  rw [Df.distN_symm] at e'
  subst e
  refine ⟨e', by omega, by omega, ?_, sf, sg, by omega, by omega, by omega⟩
  cases hs : Df.same4L f g with
  | true => rw [hz.2 hs]; rfl
  | false =>
    symm
    rw [beq_eq_false_iff_ne]
    intro h0
    have := hz.1 (by omega)
    rw [hs] at this
    cases this
theorem met_three {f g h : List T} {r r3 r4 : Int} (h1 : (r, 0) = Df.distR f g) (h3 : (r3, 0) = Df.distR g h) (h4 : (r4, 0) = Df.distR f h) : r4 ≤ r + r3 ∧ 0 ≤ r3 ∧ r3 ≤ 64 := by
  obtain ⟨e1, _⟩ := distR_good h1
  obtain ⟨e3, _, _, s3, s3'⟩ := distR_good h3
  obtain ⟨e4, _⟩ := distR_good h4
  have := Df.distN_tri f g h
  have := (Df.distN_size g h).1
  omega

set_option maxRecDepth 100000 in
set_option maxHeartbeats 4000000 in
theorem met_any (f g h : List T) (ak bk hk : Option Addr) (ck dk ek : Nat) (w : World) (hf : In w (· < w.heap.size) f ak ck) (hg : In w (· < w.heap.size) g bk dk) (hh : In w (· < w.heap.size) h hk ek) (hT : Tabs w) :
    Calls Tryd.prog 9 #[.slice ak f.length ck, .slice bk g.length dk, .slice hk h.length ek] w fun e w' => e = .returned (.bool true) ∧ Below w.heap.size w w' := by
  have C := lives_any w hT
  have HH := Lib.hid (And.intro hf (And.intro hg (And.intro hh hT)))
  have HC := Lib.hid C
  clear hf hg hh hT C
  go_enter Tryd.func9, Tryd.ntmps9
  go_wp2_with fail
  refine HC.out.mono ?_
  rintro e w0 ⟨rfl, B0⟩
  have H0 := Lib.hid B0
  clear B0 HC
  have C := copyF_any _ _ _ _ w0 (HH.out.1.below H0.out).fo HH.out.1.s HH.out.1.l
  have HC := Lib.hid C
  clear C
  go_wp2_with fail
  refine HC.out.mono ?_
  rintro e w1 ⟨l1, c1, rfl, O1, B1⟩
  have F1 := O1.forest
  have HA := Lib.hid (And.intro F1 (below_tr H0.out B1))
  clear O1 B1 F1 HC H0
  have C := copyF_any _ _ _ _ w1 (HH.out.2.1.below HA.out.2).fo HH.out.2.1.s HH.out.2.1.l
  have HC := Lib.hid C
  clear C
  go_wp2_with fail
  refine HC.out.mono ?_
  rintro e w2 ⟨l2, c2, rfl, O2, B2⟩
  have F2 := O2.forest
  have F1 := HA.out.1.below B2
  have hs := B2.size
  have BB := below_tr HA.out.2 B2
  have C := Df.distA_any w2.heap.size _ _ l1 l2 c1 c2 w2 (F1.mono (fun g h => by have := h.2; omega)) (F2.mono (fun g h => h.2)) HH.out.1.s HH.out.2.1.s HH.out.1.l HH.out.2.1.l (Nat.le_refl _) (HH.out.2.2.2.below BB)
  have HB := Lib.hid BB
  have HC := Lib.hid C
  clear O2 B2 C F1 F2 hs BB HA
  go_wp2_with fail
  refine HC.out.mono ?_
  rintro e w3 ⟨r1, e1, rfl, HR1, B3⟩
  have H3 := Lib.hid (below_tr HB.out B3)
  clear B3 HB HC
  have C := copyF_any _ _ _ _ w3 (HH.out.2.1.below H3.out).fo HH.out.2.1.s HH.out.2.1.l
  have HC := Lib.hid C
  clear C
  go_wp2_with fail
  refine HC.out.mono ?_
  rintro e w4 ⟨l1, c1, rfl, O1, B1⟩
  have F1 := O1.forest
  have HA := Lib.hid (And.intro F1 (below_tr H3.out B1))
  clear O1 B1 F1 HC H3
  have C := copyF_any _ _ _ _ w4 (HH.out.1.below HA.out.2).fo HH.out.1.s HH.out.1.l
  have HC := Lib.hid C
  clear C
  go_wp2_with fail
  refine HC.out.mono ?_
  rintro e w5 ⟨l2, c2, rfl, O2, B2⟩
  have F2 := O2.forest
  have F1 := HA.out.1.below B2
  have hs := B2.size
  have BB := below_tr HA.out.2 B2
  have C := Df.distA_any w5.heap.size _ _ l1 l2 c1 c2 w5 (F1.mono (fun g h => by have := h.2; omega)) (F2.mono (fun g h => h.2)) HH.out.2.1.s HH.out.1.s HH.out.2.1.l HH.out.1.l (Nat.le_refl _) (HH.out.2.2.2.below BB)
  have HB := Lib.hid BB
  have HC := Lib.hid C
  clear O2 B2 C F1 F2 hs BB HA
  go_wp2_with fail
  refine HC.out.mono ?_
  rintro e w6 ⟨r2, e2, rfl, HR2, B3⟩
  have H6 := Lib.hid (below_tr HB.out B3)
  clear B3 HB HC
  have C := copyF_any _ _ _ _ w6 (HH.out.2.1.below H6.out).fo HH.out.2.1.s HH.out.2.1.l
  have HC := Lib.hid C
  clear C
  go_wp2_with fail
  refine HC.out.mono ?_
  rintro e w7 ⟨l1, c1, rfl, O1, B1⟩
  have F1 := O1.forest
  have HA := Lib.hid (And.intro F1 (below_tr H6.out B1))
  clear O1 B1 F1 HC H6
  have C := copyF_any _ _ _ _ w7 (HH.out.2.2.1.below HA.out.2).fo HH.out.2.2.1.s HH.out.2.2.1.l
  have HC := Lib.hid C
  clear C
  go_wp2_with fail
  refine HC.out.mono ?_
  rintro e w8 ⟨l2, c2, rfl, O2, B2⟩
  have F2 := O2.forest
  have F1 := HA.out.1.below B2
  have hs := B2.size
  have BB := below_tr HA.out.2 B2
  have C := Df.distA_any w8.heap.size _ _ l1 l2 c1 c2 w8 (F1.mono (fun g h => by have := h.2; omega)) (F2.mono (fun g h => h.2)) HH.out.2.1.s HH.out.2.2.1.s HH.out.2.1.l HH.out.2.2.1.l (Nat.le_refl _) (HH.out.2.2.2.below BB)
  have HB := Lib.hid BB
  have HC := Lib.hid C
  clear O2 B2 C F1 F2 hs BB HA
  go_wp2_with fail
  refine HC.out.mono ?_
  rintro e w9 ⟨r3, e3, rfl, HR3, B3⟩
  have H9 := Lib.hid (below_tr HB.out B3)
  clear B3 HB HC
  have C := copyF_any _ _ _ _ w9 (HH.out.1.below H9.out).fo HH.out.1.s HH.out.1.l
  have HC := Lib.hid C
  clear C
  go_wp2_with fail
  refine HC.out.mono ?_
  rintro e w10 ⟨l1, c1, rfl, O1, B1⟩
  have F1 := O1.forest
  have HA := Lib.hid (And.intro F1 (below_tr H9.out B1))
  clear O1 B1 F1 HC H9
  have C := copyF_any _ _ _ _ w10 (HH.out.2.2.1.below HA.out.2).fo HH.out.2.2.1.s HH.out.2.2.1.l
  have HC := Lib.hid C
  clear C
  go_wp2_with fail
  refine HC.out.mono ?_
  rintro e w11 ⟨l2, c2, rfl, O2, B2⟩
  have F2 := O2.forest
  have F1 := HA.out.1.below B2
  have hs := B2.size
  have BB := below_tr HA.out.2 B2
  have C := Df.distA_any w11.heap.size _ _ l1 l2 c1 c2 w11 (F1.mono (fun g h => by have := h.2; omega)) (F2.mono (fun g h => h.2)) HH.out.1.s HH.out.2.2.1.s HH.out.1.l HH.out.2.2.1.l (Nat.le_refl _) (HH.out.2.2.2.below BB)
  have HB := Lib.hid BB
  have HC := Lib.hid C
  clear O2 B2 C F1 F2 hs BB HA
  go_wp2_with fail
  refine HC.out.mono ?_
  rintro e w12 ⟨r4, e4, rfl, HR4, B3⟩
  have H12 := Lib.hid (below_tr HB.out B3)
  clear B3 HB HC
  by_cases hc : e1 = 0
  case neg =>
    obtain ⟨z1, z2, hc2⟩ := distR_bad HR1.out HR2.out hc
    subst z1 z2
    have b1 : (e1 == 0) = false := beq_eq_false_iff_ne.2 hc
    have b2 : (e2 == 0) = false := beq_eq_false_iff_ne.2 hc2
    have b3 : (e1 != 0) = true := bne_iff_ne.2 hc
    have b4 : (e2 != 0) = true := bne_iff_ne.2 hc2
    clear hc hc2
    go_wp2
    go_ret
    exact ⟨rfl, H12.out⟩
  subst hc
  by_cases hc : e2 = 0
  case neg => exact absurd rfl (distR_bad HR2.out HR1.out hc).2.2
  subst hc
  obtain ⟨rfl, p0, p1, hS, sf, sg, q1, q2, q3⟩ := met_two HR1.out HR2.out
  obtain ⟨n, hn⟩ : ∃ n : Int, n = (T.sizeL f : Int) := ⟨_, rfl⟩
  obtain ⟨m, hm⟩ : ∃ m : Int, m = (T.sizeL g : Int) := ⟨_, rfl⟩
  have C1 := size_any _ f _ _ w12 (HH.out.1.below H12.out).fo HH.out.1.s (by omega)
  rw [← hn] at C1 q1 q2 q3
  rw [← hm] at q1 q2 q3
  have nn : 0 ≤ n ∧ n ≤ 32 := by omega
  have mm : 0 ≤ m ∧ m ≤ 32 := by omega
  have k1 : wrap64 (n + m) = n + m := Go.IntWalk.wrap64_in _ (by omega)
  have k2 : wrap64 (n - m) = n - m := Go.IntWalk.wrap64_in _ (by omega)
  have k3 : wrap64 (m - n) = m - n := Go.IntWalk.wrap64_in _ (by omega)
  have i1 : ¬ (n + m < r2) := by omega
  have i2 : ¬ (r2 < n - m) := by omega
  have i3 : ¬ (r2 < m - n) := by omega
  have HX := Lib.hid (And.intro hS (And.intro hm (And.intro sg (And.intro p0 p1))))
  have HC := Lib.hid C1
  clear C1 hS hm hn sf sg p0 p1 q1 q2 q3 nn mm
  go_wp2_with fail
  refine HC.out.mono ?_
  rintro e w13 ⟨rfl, B⟩
  have H13 := Lib.hid (below_tr H12.out B)
  have C := size_any _ g _ _ w13 (HH.out.2.1.below H13.out).fo HH.out.2.1.s (by have := HX.out.2.2.1; omega)
  rw [← HX.out.2.1] at C
  have HC := Lib.hid C
  clear B C H12
  go_wp2_with fail
  refine HC.out.mono ?_
  rintro e w14 ⟨rfl, B⟩
  have H14 := Lib.hid (below_tr H13.out B)
  have C := Df.msame_any (· < w.heap.size) f g _ _ _ _ w14 (HH.out.1.below H14.out).fo (HH.out.2.1.below H14.out).fo HH.out.1.s HH.out.1.l
  rw [HX.out.1] at C
  have HC := Lib.hid C
  clear B C H13
  go_wp2_with fail
  refine HC.out.mono ?_
  rintro e w15 ⟨rfl, B⟩
  have H15 := Lib.hid (below_tr H14.out B)
  clear B HC H14
  have b3 : ((r2 == 0) == (r2 == 0)) = true := beq_self_eq_true _
  have b4 : ((r2 == 0) != (r2 == 0)) = false := bne_self_eq_false _
  by_cases h3 : e3 = 0
  case neg =>
    have c3 : (e3 == 0) = false := beq_eq_false_iff_ne.2 h3
    have d3 : (e3 != 0) = true := bne_iff_ne.2 h3
    clear h3
    go_wp2
    go_ret
    exact ⟨rfl, H15.out⟩
  subst h3
  by_cases h4 : e4 = 0
  case neg =>
    have c4 : (e4 == 0) = false := beq_eq_false_iff_ne.2 h4
    have d4 : (e4 != 0) = true := bne_iff_ne.2 h4
    clear h4
    go_wp2
    go_ret
    exact ⟨rfl, H15.out⟩
  subst h4
  obtain ⟨y1, y2, y3⟩ := met_three HR1.out HR3.out HR4.out
  have k4 : wrap64 (r2 + r3) = r2 + r3 := Go.IntWalk.wrap64_in _ (by have := HX.out.2.2.2; omega)
  have HY := Lib.hid (And.intro k4 y1)
  clear y1 y2 y3 k4
  go_wp2
  go_ret
  refine ⟨?_, H15.out⟩
  show Ending.returned (Value.bool (decide (r4 ≤ wrap64 (r2 + r3)))) = _
  rw [HY.out.1, decide_eq_true HY.out.2]

end Pt
end Go.Proofs.YtemmkobgpciflaaDoor
