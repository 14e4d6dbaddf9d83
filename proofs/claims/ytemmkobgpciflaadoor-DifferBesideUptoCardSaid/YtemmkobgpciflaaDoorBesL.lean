/- DifferBeside, walked: true for every four forests and every name. -/
import Derived.Test.YtemmkobgpciflaaDoorMetL
namespace Go.Proofs.YtemmkobgpciflaaDoor
open Go.RowKit
open Ch
namespace Pt

theorem of_keep {w w' : World} {b : Option Nat} (hU : Upd w w' (fun g => b = some g)) : ∀ {ks : List T} {lo hi : Nat} {xs : List Value}, OForest w b ks lo hi xs → OForest w' b ks lo hi xs
  | [], _, _, _, h => by rw [OForest] at h ⊢; exact h
  | t :: l, lo, hi, xs, h => by
    rw [OForest] at h ⊢
    obtain ⟨c, d, m1, m2, e, h1, h2, h3, h4, h5, h6⟩ := h
    exact ⟨c, d, m1, m2, e, h1, h2, h3, OTree.keep hU t m1 m2 c (fun g hg e => h5 g e hg) h4, h5, of_keep hU h6⟩
theorem of_at {w : World} {P : Nat → Prop} : ∀ {b : Option Nat} {ks : List T} {lo hi : Nat} {xs : List Value}, OForest w b ks lo hi xs → (∀ g, Btw lo hi g → P g) → ForestAt w P ks xs
  | _, [], _, _, _, h, _ => by rw [OForest] at h; exact h.1
  | b, t :: l, lo, hi, xs, h, hP => by
    rw [OForest] at h
    obtain ⟨c, d, m1, m2, e, h1, h2, h3, h4, h5, h6⟩ := h
    exact ⟨c, d, e, (OTree.at_ t m1 m2 c h4).mono (fun g hg => hP g ⟨by have := hg.1; omega, by have := hg.2; omega⟩), of_at h6 (fun g hg => hP g ⟨by have := hg.1; omega, hg.2⟩)⟩
theorem fa_app {w : World} {P : Nat → Prop} : ∀ {f h : List T} {xs ys : List Value}, ForestAt w P f xs → ForestAt w P h ys → ForestAt w P (f ++ h) (xs ++ ys)
  | [], h, xs, ys, h1, h2 => by
    have h1 : xs = [] := h1
    subst h1
    exact h2
  | t :: f, h, xs, ys, ⟨c, d, e, h1, h3⟩, h2 => ⟨c, d ++ ys, by rw [e, List.append_assoc], h1, fa_app h3 h2⟩
theorem fa_one {w : World} {P : Nat → Prop} : ∀ {f : List T} {xs : List Value}, ForestAt w P f xs → ∀ u ∈ xs, u.oneCell' = true
  | [], xs, h, u, hu => by
    have h : xs = [] := h
    subst h
    cases hu
  | t :: f, xs, ⟨c, d, e, h1, h3⟩, u, hu => by
    rw [e, List.mem_append] at hu
    rcases hu with hu | hu
    · cases t with
      | mk k n al t ks =>
      obtain ⟨_, _, _, _, rfl, _, _⟩ := TreeAt.forest h1
      simp only [List.mem_cons, List.not_mem_nil, or_false] at hu
      rcases hu with rfl | rfl | rfl | rfl | rfl <;> rfl
    · exact fa_one h3 u hu
/-- One copy put behind another. -/
theorem app_two {w w' : World} {f h : List T} {l1 : Option Addr} {c1 : Nat} {lo hi lo' hi' : Nat} {xs ys : List Value} {b2 : Option Nat} {v' : Value} (hA : AppPost w 25 5 (.slice l1 f.length c1) f.length xs h.length ys v' w')
    (o1 : OForest w (Value.slice l1 f.length c1).ownBlock f lo hi xs) (i1 : InB lo hi (.slice l1 f.length c1)) (o2 : OForest w b2 h lo' hi' ys) (h1 : hi ≤ lo') (h2 : hi' ≤ w.heap.size) :
    ∃ l c, v' = .slice l (f ++ h).length c ∧ Forest w' (· < w'.heap.size) (f ++ h) l c ∧ ∀ B, B ≤ lo → Below B w w' := by
  obtain ⟨O, U, b⟩ := hA
  obtain ⟨l, c, e, _⟩ := (Rd.ofOwn O).form
  subst e
  have hs := U.size
  have hl1 := o1.le
  have hl2 := o2.le
  have k1 := of_keep U o1
  have k2 : OForest w' b2 h lo' hi' ys := o2.keep U (fun g hg e => by have := (i1 g e).2; have := hg.1; omega)
  rw [← List.length_append] at O ⊢
  refine ⟨l, c, rfl, ⟨xs ++ ys, ⟨Rd.ofOwn O, fun _ g hg => own_lt O hg⟩, fa_app (of_at k1 (fun g hg => by have := hg.2; omega)) (of_at k2 (fun g hg => by have := hg.2; omega))⟩, fun B hB => U.below (by omega) (fun g hg e => by have := (i1 g e).1; omega)⟩
theorem of_fits {f h : List T} (hf : ∀ x ∈ f, Fits x) (hh : ∀ x ∈ h, Fits x) : ∀ x ∈ f ++ h, Fits x := fun x hx => by
  rcases List.mem_append.1 hx with h1 | h1
  · exact hf x h1
  · exact hh x h1
def Small2 (f h : List T) : Prop := (f ++ h).length * 88 ≤ 140737488351232

theorem bes_two {f g h k : List T} {x y z : Int} (h1 : (x, 0) = Df.distR f g) (h2 : (y, 0) = Df.distR h k) (h3 : (z, 0) = Df.distR (f ++ h) (g ++ k)) : 0 ≤ x ∧ x ≤ 64 ∧ 0 ≤ y ∧ y ≤ 64 ∧ ¬ (x + y < z) := by
  obtain ⟨e1, _, _, s1, s2⟩ := distR_good h1
  obtain ⟨e2, _, _, s3, s4⟩ := distR_good h2
  obtain ⟨e3, _⟩ := distR_good h3
  have := Df.distN_beside f g h k
  have := (Df.distN_size f g).1
  have := (Df.distN_size h k).1
  omega
theorem bes_around {f g : List T} {n : ByteArray} {x w : Int} (h1 : (x, 0) = Df.distR f g) (h2 : (w, 0) = Df.distR [.mk 1 n [] ⟨#[]⟩ f] [.mk 1 n [] ⟨#[]⟩ g]) : w = x := by
  obtain ⟨e1, _⟩ := distR_good h1
  obtain ⟨e2, _⟩ := distR_good h2
  have := Df.distN_around (.mk 1 n [] ⟨#[]⟩ f) (.mk 1 n [] ⟨#[]⟩ g) rfl rfl (by simp [Df.oneB, T.kind, T.name, T.atts])
  rw [e1, e2, this]
  rfl

def ndV (n : ByteArray) (l : Option Addr) (m c : Nat) : List Value := [.int .i64 1, .string n, .slice none 0 0, .string ⟨#[]⟩, .slice l m c]
theorem around_one {w : World} {P : Nat → Prop} {b : Nat} {n : ByteArray} {l : Option Addr} {c : Nat} {f : List T} (h : Blk w b (ndV n l f.length c) 25) (hb : P b) (hf : Forest w P f l c) : Forest w P [.mk 1 n [] ⟨#[]⟩ f] (some ⟨b, 0, none⟩) 1 := by
  obtain ⟨xs, h1, h2⟩ := hf
  exact forest_one h hb ⟨none, 0, l, c, xs, rfl, ⟨Rd.nil _ _, fun h => absurd rfl h⟩, h1, h2⟩
theorem around_fits {n : ByteArray} {f : List T} (hn : n.size ≤ 9223372036854775807) (hf : ∀ x ∈ f, Fits x) (hl : f.length * 88 ≤ 140737488351232) : ∀ x ∈ [T.mk 1 n [] ⟨#[]⟩ f], Fits x := by
  intro x hx
  rw [List.mem_singleton] at hx
  subst hx
  rw [Fits]
  exact ⟨⟨hn, by decide, fun a ha => (by cases ha), by decide, hl⟩, FitsL.all.2 hf⟩

set_option maxRecDepth 100000 in
set_option maxHeartbeats 4000000 in
theorem bes_any (f g h k : List T) (ak bk hk kk : Option Addr) (ck dk ek gk : Nat) (nm : ByteArray) (w : World) (hf : In w (· < w.heap.size) f ak ck) (hg : In w (· < w.heap.size) g bk dk) (hh : In w (· < w.heap.size) h hk ek) (hk' : In w (· < w.heap.size) k kk gk)
    (hn : nm.size ≤ 9223372036854775807) (s1 : Small2 f h) (s2 : Small2 g k) (hT : Tabs w) :
    Calls Tryd.prog 10 #[.slice ak f.length ck, .slice bk g.length dk, .slice hk h.length ek, .slice kk k.length gk, .string nm] w fun e w' => e = .returned (.bool true) ∧ Below w.heap.size w w' := by
  have C := lives_any w hT
  have HH := Lib.hid (And.intro hf (And.intro hg (And.intro hh (And.intro hk' (And.intro hT (And.intro hn (And.intro s1 s2)))))))
  have HC := Lib.hid C
  clear hf hg hh hk' hn s1 s2 hT C
  go_enter Tryd.func10, Tryd.ntmps10
  go_wp2_with fail
  refine HC.out.mono ?_
  rintro e w0 ⟨rfl, B0⟩
  have H0 := Lib.hid B0
  clear B0 HC
  have C := copyF_any _ _ _ _ w0 (HH.out.1.below H0.out).fo HH.out.1.s HH.out.1.l
  have HC := Lib.hid C
  clear C
  go_wp2_with fail
  refine HC.out.mono ?_
  rintro e w1 ⟨l1, c1, rfl, O1, B1⟩
  have F1 := O1.forest
  have HA := Lib.hid (And.intro F1 (below_tr H0.out B1))
  clear O1 B1 F1 HC H0
  have C := copyF_any _ _ _ _ w1 (HH.out.2.1.below HA.out.2).fo HH.out.2.1.s HH.out.2.1.l
  have HC := Lib.hid C
  clear C
  go_wp2_with fail
  refine HC.out.mono ?_
  rintro e w2 ⟨l2, c2, rfl, O2, B2⟩
  have F2 := O2.forest
  have F1 := HA.out.1.below B2
  have hs := B2.size
  have BB := below_tr HA.out.2 B2
  have C := Df.distA_any w2.heap.size _ _ l1 l2 c1 c2 w2 (F1.mono (fun g h => by have := h.2; omega)) (F2.mono (fun g h => h.2)) HH.out.1.s HH.out.2.1.s HH.out.1.l HH.out.2.1.l (Nat.le_refl _) (HH.out.2.2.2.2.1.below BB)
  have HB := Lib.hid BB
  have HC := Lib.hid C
  clear O2 B2 C F1 F2 hs BB HA
  go_wp2_with fail
  refine HC.out.mono ?_
  rintro e w3 ⟨r1, e1, rfl, HR1, B3⟩
  have H3 := Lib.hid (below_tr HB.out B3)
  clear B3 HB HC
  have C := copyF_any _ _ _ _ w3 (HH.out.2.2.1.below H3.out).fo HH.out.2.2.1.s HH.out.2.2.1.l
  have HC := Lib.hid C
  clear C
  go_wp2_with fail
  refine HC.out.mono ?_
  rintro e w4 ⟨l1, c1, rfl, O1, B1⟩
  have F1 := O1.forest
  have HA := Lib.hid (And.intro F1 (below_tr H3.out B1))
  clear O1 B1 F1 HC H3
  have C := copyF_any _ _ _ _ w4 (HH.out.2.2.2.1.below HA.out.2).fo HH.out.2.2.2.1.s HH.out.2.2.2.1.l
  have HC := Lib.hid C
  clear C
  go_wp2_with fail
  refine HC.out.mono ?_
  rintro e w5 ⟨l2, c2, rfl, O2, B2⟩
  have F2 := O2.forest
  have F1 := HA.out.1.below B2
  have hs := B2.size
  have BB := below_tr HA.out.2 B2
  have C := Df.distA_any w5.heap.size _ _ l1 l2 c1 c2 w5 (F1.mono (fun g h => by have := h.2; omega)) (F2.mono (fun g h => h.2)) HH.out.2.2.1.s HH.out.2.2.2.1.s HH.out.2.2.1.l HH.out.2.2.2.1.l (Nat.le_refl _) (HH.out.2.2.2.2.1.below BB)
  have HB := Lib.hid BB
  have HC := Lib.hid C
  clear O2 B2 C F1 F2 hs BB HA
  go_wp2_with fail
  refine HC.out.mono ?_
  rintro e w6 ⟨r2, e2, rfl, HR2, B3⟩
  have H6 := Lib.hid (below_tr HB.out B3)
  clear B3 HB HC
  have C := copyF_any _ _ _ _ w6 (HH.out.1.below H6.out).fo HH.out.1.s HH.out.1.l
  have HC := Lib.hid C
  clear C
  go_wp2_with fail
  refine HC.out.mono ?_
  rintro e w7 ⟨l1, c1, rfl, O1, B1⟩
  have HA := Lib.hid (And.intro O1 (And.intro (below_tr H6.out B1) B1))
  clear O1 B1 HC
  have C := copyF_any _ _ _ _ w7 (HH.out.2.2.1.below HA.out.2.1).fo HH.out.2.2.1.s HH.out.2.2.1.l
  have HC := Lib.hid C
  clear C
  go_wp2_with fail
  refine HC.out.mono ?_
  rintro e w8 ⟨l2, c2, rfl, O2, B2⟩
  have HB := Lib.hid (And.intro O2 (And.intro (below_tr HA.out.2.1 B2) B2))
  clear O2 B2 HC
  go_wp2_with (at_builtin; refine halt_mk ?_)
  refine halt_go ?_
  obtain ⟨xs, ⟨o1, i1⟩, f1⟩ := HA.out.1
  obtain ⟨ys, ⟨o2, i2⟩, f2⟩ := HB.out.1
  have U2 := Upd.ofBelow (F := fun g => w7.heap.size ≤ g) HB.out.2.2
  have f1' := f1.keep U2 (fun g hg e => by have := hg.2; omega)
  refine wpl_app rfl rfl elemTree Tryd.underlying23 rfl (own_keep o1 U2 (fun g hg e => by have := (i1 g hg).2; omega)) rfl (Rd.ofOwn o2) (fa_one (of_at (P := fun _ => True) f2 (fun _ _ => trivial))) (by have := HH.out.2.2.2.2.2.2.1; unfold Small2 at this; rw [List.length_append] at this; omega) ?_
  intro v w9 hA
  obtain ⟨la1, ca1, rfl, F, B⟩ := app_two hA f1' i1 f2 (Nat.le_refl _) (Nat.le_refl _)
  obtain ⟨fh1, hfh1⟩ : ∃ x, x = f ++ h := ⟨_, rfl⟩
  rw [← hfh1] at F ⊢
  have HE1 := Lib.hid hfh1
  clear hfh1
  have HF1 := Lib.hid F
  have H9 := Lib.hid (And.intro (HB.out.2.1.trans (B _ H6.out.size)) ((below_tr HA.out.2.2 HB.out.2.2).trans (B _ (Nat.le_refl _))))
  clear hA F B o1 o2 i1 i2 f1 f2 U2 f1' HA HB H6
  have HX := H9
  have H9 := Lib.hid HX.out.1
  clear HX
  have C := copyF_any _ _ _ _ w9 (HH.out.2.1.below H9.out).fo HH.out.2.1.s HH.out.2.1.l
  have HC := Lib.hid C
  clear C
  go_wp2_with fail
  refine HC.out.mono ?_
  rintro e w10 ⟨l1, c1, rfl, O1, B1⟩
  have HA := Lib.hid (And.intro O1 (And.intro (below_tr H9.out B1) B1))
  clear O1 B1 HC
  have C := copyF_any _ _ _ _ w10 (HH.out.2.2.2.1.below HA.out.2.1).fo HH.out.2.2.2.1.s HH.out.2.2.2.1.l
  have HC := Lib.hid C
  clear C
  go_wp2_with fail
  refine HC.out.mono ?_
  rintro e w11 ⟨l2, c2, rfl, O2, B2⟩
  have HB := Lib.hid (And.intro O2 (And.intro (below_tr HA.out.2.1 B2) B2))
  clear O2 B2 HC
  go_wp2_with (at_builtin; refine halt_mk ?_)
  refine halt_go ?_
  obtain ⟨xs, ⟨o1, i1⟩, f1⟩ := HA.out.1
  obtain ⟨ys, ⟨o2, i2⟩, f2⟩ := HB.out.1
  have U2 := Upd.ofBelow (F := fun g => w10.heap.size ≤ g) HB.out.2.2
  have f1' := f1.keep U2 (fun g hg e => by have := hg.2; omega)
  refine wpl_app rfl rfl elemTree Tryd.underlying23 rfl (own_keep o1 U2 (fun g hg e => by have := (i1 g hg).2; omega)) rfl (Rd.ofOwn o2) (fa_one (of_at (P := fun _ => True) f2 (fun _ _ => trivial))) (by have := HH.out.2.2.2.2.2.2.2; unfold Small2 at this; rw [List.length_append] at this; omega) ?_
  intro v w12 hA
  obtain ⟨la2, ca2, rfl, F, B⟩ := app_two hA f1' i1 f2 (Nat.le_refl _) (Nat.le_refl _)
  obtain ⟨fh2, hfh2⟩ : ∃ x, x = g ++ k := ⟨_, rfl⟩
  rw [← hfh2] at F ⊢
  have HE2 := Lib.hid hfh2
  clear hfh2
  have HF2 := Lib.hid F
  have H12 := Lib.hid (And.intro (HB.out.2.1.trans (B _ H9.out.size)) ((below_tr HA.out.2.2 HB.out.2.2).trans (B _ (Nat.le_refl _))))
  clear hA F B o1 o2 i1 i2 f1 f2 U2 f1' HA HB H9
  have F1 := HF1.out.below H12.out.2
  have hs := H12.out.2.size
  have C := Df.distA_any w12.heap.size _ _ la1 la2 ca1 ca2 w12 (F1.mono (fun g h => by omega)) HF2.out (by rw [HE1.out]; exact of_fits HH.out.1.s HH.out.2.2.1.s) (by rw [HE2.out]; exact of_fits HH.out.2.1.s HH.out.2.2.2.1.s) (by rw [HE1.out]; exact HH.out.2.2.2.2.2.2.1) (by rw [HE2.out]; exact HH.out.2.2.2.2.2.2.2) (Nat.le_refl _) (HH.out.2.2.2.2.1.below H12.out.1)
  have HC := Lib.hid C
  clear C F1 hs HF1 HF2
  go_wp2_with fail
  refine HC.out.mono ?_
  rintro e w13 ⟨r3, e3, rfl, HR3, B3⟩
  have H13 := Lib.hid (below_tr H12.out.1 B3)
  clear B3 HC H12
  have hcase : (e1 ≠ 0) ∨ (e1 = 0 ∧ e2 ≠ 0) ∨ (e1 = 0 ∧ e2 = 0 ∧ e3 ≠ 0) ∨ (e1 = 0 ∧ e2 = 0 ∧ e3 = 0) := by omega
  rcases hcase with h1 | ⟨rfl, h2⟩ | ⟨rfl, rfl, h3⟩ | ⟨rfl, rfl, rfl⟩
  · have b1 : (e1 == 0) = false := beq_eq_false_iff_ne.2 h1
    have b2 : (e1 != 0) = true := bne_iff_ne.2 h1
    clear h1
    have C := copyF_any _ _ _ _ w13 (HH.out.1.below H13.out).fo HH.out.1.s HH.out.1.l
    have HC := Lib.hid C
    clear C
    go_wp2_with fail
    refine HC.out.mono ?_
    rintro e w14 ⟨l1, c1, rfl, O1, B1⟩
    have HA := Lib.hid (And.intro O1.forest (And.intro (below_tr H13.out B1) B1))
    clear O1 B1 HC H13
    obtain ⟨A1, hA1⟩ : ∃ A1, A1 = w14.heap.size := ⟨_, rfl⟩
    have HA1 := Lib.hid hA1
    obtain ⟨W15, hW15⟩ : ∃ W15, W15 = w14.alloc (.cells (ndV nm l1 f.length c1).toArray 25) := ⟨_, rfl⟩
    have a1 : Blk W15 A1 (ndV nm l1 f.length c1) 25 := by rw [hW15]; exact Blk.new' hA1
    have V15 : Upd w14 W15 (fun _ => False) := by rw [hW15]; exact (Upd.refl _ _).alloc _
    have BB := below_tr HA.out.2.1 (V15.below (F := fun _ => False) (Nat.le_refl _) (fun _ _ h => h))
    have C := copyF_any _ _ _ _ W15 (HH.out.2.1.below BB).fo HH.out.2.1.s HH.out.2.1.l
    rw [hW15] at C
    unfold ndV at C
    have HC := Lib.hid C
    have HB := Lib.hid (And.intro hW15 (And.intro a1 (And.intro (HA.out.1.keep V15 (fun _ _ h => h)) BB)))
    clear hA1 hW15 a1 V15 BB C HA
    go_wp2_with fail
    rw [← HA1.out]
    refine HC.out.mono ?_
    rintro e w16 ⟨l2, c2, rfl, O2, B2⟩
    have hw := HB.out.1
    unfold ndV at hw
    rw [← hw] at B2 O2
    have hs := B2.size
    have a2 := (Upd.ofBelow (F := fun _ => False) B2).blk HB.out.2.1 (fun h => h)
    have F1 := (HB.out.2.2.1.below B2).mono (Q := (· < w16.heap.size)) (fun g h => by have := h.2; have := HA1.out; have := HB.out.2.1.lt; omega)
    have HA := Lib.hid (And.intro (O2.forest.mono (Q := (· < w16.heap.size)) (fun g h => h.2)) (And.intro (below_tr HB.out.2.2.2 B2) (And.intro a2 F1)))
    clear hw hs a2 F1 O2 B2 HC HB HA1
    obtain ⟨A2, hA2⟩ : ∃ A2, A2 = w16.heap.size := ⟨_, rfl⟩
    have HA2 := Lib.hid hA2
    obtain ⟨W17, hW17⟩ : ∃ W17, W17 = w16.alloc (.cells (ndV nm l2 g.length c2).toArray 25) := ⟨_, rfl⟩
    have q2 : Blk W17 A2 (ndV nm l2 g.length c2) 25 := by rw [hW17]; exact Blk.new' hA2
    have V17 : Upd w16 W17 (fun _ => False) := by rw [hW17]; exact (Upd.refl _ _).alloc _
    have hs := V17.size
    have q1 := V17.blk HA.out.2.2.1 (fun h => h)
    have BB := below_tr HA.out.2.1 (V17.below (F := fun _ => False) (Nat.le_refl _) (fun _ _ h => h))
    have C := Df.distA_any W17.heap.size [.mk 1 nm [] ⟨#[]⟩ f] [.mk 1 nm [] ⟨#[]⟩ g] _ _ _ _ W17 (around_one q1 q1.lt ((HA.out.2.2.2.keep V17 (fun _ _ h => h)).mono (fun g h => by omega))) (around_one q2 q2.lt ((HA.out.1.keep V17 (fun _ _ h => h)).mono (fun g h => by omega))) (around_fits HH.out.2.2.2.2.2.1 HH.out.1.s HH.out.1.l) (around_fits HH.out.2.2.2.2.2.1 HH.out.2.1.s HH.out.2.1.l) (by simp) (by simp) (Nat.le_refl _) (HH.out.2.2.2.2.1.below BB)
    rw [hW17] at C
    unfold ndV at C
    try simp only [List.length_cons, List.length_nil, Nat.zero_add] at C
    have HC := Lib.hid C
    have HB := Lib.hid (And.intro hW17 BB)
    clear hA2 hW17 q2 V17 hs q1 BB C HA
    go_wp2_with fail
    rw [← HA2.out]
    refine HC.out.mono ?_
    rintro e w18 ⟨r4, e4, rfl, HR4, B3⟩
    have hw := HB.out.1
    unfold ndV at hw
    rw [← hw] at B3
    have H18 := Lib.hid (below_tr HB.out.2 B3)
    clear hw B3 HB HC HA2
    go_wp2
    go_ret
    exact ⟨rfl, H18.out⟩
  · have b1 : (e2 == 0) = false := beq_eq_false_iff_ne.2 h2
    have b2 : (e2 != 0) = true := bne_iff_ne.2 h2
    clear h2
    have C := copyF_any _ _ _ _ w13 (HH.out.1.below H13.out).fo HH.out.1.s HH.out.1.l
    have HC := Lib.hid C
    clear C
    go_wp2_with fail
    refine HC.out.mono ?_
    rintro e w14 ⟨l1, c1, rfl, O1, B1⟩
    have HA := Lib.hid (And.intro O1.forest (And.intro (below_tr H13.out B1) B1))
    clear O1 B1 HC H13
    obtain ⟨A1, hA1⟩ : ∃ A1, A1 = w14.heap.size := ⟨_, rfl⟩
    have HA1 := Lib.hid hA1
    obtain ⟨W15, hW15⟩ : ∃ W15, W15 = w14.alloc (.cells (ndV nm l1 f.length c1).toArray 25) := ⟨_, rfl⟩
    have a1 : Blk W15 A1 (ndV nm l1 f.length c1) 25 := by rw [hW15]; exact Blk.new' hA1
    have V15 : Upd w14 W15 (fun _ => False) := by rw [hW15]; exact (Upd.refl _ _).alloc _
    have BB := below_tr HA.out.2.1 (V15.below (F := fun _ => False) (Nat.le_refl _) (fun _ _ h => h))
    have C := copyF_any _ _ _ _ W15 (HH.out.2.1.below BB).fo HH.out.2.1.s HH.out.2.1.l
    rw [hW15] at C
    unfold ndV at C
    have HC := Lib.hid C
    have HB := Lib.hid (And.intro hW15 (And.intro a1 (And.intro (HA.out.1.keep V15 (fun _ _ h => h)) BB)))
    clear hA1 hW15 a1 V15 BB C HA
    go_wp2_with fail
    rw [← HA1.out]
    refine HC.out.mono ?_
    rintro e w16 ⟨l2, c2, rfl, O2, B2⟩
    have hw := HB.out.1
    unfold ndV at hw
    rw [← hw] at B2 O2
    have hs := B2.size
    have a2 := (Upd.ofBelow (F := fun _ => False) B2).blk HB.out.2.1 (fun h => h)
    have F1 := (HB.out.2.2.1.below B2).mono (Q := (· < w16.heap.size)) (fun g h => by have := h.2; have := HA1.out; have := HB.out.2.1.lt; omega)
    have HA := Lib.hid (And.intro (O2.forest.mono (Q := (· < w16.heap.size)) (fun g h => h.2)) (And.intro (below_tr HB.out.2.2.2 B2) (And.intro a2 F1)))
    clear hw hs a2 F1 O2 B2 HC HB HA1
    obtain ⟨A2, hA2⟩ : ∃ A2, A2 = w16.heap.size := ⟨_, rfl⟩
    have HA2 := Lib.hid hA2
    obtain ⟨W17, hW17⟩ : ∃ W17, W17 = w16.alloc (.cells (ndV nm l2 g.length c2).toArray 25) := ⟨_, rfl⟩
    have q2 : Blk W17 A2 (ndV nm l2 g.length c2) 25 := by rw [hW17]; exact Blk.new' hA2
    have V17 : Upd w16 W17 (fun _ => False) := by rw [hW17]; exact (Upd.refl _ _).alloc _
    have hs := V17.size
    have q1 := V17.blk HA.out.2.2.1 (fun h => h)
    have BB := below_tr HA.out.2.1 (V17.below (F := fun _ => False) (Nat.le_refl _) (fun _ _ h => h))
    have C := Df.distA_any W17.heap.size [.mk 1 nm [] ⟨#[]⟩ f] [.mk 1 nm [] ⟨#[]⟩ g] _ _ _ _ W17 (around_one q1 q1.lt ((HA.out.2.2.2.keep V17 (fun _ _ h => h)).mono (fun g h => by omega))) (around_one q2 q2.lt ((HA.out.1.keep V17 (fun _ _ h => h)).mono (fun g h => by omega))) (around_fits HH.out.2.2.2.2.2.1 HH.out.1.s HH.out.1.l) (around_fits HH.out.2.2.2.2.2.1 HH.out.2.1.s HH.out.2.1.l) (by simp) (by simp) (Nat.le_refl _) (HH.out.2.2.2.2.1.below BB)
    rw [hW17] at C
    unfold ndV at C
    try simp only [List.length_cons, List.length_nil, Nat.zero_add] at C
    have HC := Lib.hid C
    have HB := Lib.hid (And.intro hW17 BB)
    clear hA2 hW17 q2 V17 hs q1 BB C HA
    go_wp2_with fail
    rw [← HA2.out]
    refine HC.out.mono ?_
    rintro e w18 ⟨r4, e4, rfl, HR4, B3⟩
    have hw := HB.out.1
    unfold ndV at hw
    rw [← hw] at B3
    have H18 := Lib.hid (below_tr HB.out.2 B3)
    clear hw B3 HB HC HA2
    by_cases h4 : e4 = 0
    case neg =>
      have c4 : (e4 == 0) = false := beq_eq_false_iff_ne.2 h4
      have d4 : (e4 != 0) = true := bne_iff_ne.2 h4
      clear h4
      go_wp2
      go_ret
      exact ⟨rfl, H18.out⟩
    subst h4
    have hb := bes_around HR1.out HR4.out
    subst hb
    go_wp2
    go_ret
    exact ⟨rfl, H18.out⟩
  · have b1 : (e3 == 0) = false := beq_eq_false_iff_ne.2 h3
    have b2 : (e3 != 0) = true := bne_iff_ne.2 h3
    clear h3
    have C := copyF_any _ _ _ _ w13 (HH.out.1.below H13.out).fo HH.out.1.s HH.out.1.l
    have HC := Lib.hid C
    clear C
    go_wp2_with fail
    refine HC.out.mono ?_
    rintro e w14 ⟨l1, c1, rfl, O1, B1⟩
    have HA := Lib.hid (And.intro O1.forest (And.intro (below_tr H13.out B1) B1))
    clear O1 B1 HC H13
    obtain ⟨A1, hA1⟩ : ∃ A1, A1 = w14.heap.size := ⟨_, rfl⟩
    have HA1 := Lib.hid hA1
    obtain ⟨W15, hW15⟩ : ∃ W15, W15 = w14.alloc (.cells (ndV nm l1 f.length c1).toArray 25) := ⟨_, rfl⟩
    have a1 : Blk W15 A1 (ndV nm l1 f.length c1) 25 := by rw [hW15]; exact Blk.new' hA1
    have V15 : Upd w14 W15 (fun _ => False) := by rw [hW15]; exact (Upd.refl _ _).alloc _
    have BB := below_tr HA.out.2.1 (V15.below (F := fun _ => False) (Nat.le_refl _) (fun _ _ h => h))
    have C := copyF_any _ _ _ _ W15 (HH.out.2.1.below BB).fo HH.out.2.1.s HH.out.2.1.l
    rw [hW15] at C
    unfold ndV at C
    have HC := Lib.hid C
    have HB := Lib.hid (And.intro hW15 (And.intro a1 (And.intro (HA.out.1.keep V15 (fun _ _ h => h)) BB)))
    clear hA1 hW15 a1 V15 BB C HA
    go_wp2_with fail
    rw [← HA1.out]
    refine HC.out.mono ?_
    rintro e w16 ⟨l2, c2, rfl, O2, B2⟩
    have hw := HB.out.1
    unfold ndV at hw
    rw [← hw] at B2 O2
    have hs := B2.size
    have a2 := (Upd.ofBelow (F := fun _ => False) B2).blk HB.out.2.1 (fun h => h)
    have F1 := (HB.out.2.2.1.below B2).mono (Q := (· < w16.heap.size)) (fun g h => by have := h.2; have := HA1.out; have := HB.out.2.1.lt; omega)
    have HA := Lib.hid (And.intro (O2.forest.mono (Q := (· < w16.heap.size)) (fun g h => h.2)) (And.intro (below_tr HB.out.2.2.2 B2) (And.intro a2 F1)))
    clear hw hs a2 F1 O2 B2 HC HB HA1
    obtain ⟨A2, hA2⟩ : ∃ A2, A2 = w16.heap.size := ⟨_, rfl⟩
    have HA2 := Lib.hid hA2
    obtain ⟨W17, hW17⟩ : ∃ W17, W17 = w16.alloc (.cells (ndV nm l2 g.length c2).toArray 25) := ⟨_, rfl⟩
    have q2 : Blk W17 A2 (ndV nm l2 g.length c2) 25 := by rw [hW17]; exact Blk.new' hA2
    have V17 : Upd w16 W17 (fun _ => False) := by rw [hW17]; exact (Upd.refl _ _).alloc _
    have hs := V17.size
    have q1 := V17.blk HA.out.2.2.1 (fun h => h)
    have BB := below_tr HA.out.2.1 (V17.below (F := fun _ => False) (Nat.le_refl _) (fun _ _ h => h))
    have C := Df.distA_any W17.heap.size [.mk 1 nm [] ⟨#[]⟩ f] [.mk 1 nm [] ⟨#[]⟩ g] _ _ _ _ W17 (around_one q1 q1.lt ((HA.out.2.2.2.keep V17 (fun _ _ h => h)).mono (fun g h => by omega))) (around_one q2 q2.lt ((HA.out.1.keep V17 (fun _ _ h => h)).mono (fun g h => by omega))) (around_fits HH.out.2.2.2.2.2.1 HH.out.1.s HH.out.1.l) (around_fits HH.out.2.2.2.2.2.1 HH.out.2.1.s HH.out.2.1.l) (by simp) (by simp) (Nat.le_refl _) (HH.out.2.2.2.2.1.below BB)
    rw [hW17] at C
    unfold ndV at C
    try simp only [List.length_cons, List.length_nil, Nat.zero_add] at C
    have HC := Lib.hid C
    have HB := Lib.hid (And.intro hW17 BB)
    clear hA2 hW17 q2 V17 hs q1 BB C HA
    go_wp2_with fail
    rw [← HA2.out]
    refine HC.out.mono ?_
    rintro e w18 ⟨r4, e4, rfl, HR4, B3⟩
    have hw := HB.out.1
    unfold ndV at hw
    rw [← hw] at B3
    have H18 := Lib.hid (below_tr HB.out.2 B3)
    clear hw B3 HB HC HA2
    by_cases h4 : e4 = 0
    case neg =>
      have c4 : (e4 == 0) = false := beq_eq_false_iff_ne.2 h4
      have d4 : (e4 != 0) = true := bne_iff_ne.2 h4
      clear h4
      go_wp2
      go_ret
      exact ⟨rfl, H18.out⟩
    subst h4
    have hb := bes_around HR1.out HR4.out
    subst hb
    go_wp2
    go_ret
    exact ⟨rfl, H18.out⟩
  · obtain ⟨x1, x2, x3, x4, x5⟩ := bes_two HR1.out HR2.out (by rw [← HE1.out, ← HE2.out]; exact HR3.out)
    have k1 : wrap64 (r1 + r2) = r1 + r2 := Go.IntWalk.wrap64_in _ (by omega)
    clear x1 x2 x3 x4
    have C := copyF_any _ _ _ _ w13 (HH.out.1.below H13.out).fo HH.out.1.s HH.out.1.l
    have HC := Lib.hid C
    clear C
    go_wp2_with fail
    refine HC.out.mono ?_
    rintro e w14 ⟨l1, c1, rfl, O1, B1⟩
    have HA := Lib.hid (And.intro O1.forest (And.intro (below_tr H13.out B1) B1))
    clear O1 B1 HC H13
    obtain ⟨A1, hA1⟩ : ∃ A1, A1 = w14.heap.size := ⟨_, rfl⟩
    have HA1 := Lib.hid hA1
    obtain ⟨W15, hW15⟩ : ∃ W15, W15 = w14.alloc (.cells (ndV nm l1 f.length c1).toArray 25) := ⟨_, rfl⟩
    have a1 : Blk W15 A1 (ndV nm l1 f.length c1) 25 := by rw [hW15]; exact Blk.new' hA1
    have V15 : Upd w14 W15 (fun _ => False) := by rw [hW15]; exact (Upd.refl _ _).alloc _
    have BB := below_tr HA.out.2.1 (V15.below (F := fun _ => False) (Nat.le_refl _) (fun _ _ h => h))
    have C := copyF_any _ _ _ _ W15 (HH.out.2.1.below BB).fo HH.out.2.1.s HH.out.2.1.l
    rw [hW15] at C
    unfold ndV at C
    have HC := Lib.hid C
    have HB := Lib.hid (And.intro hW15 (And.intro a1 (And.intro (HA.out.1.keep V15 (fun _ _ h => h)) BB)))
    clear hA1 hW15 a1 V15 BB C HA
    go_wp2_with fail
    rw [← HA1.out]
    refine HC.out.mono ?_
    rintro e w16 ⟨l2, c2, rfl, O2, B2⟩
    have hw := HB.out.1
    unfold ndV at hw
    rw [← hw] at B2 O2
    have hs := B2.size
    have a2 := (Upd.ofBelow (F := fun _ => False) B2).blk HB.out.2.1 (fun h => h)
    have F1 := (HB.out.2.2.1.below B2).mono (Q := (· < w16.heap.size)) (fun g h => by have := h.2; have := HA1.out; have := HB.out.2.1.lt; omega)
    have HA := Lib.hid (And.intro (O2.forest.mono (Q := (· < w16.heap.size)) (fun g h => h.2)) (And.intro (below_tr HB.out.2.2.2 B2) (And.intro a2 F1)))
    clear hw hs a2 F1 O2 B2 HC HB HA1
    obtain ⟨A2, hA2⟩ : ∃ A2, A2 = w16.heap.size := ⟨_, rfl⟩
    have HA2 := Lib.hid hA2
    obtain ⟨W17, hW17⟩ : ∃ W17, W17 = w16.alloc (.cells (ndV nm l2 g.length c2).toArray 25) := ⟨_, rfl⟩
    have q2 : Blk W17 A2 (ndV nm l2 g.length c2) 25 := by rw [hW17]; exact Blk.new' hA2
    have V17 : Upd w16 W17 (fun _ => False) := by rw [hW17]; exact (Upd.refl _ _).alloc _
    have hs := V17.size
    have q1 := V17.blk HA.out.2.2.1 (fun h => h)
    have BB := below_tr HA.out.2.1 (V17.below (F := fun _ => False) (Nat.le_refl _) (fun _ _ h => h))
    have C := Df.distA_any W17.heap.size [.mk 1 nm [] ⟨#[]⟩ f] [.mk 1 nm [] ⟨#[]⟩ g] _ _ _ _ W17 (around_one q1 q1.lt ((HA.out.2.2.2.keep V17 (fun _ _ h => h)).mono (fun g h => by omega))) (around_one q2 q2.lt ((HA.out.1.keep V17 (fun _ _ h => h)).mono (fun g h => by omega))) (around_fits HH.out.2.2.2.2.2.1 HH.out.1.s HH.out.1.l) (around_fits HH.out.2.2.2.2.2.1 HH.out.2.1.s HH.out.2.1.l) (by simp) (by simp) (Nat.le_refl _) (HH.out.2.2.2.2.1.below BB)
    rw [hW17] at C
    unfold ndV at C
    try simp only [List.length_cons, List.length_nil, Nat.zero_add] at C
    have HC := Lib.hid C
    have HB := Lib.hid (And.intro hW17 BB)
    clear hA2 hW17 q2 V17 hs q1 BB C HA
    go_wp2_with fail
    rw [← HA2.out]
    refine HC.out.mono ?_
    rintro e w18 ⟨r4, e4, rfl, HR4, B3⟩
    have hw := HB.out.1
    unfold ndV at hw
    rw [← hw] at B3
    have H18 := Lib.hid (below_tr HB.out.2 B3)
    clear hw B3 HB HC HA2
    by_cases h4 : e4 = 0
    case neg =>
      have c4 : (e4 == 0) = false := beq_eq_false_iff_ne.2 h4
      have d4 : (e4 != 0) = true := bne_iff_ne.2 h4
      clear h4
      go_wp2
      go_ret
      exact ⟨rfl, H18.out⟩
    subst h4
    have hb := bes_around HR1.out HR4.out
    subst hb
    go_wp2
    go_ret
    exact ⟨rfl, H18.out⟩

end Pt
end Go.Proofs.YtemmkobgpciflaaDoor
