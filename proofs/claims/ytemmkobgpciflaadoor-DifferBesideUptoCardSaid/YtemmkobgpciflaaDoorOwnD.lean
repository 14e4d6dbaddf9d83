/- The program's copy of a tree: differ.own and slices.Clone, walked. -/
import Derived.Test.YtemmkobgpciflaaDoorCopy
import Derived.Test.YtemmkobgpciflaaDoorSameN
namespace Go.Proofs.YtemmkobgpciflaaDoor
open Go.RowKit

def ClonePost (w : World) (al : List Att) (e : Ending) (w' : World) : Prop := ∃ a c, e = .returned (.slice a al.length c) ∧ w'.ownsRow 0 146 2 (.slice a al.length c) al.length (atc al) ∧ InB w.heap.size w'.heap.size (.slice a al.length c) ∧ Below w.heap.size w w'

set_option maxRecDepth 100000 in
set_option maxHeartbeats 4000000 in
theorem clone_any (al : List Att) (aa : Option Addr) (ca : Nat) (w : World) (hA : Rd w (.slice aa al.length ca) al.length 2 (atc al)) (hs : al.length * 32 ≤ 140737488351232) : Calls Tryd.prog 100 #[.slice aa al.length ca] w (ClonePost w al) := by
  cases aa with
  | none =>
    have hca : ca = 0 := by
      obtain ⟨_, a, c, e, _, hn, _⟩ := hA
      cases e
      exact hn rfl
    have hal : al = [] := by
      obtain ⟨_, a, c, e, hc, hn, _⟩ := hA
      simp only [Value.slice.injEq] at e
      obtain ⟨rfl, _, rfl⟩ := e
      have := hn rfl
      exact List.eq_nil_of_length_eq_zero (by omega)
    subst hca hal
    clear hA hs
    have qn : ∀ (w : World) (n c : Nat), (binOp .eql 22 (.slice none n c) (.slice none 0 0)).run Tryd.prog w = .ok (.bool true) w := fun _ _ _ => by kernel_rfl
    go_enter Tryd.func100, Tryd.ntmps100
    go_wp2
    go_ret
    exact ⟨none, 0, rfl, own_none, (fun g h => by cases h), Below.refl _ _⟩
  | some ad =>
    have HH := Lib.hid (And.intro hA hs)
    clear hA hs
    have qn : ∀ (w : World) (a : Addr) (n c : Nat), (binOp .eql 22 (.slice (some a) n c) (.slice none 0 0)).run Tryd.prog w = .ok (.bool false) w := fun _ _ _ _ => by kernel_rfl
    go_enter Tryd.func100, Tryd.ntmps100
    go_wp2_with (at_builtin; refine halt_mk ?_)
    refine halt_go ?_
    obtain ⟨N, hN⟩ : ∃ N, N = w.heap.size := ⟨_, rfl⟩
    rw [← hN]
    generalize hW : World.alloc _ _ = W
    have T1 : Upd w W (fun _ => False) := by rw [← hW]; exact (Upd.refl w _).alloc _
    have O1 : W.ownsRow 0 146 2 (.slice (some ⟨N, 0, none⟩) 0 0) 0 [] := by rw [← hW]; exact own_lit_sz hN
    clear hW
    refine wpl_app rfl rfl elemAttr Tryd.underlying22 rfl O1 rfl (HH.out.1.keep T1 (fun _ _ h => h)) (atc_one al) (by have := HH.out; omega) ?_
    rintro v1 w4 ⟨O2, U2, b2⟩
    rw [Nat.zero_add, List.nil_append] at O2
    have hne : ∀ i, (Value.slice (some ⟨N, 0, none⟩) 0 0).ownBlock = some i → i = N := fun i e => by have := ob_eq e; omega
    have T2 : Upd w w4 (fun _ => False) := T1.trans U2 (fun i hi e => by have := hne _ e; omega)
    have hv1 : ∀ g, v1.ownBlock = some g → w.heap.size ≤ g := fun g hg => by
      rcases b2 with e | e
      · have := hne g (e ▸ hg); omega
      · have := ob_some (e.symm.trans hg); have := T1.size; omega
    obtain ⟨a1, c1, rfl, _⟩ := (Rd.ofOwn O2).form
    have H4 := Lib.hid (And.intro O2 (And.intro T2 hv1))
    clear O1 O2 U2 b2 hne T1 T2 hv1
    go_wp2
    go_ret
    exact ⟨_, _, rfl, H4.out.1, fun g hg => ⟨H4.out.2.2 g hg, own_lt H4.out.1 hg⟩, H4.out.2.1.below (Nat.le_refl _) (fun _ _ h => h)⟩

set_option maxRecDepth 100000 in
set_option maxHeartbeats 4000000 in
theorem ownd_any (P : Nat → Prop) : ∀ t, ∀ (cs : List Value) (w : World), TreeAt w P t cs → Fits t → Calls Tryd.prog 60 #[.agg cs.toArray] w (CopyPost w t) := by
  refine T.ind ?_
  intro k nm al tx ks ih cs w hA hF
  obtain ⟨aa, ca, ak, ck, xs, rfl, hAl, hKs, hFo⟩ := hA.parts
  have hS := hF.small
  unfold Small at hS
  obtain ⟨_, _, _, hS1, hS2⟩ := hS
  have HH := Lib.hid (And.intro hAl (And.intro hKs (And.intro hFo (And.intro ih (And.intro hF (And.intro hS1 hS2))))))
  clear hA hF hAl hKs hFo ih hS1 hS2
  go_enter Tryd.func60, Tryd.ntmps60
  obtain ⟨N, hN⟩ : ∃ N, N = w.heap.size := ⟨_, rfl⟩
  have HN := Lib.hid hN
  clear hN
  go_wp2
  rw [← HN.out]
  generalize hW : World.alloc (World.alloc _ _) _ = W
  have T1 : Upd w W (fun _ => False) := by rw [← hW]; exact ((Upd.refl w _).alloc _).alloc _
  have X1 : Blk W N [.int .i64 k, .string nm, .slice aa al.length ca, .string tx, .slice ak ks.length ck] 25 := by
    rw [← hW, HN.out]
    exact (Blk.new w _ _).alloc _
  have R1 : Blk W (N + 1) [.int .i64 0, .string ⟨#[]⟩, .slice none 0 0, .string ⟨#[]⟩, .slice none 0 0] 25 := by
    rw [← hW]
    exact Blk.new' (by simp [HN.out])
  have S1 : W.heap.size = N + 2 := by rw [← hW]; simp [HN.out]
  have H1 := Lib.hid (And.intro T1 (And.intro X1 (And.intro R1 S1)))
  have hs0 := X1.cell 0
  have hs1 := X1.cell 1
  have hs2 := X1.cell 2
  have hs3 := X1.cell 3
  simp only [List.getElem?_cons_zero, List.getElem?_cons_succ] at hs0 hs1 hs2 hs3
  clear hW T1 X1 R1 S1
  apply wp_regS (fun w' : World => w'.cell? ⟨N, 0, none⟩ = some (.int .i64 k) ∧ w'.cell? ⟨N, 1, none⟩ = some (.string nm) ∧ w'.cell? ⟨N, 2, none⟩ = some (.slice aa al.length ca) ∧ w'.cell? ⟨N, 3, none⟩ = some (.string tx)) [0, 1, 2, 3, 4, 5, 7, 8] [6, 9] 10 [11] [] (by kernel_rfl) (by kernel_rfl) (fun _ _ d _ _ h => by cases d <;> exact h)
    (fun (v : Option Addr) (R : Nat) (vc : Nat) (w' : World) => Hid (w'.ownsRow 0 146 2 (.slice v al.length vc) al.length (atc al) ∧ (∀ g, (Value.slice v al.length vc).ownBlock = some g → N + 2 ≤ g ∧ g < w'.heap.size) ∧ Blk w' R [.int .i64 0, .string ⟨#[]⟩, .slice none 0 0, .string ⟨#[]⟩, .slice none 0 0] 25 ∧ N + 2 ≤ R ∧ Upd W w' (fun _ => False))) _ _ ⟨hs0, hs1, hs2, hs3⟩
  · iterate 8 (apply reads_consL rfl rfl; (· intro w0 hS; obtain ⟨hS1, hS2, hS3, hS4⟩ := hS; go_simp; try rfl); simp only [Act.put, List.setIfInBounds_toArray, List.set_cons_zero, List.set_cons_succ])
    exact rfl
  · have V0 : Upd W W.drew (fun _ => False) := (Upd.refl W _).drew
    generalize W.drew = w0 at V0 ⊢
    have H0 := Lib.hid V0
    clear V0
    refine shuf_consL rfl rfl ?_ ?_
    · have C := clone_any al aa ca w0 (HH.out.1.1.keep (H1.out.1.trans H0.out (fun _ _ h => h)) (fun _ _ h => h)) HH.out.2.2.2.2.2.1
      have HC := Lib.hid C
      clear C
      go_wp2_with fail
      refine HC.out.mono ?_
      rintro e w2 ⟨a2, c2, rfl, O2, B2, U2⟩
      have V2 : Upd W w2 (fun _ => False) := H0.out.trans (Upd.ofBelow (F := fun _ => False) U2) (fun _ _ h => h)
      have X2 := V2.blk H1.out.2.1 (fun h => h)
      have S2 := And.intro (X2.cell 0) (And.intro (X2.cell 1) (And.intro (X2.cell 2) (X2.cell 3)))
      have H2 := Lib.hid (And.intro O2 (And.intro B2 (And.intro V2 S2)))
      clear O2 B2 U2 V2 X2 S2
      go_wp2_with fail
      refine ⟨H2.out.2.2.2, ?_⟩
      refine shuf_consL rfl rfl ?_ ?_
      · go_wp2_with fail
        refine ⟨H2.out.2.2.2, shuf_nilL rfl ?_⟩
        obtain ⟨R, hR⟩ : ∃ R, R = w2.heap.size := ⟨_, rfl⟩
        have HR := Lib.hid hR
        clear hR
        go_wp2_with fail
        rw [← HR.out]
        generalize hW : World.alloc _ _ = W3
        have T3 : Upd w2 W3 (fun _ => False) := by rw [← hW]; exact (Upd.refl w2 _).alloc _
        have X3 : Blk W3 R [.int .i64 0, .string ⟨#[]⟩, .slice none 0 0, .string ⟨#[]⟩, .slice none 0 0] 25 := by rw [← hW]; exact Blk.new' HR.out
        obtain ⟨O2, B2, V2, _⟩ := H2.out
        have V3 := V2.trans T3 (fun _ _ h => h)
        have Y3 := V3.blk H1.out.2.1 (fun h => h)
        refine ⟨⟨Y3.cell 0, Y3.cell 1, Y3.cell 2, Y3.cell 3⟩, a2, R, c2, rfl, Lib.hid ⟨own_keep O2 T3 (fun _ _ h => h), fun g hg => ⟨?_, ?_⟩, X3, ?_, V3⟩⟩
        · have := (B2 g hg).1; have := H0.out.size; have := H1.out.2.2.2; omega
        · have := (B2 g hg).2; have := T3.size; omega
        · have := V2.size; have := H1.out.2.2.2; have := HR.out; omega
      · obtain ⟨R, hR⟩ : ∃ R, R = w2.heap.size := ⟨_, rfl⟩
        have HR := Lib.hid hR
        clear hR
        go_wp2_with fail
        rw [← HR.out]
        generalize hW : World.alloc _ _ = W3
        have T3 : Upd w2 W3 (fun _ => False) := by rw [← hW]; exact (Upd.refl w2 _).alloc _
        have X3 : Blk W3 R [.int .i64 0, .string ⟨#[]⟩, .slice none 0 0, .string ⟨#[]⟩, .slice none 0 0] 25 := by rw [← hW]; exact Blk.new' HR.out
        have HT := Lib.hid (And.intro T3 X3)
        have Y3 := (H2.out.2.2.1.trans T3 (fun _ _ h => h)).blk H1.out.2.1 (fun h => h)
        have S3 := And.intro (Y3.cell 0) (And.intro (Y3.cell 1) (And.intro (Y3.cell 2) (Y3.cell 3)))
        have HS3 := Lib.hid S3
        clear hW T3 X3 Y3 S3
        refine ⟨HS3.out, pre_consL rfl ?_⟩
        go_wp2_with fail
        obtain ⟨O2, B2, V2, _⟩ := H2.out
        obtain ⟨T3, X3⟩ := HT.out
        have V3 := V2.trans T3 (fun _ _ h => h)
        refine ⟨HS3.out, a2, R, c2, rfl, Lib.hid ⟨own_keep O2 T3 (fun _ _ h => h), fun g hg => ⟨?_, ?_⟩, X3, ?_, V3⟩⟩
        · have := (B2 g hg).1; have := H0.out.size; have := H1.out.2.2.2; omega
        · have := (B2 g hg).2; have := T3.size; omega
        · have := V2.size; have := H1.out.2.2.2; have := HR.out; omega
    · obtain ⟨R, hR⟩ : ∃ R, R = w0.heap.size := ⟨_, rfl⟩
      have HR := Lib.hid hR
      clear hR
      go_wp2_with fail
      rw [← HR.out]
      generalize hW : World.alloc _ _ = W3
      have T3 : Upd w0 W3 (fun _ => False) := by rw [← hW]; exact (Upd.refl w0 _).alloc _
      have X3 : Blk W3 R [.int .i64 0, .string ⟨#[]⟩, .slice none 0 0, .string ⟨#[]⟩, .slice none 0 0] 25 := by rw [← hW]; exact Blk.new' HR.out
      have V3 := H0.out.trans T3 (fun _ _ h => h)
      have Y3 := V3.blk H1.out.2.1 (fun h => h)
      have H3 := Lib.hid (And.intro X3 V3)
      have S3 := And.intro (Y3.cell 0) (And.intro (Y3.cell 1) (And.intro (Y3.cell 2) (Y3.cell 3)))
      have HS3 := Lib.hid S3
      have C := clone_any al aa ca W3 (HH.out.1.1.keep (H1.out.1.trans V3 (fun _ _ h => h)) (fun _ _ h => h)) HH.out.2.2.2.2.2.1
      have HC := Lib.hid C
      clear hW T3 X3 Y3 S3 C V3
      refine ⟨HS3.out, pre_consL rfl ?_⟩
      go_wp2_with fail
      refine HC.out.mono ?_
      rintro e w2 ⟨a2, c2, rfl, O2, B2, U2⟩
      have T2 := Upd.ofBelow (F := fun _ => False) U2
      have V2 : Upd W w2 (fun _ => False) := H3.out.2.trans T2 (fun _ _ h => h)
      have X2 := V2.blk H1.out.2.1 (fun h => h)
      have S2 := And.intro (X2.cell 0) (And.intro (X2.cell 1) (And.intro (X2.cell 2) (X2.cell 3)))
      have H2 := Lib.hid (And.intro O2 (And.intro B2 (And.intro V2 (And.intro T2 S2))))
      clear O2 B2 U2 V2 X2 T2 S2
      go_wp2_with fail
      refine ⟨H2.out.2.2.2.2, pre_consL rfl ?_⟩
      go_wp2_with fail
      obtain ⟨O2, B2, V2, T2, _⟩ := H2.out
      refine ⟨H2.out.2.2.2.2, a2, R, c2, rfl, Lib.hid ⟨O2, fun g hg => ⟨?_, ?_⟩, T2.blk H3.out.1 (fun h => h), ?_, V2⟩⟩
      · have := (B2 g hg).1; have := H3.out.2.size; have := H1.out.2.2.2; omega
      · exact (B2 g hg).2
      · have := H0.out.size; have := H1.out.2.2.2; have := HR.out; omega
  · intro a1 R c1 w5 hS5 hK
    have z0 := hK.out.2.2.1.cell 0
    have z1 := hK.out.2.2.1.cell 1
    have z2 := hK.out.2.2.1.cell 2
    have z3 := hK.out.2.2.1.cell 3
    have z4 := hK.out.2.2.1.cell 4
    have e0 := hK.out.2.2.1.free 0
    have e1 := hK.out.2.2.1.free 1
    have e2 := hK.out.2.2.1.free 2
    have e3 := hK.out.2.2.1.free 3
    have e4 := hK.out.2.2.1.free 4
    simp only [List.getElem?_cons_zero, List.getElem?_cons_succ] at z0 z1 z2 z3 z4
    clear hS5
    refine tail_consL rfl ?_
    go_wp2_with fail
    generalize hW : World.setCell _ _ _ = W6
    have R6 : Blk W6 R [.int .i64 k, .string nm, .slice a1 al.length c1, .string tx, .slice none 0 0] 25 := by rw [← hW]; exact ((((hK.out.2.2.1.set 0 _).set 1 _).set 2 _).set 3 _).set 4 _
    have U56 : Upd w5 W6 (· = R) := by rw [← hW]; exact (((((Upd.refl w5 (· = R)).set ⟨R, 0, none⟩ _ (fun _ => rfl)).set ⟨R, 1, none⟩ _ (fun _ => rfl)).set ⟨R, 2, none⟩ _ (fun _ => rfl)).set ⟨R, 3, none⟩ _ (fun _ => rfl)).set ⟨R, 4, none⟩ _ (fun _ => rfl)
    have hNR : N + 2 ≤ R := hK.out.2.2.2.1
    have V6 : Upd W W6 (fun _ => False) := hK.out.2.2.2.2.trans U56 (fun i hi e => by have := H1.out.2.2.2; omega)
    have X6 := V6.blk H1.out.2.1 (fun h => h)
    have Z6 := V6.blk H1.out.2.2.1 (fun h => h)
    have hvR : ∀ g, (Value.slice a1 al.length c1).ownBlock = some g → g ≠ R := fun g hg e => by
      obtain ⟨_, hv⟩ := own_ty hK.out.1 hg
      exact hK.out.2.2.1.ty (e ▸ hv) (by decide) rfl
    have A6 : W6.ownsRow 0 146 2 (.slice a1 al.length c1) al.length (atc al) := own_keep hK.out.1 U56 (fun g hg e => hvR g hg e)
    obtain ⟨G, hG⟩ : ∃ G, G = W6.heap.size := ⟨_, rfl⟩
    have s56 : w5.heap.size ≤ G := by rw [hG]; exact U56.size
    have hRG : R < G := by rw [hG]; exact R6.lt
    have H6 := Lib.hid (And.intro R6 (And.intro (H1.out.1.trans V6 (fun _ _ h => h)) (And.intro X6 (And.intro Z6 (And.intro A6 (And.intro (show ∀ g, (Value.slice a1 al.length c1).ownBlock = some g → N + 2 ≤ g ∧ g < G from fun g hg => ⟨(hK.out.2.1 g hg).1, by have := (hK.out.2.1 g hg).2; omega⟩) (And.intro hNR (And.intro hRG hG))))))))
    have S6 := And.intro (X6.cell 0) (And.intro (X6.cell 1) (And.intro (X6.cell 2) (X6.cell 3)))
    have x4 := X6.cell 4
    simp only [List.getElem?_cons_zero, List.getElem?_cons_succ] at x4
    clear hW R6 U56 V6 X6 Z6 A6 hG s56 hRG z0 z1 z2 z3 z4 e0 e1 e2 e3 e4 hK hvR hNR
    refine ⟨S6, tail_zero ?_⟩
    clear S6
    go_wp2
    go_loopg [19] ks.length (fun kq v4 w' => ∃ (i : Nat) (l3 : Option Addr) (c3 : Nat), v4 = .int .i64 i ∧ Hid (kq = ks.length - i ∧ i ≤ ks.length) ∧ Hid (∃ ys, CopySt G w' ks i (.slice l3 i c3) ys) ∧ Hid (Upd W6 w' (fun g => G ≤ g ∨ g = R)) ∧ Hid (Blk w' R [.int .i64 k, .string nm, .slice a1 al.length c1, .string tx, .slice l3 i c3] 25))
    case atStart =>
      refine ⟨0, none, 0, rfl, Lib.hid ⟨rfl, Nat.zero_le _⟩, Lib.hid ⟨[], own_none, (fun g h => by cases h), ?_⟩, Lib.hid (Upd.refl _ _), Lib.hid H6.out.1⟩
      rw [List.take_zero, OForest]
      exact ⟨rfl, by have := H6.out.2.2.2.2.2.2.2.2; omega⟩
    case round =>
      obtain ⟨i, l3, c3, rfl, HI, HC, HB, HR⟩ := hrel
      have hi0 : (0 : Int) ≤ (i : Int) := by omega
      by_cases hi : i < ks.length
      · have hi1 : (i : Int) < (ks.length : Int) := by omega
        have hi2 : decide (i < ks.length) = true := decide_eq_true hi
        obtain ⟨x, hx⟩ : ∃ x, ks[i]? = some x := ⟨ks[i], List.getElem?_eq_getElem hi⟩
        have Uw : Upd w wr (fun _ => False) := H6.out.2.1.trans HB.out (fun g h e => by have := HN.out; have := H6.out.2.2.2.2.2.2; have := H6.out.2.1.size; omega)
        have hFr : ForestAt wr P ks xs := HH.out.2.2.1.keep Uw (fun _ _ h => h)
        have hRr := HH.out.2.1.keep Uw (fun _ _ h => h)
        obtain ⟨g, off, xk, xn, xa, xla, xca, xt, xkk, xlk, xkc, rfl, hck, y0, y1, y2, y3, y4, hxA⟩ := hFr.kid hRr.1 hx
        have IH := HH.out.2.2.2.1 x (List.mem_of_getElem? hx)
        have fx := HH.out.2.2.2.2.1.kid x (List.mem_of_getElem? hx)
        have HX := Lib.hid (And.intro hx hi)
        have HXA := Lib.hid (And.intro hxA (And.intro IH fx))
        clear hxA hRr hFr hx hi Uw IH fx
        obtain ⟨K, hK⟩ : ∃ K, K = wr.heap.size := ⟨_, rfl⟩
        have HK := Lib.hid hK
        clear hK
        go_wp2
        rw [← HK.out]
        generalize hW : World.alloc _ _ = W1
        have B1 : Below wr.heap.size wr W1 := by rw [← hW]; exact below_al (Below.refl _ _) (Nat.le_refl _) _
        have K1 : Blk W1 K [.int .i64 xk, .string xn, .slice xa xla xca, .string xt, .slice xkk xlk xkc] 25 := by rw [← hW]; exact Blk.new' HK.out
        have U1 := Upd.ofBelow (F := fun _ => False) B1
        have R1 := U1.blk HR.out (fun h => h)
        have HR1 := Lib.hid (And.intro R1 (And.intro K1 B1))
        have r4 := R1.cell 4
        have k0 := K1.cell 0
        have k1 := K1.cell 1
        have k2 := K1.cell 2
        have k3 := K1.cell 3
        have k4 := K1.cell 4
        simp only [List.getElem?_cons_zero, List.getElem?_cons_succ] at r4 k0 k1 k2 k3 k4
        clear hW B1 K1 U1 R1 y0 y1 y2 y3 y4
        apply wp_reg (fun w' : World => w'.cell? ⟨R, 4, none⟩ = some (.slice l3 i c3) ∧ w'.cell? ⟨K, 0, none⟩ = some (.int .i64 xk) ∧ w'.cell? ⟨K, 1, none⟩ = some (.string xn) ∧ w'.cell? ⟨K, 2, none⟩ = some (.slice xa xla xca) ∧ w'.cell? ⟨K, 3, none⟩ = some (.string xt) ∧ w'.cell? ⟨K, 4, none⟩ = some (.slice xkk xlk xkc)) [0, 1, 2] [3, 4, 5] [6, 7] (by kernel_rfl) (by kernel_rfl) (fun _ _ d _ _ h => by cases d <;> exact h) ⟨r4, k0, k1, k2, k3, k4⟩
        · iterate 3 (apply reads_consL rfl rfl; (· intro w0 hS; obtain ⟨hS1, hS2, hS3, hS4, hS5, hS6⟩ := hS; go_simp; try rfl); simp only [Act.put, List.setIfInBounds_toArray, List.set_cons_zero, List.set_cons_succ])
          exact rfl
        have V1 : Upd wr W1.drew (fun _ => False) := (Upd.ofBelow (F := fun _ => False) HR1.out.2.2).drew
        have K1 : Blk W1.drew K [.int .i64 xk, .string xn, .slice xa xla xca, .string xt, .slice xkk xlk xkc] 25 := HR1.out.2.1
        generalize W1.drew = w1 at V1 K1 ⊢
        have C := HXA.out.2.1 _ w1 (HXA.out.1.keep V1 (fun _ _ h => h)) HXA.out.2.2
        have HC1 := Lib.hid (And.intro C (And.intro V1 K1))
        clear C V1 K1
        refine tail_consL rfl ?_
        go_wp2_with fail
        refine HC1.out.1.mono ?_
        rintro e w6 ⟨cs', rfl, hO, hB6⟩
        obtain ⟨ya, yn, yaa, yla, yca, yt, ykk, ylk, ykc, rfl⟩ : ∃ a n b c d t e f g, cs' = [.int .i64 a, .string n, .slice b c d, .string t, .slice e f g] := by
          cases x
          obtain ⟨_, _, _, _, _, rfl, _⟩ := hO.parts
          exact ⟨_, _, _, _, _, _, _, _, _, rfl⟩
        have V6 : Upd wr w6 (fun _ => False) := HC1.out.2.1.trans (Upd.ofBelow (F := fun _ => False) hB6) (fun _ _ h => h)
        have hO6 : OTree w6 x wr.heap.size w6.heap.size [.int .i64 ya, .string yn, .slice yaa yla yca, .string yt, .slice ykk ylk ykc] := hO.wide HC1.out.2.1.size (Nat.le_refl _)
        have R6 := V6.blk HR.out (fun h => h)
        have K6 := (Upd.ofBelow (F := fun _ => False) hB6).blk HC1.out.2.2 (fun h => h)
        have S6 : w6.cell? ⟨R, 4, none⟩ = some (.slice l3 i c3) ∧ w6.cell? ⟨K, 0, none⟩ = some (.int .i64 xk) ∧ w6.cell? ⟨K, 1, none⟩ = some (.string xn) ∧ w6.cell? ⟨K, 2, none⟩ = some (.slice xa xla xca) ∧ w6.cell? ⟨K, 3, none⟩ = some (.string xt) ∧ w6.cell? ⟨K, 4, none⟩ = some (.slice xkk xlk xkc) := ⟨R6.cell 4, K6.cell 0, K6.cell 1, K6.cell 2, K6.cell 3, K6.cell 4⟩
        have H7 := Lib.hid (And.intro V6 (And.intro hO6 (And.intro R6 (And.intro K6 S6))))
        clear V6 hO6 R6 K6 S6 hO hB6
        go_wp2_with fail
        refine ⟨H7.out.2.2.2.2, tail_consL rfl ?_⟩
        obtain ⟨q, hq⟩ : ∃ q, q = w6.heap.size := ⟨_, rfl⟩
        have HQ := Lib.hid hq
        clear hq
        go_wp2_with fail
        rw [← HQ.out]
        generalize hW : World.alloc _ _ = W7
        have B7 : Below w6.heap.size w6 W7 := by rw [← hW]; exact below_al (Below.refl _ _) (Nat.le_refl _) _
        have X7 : Blk W7 q [.int .i64 ya, .string yn, .slice yaa yla yca, .string yt, .slice ykk ylk ykc] 25 := by rw [← hW]; exact Blk.new' HQ.out
        have U7 := Upd.ofBelow (F := fun _ => False) B7
        have R7 := U7.blk H7.out.2.2.1 (fun h => h)
        have K7 := U7.blk H7.out.2.2.2.1 (fun h => h)
        have S7 : W7.cell? ⟨R, 4, none⟩ = some (.slice l3 i c3) ∧ W7.cell? ⟨K, 0, none⟩ = some (.int .i64 xk) ∧ W7.cell? ⟨K, 1, none⟩ = some (.string xn) ∧ W7.cell? ⟨K, 2, none⟩ = some (.slice xa xla xca) ∧ W7.cell? ⟨K, 3, none⟩ = some (.string xt) ∧ W7.cell? ⟨K, 4, none⟩ = some (.slice xkk xlk xkc) := ⟨R7.cell 4, K7.cell 0, K7.cell 1, K7.cell 2, K7.cell 3, K7.cell 4⟩
        have H8 := Lib.hid (And.intro B7 (And.intro X7 (And.intro R7 (And.intro K7 S7))))
        clear hW B7 X7 U7 R7 K7 S7
        refine ⟨H8.out.2.2.2.2, tail_consL rfl ?_⟩
        obtain ⟨ys, hC⟩ := HC.out
        have hCr := hC.keep (H7.out.1.below (Nat.le_refl _) (fun _ _ h => h))
        have C7 := hCr.keep H8.out.1
        refine wpl_app rfl rfl elemTree Tryd.underlying23 rfl C7.own rfl (Rd.ofBlk H8.out.2.1 1 5 rfl) (by simp [Value.oneCell']) (by have := HH.out; have := HX.out; omega) ?_
        intro v8 w8 hA
        obtain ⟨l8, c8, rfl, _⟩ := (Rd.ofOwn hA.1).form
        have hn0 : G ≤ wr.heap.size := by
          have h1 := HB.out.size
          have h2 := H6.out.2.2.2.2.2.2.2.2
          omega
        have C8 := hC.step HX.out.1 hn0 (H7.out.1.below (Nat.le_refl _) (fun _ _ h => h)) H7.out.2.1 H8.out.1 hA
        have hlR : ∀ g, (Value.slice l3 i c3).ownBlock = some g → G ≤ g := hC.low
        have hRG := H6.out.2.2.2.2.2.2.2.1
        have hKG : K = wr.heap.size := HK.out
        have R8 := hA.2.1.blk H8.out.2.2.1 (fun h => by have := hlR _ h; omega)
        have K8 := hA.2.1.blk H8.out.2.2.2.1 (fun h => by have := own_lt hC.own h; omega)
        have S8 : w8.cell? ⟨R, 4, none⟩ = some (.slice l3 i c3) ∧ w8.cell? ⟨K, 0, none⟩ = some (.int .i64 xk) ∧ w8.cell? ⟨K, 1, none⟩ = some (.string xn) ∧ w8.cell? ⟨K, 2, none⟩ = some (.slice xa xla xca) ∧ w8.cell? ⟨K, 3, none⟩ = some (.string xt) ∧ w8.cell? ⟨K, 4, none⟩ = some (.slice xkk xlk xkc) := ⟨R8.cell 4, K8.cell 0, K8.cell 1, K8.cell 2, K8.cell 3, K8.cell 4⟩
        have B8 : Upd W6 w8 (fun g => G ≤ g ∨ g = R) := HB.out.trans ((H7.out.1.mono (G := fun g => G ≤ g ∨ g = R) (fun _ _ h => h.elim)).trans ((Upd.ofBelow (F := fun g => G ≤ g) H8.out.1).trans hA.2.1 (fun g _ e => hC.low g e)) (fun _ _ h => Or.inl h)) (fun _ _ h => h)
        have H9 := Lib.hid (And.intro C8 (And.intro B8 R8))
        have r4 := R8.cell 4
        have e4 := R8.free 4
        clear hCr C7 C8 B8 hA hC hn0 hlR hRG hKG R8 K8
        go_wp2_with fail
        refine ⟨S8, tail_twoL rfl rfl ?_⟩
        clear S8
        go_wp2
        go_roundg (ks.length - (i + 1))
        case measure => have := HI.out; have := HX.out; omega
        case rel =>
          have hRG := H6.out.2.2.2.2.2.2.2.1
          have U9 := (Upd.refl w8 (· = R)).set ⟨R, 4, none⟩ (.slice l8 (i + 1) c8) (fun _ => rfl)
          refine ⟨i + 1, l8, c8, v64s HX.out.2 (by have := HH.out; omega), Lib.hid ⟨rfl, HX.out.2⟩, Lib.hid ⟨_, own_keep H9.out.1.own U9 (fun g hg e => by have := H9.out.1.low g hg; omega), H9.out.1.low, (H9.out.1.forest.keep U9 (fun g hg e => by have := hg.1; omega)).mono U9.size⟩, Lib.hid (H9.out.2.1.trans U9 (fun _ _ h => Or.inr h)), Lib.hid (H9.out.2.2.set 4 _)⟩
      · have hi1 : ¬ (i : Int) < (ks.length : Int) := by omega
        have hi2 : decide (i < ks.length) = false := decide_eq_false hi
        have ei : i = ks.length := by have := HI.out; omega
        have HE := Lib.hid ei
        have hZ := HB.out.blk H6.out.2.2.2.1 (fun h => by have := H6.out.2.2.2.2.2.2; omega)
        have r0 := HR.out.cell 0
        have r1 := HR.out.cell 1
        have r2 := HR.out.cell 2
        have r3 := HR.out.cell 3
        have r4 := HR.out.cell 4
        have e0 := hZ.free 0
        have e1 := hZ.free 1
        have e2 := hZ.free 2
        have e3 := hZ.free 3
        have e4 := hZ.free 4
        have z0 := hZ.cell 0
        have z1 := hZ.cell 1
        have z2 := hZ.cell 2
        have z3 := hZ.cell 3
        have z4 := hZ.cell 4
        simp only [List.getElem?_cons_zero, List.getElem?_cons_succ] at r0 r1 r2 r3 r4 z0 z1 z2 z3 z4
        have HZ := Lib.hid hZ
        clear hi ei hZ
        go_wp2
        generalize hW : World.setCell (World.setCell (World.setCell (World.setCell (World.setCell _ _ _) _ _) _ _) _ _) _ _ = W9
        have ei := HE.out
        subst ei
        have R9 : Blk W9 (N + 1) [.int .i64 k, .string nm, .slice a1 al.length c1, .string tx, .slice l3 ks.length c3] 25 := by
          rw [← hW]
          exact ((((HZ.out.set 0 _).set 1 _).set 2 _).set 3 _).set 4 _
        have U9 : Upd wr W9 (fun g => g = N + 1) := by
          rw [← hW]
          exact ((((((Upd.refl wr (fun g => g = N + 1)).set ⟨N + 1, 0, none⟩ _ (fun _ => rfl)).set ⟨N + 1, 1, none⟩ _ (fun _ => rfl)).set ⟨N + 1, 2, none⟩ _ (fun _ => rfl)).set ⟨N + 1, 3, none⟩ _ (fun _ => rfl)).set ⟨N + 1, 4, none⟩ _ (fun _ => rfl))
        refine bodyPost_ret (results_cell_row rfl _ _ (N + 1) 25 _ (0, 0) _ rfl R9 Tryd.underlying25 rfl (by kernel_rfl)) rfl ?_
        obtain ⟨_, hU6, _, _, hA6, hv, hNR, hRG, hG6⟩ := H6.out
        obtain ⟨ys, hC⟩ := HC.out
        have hF := hC.forest
        rw [List.take_length] at hF
        have hNw := HN.out
        have hUw : Upd w W9 (fun _ => False) := (hU6.trans HB.out (fun g h e => by have := hU6.size; omega)).trans U9 (fun g h e => by omega)
        have s9 := U9.size
        refine ⟨_, rfl, ?_, hUw.below (Nat.le_refl _) (fun _ _ h => h)⟩
        rw [OTree]
        have hA9 : W9.ownsRow 0 146 2 (.slice a1 al.length c1) al.length (atc al) := own_keep (own_keep hA6 HB.out (fun g hg e => by
          rcases e with e | e
          · have := hv g hg; omega
          · obtain ⟨_, hq⟩ := own_ty hA6 hg
            exact H6.out.1.ty (e ▸ hq) (by decide) rfl)) U9 (fun g hg e => by have := hv g hg; omega)
        have hK9 : W9.ownsRow 0 25 5 (.slice l3 ks.length c3) ks.length ys := own_keep hC.own U9 (fun g hg e => by have := hC.low g hg; omega)
        have hF9 := hF.keep U9 (fun g hg e => by have := hg.1; omega)
        refine ⟨_, _, _, _, ys, rfl, ⟨hA9, fun g hg => ⟨by have := hv g hg; omega, own_lt hA9 hg⟩⟩, ⟨hK9, fun g hg => ⟨by have := hC.low g hg; omega, own_lt hK9 hg⟩⟩, ?_⟩
        exact (hF9.low (by omega)).mono s9

end Go.Proofs.YtemmkobgpciflaaDoor
