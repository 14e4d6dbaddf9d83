/- A tree copied into memory of its own: Copied, walked. -/
import Derived.Test.YtemmkobgpciflaaDoorOTree
namespace Go.Proofs.YtemmkobgpciflaaDoor
open Go.RowKit

theorem OForest.keepB {w w' : World} {F : Nat → Prop} (hU : Upd w w' F) : ∀ {b : Option Nat} {ks : List T} {lo hi : Nat} {xs : List Value}, (∀ g, F g → b = some g) → OForest w b ks lo hi xs → OForest w' b ks lo hi xs
  | _, [], _, _, _, _, h => by rw [OForest] at h ⊢; exact h
  | _, t :: l, lo, hi, xs, hF, h => by
    rw [OForest] at h ⊢
    obtain ⟨c, d, m1, m2, e, h1, h2, h3, h4, h5, h6⟩ := h
    exact ⟨c, d, m1, m2, e, h1, h2, h3, OTree.keep hU t m1 m2 c (fun g hg hf => h5 g (hF g hf) hg) h4, h5, h6.keepB hU hF⟩

/-- What has been copied of a list so far. -/
structure CopySt (G : Nat) (w : World) (ks : List T) (i : Nat) (v : Value) (xs : List Value) : Prop where
  own : w.ownsRow 0 25 5 v i xs
  low : ∀ g, v.ownBlock = some g → G ≤ g
  forest : OForest w v.ownBlock (ks.take i) G w.heap.size xs

theorem CopySt.keep {G : Nat} {w w' : World} {ks : List T} {i : Nat} {v : Value} {xs : List Value} (h : CopySt G w ks i v xs) (hB : Below w.heap.size w w') : CopySt G w' ks i v xs := by
  have U : Upd w w' (fun _ => False) := Upd.ofBelow hB
  exact ⟨own_keep h.own U (fun _ _ h => h), h.low, (h.forest.keep U (fun _ _ h => h)).mono hB.size⟩
theorem CopySt.step {G : Nat} {wr w2 w3 w4 : World} {ks : List T} {i : Nat} {v v' : Value} {xs c : List Value} {x : T} (h : CopySt G wr ks i v xs) (hx : ks[i]? = some x) (h0 : G ≤ wr.heap.size) (hB : Below wr.heap.size wr w2) (hO : OTree w2 x wr.heap.size w2.heap.size c)
    (h3 : Below w2.heap.size w2 w3) (hA : AppPost w3 25 5 v i xs 1 c v' w4) : CopySt G w4 ks (i + 1) v' (xs ++ c) := by
  obtain ⟨o1, u1, b1⟩ := hA
  have hlt : ∀ g, v.ownBlock = some g → g < wr.heap.size := fun g hg => own_lt h.own hg
  have s1 := hB.size
  have s2 := h3.size
  have s3 := u1.size
  refine ⟨o1, fun g hg => ?_, ?_⟩
  · rcases b1 with e | e
    · exact h.low g (e ▸ hg)
    · have := ob_some (e.symm.trans hg)
      omega
  · rw [take_snoc hx]
    have f2 : OForest w4 v.ownBlock (ks.take i) G wr.heap.size xs :=
      ((h.forest.keep (Upd.ofBelow (F := fun _ => False) hB) (fun _ _ h => h)).keep (Upd.ofBelow (F := fun _ => False) h3) (fun _ _ h => h)).keepB u1 (fun g hg => hg)
    have o2 : OTree w4 x wr.heap.size w2.heap.size c := OTree.keep u1 x _ _ c (fun g hg e => by have := hlt g e; have := hg.1; omega) (OTree.keep (Upd.ofBelow (F := fun _ => False) h3) x _ _ c (fun _ _ h => h) hO)
    refine ((f2.block (b' := v'.ownBlock) fun g hg => ?_).snoc (Nat.le_refl _) s1 o2 fun g hg hb => ?_).mono (by omega)
    · rcases b1 with e | e
      · exact Or.inl (e ▸ hg)
      · right
        have := ob_some (e.symm.trans hg)
        omega
    · rcases b1 with e | e
      · have := hlt g (e ▸ hg)
        have := hb.1
        omega
      · have := ob_some (e.symm.trans hg)
        have := hb.2
        omega
where
  take_snoc {ks : List T} {i : Nat} {x : T} (h : ks[i]? = some x) : ks.take (i + 1) = ks.take i ++ [x] := by rw [List.take_add_one, h]; rfl

theorem X5lt {W : World} {N : Nat} {vs : List Value} {t : TypeId} (h : Blk W (N + 1) vs t) : N + 2 ≤ W.heap.size := by have := h.lt; omega

def CopyPost (w : World) (t : T) (e : Ending) (w' : World) : Prop := ∃ cs, e = .returned (.agg cs.toArray) ∧ OTree w' t w.heap.size w'.heap.size cs ∧ Below w.heap.size w w'

set_option maxRecDepth 100000 in
set_option maxHeartbeats 4000000 in
theorem copied_any (P : Nat → Prop) : ∀ t, ∀ (cs : List Value) (w : World), TreeAt w P t cs → Fits t → Calls Tryd.prog 12 #[.agg cs.toArray] w (CopyPost w t) := by
  refine T.ind ?_
  intro k nm al tx ks ih cs w hA hF
  obtain ⟨aa, ca, ak, ck, xs, rfl, hAl, hKs, hFo⟩ := hA.parts
  have hS := hF.small
  unfold Small at hS
  obtain ⟨_, _, _, hS1, hS2⟩ := hS
  have HH := Lib.hid (And.intro hAl (And.intro hKs (And.intro hFo (And.intro ih (And.intro hF (And.intro hS1 hS2))))))
  clear hA hF hAl hKs hFo ih hS1 hS2
  go_enter Tryd.func12, Tryd.ntmps12
  go_wp2_with (at_builtin; refine halt_mk ?_)
  refine halt_go ?_
  obtain ⟨N, hN⟩ : ∃ N, N = w.heap.size := ⟨_, rfl⟩
  rw [← hN]
  generalize hW : World.alloc (World.alloc (World.alloc _ _) _) _ = W
  have T1 : Upd w W (fun _ => False) := by rw [← hW]; exact (((Upd.refl w _).alloc _).alloc _).alloc _
  have X1 : Blk W N [.int .i64 k, .string nm, .slice aa al.length ca, .string tx, .slice ak ks.length ck] 25 := by
    rw [← hW, hN]
    exact ((Blk.new w _ _).alloc _).alloc _
  have R1 : Blk W (N + 1) [.int .i64 0, .string ⟨#[]⟩, .slice none 0 0, .string ⟨#[]⟩, .slice none 0 0] 25 := by
    rw [← hW]
    exact (Blk.new' (by simp [hN])).alloc _
  have S1 : W.heap.size = N + 3 := by rw [← hW]; simp [hN]
  have O1 : W.ownsRow 0 146 2 (.slice (some ⟨N + 1 + 1, 0, none⟩) 0 0) 0 [] := by rw [← hW]; exact own_lit_sz (by simp [hN])
  clear hW
  refine wpl_app rfl rfl elemAttr Tryd.underlying22 rfl O1 rfl (HH.out.1.1.keep T1 (fun _ _ h => h)) (atc_one al) (by have := HH.out; omega) ?_
  rintro v1 w4 ⟨O2, U2, b2⟩
  rw [Nat.zero_add, List.nil_append] at O2
  have hne : ∀ i, (Value.slice (some ⟨N + 1 + 1, 0, none⟩) 0 0).ownBlock = some i → i = N + 2 := fun i e => by have := ob_eq e; omega
  have X2 := U2.blk X1 (fun e => by have := hne _ e; omega)
  have R2 := U2.blk R1 (fun e => by have := hne _ e; omega)
  have T2 : Upd w w4 (fun _ => False) := T1.trans U2 (fun i hi e => by have := hne _ e; omega)
  have hv1 : ∀ g, v1.ownBlock = some g → N + 2 ≤ g := fun g hg => by
    rcases b2 with e | e
    · have := hne g (e ▸ hg); omega
    · have := ob_some (e.symm.trans hg); omega
  have S2 : N + 3 ≤ w4.heap.size := by have := U2.size; omega
  obtain ⟨a1, c1, rfl, _⟩ := (Rd.ofOwn O2).form
  have x2 := X2.cell 2
  have f2 := X2.free 2
  have x4 := X2.cell 4
  simp only [List.getElem?_cons_zero, List.getElem?_cons_succ] at x2 x4
  have hN4 : N ≠ w4.heap.size := by omega
  have H4 := Lib.hid (And.intro O2 (And.intro X2 (And.intro R2 (And.intro T2 (And.intro hv1 S2)))))
  have HN := Lib.hid hN
  clear O1 O2 U2 b2 hne X1 X2 R1 R2 T1 T2 hv1 S1 S2 hN
  go_wp2
  obtain ⟨G, hG⟩ : ∃ G, G = w4.heap.size := ⟨_, rfl⟩
  rw [← hG]
  generalize hW : World.alloc (World.setCell _ _ _) _ = W5
  have U5 : Upd w4 W5 (· = N) := by rw [← hW]; exact ((Upd.refl w4 (· = N)).set _ _ (fun _ => rfl)).alloc _
  have hS5 : W5.heap.size = G + 1 := by rw [← hW, hG]; simp
  have X5 : Blk W5 N [.int .i64 k, .string nm, .slice a1 al.length c1, .string tx, .slice ak ks.length ck] 25 := by
    rw [← hW]
    exact (H4.out.2.1.set 2 _).alloc _
  have R5 : Blk W5 (N + 1) [.int .i64 0, .string ⟨#[]⟩, .slice none 0 0, .string ⟨#[]⟩, .slice none 0 0] 25 := U5.blk H4.out.2.2.1 (fun e => by omega)
  have A5 : W5.ownsRow 0 146 2 (.slice a1 al.length c1) al.length (atc al) := own_keep H4.out.1 U5 (fun g hg e => by have := H4.out.2.2.2.2.1 g hg; omega)
  have C5 : CopySt G W5 ks 0 (.slice (some ⟨G, 0, none⟩) 0 0) [] := by
    refine ⟨?_, fun g hg => ?_, ?_⟩
    · rw [← hW]
      exact own_lit_sz (by rw [hG]; simp)
    · have := ob_eq hg
      omega
    · rw [List.take_zero, OForest]
      exact ⟨rfl, by have := H4.out.2.2.2.2.2; omega⟩
  have B5 : Below w.heap.size w W5 := (H4.out.2.2.2.1.trans U5 (fun i hi e => by have := HN.out; omega) : Upd w W5 (fun _ => False)).below (Nat.le_refl _) (fun _ _ h => h)
  have hNG : N + 3 ≤ G := by have := H4.out.2.2.2.2.2; omega
  have H5 := Lib.hid (And.intro X5 (And.intro R5 (And.intro A5 (And.intro B5 (And.intro (show ∀ g, (Value.slice a1 al.length c1).ownBlock = some g → N + 2 ≤ g ∧ g < G from fun g hg => ⟨H4.out.2.2.2.2.1 g hg, by rw [hG]; exact own_lt H4.out.1 hg⟩) (And.intro C5 (And.intro hNG (show G < W5.heap.size by omega))))))))
  clear hNG hW hG U5 hS5 X5 R5 A5 C5 B5 x2 f2 x4 hN4
  go_loopg [3, 4] ks.length (fun kq v3 v4 w' => ∃ (i : Nat) (l3 : Option Addr) (c3 : Nat), v3 = .slice l3 i c3 ∧ v4 = .int .i64 i ∧ Hid (kq = ks.length - i ∧ i ≤ ks.length) ∧ Hid (∃ ys, CopySt G w' ks i (.slice l3 i c3) ys) ∧ Hid (Upd W5 w' (fun g => G ≤ g)))
  case atStart => exact ⟨0, _, _, rfl, rfl, Lib.hid ⟨rfl, Nat.zero_le _⟩, Lib.hid ⟨_, H5.out.2.2.2.2.2.1⟩, Lib.hid (Upd.refl _ _)⟩
  case round =>
    obtain ⟨i, l3, c3, rfl, rfl, HI, HC, HB⟩ := hrel
    have hi0 : (0 : Int) ≤ (i : Int) := by omega
    have hNG := H5.out.2.2.2.2.2.2
    have X6 := HB.out.blk H5.out.1 (fun h => by omega)
    have x0 := X6.cell 0
    have x1 := X6.cell 1
    have x2 := X6.cell 2
    have x3 := X6.cell 3
    have x4 := X6.cell 4
    have f4 := X6.free 4
    simp only [List.getElem?_cons_zero, List.getElem?_cons_succ] at x0 x1 x2 x3 x4
    clear X6 hNG
    by_cases hi : i < ks.length
    · have hi1 : (i : Int) < (ks.length : Int) := by omega
      have hi2 : decide (i < ks.length) = true := decide_eq_true hi
      obtain ⟨x, hx⟩ : ∃ x, ks[i]? = some x := ⟨ks[i], List.getElem?_eq_getElem hi⟩
      have Uw : Upd w wr (fun _ => False) := (Upd.ofBelow (H5.out.2.2.2.1)).trans HB.out (fun g h e => by have := HN.out; have := H5.out.2.2.2.2.2.2; omega)
      have hFr : ForestAt wr P ks xs := HH.out.2.2.1.keep Uw (fun _ _ h => h)
      have hRr := HH.out.2.1.keep Uw (fun _ _ h => h)
      obtain ⟨g, off, xk, xn, xa, xla, xca, xt, xkk, xlk, xkc, rfl, hck, y0, y1, y2, y3, y4, hxA⟩ := hFr.kid hRr.1 hx
      have IH := HH.out.2.2.2.1 x (List.mem_of_getElem? hx) _ wr hxA (HH.out.2.2.2.2.1.kid x (List.mem_of_getElem? hx))
      have HX := Lib.hid (And.intro hx hi)
      clear hxA hRr hFr hx hi Uw f4 x0 x1 x2 x3
      go_wp2_with fail
      refine IH.mono ?_
      rintro e w6 ⟨cs', rfl, hO, hB6⟩
      obtain ⟨ya, yn, yaa, yla, yca, yt, ykk, ylk, ykc, rfl⟩ : ∃ a n b c d t e f g, cs' = [.int .i64 a, .string n, .slice b c d, .string t, .slice e f g] := by
        cases x
        obtain ⟨_, _, _, _, _, rfl, _⟩ := hO.parts
        exact ⟨_, _, _, _, _, _, _, _, _, rfl⟩
      have H6 := Lib.hid (And.intro hO hB6)
      clear hO hB6 IH y0 y1 y2 y3 y4 x4
      go_wp2_with (at_builtin; refine halt_mk ?_)
      refine halt_go ?_
      generalize hW : World.alloc _ _ = W7
      have B7 : Below w6.heap.size w6 W7 := by rw [← hW]; exact below_al (Below.refl _ _) (Nat.le_refl _) _
      have X7 : Blk W7 w6.heap.size [.int .i64 ya, .string yn, .slice yaa yla yca, .string yt, .slice ykk ylk ykc] 25 := by rw [← hW]; exact Blk.new w6 _ _
      clear hW
      obtain ⟨ys, hC⟩ := HC.out
      have C6 := hC.keep H6.out.2
      have C7 := C6.keep B7
      refine wpl_app rfl rfl elemTree Tryd.underlying23 rfl C7.own rfl (Rd.ofBlk X7 1 5 rfl) (by simp [Value.oneCell']) (by have := HH.out; have := HX.out; omega) ?_
      intro v8 w8 hA
      obtain ⟨l8, c8, rfl, _⟩ := (Rd.ofOwn hA.1).form
      have hn0 : G ≤ wr.heap.size := by
        have h1 := HB.out.size
        have h2 := H5.out.2.2.2.2.2.2.2
        omega
      have C8 := hC.step HX.out.1 hn0 H6.out.2 H6.out.1 B7 hA
      have B8 : Upd W5 w8 (fun g => G ≤ g) := HB.out.trans (((Upd.ofBelow H6.out.2).trans ((Upd.ofBelow (F := fun g => G ≤ g) B7).trans hA.2.1 (fun g _ e => hC.low g e)) (fun _ _ h => h))) (fun _ _ h => h)
      have H8 := Lib.hid (And.intro C8 B8)
      clear C6 C7 C8 B8 B7 X7 hA hC hn0
      go_wp2
      go_roundg (ks.length - (i + 1))
      case measure => have := HI.out; have := HX.out; omega
      case rel => exact ⟨i + 1, _, _, rfl, v64s HX.out.2 (by have := HH.out; omega), Lib.hid ⟨rfl, HX.out.2⟩, Lib.hid ⟨_, H8.out.1⟩, Lib.hid H8.out.2⟩
    · have hi1 : ¬ (i : Int) < (ks.length : Int) := by omega
      have hi2 : decide (i < ks.length) = false := decide_eq_false hi
      have ei : i = ks.length := by have := HI.out; omega
      have hR := HB.out.blk H5.out.2.1 (fun h => by have := H5.out.2.2.2.2.2.2; omega)
      have r0 := hR.cell 0
      have r1 := hR.cell 1
      have r2 := hR.cell 2
      have r3 := hR.cell 3
      have r4 := hR.cell 4
      have e0 := hR.free 0
      have e1 := hR.free 1
      have e2 := hR.free 2
      have e3 := hR.free 3
      have e4 := hR.free 4
      simp only [List.getElem?_cons_zero, List.getElem?_cons_succ] at r0 r1 r2 r3 r4
      clear hi hR
      go_wp2
      generalize hW : World.setCell (World.setCell (World.setCell (World.setCell (World.setCell (World.setCell _ _ _) _ _) _ _) _ _) _ _) _ _ = W9
      have hR := HB.out.blk H5.out.2.1 (fun h => by have := H5.out.2.2.2.2.2.2; omega)
      have R9 : Blk W9 (N + 1) [.int .i64 k, .string nm, .slice a1 al.length c1, .string tx, .slice l3 ks.length c3] 25 := by
        rw [← hW]
        exact (((((hR.far ⟨N, 4, none⟩ _ (by simp)).set 0 _).set 1 _).set 2 _).set 3 _).set 4 _
      have U9 : Upd wr W9 (fun g => g = N ∨ g = N + 1) := by
        rw [← hW]
        exact (((((((Upd.refl wr (fun g => g = N ∨ g = N + 1)).set ⟨N, 4, none⟩ _ (fun _ => Or.inl rfl)).set ⟨N + 1, 0, none⟩ _ (fun _ => Or.inr rfl)).set ⟨N + 1, 1, none⟩ _ (fun _ => Or.inr rfl)).set ⟨N + 1, 2, none⟩ _ (fun _ => Or.inr rfl)).set ⟨N + 1, 3, none⟩ _ (fun _ => Or.inr rfl)).set ⟨N + 1, 4, none⟩ _ (fun _ => Or.inr rfl))
      refine bodyPost_ret (results_cell_row rfl _ _ (N + 1) 25 _ (0, 0) _ rfl R9 Tryd.underlying25 rfl (by kernel_rfl)) rfl ?_
      obtain ⟨hX5, hR5, hA5, hB5, hv, hC5, hNG, hG5⟩ := H5.out
      obtain ⟨ys, hC⟩ := HC.out
      rw [ei] at hC
      have hF := hC.forest
      rw [List.take_length] at hF
      have hUw : Upd w W9 (fun _ => False) := ((Upd.ofBelow hB5).trans HB.out (fun g h e => by have := HN.out; omega)).trans U9 (fun g h e => by have := HN.out; omega)
      have s9 := U9.size
      refine ⟨_, rfl, ?_, hUw.below (Nat.le_refl _) (fun _ _ h => h)⟩
      rw [OTree]
      have hA9 : W9.ownsRow 0 146 2 (.slice a1 al.length c1) al.length (atc al) := own_keep (own_keep hA5 HB.out (fun g hg e => by have := hv g hg; omega)) U9 (fun g hg e => by have := hv g hg; omega)
      have hK9 : W9.ownsRow 0 25 5 (.slice l3 ks.length c3) ks.length ys := own_keep hC.own U9 (fun g hg e => by have := hC.low g hg; omega)
      have hF9 := hF.keep U9 (fun g hg e => by have := hg.1; omega)
      have hNw := HN.out
      refine ⟨_, _, _, _, ys, rfl, ⟨hA9, fun g hg => ⟨by have := hv g hg; omega, own_lt hA9 hg⟩⟩, ⟨hK9, fun g hg => ⟨by have := hC.low g hg; omega, own_lt hK9 hg⟩⟩, ?_⟩
      exact (hF9.low (by omega)).mono s9

end Go.Proofs.YtemmkobgpciflaaDoor
