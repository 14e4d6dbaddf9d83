/- A forest copied into memory of its own, with room behind its lists: walked. -/
import Derived.Test.YtemmkobgpciflaaDoorCopy
import Derived.Test.YtemmkobgpciflaaDoorCan
import Derived.Test.YtemmkobgpciflaaDoorReg3
namespace Go.Proofs.YtemmkobgpciflaaDoor
open Go.RowKit
open Ch

/-- A forest that a call has made. -/
def OwnF (w : World) (ks : List T) (lo hi : Nat) (l : Option Addr) (c : Nat) : Prop := ∃ xs, (w.ownsRow 0 25 5 (.slice l ks.length c) ks.length xs ∧ InB lo hi (.slice l ks.length c)) ∧ OForest w (Value.slice l ks.length c).ownBlock ks lo hi xs
theorem OwnF.forest {w : World} {ks : List T} {lo hi : Nat} {l : Option Addr} {c : Nat} (h : OwnF w ks lo hi l c) : Forest w (Btw lo hi) ks l c := by
  obtain ⟨xs, ⟨h1, h2⟩, h3⟩ := h
  have ht : OTree w (.mk 0 ⟨#[]⟩ [] ⟨#[]⟩ ks) lo hi [.int .i64 0, .string ⟨#[]⟩, .slice none 0 0, .string ⟨#[]⟩, .slice l ks.length c] := by
    rw [OTree]
    exact ⟨none, 0, l, c, xs, rfl, ⟨own_none, fun g hg => by cases hg⟩, ⟨h1, h2⟩, h3⟩
  obtain ⟨_, _, ak, ck, e, _, hf⟩ := TreeAt.forest (OTree.at_ _ _ _ _ ht)
  simp at e
  obtain ⟨_, rfl, rfl⟩ := e
  exact hf
def CopyFPost (w : World) (ks : List T) (e : Ending) (w' : World) : Prop := ∃ l c, e = .returned (.slice l ks.length c) ∧ OwnF w' ks w.heap.size w'.heap.size l c ∧ Below w.heap.size w w'

set_option maxRecDepth 100000 in
set_option maxHeartbeats 4000000 in
theorem copyF_step (P : Nat → Prop) (ks : List T) (ih : ∀ x ∈ ks, ∀ (ak : Option Addr) (ck : Nat) (w : World), Forest w P x.kids ak ck → (∀ y ∈ x.kids, Fits y) → x.kids.length * 88 ≤ 140737488351232 → Calls Tryd.prog 15 #[.slice ak x.kids.length ck] w (CopyFPost w x.kids))
    (ak : Option Addr) (ck : Nat) (w : World) (hFo : Forest w P ks ak ck) (hF : ∀ y ∈ ks, Fits y) (hks : ks.length * 88 ≤ 140737488351232) : Calls Tryd.prog 15 #[.slice ak ks.length ck] w (CopyFPost w ks) := by
  have HH := Lib.hid (And.intro hFo (And.intro hF (And.intro hks ih)))
  have hlen : (ks.length : Int) ≤ 1599289640356 := by omega
  clear hFo hF hks ih
  obtain ⟨iT, hi, hz, hsz, hby⟩ := elemTree.info
  obtain ⟨iA, ai, az, asz, aby⟩ := elemAttr.info
  have HI := Lib.hid (And.intro hi (And.intro hz (And.intro hsz hby)))
  have HA := Lib.hid (And.intro ai (And.intro az (And.intro asz aby)))
  clear hi hz hsz hby ai az asz aby
  go_enter Tryd.func15, Tryd.ntmps15
  go_wp2_with (at_make; refine halt_mk ?_)
  refine halt_go ?_
  refine wpList_make_own _ rfl _ _ 23 rfl 0 25 iT _ 5 Tryd.underlying23 HI.out.1 HI.out.2.1 HI.out.2.2.1 _ _ _ (ks.length + 2) rfl rfl (by simp) (by rw [HI.out.2.2.2]; have := HH.out; omega) (by unfold maxLen; omega) (Nat.zero_le _) ?_
  obtain ⟨N, hN⟩ : ∃ N, N = w.heap.size := ⟨_, rfl⟩
  rw [← hN]
  intro W hown hgrow
  have hBW : Below w.heap.size w W := Below.grown (Below.refl _ _) hgrow (Nat.le_refl _) (fun k hk => by cases hk)
  have hC : CopySt N W ks 0 (.slice (some ⟨N, 0, none⟩) 0 (ks.length + 2)) [] := by
    refine ⟨hown, fun g hg => by have := ob_eq hg; omega, ?_⟩
    rw [List.take_zero, OForest]
    exact ⟨rfl, by rw [hN]; exact hBW.size⟩
  have HN := Lib.hid (And.intro hN (And.intro hBW hC))
  clear hN hown hgrow hBW hC
  go_wp2
  go_loopg [3, 4] ks.length (fun kq v3 v4 w' => ∃ (i : Nat) (l3 : Option Addr) (c3 : Nat), v3 = .slice l3 i c3 ∧ v4 = .int .i64 i ∧ Hid (kq = ks.length - i ∧ i ≤ ks.length) ∧ Hid (∃ ys, CopySt N w' ks i (.slice l3 i c3) ys) ∧ Hid (Below w.heap.size w w'))
  case atStart => exact ⟨0, _, _, rfl, rfl, Lib.hid ⟨rfl, Nat.zero_le _⟩, Lib.hid ⟨_, HN.out.2.2⟩, Lib.hid HN.out.2.1⟩
  case round =>
    obtain ⟨i, l3, c3, rfl, rfl, HJ, HC, HB⟩ := hrel
    have hi0 : (0 : Int) ≤ (i : Int) := by omega
    by_cases hi : i < ks.length
    · have hi1 : (i : Int) < (ks.length : Int) := by omega
      have hi2 : decide (i < ks.length) = true := decide_eq_true hi
      obtain ⟨x, hx⟩ : ∃ x, ks[i]? = some x := ⟨ks[i], List.getElem?_eq_getElem hi⟩
      have hxm := List.mem_of_getElem? hx
      have hFr := HH.out.1.below HB.out
      have hfit := HH.out.2.1 x hxm
      have IH := HH.out.2.2.2 x hxm
      obtain ⟨g, off, k, n, xa, xla, xca, t, xkk, xlk, xkc, rfl, hck, y0, y1, y2, y3, y4, hxA⟩ := hFr.kid hx
      cases x with
      | mk k' n' al t' l =>
      obtain ⟨aa, ca, bk, bc, e, hAl, hKs⟩ := TreeAt.forest hxA
      simp at e
      obtain ⟨rfl, rfl, ⟨rfl, rfl, rfl⟩, rfl, rfl, rfl, rfl⟩ := e
      have hsm := hfit.small
      unfold Small at hsm
      have HX := Lib.hid (And.intro hx (And.intro hi (And.intro hAl (And.intro hKs (And.intro hfit (And.intro hsm IH))))))
      clear hx hi hxm hFr hxA hAl hKs hfit hsm IH
      go_wp2_with fail
      generalize hW : World.alloc _ _ = W1
      obtain ⟨X, hX⟩ : ∃ X, X = wr.heap.size := ⟨_, rfl⟩
      rw [← hX]
      have X1 : Blk W1 X [.int .i64 k, .string n, .slice xa al.length xca, .string t, .slice xkk l.length xkc] 25 := by rw [← hW, hX]; exact Blk.new wr _ _
      have B1 : Below wr.heap.size wr W1 := by rw [← hW]; exact below_al (Below.refl _ _) (Nat.le_refl _) _
      have hX1 : X < W1.heap.size := X1.lt
      have s2 : ∀ w', Upd W1 w' (fun g => X < g) → w'.cell? ⟨X, 2, none⟩ = some (.slice xa al.length xca) := fun w' hU => (hU.blk X1 (Nat.lt_irrefl X)).cell 2
      have HX1 := Lib.hid (And.intro hX (And.intro X1 (And.intro B1 hX1)))
      have hal : (al.length : Int) ≤ 4398046510976 := by have := HX.out; omega
      clear hW hX X1 B1 hX1 y0 y1 y2 y3 y4
      apply wp_reg (fun w' : World => w'.cell? ⟨X, 2, none⟩ = some (.slice xa al.length xca)) [0, 1, 2, 3, 5, 6] [4, 7] [8, 9] (by kernel_rfl) (by kernel_rfl) (fun _ _ d _ _ h => by cases d <;> exact h) (s2 _ (Upd.refl W1 _).drew)
      · iterate 6 (apply reads_consL rfl rfl; (· intro w0 hS; go_simp; try rfl); simp only [Act.put, List.setIfInBounds_toArray, List.set_cons_zero, List.set_cons_succ])
        exact rfl
      refine tail_consL rfl ?_
      refine wpList_make_own _ rfl _ _ 22 rfl 0 146 iA _ 2 Tryd.underlying22 HA.out.1 HA.out.2.1 HA.out.2.2.1 _ _ _ (al.length + 1) rfl rfl ?_ (by rw [HA.out.2.2.2]; have := HX.out; omega) (by unfold maxLen; omega) (Nat.zero_le _) ?_
      · show IntKind.i64.wrap _ = _
        rw [wrapj (by omega) (by omega)]
        rfl
      intro w2 hown2 hgrow2
      have B2 : Below W1.heap.size W1 w2 := (Below.refl W1.heap.size W1).drew.trans (Below.grown (Below.refl _ _) hgrow2 (Nat.le_refl _) (fun k hk => by cases hk))
      have U2 : Upd W1 w2 (fun g => X < g) := Upd.ofBelow B2
      refine ⟨s2 _ U2, tail_consL rfl ?_⟩
      obtain ⟨Y, hY⟩ : ∃ Y, Y = W1.heap.size := ⟨_, rfl⟩
      have hown2' : w2.ownsRow 0 146 2 (.slice (some ⟨Y, 0, none⟩) 0 (al.length + 1)) 0 [] := by rw [hY]; exact hown2
      have hal2 := HX.out.2.2.1.1.keep ((Upd.ofBelow HX1.out.2.2.1).trans (Upd.ofBelow (F := fun _ => False) B2) (fun _ _ h => h)) (fun _ _ h => h)
      go_wp2_with (at_builtin; refine halt_mk ?_)
      refine halt_go ?_
      rw [← hY]
      refine wpl_app rfl rfl elemAttr Tryd.underlying22 rfl hown2' rfl hal2 (atc_one al) (by have := HX.out; omega) ?_
      rintro v3 w4 ⟨O4, U4, b4⟩
      rw [Nat.zero_add, List.nil_append] at O4
      obtain ⟨a4, c4, rfl, _⟩ := (Rd.ofOwn O4).form
      have hXY : X < Y := by have := HX1.out; omega
      have U14 : Upd W1 w4 (fun g => X < g) := U2.trans U4 (fun g _ e => by have := ob_eq e; omega)
      have hv4 : ∀ g, (Value.slice a4 al.length c4).ownBlock = some g → X < g := fun g hg => by
        rcases b4 with e | e
        · have := ob_eq (e ▸ hg : (Value.slice (some ⟨Y, 0, none⟩) 0 (al.length + 1)).ownBlock = some g); omega
        · have := ob_some (e.symm.trans hg); have := B2.size; omega
      have X4 := U14.blk HX1.out.2.1 (Nat.lt_irrefl X)
      have x2 := X4.cell 2
      have f2 := X4.free 2
      have x4 := X4.cell 4
      have f4 := X4.free 4
      simp only [List.getElem?_cons_zero, List.getElem?_cons_succ] at x2 x4
      have H4 := Lib.hid (And.intro O4 (And.intro U14 (And.intro hv4 X4)))
      clear hown2 hown2' hgrow2 B2 U2 hal2 hY O4 U4 b4 hXY U14 hv4 X4 s2
      go_wp2_with fail
      refine ⟨x2, tail_twoL rfl rfl ?_⟩
      go_wp2_with fail
      obtain ⟨W5, hW5⟩ : ∃ W, w4.setCell ⟨X, 2, none⟩ (.slice a4 al.length c4) = W := ⟨_, rfl⟩
      have U45 : Upd w4 W5 (fun g => g = X) := by rw [← hW5]; exact (Upd.refl w4 (fun g => g = X)).set _ _ (fun _ => rfl)
      have X5 : Blk W5 X [.int .i64 k, .string n, .slice a4 al.length c4, .string t, .slice xkk l.length xkc] 25 := by rw [← hW5]; exact H4.out.2.2.2.set 2 _
      have hXr := HX1.out.1
      have Ur5 : Upd wr W5 (fun _ => False) := ((Upd.ofBelow HX1.out.2.2.1).trans H4.out.2.1 (fun g _ e => by omega)).trans U45 (fun g _ e => by omega)
      have C : Calls Tryd.prog 15 #[.slice xkk l.length xkc] W5 (CopyFPost W5 l) := HX.out.2.2.2.2.2.2 xkk xkc W5 (HX.out.2.2.2.1.keep Ur5 (fun _ _ h => h)) (fun y hy => HX.out.2.2.2.2.1.kid y hy) HX.out.2.2.2.2.2.1.2.2.2.2
      have H5 := Lib.hid (And.intro U45 (And.intro X5 Ur5))
      rw [hW5]
      clear U45 X5 Ur5 hXr hW5 x2 f2 x4 f4
      refine C.mono ?_
      rintro e w6 ⟨l6, c6, rfl, hO6, hB6⟩
      have X6 := (Upd.ofBelow (F := fun _ => False) hB6).blk H5.out.2.1 (fun h => h)
      have x0 := X6.cell 0
      have x1 := X6.cell 1
      have x2 := X6.cell 2
      have x3 := X6.cell 3
      have x4 := X6.cell 4
      have f4 := X6.free 4
      simp only [List.getElem?_cons_zero, List.getElem?_cons_succ] at x0 x1 x2 x3 x4
      have H6 := Lib.hid (And.intro hO6 (And.intro hB6 X6))
      have hXn : X ≠ w6.heap.size := Nat.ne_of_lt X6.lt
      clear hO6 hB6 X6 C
      go_wp2_with (at_builtin; refine halt_mk ?_)
      refine halt_go ?_
      obtain ⟨Z, hZ⟩ : ∃ Z, Z = w6.heap.size := ⟨_, rfl⟩
      rw [← hZ]
      obtain ⟨W7, hW7⟩ : ∃ W, w6.setCell ⟨X, 4, none⟩ (.slice l6 l.length c6) = W := ⟨_, rfl⟩
      rw [hW7]
      have hZ7 : W7.heap.size = Z := by rw [← hW7, hZ]; simp
      generalize hW8 : World.alloc W7 _ = W8
      have U67 : Upd w6 W7 (fun g => g = X) := by rw [← hW7]; exact (Upd.refl w6 (fun g => g = X)).set _ _ (fun _ => rfl)
      have B8 : Below W7.heap.size W7 W8 := by rw [← hW8]; exact below_al (Below.refl _ _) (Nat.le_refl _) _
      have X8 : Blk W8 Z [.int .i64 k, .string n, .slice a4 al.length c4, .string t, .slice l6 l.length c6] 25 := by rw [← hW8]; exact Blk.new' hZ7.symm
      have hXr := HX1.out.1
      have s5 := H5.out.2.2.size
      have s6 := H6.out.2.1.size
      have s7 := U67.size
      have Ur7 : Upd wr W7 (fun _ => False) := (H5.out.2.2.trans (Upd.ofBelow (F := fun _ => False) H6.out.2.1) (fun _ _ h => h)).trans U67 (fun g _ e => by omega)
      have hO7 : OTree W7 (.mk k n al t l) wr.heap.size W7.heap.size [.int .i64 k, .string n, .slice a4 al.length c4, .string t, .slice l6 l.length c6] := by
        obtain ⟨xs, ⟨q1, q2⟩, q3⟩ := H6.out.1
        have hX5 := H5.out.2.1.lt
        have hA5 : W5.ownsRow 0 146 2 (.slice a4 al.length c4) al.length (atc al) := own_keep H4.out.1 H5.out.1 (fun g hg e => by have := H4.out.2.2.1 g hg; omega)
        have hA7 : W7.ownsRow 0 146 2 (.slice a4 al.length c4) al.length (atc al) := own_keep (own_keep hA5 (Upd.ofBelow (F := fun _ => False) H6.out.2.1) (fun _ _ h => h)) U67 (fun g hg e => by have := H4.out.2.2.1 g hg; omega)
        have hK7 := own_keep q1 U67 (fun g hg e => by have := (q2 g hg).1; omega)
        rw [OTree]
        refine ⟨_, _, _, _, xs, rfl, ⟨hA7, fun g hg => ⟨by have := H4.out.2.2.1 g hg; omega, own_lt hA7 hg⟩⟩, ⟨hK7, fun g hg => ⟨by have := (q2 g hg).1; omega, own_lt hK7 hg⟩⟩, ?_⟩
        exact ((q3.keep U67 (fun g hg e => by have := hg.1; omega)).low (by omega)).mono s7
      obtain ⟨ys, hC⟩ := HC.out
      have C7 := (hC.keep (Ur7.below (Nat.le_refl _) (fun _ _ h => h))).keep B8
      refine wpl_app rfl rfl elemTree Tryd.underlying23 rfl C7.own rfl (Rd.ofBlk X8 1 5 rfl) (by simp [Value.oneCell']) (by have := HH.out; have := HX.out; omega) ?_
      intro v9 w9 hA
      obtain ⟨l9, c9, rfl, _⟩ := (Rd.ofOwn hA.1).form
      have hn0 : N ≤ wr.heap.size := by have := HN.out.1; have := HB.out.size; omega
      have C9 := hC.step HX.out.1 hn0 (Ur7.below (Nat.le_refl _) (fun _ _ h => h)) hO7 B8 hA
      have hUw : Upd w w9 (fun _ => False) := ((Upd.ofBelow HB.out).trans Ur7 (fun _ _ h => h)).trans ((Upd.ofBelow (F := fun g => N ≤ g) B8).trans hA.2.1 (fun g _ e => hC.low g e)) (fun g hg e => by have := HN.out.1; omega)
      have H9 := Lib.hid (And.intro C9 (hUw.below (Nat.le_refl _) (fun _ _ h => h)))
      clear hZ hW7 hZ7 hW8 U67 B8 X8 hXr s5 s6 s7 Ur7 hO7 hC C7 hA hn0 C9 hUw hXn x0 x1 x2 x3 x4 f4
      go_wp2
      go_roundg (ks.length - (i + 1))
      case measure => have := HJ.out; have := HX.out; omega
      case rel => exact ⟨i + 1, _, _, rfl, by go_num, Lib.hid ⟨rfl, HX.out.2.1⟩, Lib.hid ⟨_, H9.out.1⟩, Lib.hid H9.out.2⟩
    · have hi1 : ¬ (i : Int) < (ks.length : Int) := by omega
      have hi2 : decide (i < ks.length) = false := decide_eq_false hi
      have ei : i = ks.length := by have := HJ.out; omega
      have HE := Lib.hid ei
      clear hi ei
      go_wp2
      go_ret
      obtain ⟨ys, hC⟩ := HC.out
      have ei := HE.out
      subst ei
      have hF := hC.forest
      rw [List.take_length] at hF
      have hN := HN.out.1
      rw [hN] at hF
      exact ⟨l3, c3, rfl, ⟨ys, ⟨hC.own, fun g hg => ⟨by have := hC.low g hg; omega, own_lt hC.own hg⟩⟩, hF⟩, HB.out⟩

theorem copyF_kids (P : Nat → Prop) : ∀ t : T, ∀ (ak : Option Addr) (ck : Nat) (w : World), Forest w P t.kids ak ck → (∀ y ∈ t.kids, Fits y) → t.kids.length * 88 ≤ 140737488351232 → Calls Tryd.prog 15 #[.slice ak t.kids.length ck] w (CopyFPost w t.kids) := by
  refine T.ind ?_
  intro k n al t ks ih
  exact copyF_step P ks ih
/-- espalierlaw04.Copied. -/
theorem copyF_any (P : Nat → Prop) (ks : List T) (ak : Option Addr) (ck : Nat) (w : World) (hFo : Forest w P ks ak ck) (hF : ∀ y ∈ ks, Fits y) (hks : ks.length * 88 ≤ 140737488351232) : Calls Tryd.prog 15 #[.slice ak ks.length ck] w (CopyFPost w ks) :=
  copyF_step P ks (fun x _ => copyF_kids P x) ak ck w hFo hF hks

end Go.Proofs.YtemmkobgpciflaaDoor
