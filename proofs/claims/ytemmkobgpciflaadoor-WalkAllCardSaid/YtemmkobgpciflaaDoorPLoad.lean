/- A document of an image: the program's Load, walked. -/
import Derived.Test.YtemmkobgpciflaaDoorPush
import Derived.Test.YtemmkobgpciflaaDoorHangP
import Derived.Test.YtemmkobgpciflaaDoorPNd
import Derived.Test.YtemmkobgpciflaaDoorReg5
namespace Go.Proofs.YtemmkobgpciflaaDoor
open Go.RowKit
open Ch
open Df (Row RowIs RowsIs rowsC row_at load_none all_take hcv)
namespace Pd

theorem PDoc.role {w : World} {ρ ρ' : Nat → Role} {d : Nat} {B : List Nat} {S : List Im.Sl} {roots : List Nat} {hu : Nat → Prop} {lv wn lo : Int} {Nv Rv : Value} (h : PDoc w ρ d B S roots hu lv wn lo Nv Rv) (hρ : ∀ g, ρ g ≠ .free → ρ' g = ρ g) (hlt : ∀ g, ρ' g ≠ .free → g < w.heap.size) : PDoc w ρ' d B S roots hu lv wn lo Nv Rv :=
  ⟨h.doc, (hρ d (by rw [h.dr]; simp)).trans h.dr, h.ns.role (fun g hg => (hρ g (by rw [hg]; simp)).trans hg), h.rt.role (fun g hg => (hρ g (by rw [hg]; simp)).trans hg), h.len, fun i b s h1 h2 => by
    obtain ⟨av, kv, hN⟩ := h.nd i b s h1 h2
    exact ⟨av, kv, hN.role hρ⟩, hlt⟩
theorem tidy_same (s : Im.Sl) : (Im.tidy s).g = s.g ∧ (Im.tidy s).lv = s.lv := by
  unfold Im.tidy Im.dead1
  cases h : s.lv with
  | true => rw [if_pos rfl]; split <;> exact ⟨rfl, by first | exact h | rfl⟩
  | false => rw [if_neg (by simp)]; exact ⟨rfl, rfl⟩
theorem wornN_tidy (S : List Im.Sl) : wornN (S.map Im.tidy) = wornN S := by
  unfold wornN
  rw [List.filter_map, List.length_map]
  congr 1
  apply List.filter_congr
  intro s _
  show (!(Im.tidy s).lv && (Im.tidy s).g == 4294967295) = _
  rw [(tidy_same s).1, (tidy_same s).2]
theorem live_rows {w : World} {Q : Nat → Prop} {R : List Row} {S : List Im.Sl} (h : RowsIs w Q R S) (hb : S.all Im.slotB = true) : LiveRows w Q R (S.map Im.tidy) := by
  intro i r s' hr hs' hl
  rw [List.getElem?_map] at hs'
  cases hs : S[i]? with
  | none => rw [hs] at hs'; cases hs'
  | some s =>
    rw [hs] at hs'
    obtain rfl := Option.some.inj hs'
    have hrs := h.2 i r s hr hs
    have hl2 : s.lv = true := by rw [← (tidy_same s).2]; exact hl
    have hB : Im.slotB s = true := List.all_eq_true.1 hb s (List.mem_of_getElem? hs)
    unfold Im.tidy
    rw [if_pos hl2]
    by_cases hk : s.k = 2
    · rw [if_pos hk]
      unfold Im.slotB at hB
      have hks : s.ks = [] := by
        rw [hl2, hk] at hB
        have := hB
        simp at this
        exact this.2.2
      have h1 := hrs.ks
      rw [hks] at h1
      exact ⟨hrs.p, h1⟩
    · rw [if_neg hk]
      exact ⟨hrs.p, hrs.ks⟩
theorem tidy_ks (s : Im.Sl) : (Im.tidy s).ks = s.ks ∨ (Im.tidy s).ks = [] := by
  unfold Im.tidy Im.dead1
  split
  · split
    · exact Or.inr rfl
    · exact Or.inl rfl
  · exact Or.inr rfl
theorem tidy_dead (s : Im.Sl) (h : s.lv = false) : (Im.tidy s).p = 0 ∧ (Im.tidy s).ks = [] := by
  unfold Im.tidy
  rw [if_neg (by rw [h]; simp)]
  exact ⟨rfl, rfl⟩

def LoadPostP (S : List Im.Sl) (roots : List Nat) (w : World) (e : Ending) (w' : World) : Prop := Below w.heap.size w w' ∧
  ((Im.load S roots = none ∧ e = .returned (.tuple #[.pointer none, .int .i64 36])) ∨
   ∃ S' ts d B ρ hu Nv Rv, Im.load S roots = some (S', ts) ∧ e = .returned (.tuple #[ptr d, .int .i64 0]) ∧ PDoc w' ρ d B S' roots hu (Im.lives S' : Nat) (wornN S' : Nat) 0 Nv Rv ∧ ∀ g, ρ g ≠ .free → w.heap.size ≤ g)

set_option maxRecDepth 100000 in
set_option maxHeartbeats 1600000 in
theorem loadP_any (Q : Nat → Prop) (S : List Im.Sl) (R0 : List Row) (roots : List Nat) (sa ra : Option Addr) (sc rc : Nat) (w : World) (hS : RdP w Q 8 (.slice sa S.length sc) S.length (rowsC R0)) (hR0 : RowsIs w Q R0 S) (hro : RdP w Q 1 (.slice ra roots.length rc) roots.length (hcv roots)) (hQ : ∀ g, Q g → g < w.heap.size)
    (hgS : ∀ s ∈ S, s.g < 4294967296) (hks : ∀ s ∈ S, s.ks.length ≤ 17592186043904 ∧ ∀ h ∈ s.ks, h < 18446744073709551616) (hal : ∀ s ∈ S, s.al.length * 32 ≤ 140737488351232) (hrl : roots.length ≤ 17592186043904) (hrh : ∀ h ∈ roots, h < 18446744073709551616) (hT : Tabs w) :
    Calls Tryd.prog 67 #[.agg #[.slice sa S.length sc, .slice ra roots.length rc]] w (LoadPostP S roots w) := by
  obtain ⟨X, hX⟩ : ∃ X, X = w.heap.size := ⟨_, rfl⟩
  obtain ⟨n, hn⟩ : ∃ n, n = S.length := ⟨_, rfl⟩
  obtain ⟨rn, hrn⟩ : ∃ rn, rn = roots.length := ⟨_, rfl⟩
  obtain ⟨P, hP⟩ : ∃ P : Ending → World → Prop, P = LoadPostP S roots w := ⟨_, rfl⟩
  have HH := Lib.hid (And.intro hS (And.intro hR0 (And.intro hro (And.intro hQ (And.intro hgS (And.intro hks (And.intro hal (And.intro hrl (And.intro hrh (And.intro hT (And.intro hX (And.intro hn hrn))))))))))))
  have HP := Lib.hid hP
  rw [← hn, ← hrn, ← hP]
  clear hS hR0 hro hQ hgS hks hal hrl hrh hT hX hn hrn hP
  go_enter Tryd.func67, Tryd.ntmps67
  go_upto_region 1 with fail
  rw [← HH.out.2.2.2.2.2.2.2.2.2.2.1]
  generalize hW : World.alloc _ _ = W1
  have U1 : Upd w W1 (fun _ => False) := by rw [← hW]; exact (Upd.refl w _).alloc _
  have X1 : Blk W1 X [.slice sa n sc, .slice ra rn rc] 44 := by rw [← hW]; exact Blk.new' HH.out.2.2.2.2.2.2.2.2.2.2.1
  obtain ⟨d, hd⟩ : ∃ d, d = W1.heap.size := ⟨_, rfl⟩
  have H1 := Lib.hid (And.intro U1 (And.intro X1 hd))
  clear hW U1 X1 hd
  go_upto_region 2 with fail
  rw [← H1.out.2.2]
  generalize hW : World.alloc _ _ = W2
  have U2 : Upd W1 W2 (fun _ => False) := by rw [← hW]; exact (Upd.refl W1 _).alloc _
  have D2 : Blk W2 d [.slice none 0 0, .slice none 0 0, .int .i64 0, .int .i64 0, .int .i64 0] 120 := by rw [← hW]; exact Blk.new' H1.out.2.2
  have X2 := U2.blk H1.out.2.1 (fun h => h)
  have V2 := H1.out.1.trans U2 (fun _ _ h => h)
  have hdw : w.heap.size ≤ d := by rw [H1.out.2.2]; exact H1.out.1.size
  have hXd : X ≠ d := by have := H1.out.2.1.lt; have := H1.out.2.2; omega
  have x0 := X2.cell 0
  simp only [List.getElem?_cons_zero] at x0
  have H2 := Lib.hid (And.intro V2 (And.intro X2 (And.intro D2 (And.intro hdw hXd))))
  clear hW U2 D2 X2 V2 hdw hXd H1
  have fin : ∀ {w' : World}, Upd w w' (fun _ => False) → Below w.heap.size w w' := fun h => h.below (F := fun _ => False) (Nat.le_refl _) (fun _ _ h => h)
  have hlong : 4096 < n ∨ n ≤ 4096 := by omega
  rcases hlong with hlong | hlong
  · have hl1 : (4096 : Int) < (n : Int) := by omega
    have hnone : Im.load S roots = none := by
      unfold Im.load
      rw [if_pos (by have := HH.out.2.2.2.2.2.2.2.2.2.2.2.1; omega)]
    have HN := Lib.hid hnone
    clear hlong hnone
    go_wp2
    rw [HP.out]
    exact ⟨fin H2.out.1, Or.inl ⟨HN.out, rfl⟩⟩
  have hl1 : ¬ (4096 : Int) < (n : Int) := by omega
  have HL := Lib.hid hlong
  clear hlong
  have D0 : Hid (PDoc W2 (fun g => if g = d then .doc else .free) d [] ((S.take 0).map bare) [] (fun j => (st0 j).isSome = true) ((Im.lives (S.take 0) : Nat) : Int) ((wornN (S.take 0) : Nat) : Int) 0 (.slice none 0 0) (.slice none 0 0)) := by
    refine Lib.hid ⟨H2.out.2.2.1, if_pos rfl, ⟨own_none, fun g hg => by cases hg⟩, ⟨own_none, fun g hg => by cases hg⟩, rfl, fun i b s h => by simp at h, fun g hg => ?_⟩
    by_cases e : g = d
    · rw [e]; exact H2.out.2.2.1.lt
    · exact absurd (if_neg e) hg
  have I1 : Hid (∀ g, (fun g => if g = d then Role.doc else Role.free) g ≠ .free → w.heap.size ≤ g ∧ g ≠ X) := Lib.hid (fun g hg => by
    by_cases e : g = d
    · rw [e]; exact ⟨H2.out.2.2.2.1, fun e' => H2.out.2.2.2.2 e'.symm⟩
    · exact absurd (if_neg e) hg)
  go_wp2
  go_loopg [5, 6, 7, 8, 19] n (fun kq v5 v6 v7 v8 v19 w' => ∃ (i : Nat) (B : List Nat) (ρ : Nat → Role) (Nv : Value), v19 = .int .i64 i ∧ Hid (kq = n - i ∧ i ≤ n) ∧ Hid ((S.take i).all Im.slotB = true) ∧ Hid (PDoc w' ρ d B ((S.take i).map bare) [] (fun j => (st0 j).isSome = true) ((Im.lives (S.take i) : Nat) : Int) ((wornN (S.take i) : Nat) : Int) 0 Nv (.slice none 0 0)) ∧ Hid (∀ g, ρ g ≠ .free → w.heap.size ≤ g ∧ g ≠ X) ∧ Hid (Upd w w' (fun _ => False)) ∧ Hid (Blk w' X [.slice sa n sc, .slice ra rn rc] 44))
  case atStart => exact ⟨0, [], _, _, rfl, Lib.hid ⟨rfl, Nat.zero_le _⟩, Lib.hid rfl, D0, I1, Lib.hid H2.out.1, Lib.hid H2.out.2.1⟩
  case round =>
    obtain ⟨i, B, ρ, Nv, rfl, HI, HS, HD, HR, HU, HX⟩ := hrel
    have hi0 : (0 : Int) ≤ (i : Int) := by omega
    have x0 := HX.out.cell 0
    simp only [List.getElem?_cons_zero] at x0
    by_cases hi : i < n
    · have hi1 : (i : Int) < (n : Int) := by omega
      have hi2 : decide (i < n) = true := decide_eq_true hi
      have hw1 : wrap64 ((i : Int) + 1) = (i : Int) + 1 := Go.IntWalk.wrap64_in _ (by have := HL.out; omega)
      obtain ⟨hS, hR0, hro, hQ, hgS, hks, hal, hrl, hrh, hT, hX, hn, hrn⟩ := HH.out
      obtain ⟨s, hs⟩ : ∃ s, S[i]? = some s := ⟨S[i]'(by omega), List.getElem?_eq_getElem _⟩
      obtain ⟨r, hr, hrs⟩ := hR0.get hs
      have hSr := hS.keep HU.out (fun _ _ h => h)
      obtain ⟨g, off, rfl, hsc, r0, r1, r2, r3, r4, r5, r6, r7⟩ := row_at hSr hr
      obtain ⟨Y, hY⟩ : ∃ Y, Y = wr.heap.size := ⟨_, rfl⟩
      rw [← hn] at hsc
      have HY := Lib.hid (And.intro hs (And.intro hr (And.intro hrs (And.intro hY hi))))
      clear hS hR0 hro hQ hgS hks hal hrl hrh hT hX hn hrn hs hr hSr hY hrs hi
      go_upto_region 7 with fail
      rw [← HY.out.2.2.2.1]
      generalize hW : World.alloc _ _ = W5
      have U5 : Upd wr W5 (fun _ => False) := by rw [← hW]; exact (Upd.refl wr _).alloc _
      have Y5 : Blk W5 Y r.cells 153 := by rw [← hW]; exact Blk.new' HY.out.2.2.2.1
      have y0 := Y5.cell 0
      have y1 := Y5.cell 1
      have y2 := Y5.cell 2
      have y3 := Y5.cell 3
      have y4 := Y5.cell 4
      have y5 := Y5.cell 5
      have y6 := Y5.cell 6
      have y7 := Y5.cell 7
      unfold Row.cells at y0 y1 y2 y3 y4 y5 y6 y7
      simp only [List.getElem?_cons_zero, List.getElem?_cons_succ] at y0 y1 y2 y3 y4 y5 y6 y7
      have V5 := HU.out.trans U5 (fun _ _ h => h)
      have C := node_any Q i r s W5 (HY.out.2.2.1.keep V5 (fun _ _ h => h)) (HH.out.2.2.2.2.2.2.2.2.2.1.below (fin V5)) (by have := HL.out; have := HI.out; omega) (HH.out.2.2.2.2.2.2.1 s (List.mem_of_getElem? HY.out.1))
      have HC := Lib.hid C
      have H5 := Lib.hid (And.intro U5 V5)
      have hX5 : Hid (Blk W5 X [.slice (some ⟨g, off, none⟩) n sc, .slice ra rn rc] 44) := Lib.hid (U5.blk HX.out (fun h => h))
      clear hW U5 Y5 V5 C r0 r1 r2 r3 r4 r5 r6 r7 x0
      go_wp2_with fail
      refine HC.out.mono ?_
      rintro e w6 ⟨B6, hres⟩
      have U6 := Upd.ofBelow (F := fun _ => False) B6
      have V6 := H5.out.1.trans U6 (fun _ _ h => h)
      have H6 := Lib.hid (And.intro V6 (U6.blk hX5.out (fun h => h)))
      have h5s := H5.out.1.size
      rcases hres with ⟨hb, rfl⟩ | ⟨hb, b, av, rfl, hbn, c6, a6, ha6⟩
      · have HN := Lib.hid (load_none (roots := roots) HY.out.1 hb)
        clear B6 U6 V6 hb y0 y1 y2 y3 y4 y5 y6 y7 h5s HC
        go_wp2
        rw [HP.out]
        exact ⟨fin (HU.out.trans H6.out.1 (fun _ _ h => h)), Or.inl ⟨HN.out, rfl⟩⟩
      have D6 := (HD.out.none V6).doc
      have ns := (HD.out.none V6).ns
      have hBl : B.length = i := by rw [HD.out.len, List.length_map, List.length_take]; have := HY.out; have := HH.out.2.2.2.2.2.2.2.2.2.2.2.1; omega
      rw [hBl] at ns
      obtain ⟨na, nc, rfl, _⟩ := (Rd.ofOwn ns.1).form
      have d0 := D6.cell 0
      have e0 := D6.free 0
      simp only [List.getElem?_cons_zero] at d0
      obtain ⟨q, hq⟩ : ∃ q, q = w6.heap.size := ⟨_, rfl⟩
      have H7 := Lib.hid (And.intro hb (And.intro (Nat.le_trans h5s hbn) (And.intro c6 (And.intro a6 (And.intro (fun g hg => Nat.le_trans h5s (ha6 g hg)) (And.intro D6 (And.intro ns (And.intro hBl hq))))))))
      unfold ptr
      clear B6 U6 V6 hb hbn c6 a6 ha6 y0 y1 y2 y3 y4 y5 y6 y7 h5s HC D6 ns hBl hq
      have hdq : d ≠ w6.heap.size := by have := H7.out.2.2.2.2.2.1.lt; omega
      have hdl : d < w6.heap.size := H7.out.2.2.2.2.2.1.lt
      go_wp2_with (at_builtin; refine halt_mk ?_)
      refine halt_go ?_
      rw [← H7.out.2.2.2.2.2.2.2.2]
      generalize hW : World.alloc _ _ = W7
      have U7 : Upd w6 W7 (fun _ => False) := by rw [← hW]; exact (Upd.refl w6 _).alloc _
      have Q7 : Blk W7 q [ptr b] 154 := by rw [← hW]; exact Blk.new' H7.out.2.2.2.2.2.2.2.2
      have O7 := own_keep H7.out.2.2.2.2.2.2.1.1 U7 (fun _ _ h => h)
      have D7 := U7.blk H7.out.2.2.2.2.2.1 (fun h => h)
      have H8 := Lib.hid (And.intro U7 D7)
      clear hW U7 D7 hdq hdl d0 e0
      refine wpl_app (n := i) (m := 1) rfl rfl elemNp Tryd.underlying118 rfl O7 rfl (Rd.ofBlk Q7 1 1 rfl) (by intro u hu; simp at hu; subst hu; rfl) (by have := HL.out; have := HI.out; omega) ?_
      rintro v8 W8 hA
      obtain ⟨a8, c8, rfl, _⟩ := (Rd.ofOwn hA.1).form
      have D8 := hA.2.1.blk H8.out.2 (fun e => by
        have h1 := H7.out.2.2.2.2.2.2.1.2 d e
        rw [HD.out.dr] at h1
        cases h1)
      have d0 := D8.cell 0
      have e0 := D8.free 0
      simp only [List.getElem?_cons_zero] at d0
      have H9 := Lib.hid (And.intro hA D8)
      clear O7 Q7 hA D8
      go_upto_region 11 with fail
      generalize hW : World.setCell _ _ _ = W9
      have D9 := H9.out.2.set 0 (.slice a8 (i + 1) c8)
      rw [hW] at D9
      have U9 : Upd W8 W9 (fun g => g = d) := by rw [← hW]; exact (Upd.refl W8 (fun g => g = d)).set ⟨d, 0, none⟩ _ (fun _ => rfl)
      have hbd : b ≠ d := fun e => by
        have h1 := HD.out.lt d (by rw [HD.out.dr]; simp)
        have h2 := H7.out.2.1
        omega
      have bnew : wr.heap.size ≤ b := H7.out.2.1
      have hbN : ∀ g, (Value.slice na i nc).ownBlock = some g → g ≠ b := fun g hg e => by
        have h1 := HD.out.lt g (by rw [H7.out.2.2.2.2.2.2.1.2 g hg]; simp)
        omega
      have N9 := U9.blk (H9.out.1.2.1.blk (H8.out.1.blk H7.out.2.2.1 (fun h => h)) (fun e => hbN b e rfl)) hbd
      have n1 := N9.cell 1
      have n2 := N9.cell 2
      unfold nodeC at n1 n2
      simp only [List.getElem?_cons_zero, List.getElem?_cons_succ] at n1 n2
      rw [(tidy_same s).1] at n1
      rw [(tidy_same s).2] at n2
      have d2 := D9.cell 2
      have d3 := D9.cell 3
      have e2 := D9.free 2
      have e3 := D9.free 3
      simp only [List.getElem?_cons_zero, List.getElem?_cons_succ, List.set_cons_zero] at d2 d3
      obtain ⟨L, hL⟩ : ∃ L, L = Im.lives (S.take i) := ⟨_, rfl⟩
      obtain ⟨M, hM⟩ : ∃ M, M = wornN (S.take i) := ⟨_, rfl⟩
      rw [← hL] at d2
      rw [← hM] at d3
      have hLi : L ≤ i := by have h1 := lives_le (S.take i); rw [List.length_take] at h1; omega
      have hMi : M ≤ i := by have h1 := wornN_le (S.take i); rw [List.length_take] at h1; omega
      have hw2 : wrap64 ((L : Int) + 1) = (L : Int) + 1 := Go.IntWalk.wrap64_in _ (by have := HL.out; have := HI.out; omega)
      have hw3 : wrap64 ((M : Int) + 1) = (M : Int) + 1 := Go.IntWalk.wrap64_in _ (by have := HL.out; have := HI.out; omega)
      have hdb : d ≠ b := fun e => hbd e.symm
      have H10 := Lib.hid (And.intro U9 (And.intro D9 (And.intro N9 (And.intro hbN (And.intro hL hM)))))
      have hpush : Hid (∀ (W : World) (lv' wn' : Int), Upd W9 W (fun g => g = d) → Blk W d [.slice a8 (i + 1) c8, .slice none 0 0, .int .i64 lv', .int .i64 wn', .int .i64 0] 120 → lv' = ((Im.lives (S.take (i + 1)) : Nat) : Int) → wn' = ((wornN (S.take (i + 1)) : Nat) : Int) →
          ∃ ρ', PDoc W ρ' d (B ++ [b]) ((S.take (i + 1)).map bare) [] (fun j => (st0 j).isSome = true) ((Im.lives (S.take (i + 1)) : Nat) : Int) ((wornN (S.take (i + 1)) : Nat) : Int) 0 (.slice a8 (i + 1) c8) (.slice none 0 0) ∧ (∀ g, ρ' g ≠ .free → w.heap.size ≤ g ∧ g ≠ X) ∧ Upd w W (fun _ => False) ∧ Blk W X [.slice (some ⟨g, off, none⟩) n sc, .slice ra rn rc] 44) := by
        refine Lib.hid (fun W lv' wn' hU hB e1 e2 => ?_)
        subst e1
        subst e2
        obtain ⟨V6, _⟩ := H6.out
        obtain ⟨hb, hbn, c6, a6, ha6, D6, ns, hBl, hq⟩ := H7.out
        obtain ⟨U7, D7⟩ := H8.out
        have hT : S.take (i + 1) = S.take i ++ [s] := take_at HY.out.1
        have hTb : (S.take (i + 1)).map bare = (S.take i).map bare ++ [bare s] := by rw [hT, List.map_append]; rfl
        obtain ⟨ρ', hG, hD, hUW⟩ := doc_push HD.out (fun x hx => by obtain ⟨y, _, rfl⟩ := List.mem_map.1 hx; exact bare_p y) (fun j e => by cases e) (b := b) (s := bare s) (av := av) rfl rfl (V6.trans U7 (fun _ _ h => h)) hbn (by rw [hBl]; exact U7.blk c6 (fun h => h)) (own_keep a6 U7 (fun _ _ h => h)) ha6 (by rw [hBl]; exact H9.out.1) hB (H10.out.1.trans hU (fun _ _ h => h))
        refine ⟨ρ', by rw [hTb]; exact hD, fun g' hg' => ?_, HU.out.trans hUW (fun g' hg' e => by have := (HR.out g' (by rcases e with e | e <;> rw [e] <;> simp)).1; omega), hUW.blk HX.out (fun e => (HR.out X (by rcases e with e | e <;> rw [e] <;> simp)).2 rfl)⟩
        by_cases hlt : g' < wr.heap.size
        · exact HR.out g' (by rw [← hG.2 g' hlt]; exact hg')
        · have h1 := HU.out.size
          have h2 := HX.out.lt
          exact ⟨by omega, by omega⟩
      clear U9 D9 N9 hbN hL hM hbd bnew d0 e0 hW
      have hlv : s.lv = true ∨ s.lv = false := by cases s.lv <;> simp
      rcases hlv with hlv | hlv
      · rw [hlv] at n2
        have HLv := Lib.hid hlv
        clear hlv
        go_upto_region 15 with fail
        generalize hW : World.setCell _ _ _ = W10
        have D10 := H10.out.2.1.set 2 (.int .i64 ((L : Int) + 1))
        rw [hW] at D10
        have U10 : Upd W9 W10 (fun g => g = d) := by rw [← hW]; exact (Upd.refl W9 (fun g => g = d)).set ⟨d, 2, none⟩ _ (fun _ => rfl)
        obtain ⟨ρ', p1, p2, p3, p4⟩ := hpush.out W10 _ _ U10 D10 (by rw [take_at HY.out.1, lives_app, if_pos HLv.out, ← H10.out.2.2.2.2.1]; rfl) (by rw [take_at HY.out.1, wornN_app, if_neg (fun h => by rw [HLv.out] at h; cases h.1), ← H10.out.2.2.2.2.2]; rfl)
        have HZ := Lib.hid (And.intro p1 (And.intro p2 (And.intro p3 p4)))
        clear p1 p2 p3 p4 D10 U10 hpush hW
        go_wp2
        go_roundg (n - (i + 1))
        case measure => have := HI.out; have := HY.out; omega
        case rel =>
          obtain ⟨p1, p2, p3, p4⟩ := HZ.out
          exact ⟨i + 1, B ++ [b], ρ', _, rfl, Lib.hid ⟨rfl, HY.out.2.2.2.2⟩, Lib.hid (all_take HY.out.1 HS.out H7.out.1), Lib.hid p1, Lib.hid p2, Lib.hid p3, Lib.hid p4⟩
      · rw [hlv] at n2
        have HLv := Lib.hid hlv
        clear hlv
        by_cases hgw : s.g = 4294967295
        · have g1 : (((s.g : Nat) : Int) == 4294967295) = true := beq_iff_eq.2 (by omega)
          have HG := Lib.hid hgw
          rw [hgw] at n1
          clear hgw
          go_upto_region 15 with fail
          generalize hW : World.setCell _ _ _ = W10
          have D10 := H10.out.2.1.set 3 (.int .i64 ((M : Int) + 1))
          rw [hW] at D10
          have U10 : Upd W9 W10 (fun g => g = d) := by rw [← hW]; exact (Upd.refl W9 (fun g => g = d)).set ⟨d, 3, none⟩ _ (fun _ => rfl)
          obtain ⟨ρ', p1, p2, p3, p4⟩ := hpush.out W10 _ _ U10 D10 (by rw [take_at HY.out.1, lives_app, if_neg (by rw [HLv.out]; simp), ← H10.out.2.2.2.2.1]; rfl) (by rw [take_at HY.out.1, wornN_app, if_pos ⟨HLv.out, HG.out⟩, ← H10.out.2.2.2.2.2]; rfl)
          have HZ := Lib.hid (And.intro p1 (And.intro p2 (And.intro p3 p4)))
          clear p1 p2 p3 p4 D10 U10 hpush hW
          go_wp2
          go_roundg (n - (i + 1))
          case measure => have := HI.out; have := HY.out; omega
          case rel =>
            obtain ⟨p1, p2, p3, p4⟩ := HZ.out
            exact ⟨i + 1, B ++ [b], ρ', _, rfl, Lib.hid ⟨rfl, HY.out.2.2.2.2⟩, Lib.hid (all_take HY.out.1 HS.out H7.out.1), Lib.hid p1, Lib.hid p2, Lib.hid p3, Lib.hid p4⟩
        · have g1 : (((s.g : Nat) : Int) == 4294967295) = false := beq_eq_false_iff_ne.2 (by omega)
          have g2 : (s.g == 4294967295) = false := beq_eq_false_iff_ne.2 hgw
          have HG := Lib.hid hgw
          clear hgw
          go_upto_region 15 with fail
          obtain ⟨W10, hW⟩ : ∃ W10, W10 = W9 := ⟨_, rfl⟩
          have D10 := H10.out.2.1
          have U10 : Upd W9 W10 (fun g => g = d) := by rw [hW]; exact Upd.refl _ _
          rw [← hW] at D10 ⊢
          obtain ⟨ρ', p1, p2, p3, p4⟩ := hpush.out W10 _ _ U10 D10 (by rw [take_at HY.out.1, lives_app, if_neg (by rw [HLv.out]; simp), ← H10.out.2.2.2.2.1]; rfl) (by rw [take_at HY.out.1, wornN_app, if_neg (fun h => HG.out h.2), ← H10.out.2.2.2.2.2]; rfl)
          have HZ := Lib.hid (And.intro p1 (And.intro p2 (And.intro p3 p4)))
          clear p1 p2 p3 p4 D10 U10 hpush hW
          go_wp2
          go_roundg (n - (i + 1))
          case measure => have := HI.out; have := HY.out; omega
          case rel =>
            obtain ⟨p1, p2, p3, p4⟩ := HZ.out
            exact ⟨i + 1, B ++ [b], ρ', _, rfl, Lib.hid ⟨rfl, HY.out.2.2.2.2⟩, Lib.hid (all_take HY.out.1 HS.out H7.out.1), Lib.hid p1, Lib.hid p2, Lib.hid p3, Lib.hid p4⟩
    · have hi1 : ¬ (i : Int) < (n : Int) := by omega
      have hi2 : decide (i < n) = false := decide_eq_false hi
      have ei : i = n := by have := HI.out; omega
      obtain ⟨hS, hR0, hro, hQ, hgS, hks, hal, hrl, hrh, hT, hX, hn, hrn⟩ := HH.out
      obtain ⟨S', hS'⟩ : ∃ S', S' = S.map Im.tidy := ⟨_, rfl⟩
      have hall := HS.out
      have hD := HD.out
      rw [ei, hn, List.take_length] at hall hD
      rw [← cur_none, ← hS'] at hD
      have hSl : S'.length = n := by rw [hS', List.length_map, hn]
      have hload : ∀ (x : Option (List Nat × List Im.LT)), Im.hang S' 64 roots 0 [] = x → Im.load S roots = match x with
          | none => none
          | some (seen, l) => if seen.length = Im.lives S then some (S', l) else none := fun x hx => by
        unfold Im.load
        rw [if_neg (by have := HL.out; omega), if_neg (by rw [hall]; simp), ← hS', hx]
        rcases x with _ | ⟨a, b⟩ <;> rfl
      have hLv : LiveRows wr Q R0 S' := by rw [hS']; exact live_rows (hR0.keep HU.out (fun _ _ h => h)) hall
      have hgS' : ∀ s ∈ S', s.g < 4294967296 := fun s hs => by
        rw [hS'] at hs
        obtain ⟨y, hy, rfl⟩ := List.mem_map.1 hs
        rw [(tidy_same y).1]
        exact hgS y hy
      have hks' : ∀ s ∈ S', s.ks.length ≤ 17592186043904 ∧ ∀ h ∈ s.ks, h < 18446744073709551616 := fun s hs => by
        rw [hS'] at hs
        obtain ⟨y, hy, rfl⟩ := List.mem_map.1 hs
        rcases tidy_ks y with e | e
        · rw [e]; exact hks y hy
        · rw [e]; exact ⟨by simp, fun _ h => by cases h⟩
      obtain ⟨z, hz⟩ : ∃ z, z = Im.lives S := ⟨_, rfl⟩
      obtain ⟨wz, hwz⟩ : ∃ wz, wz = wornN S := ⟨_, rfl⟩
      rw [← hz, ← hwz] at hD
      rw [← hz] at hload
      obtain ⟨Lb, hLb⟩ : ∃ Lb, Lb = wr.heap.size := ⟨_, rfl⟩
      have x1 := HX.out.cell 1
      have xl := HX.out.lt
      simp only [List.getElem?_cons_zero, List.getElem?_cons_succ] at x1
      have HE := Lib.hid (And.intro hD (And.intro hSl (And.intro hload (And.intro hLv (And.intro hgS' (And.intro hks' (And.intro hz (And.intro hwz (And.intro hS' hLb)))))))))
      have hXL : X ≠ wr.heap.size := by omega
      have x0' : ∀ o, (wr.alloc o).cell? ⟨X, 0, none⟩ = some (.slice sa n sc) := fun o => (HX.out.alloc o).cell 0
      have x1' : ∀ o, (wr.alloc o).cell? ⟨X, 1, none⟩ = some (.slice ra rn rc) := fun o => (HX.out.alloc o).cell 1
      clear hS hR0 hro hQ hgS hks hal hrl hrh hT hX hn hrn hall hD hSl hload hLv hgS' hks' hz hwz hS' hLb hi ei xl
      go_upto_region 17 with fail
      rw [← HE.out.2.2.2.2.2.2.2.2.2]
      generalize hW : World.alloc _ _ = W3
      have U3 : Upd wr W3 (fun _ => False) := by rw [← hW]; exact (Upd.refl wr _).alloc _
      have L3 : Blk W3 Lb [ptr d, .slice sa n sc, .slice ra rn rc, .int .i64 0] 163 := by rw [← hW]; exact Blk.new' HE.out.2.2.2.2.2.2.2.2.2
      have X3 := U3.blk HX.out (fun h => h)
      have x1 := X3.cell 1
      simp only [List.getElem?_cons_zero, List.getElem?_cons_succ] at x1
      have H3 := Lib.hid (And.intro U3 L3)
      clear hW U3 L3 X3 x0 x0' x1' hXL
      apply wp_reg2s (w := W3) (fun w' : World => w'.cell? ⟨X, 1, none⟩ = some (.slice ra rn rc)) [0, 1, 2] [3] [4, 5, 6, 7, 8, 9, 10, 11, 12, 13, 14, 15] [] [] (by kernel_rfl) (by kernel_rfl) (fun _ _ d _ _ h => by cases d <;> exact h) x1
      · iterate 3 (apply reads_consL rfl rfl; (· intro w0 hS; go_simp; try rfl); simp only [Act.put, List.setIfInBounds_toArray, List.set_cons_zero, List.set_cons_succ])
        exact rfl
      have V0 : Upd W3 W3.drew (fun _ => False) := (Upd.refl W3 _).drew
      generalize W3.drew = W4 at V0 ⊢
      have V4 := H3.out.1.trans V0 (fun _ _ h => h)
      obtain ⟨hD, hSl, hload, hLv, hgS', hks', hz, hwz, hS', hLb⟩ := HE.out
      obtain ⟨hS, hR0, hro, hQ, hgS, hks, hal, hrl, hrh, hT, hX, hn, hrn⟩ := HH.out
      have VW := HU.out.trans V4 (fun _ _ h => h)
      have hfree : ρ Lb = .free := hD.fresh (by omega)
      have hD4 : HDoc W4 (give ρ Lb .other) d B S' st0 [] (z : Nat) (wz : Nat) 0 Nv (.slice none 0 0) := PDoc.role (hD.none V4) (give_old hfree) (fun g hg => by
        unfold give at hg
        by_cases e : g = Lb
        · rw [e]; exact Nat.lt_of_lt_of_le H3.out.2.lt V0.size
        · rw [if_neg e] at hg
          exact Nat.lt_of_lt_of_le (hD.lt g hg) V4.size)
      have hwL : w.heap.size ≤ Lb := by rw [hLb]; exact HU.out.size
      have hQ4 : ∀ g, Q g → give ρ Lb .other g = .free ∧ g < W4.heap.size := fun g hg => by
        have h1 := hQ g hg
        have h2 := VW.size
        refine ⟨?_, by omega⟩
        unfold give
        rw [if_neg (by omega)]
        exact Classical.byContradiction fun e => by have := (HR.out g e).1; omega
      have L4 := V0.blk H3.out.2 (fun h => h)
      rw [← hSl] at L4
      have C : Calls Tryd.prog 110 #[ptr Lb, .slice ra roots.length rc, .pointer none, .int .i64 1] W4 (HangPostP d Lb B S' sa ra sc rn rc z wz 0 Nv 64 roots 0 none [] (give ρ Lb .other) st0 [] 0 W4) :=
        hangP_any Q d Lb B S' R0 sa ra sc rn rc z wz 0 Nv hgS' (by have := HL.out; omega) (by rw [hSl, hR0.1, hn]) hks' 64 (Nat.le_refl _) roots 0 none (.pointer none) [] (give ρ Lb .other) st0 [] (.slice none 0 0) 0 ra rc W4 hD4 L4 (give_new ρ Lb .other)
          (by rw [hSl, hn]; exact hS.keep VW (fun _ _ h => h)) (hLv.keep V4 (fun _ _ h => h)) hQ4 (hro.keep VW (fun _ _ h => h)) hrh ⟨rfl, rfl⟩ (fun i => by simp [st0]) ⟨List.nodup_nil, fun i hi => by cases hi⟩ (by show 0 + roots.length ≤ _; omega) (Nat.zero_le _)
      rw [← hrn] at C
      unfold ptr at C
      have x1 := V4.blk HX.out (fun h => h) |>.cell 1
      have HC := Lib.hid C
      have H4 := Lib.hid (And.intro V4 (And.intro VW (And.intro hfree hwL)))
      clear V0 V4 hD hSl hload hLv hgS' hks' hz hwz hS' hLb hS hR0 hro hQ hgS hks hal hrl hrh hT hX hn hrn VW hfree hD4 hwL hQ4 L4 C
      refine pre_consL rfl ?_
      go_wp2_with fail
      refine HC.out.mono ?_
      rintro e w5 ⟨U5, _, hres⟩
      have hXr : give ρ Lb .other X = .free := by
        unfold give
        rw [if_neg (by have := HX.out.lt; have := HE.out.2.2.2.2.2.2.2.2.2; omega)]
        exact Classical.byContradiction fun e => (HR.out X e).2 rfl
      have X5 := U5.blk (H4.out.1.blk HX.out (fun h => h)) (fun e => e hXr)
      have S5 : w5.cell? ⟨X, 1, none⟩ = some (.slice ra rn rc) := X5.cell 1
      have hge : ∀ g, give ρ Lb .other g ≠ .free → w.heap.size ≤ g := fun g hg => by
        unfold give at hg
        by_cases e : g = Lb
        · rw [e]; exact H4.out.2.2.2
        · rw [if_neg e] at hg
          exact (HR.out g hg).1
      have UW : Upd w w5 (fun _ => False) := H4.out.2.1.trans U5 (fun g hg e => by have := hge g e; omega)
      have H5 := Lib.hid (And.intro UW hge)
      clear U5 hXr X5 hge UW HC x1
      rcases hres with ⟨hn, rfl⟩ | ⟨s', ts, ρ', st', rt', Rv', hs, rfl, hG, hD5, L5, hDn⟩
      · have HN := Lib.hid (HE.out.2.2.1 _ hn)
        clear hn
        go_wp2_with fail
        refine ⟨S5, ?_⟩
        apply pre_lastS (fun w' : World => w'.cell? ⟨X, 1, none⟩ = some (.slice ra rn rc)) (fun _ h => h) S5
        · iterate 2 (apply reads_consL rfl rfl; (· intro w0 hS; go_simp; try rfl); simp only [Act.put, List.setIfInBounds_toArray, List.set_cons_zero, List.set_cons_succ])
          iterate 9 (apply reads_skipL rfl rfl; simp only [Act.put, List.setIfInBounds_toArray, List.set_cons_zero, List.set_cons_succ])
          iterate 1 (apply reads_consL rfl rfl; (· intro w0 hS; go_simp; try rfl); simp only [Act.put, List.setIfInBounds_toArray, List.set_cons_zero, List.set_cons_succ])
          exact rfl
        refine tail_zero ?_
        go_wp2
        rw [HP.out]
        exact ⟨fin H5.out.1, Or.inl ⟨HN.out, rfl⟩⟩
      · have hl := HE.out.2.2.1 _ hs
        have hinv := ((Im.hang_inv S' 64).1 _ _ _ _ _ (show Im.Sound S' [] from ⟨List.nodup_nil, fun i hi => by cases hi⟩) hs).2
        dsimp only at hl
        obtain ⟨c, hc⟩ : ∃ c, c = 0 + (Im.preL ts).length := ⟨_, rfl⟩
        rw [← hc] at L5
        simp only [List.length_nil] at hinv
        rw [hinv, ← hc] at hl
        have l3 := L5.cell 3
        have d2 := hD5.doc.cell 2
        simp only [List.getElem?_cons_zero, List.getElem?_cons_succ] at l3 d2
        have HF := Lib.hid (And.intro hl (And.intro hG (And.intro hD5 hDn)))
        have S6 : w5.cell? ⟨X, 1, none⟩ = some (.slice ra rn rc) ∧ w5.cell? ⟨Lb, 3, none⟩ = some (.int .i64 (c : Nat)) ∧ w5.cell? ⟨d, 2, none⟩ = some (.int .i64 (z : Nat)) := ⟨S5, l3, d2⟩
        clear hl hinv hc hG hD5 L5 hDn hs l3 d2
        go_wp2_with fail
        refine ⟨S5, ?_⟩
        apply pre_lastS (fun w' : World => w'.cell? ⟨X, 1, none⟩ = some (.slice ra rn rc) ∧ w'.cell? ⟨Lb, 3, none⟩ = some (.int .i64 (c : Nat)) ∧ w'.cell? ⟨d, 2, none⟩ = some (.int .i64 (z : Nat))) (fun _ h => h.1) S6
        · iterate 12 (apply reads_consL rfl rfl; (· intro w0 hS; obtain ⟨hS0, hS1, hS2⟩ := hS; go_simp; try rfl); simp only [Act.put, List.setIfInBounds_toArray, List.set_cons_zero, List.set_cons_succ])
          exact rfl
        refine tail_zero ?_
        clear S5 S6
        by_cases hcz : c = z
        · have q1 : ((c : Int) != (z : Int)) = false := by rw [hcz]; exact bne_self_eq_false _
          have q3 : ((c : Int) == (z : Int)) = true := by rw [hcz]; exact beq_self_eq_true _
          have q2 : (c == z) = true := beq_iff_eq.2 hcz
          have hl := HF.out.1
          rw [if_pos hcz] at hl
          have HR2 := Lib.hid hl
          clear hcz hl
          go_wp2
          rw [HP.out]
          obtain ⟨_, hG, hD5, hDn⟩ := HF.out
          obtain ⟨hD, hSl, hload, hLv, hgS', hks', hz, hwz, hS', hLb⟩ := HE.out
          obtain ⟨d1, d2, d3⟩ := hDn
          obtain ⟨_, hV⟩ := Im.load_valid HR2.out
          have hcur : cur S' st' = S' := cur_all hV (fun i s h1 h2 => by
            rw [hS', List.getElem?_map] at h1
            cases hy : S[i]? with
            | none => rw [hy] at h1; cases h1
            | some y =>
              rw [hy] at h1
              obtain rfl := Option.some.inj h1
              rw [(tidy_same y).2] at h2
              exact tidy_dead y h2) d1 d3
          unfold HDoc at hD5
          rw [hcur, d2, List.nil_append] at hD5
          have e1 : Im.lives S' = z := by rw [hz, hS', Im.tidy_lives]
          have e2 : wornN S' = wz := by rw [hwz, hS', wornN_tidy]
          refine ⟨fin H5.out.1, Or.inr ⟨S', ts, d, B, ρ', _, Nv, Rv', HR2.out, rfl, by rw [e1, e2]; exact hD5, fun g hg => ?_⟩⟩
          by_cases hlt : g < W4.heap.size
          · exact H5.out.2 g (by rw [← hG.2 g hlt]; exact hg)
          · have := H4.out.2.1.size
            omega
        · have q1 : ((c : Int) != (z : Int)) = true := bne_iff_ne.2 (by omega)
          have q3 : ((c : Int) == (z : Int)) = false := beq_eq_false_iff_ne.2 (by omega)
          have q2 : (c == z) = false := beq_eq_false_iff_ne.2 hcz
          have hl := HF.out.1
          rw [if_neg hcz] at hl
          have HR2 := Lib.hid hl
          clear hcz hl
          go_wp2
          rw [HP.out]
          exact ⟨fin H5.out.1, Or.inl ⟨HR2.out, rfl⟩⟩

end Pd
end Go.Proofs.YtemmkobgpciflaaDoor
