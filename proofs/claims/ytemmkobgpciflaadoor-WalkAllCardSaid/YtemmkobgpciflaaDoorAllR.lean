/- A valid document in memory; all its nodes in document order: the document's All, walked. -/
import Derived.Test.YtemmkobgpciflaaDoorLoadS
import Derived.Test.YtemmkobgpciflaaDoorImgT
namespace Go.Proofs.YtemmkobgpciflaaDoor
open Go.RowKit
open Ch
namespace Df

/-- A document in memory: its blocks lie below B. -/
def RDoc (w : World) (B d : Nat) (S : List Im.Sl) (roots : List Nat) (ts : List Im.LT) : Prop := ∃ Sv Rv R, DocIs w d Sv Rv R ∧ RowsIs w (· < B) R S ∧ w.ownsRow 0 46 1 Rv roots.length (hcv roots) ∧ d < B ∧ (∀ g, Sv.ownBlock = some g → g < B) ∧ (∀ g, Rv.ownBlock = some g → g < B) ∧ (∀ r ∈ R, r.g < 4294967296) ∧ B ≤ w.heap.size ∧ Im.Valid S roots ts
theorem RDoc.below {w w' : World} {B d : Nat} {S : List Im.Sl} {roots : List Nat} {ts : List Im.LT} (h : RDoc w B d S roots ts) (hB : Below B w w') : RDoc w' B d S roots ts := by
  obtain ⟨Sv, Rv, R, h1, h2, h3, h4, h5, h6, h7, h8, h9⟩ := h
  have hU : Upd w w' (fun g => B ≤ g) := ⟨hB.os, hB.tape, hB.output, hB.size, fun i hi hF => hB.block i (by omega)⟩
  exact ⟨Sv, Rv, R, h1.keep hU (by omega) (fun g hg => by have := h5 g hg; omega), h2.keep hU (fun g hg => by have : g < B := hg; omega), own_keep h3 hU (fun g hg => by have := h6 g hg; omega), h4, h5, h6, h7, Nat.le_trans h8 hB.size, h9⟩
theorem RDoc.le {w : World} {B d : Nat} {S : List Im.Sl} {roots : List Nat} {ts : List Im.LT} (h : RDoc w B d S roots ts) : B ≤ w.heap.size := by
  obtain ⟨_, _, _, _, _, _, _, _, _, _, h8, _⟩ := h
  exact h8
theorem RDoc.val {w : World} {B d : Nat} {S : List Im.Sl} {roots : List Nat} {ts : List Im.LT} (h : RDoc w B d S roots ts) : Im.Valid S roots ts := by
  obtain ⟨_, _, _, _, _, _, _, _, _, _, _, h9⟩ := h
  exact h9
theorem below_low {B : Nat} {w w' : World} (h : Below w.heap.size w w') (hB : B ≤ w.heap.size) : Below B w w' := h.mono hB

/-- A list of handles that reads, its block below B. -/
def HList (w : World) (B : Nat) (v : Value) (L : List Nat) : Prop := ∃ a c, v = .slice a L.length c ∧ RdP w (· < B) 1 v L.length (hcv L)
/-- What List answers. -/
def ListC (B d h : Nat) (L : List Nat) (S : List Im.Sl) (roots : List Nat) (ts : List Im.LT) : Prop := ∀ w, RDoc w B d S roots ts → Calls Tryd.prog 115 #[.pointer (some ⟨d, 0, none⟩), .int .u64 (h : Nat)] w (fun e w' => ∃ v, e = .returned v ∧ HList w' B v L ∧ Below w.heap.size w w')
theorem list_root {B d : Nat} {S : List Im.Sl} {roots : List Nat} {ts : List Im.LT} : ListC B d 0 roots S roots ts := fun w h => by
  obtain ⟨Sv, Rv, R, h1, h2, h3, h4, h5, h6, h7, h8, h9⟩ := h
  refine (list0_any d Sv Rv R w h1).mono ?_
  rintro e w' ⟨rfl, rfl⟩
  obtain ⟨a, c, e, hc⟩ := (Rd.ofOwn h3).form
  exact ⟨Rv, rfl, ⟨a, c, e, Rd.ofOwn h3, fun _ g hg => h6 g hg⟩, Below.refl _ _⟩
theorem list_node {B d i : Nat} {s : Im.Sl} {S : List Im.Sl} {roots : List Nat} {ts : List Im.LT} (hs : S[i]? = some s) (hl : s.lv = true) : ListC B d (Im.hdl S i) s.ks S roots ts := fun w h => by
  obtain ⟨Sv, Rv, R, h1, h2, h3, h4, h5, h6, h7, h8, h9⟩ := h
  obtain ⟨r, hr, hrs⟩ := h2.get hs
  have hi := (List.getElem?_eq_some_iff.1 hs).1
  have hn := h9.len
  have e : Im.hdl S i = hand r.g i := by rw [Im.hdl_at hs, hrs.g]; rfl
  rw [e]
  refine (list_any d Sv Rv R i r w h1 hr (hrs.lv.trans hl) (h7 r (List.mem_of_getElem? hr)) (by omega)).mono ?_
  rintro e w' ⟨rfl, hB⟩
  have hk := hrs.kl.1
  exact ⟨_, rfl, ⟨r.ka, r.kc, by rw [hk], hrs.ks.keep (Upd.ofBelow (F := fun _ => False) hB) (fun _ _ h => h)⟩, hB⟩

theorem len_pre : ∀ t : Im.LT, 1 ≤ (Im.pre t).length
  | .mk i ks => by rw [Im.pre, List.length_cons]; omega
theorem len_preL : ∀ l : List Im.LT, l.length ≤ (Im.preL l).length
  | [] => Nat.le_refl _
  | t :: l => by
    have := len_pre t
    have := len_preL l
    rw [Im.preL, List.length_append, List.length_cons]
    omega
def AllPost (B : Nat) (S : List Im.Sl) (w : World) (xs add : List Nat) (e : Ending) (w' : World) : Prop := ∃ a c, e = .returned (.slice a (xs.length + add.length) c) ∧ w'.ownsRow 0 46 1 (.slice a (xs.length + add.length) c) (xs.length + add.length) (hcv (xs ++ add.map (Im.hdl S))) ∧ (∀ g, (Value.slice a (xs.length + add.length) c).ownBlock = some g → B ≤ g) ∧ Below B w w'
def AllC (B d : Nat) (S : List Im.Sl) (roots : List Nat) (ts : List Im.LT) (h : Nat) (add : List Nat) : Prop := ∀ (xs : List Nat) (a : Option Addr) (c : Nat) (w : World), RDoc w B d S roots ts → w.ownsRow 0 46 1 (.slice a xs.length c) xs.length (hcv xs) → (∀ g, (Value.slice a xs.length c).ownBlock = some g → B ≤ g) → xs.length + add.length ≤ 65536 →
    Calls Tryd.prog 71 #[.pointer (some ⟨d, 0, none⟩), .int .u64 (h : Nat), .slice a xs.length c] w (AllPost B S w xs add)
theorem hcv_app (a b : List Nat) : hcv (a ++ b) = hcv a ++ hcv b := List.map_append
theorem hcv_one (l : List Nat) : ∀ u ∈ hcv l, u.oneCell' = true := by
  intro u hu
  unfold hcv at hu
  obtain ⟨y, _, rfl⟩ := List.mem_map.1 hu
  rfl

set_option maxRecDepth 100000 in
set_option maxHeartbeats 1600000 in
theorem all_step (B d : Nat) (S : List Im.Sl) (roots : List Nat) (ts : List Im.LT) (h : Nat) (self : List Nat) (ks : List Im.LT) (hself : (h = 0 ∧ self = []) ∨ ∃ i, h = Im.hdl S i ∧ self = [i]) (HL : ListC B d h (ks.map fun t => Im.hdl S t.i) S roots ts) (ih : ∀ u ∈ ks, AllC B d S roots ts (Im.hdl S u.i) (Im.pre u)) : AllC B d S roots ts h (self ++ Im.preL ks) := by
  intro xs a c w hD hO ha hlen
  obtain ⟨q, hq⟩ : ∃ q, q = w.heap.size := ⟨_, rfl⟩
  obtain ⟨n, hn⟩ : ∃ n, n = xs.length := ⟨_, rfl⟩
  have HH := Lib.hid (And.intro hD (And.intro hO (And.intro ha (And.intro hlen (And.intro HL (And.intro ih hq))))))
  have HN := Lib.hid hn
  obtain ⟨P, hP⟩ : ∃ P : Ending → World → Prop, P = AllPost B S w xs (self ++ Im.preL ks) := ⟨_, rfl⟩
  rw [← hn, ← hP]
  have HP := Lib.hid hP
  clear hD hO ha hlen HL ih hq hn hP
  go_enter Tryd.func71, Tryd.ntmps71
  rcases hself with ⟨h0, hs0⟩ | ⟨i, h0, hs0⟩
  case' inl =>
    subst h0
    have hs1 := HH.out.2.1
    have HS : Hid (∃ ys : List Nat, w.ownsRow 0 46 1 (.slice a n c) n (hcv ys) ∧ ys.length = n ∧ ys = xs ++ self.map (Im.hdl S)) := Lib.hid ⟨xs, by rw [HN.out]; exact hs1, HN.out.symm, by rw [hs0]; simp⟩
    have HA : Hid (∀ g, (Value.slice a n c).ownBlock = some g → B ≤ g) := Lib.hid (by rw [HN.out]; exact HH.out.2.2.1)
    have HW : Hid (Below B w w) := Lib.hid (Below.refl _ _)
    obtain ⟨W, hW⟩ : ∃ W, W = w := ⟨_, rfl⟩
    rw [← hW] at HS ⊢
    have HW : Hid (Below B w W) := Lib.hid (by rw [hW]; exact Below.refl _ _)
    obtain ⟨m, hm⟩ : ∃ m, m = n := ⟨_, rfl⟩
    rw [← hm] at HS HA ⊢
    clear hs1 hW hm hs0
    go_upto_region 3 with fail
  case' inr =>
    have hne : h ≠ 0 := by rw [h0]; exact Im.hdl_ne S i
    have b1 : ((h : Int) == 0) = false := beq_eq_false_iff_ne.2 (by omega)
    have b2 : ((h : Int) != 0) = true := bne_iff_ne.2 (by omega)
    have b3 : (h == 0) = false := beq_eq_false_iff_ne.2 hne
    have HI := Lib.hid (And.intro h0 hs0)
    clear h0 hs0 hne
    go_wp2_with (at_builtin; refine halt_mk ?_)
    refine halt_go ?_
    rw [← HH.out.2.2.2.2.2.2]
    generalize hW : World.alloc _ _ = W1
    have U1 : Upd w W1 (fun _ => False) := by rw [← hW]; exact (Upd.refl w _).alloc _
    have X1 : Blk W1 q [.int .u64 (h : Nat)] 46 := by rw [← hW]; exact Blk.new' HH.out.2.2.2.2.2.2
    have O1 := own_keep HH.out.2.1 U1 (fun _ _ h => h)
    rw [← HN.out] at O1
    refine wpl_app (n := n) (m := 1) rfl rfl elemHd Tryd.underlying42 rfl O1 rfl (Rd.ofBlk X1 1 1 rfl) (by intro u hu; simp at hu; subst hu; rfl) (by have := HH.out.2.2.2.1; have := HN.out; omega) ?_
    rintro v2 W ⟨O2, U2, b4⟩
    obtain ⟨a2, c2, rfl, _⟩ := (Rd.ofOwn O2).form
    have HA : Hid (∀ g, (Value.slice a2 (n + 1) c2).ownBlock = some g → B ≤ g) := Lib.hid (fun g hg => by
      rcases b4 with e | e
      · have h1 := HH.out.2.2.1
        rw [← HN.out] at h1
        exact h1 g (e.symm.trans hg)
      · have := ob_some (e.symm.trans hg)
        have := U1.size
        have := HH.out.1.le
        omega)
    have HS : Hid (∃ ys : List Nat, W.ownsRow 0 46 1 (.slice a2 (n + 1) c2) (n + 1) (hcv ys) ∧ ys.length = n + 1 ∧ ys = xs ++ self.map (Im.hdl S)) := Lib.hid ⟨xs ++ [h], by rw [hcv_app]; exact O2, by rw [List.length_append, HN.out]; rfl, by rw [HI.out.2, HI.out.1]; rfl⟩
    have HW : Hid (Below B w W) := Lib.hid ((U1.below (HH.out.1.le) (fun _ _ h => h)).trans (U2.below (Nat.le_trans HH.out.1.le U1.size) (fun g hg e => by
      have h1 := HH.out.2.2.1
      rw [← HN.out] at h1
      have := h1 g e
      omega)))
    obtain ⟨m, hm⟩ : ∃ m, m = n + 1 := ⟨_, rfl⟩
    rw [← hm] at HS HA ⊢
    clear hW U1 X1 O1 O2 U2 b4 b1 b2 b3 HI hm
    go_upto_region 3 with fail
  all_goals
    have C := HH.out.2.2.2.2.1 W (HH.out.1.below HW.out)
    have HC := Lib.hid C
    clear C
    go_wp2_with fail
    refine HC.out.mono ?_
    rintro e w3 ⟨v, rfl, ⟨ka, kc, rfl, hK⟩, B3⟩
    obtain ⟨k, hk⟩ : ∃ k, k = (ks.map fun t => Im.hdl S t.i).length := ⟨_, rfl⟩
    rw [← hk] at hK ⊢
    have HK := Lib.hid (And.intro hK hk)
    have U3 := Upd.ofBelow (F := fun _ => False) B3
    have HW3 := Lib.hid (HW.out.trans (B3.mono (Nat.le_trans HH.out.1.le HW.out.size)))
    obtain ⟨ys0, o0, l0, e0⟩ := HS.out
    have HS3 := Lib.hid (And.intro (own_keep o0 U3 (fun _ _ h => h)) (And.intro l0 e0))
    clear hK hk B3 U3 o0 l0 e0 HC HS HW
    go_wp2
    go_loopg [2, 8] k (fun kq v2 v8 w' => ∃ (j : Nat) (aj : Option Addr) (mj cj : Nat) (ys : List Nat), v2 = .slice aj mj cj ∧ v8 = .int .i64 j ∧ Hid (kq = k - j ∧ j ≤ k) ∧ Hid (ys.length = mj ∧ ys = xs ++ (self ++ Im.preL (ks.take j)).map (Im.hdl S)) ∧ Hid (w'.ownsRow 0 46 1 (.slice aj mj cj) mj (hcv ys)) ∧ Hid (∀ g, (Value.slice aj mj cj).ownBlock = some g → B ≤ g) ∧ Hid (Below B w w') ∧ Hid (Below w3.heap.size w3 w' ∨ Below B w3 w'))
    case atStart =>
      obtain ⟨h1, h2, h3⟩ := HS3.out
      exact ⟨0, _, _, _, ys0, rfl, rfl, Lib.hid ⟨rfl, Nat.zero_le _⟩, Lib.hid ⟨h2, by rw [h3]; simp [Im.preL]⟩, Lib.hid h1, HA, HW3, Lib.hid (Or.inl (Below.refl _ _))⟩
    case round =>
      obtain ⟨j, aj, mj, cj, ys, rfl, rfl, HJ, HY, HO, HG, HB, HB3⟩ := hrel
      have hj0 : (0 : Int) ≤ (j : Int) := by omega
      by_cases hj : j < k
      · have hj1 : (j : Int) < (k : Int) := by omega
        have hj2 : decide (j < k) = true := decide_eq_true hj
        obtain ⟨u, hu⟩ : ∃ u, ks[j]? = some u := ⟨ks[j]'(by have := HK.out.2; rw [List.length_map] at this; omega), List.getElem?_eq_getElem _⟩
        have hB3 : Below B w3 wr := by
          rcases HB3.out with h | h
          · exact h.mono (Nat.le_trans HH.out.1.le HW3.out.size)
          · exact h
        have hKr := HK.out.1.keep (F := fun g => B ≤ g) ⟨hB3.os, hB3.tape, hB3.output, hB3.size, fun i hi hF => hB3.block i (Nat.lt_of_not_le hF)⟩ (fun g hg e => by have : g < B := hg; omega)
        have hcell := hKr.1.at_ (hcv_at (i := j) (h := Im.hdl S u.i) (by rw [List.getElem?_map, hu]; rfl))
        obtain ⟨lg, loff, lc', el, hlc, hcell⟩ := hcell
        simp only [Value.slice.injEq] at el
        obtain ⟨rfl, _, rfl⟩ := el
        have hpl : Im.preL (ks.take (j + 1)) = Im.preL (ks.take j) ++ Im.pre u := by rw [take_at hu, Im.preL_append, Im.preL, Im.preL, List.append_nil]
        have hbound : ys.length + (Im.pre u).length ≤ 65536 := by
          have h1 := HY.out.2
          have h2 := HH.out.2.2.2.1
          have h3 : (Im.preL (ks.take (j + 1))).length ≤ (Im.preL ks).length := by
            have := Im.preL_append (ks.take (j + 1)) (ks.drop (j + 1))
            rw [List.take_append_drop] at this
            rw [this, List.length_append]
            omega
          rw [hpl, List.length_append] at h3
          rw [h1]
          simp only [List.length_append, List.length_map] at h2 ⊢
          omega
        have IH := HH.out.2.2.2.2.2.1 u (List.mem_of_getElem? hu) ys aj cj wr (HH.out.1.below HB.out) (by rw [HY.out.1]; exact HO.out) (by rw [HY.out.1]; exact HG.out) hbound
        rw [HY.out.1] at IH
        obtain ⟨hh, hhh⟩ : ∃ hh, hh = Im.hdl S u.i := ⟨_, rfl⟩
        rw [← hhh] at IH hcell
        have HI := Lib.hid IH
        have HX := Lib.hid (And.intro hj (And.intro hpl hB3))
        clear hj hu hB3 hKr hpl hbound IH hhh
        go_wp2_with fail
        refine HI.out.mono ?_
        rintro e w5 ⟨a5, c5, rfl, O5, G5, B5⟩
        obtain ⟨m5, hm5⟩ : ∃ m5, m5 = mj + (Im.pre u).length := ⟨_, rfl⟩
        rw [HY.out.1, ← hm5] at O5 G5 ⊢
        have HF := Lib.hid (And.intro O5 (And.intro G5 (And.intro B5 hm5)))
        clear O5 G5 B5 hm5 HI hcell
        go_wp2
        go_roundg (k - (j + 1))
        case measure => have := HJ.out; have := HX.out; omega
        case rel =>
          obtain ⟨O5, G5, B5, hm5⟩ := HF.out
          obtain ⟨hj, hpl, hB3⟩ := HX.out
          refine ⟨j + 1, a5, m5, c5, ys ++ (Im.pre u).map (Im.hdl S), rfl, v64s hj (by have h1 := HH.out.2.2.2.1; have h2 := HK.out.2; rw [List.length_map] at h2; have h3 : ks.length ≤ (Im.preL ks).length := len_preL ks; rw [List.length_append] at h1; omega), Lib.hid ⟨rfl, hj⟩, Lib.hid ⟨?_, ?_⟩, Lib.hid O5, Lib.hid G5, Lib.hid (HB.out.trans B5), Lib.hid (Or.inr (hB3.trans B5))⟩
          · rw [List.length_append, List.length_map, HY.out.1, hm5]
          · rw [hpl, HY.out.2]
            simp only [List.map_append, List.append_assoc]
      · have hj1 : ¬ (j : Int) < (k : Int) := by omega
        have hj2 : decide (j < k) = false := decide_eq_false hj
        have ej : j = ks.length := by have := HJ.out; have := HK.out.2; rw [List.length_map] at this; omega
        have HE := Lib.hid ej
        clear hj ej
        go_wp2
        have hy := HY.out
        rw [HE.out, List.take_length] at hy
        have hl : mj = xs.length + (self ++ Im.preL ks).length := by rw [← hy.1, hy.2, List.length_append, List.length_map]
        rw [HP.out]
        refine ⟨aj, cj, ?_, ?_, ?_, HB.out⟩
        · rw [← hl]
        · rw [← hl, ← hy.2]
          exact HO.out
        · rw [← hl]
          exact HG.out

end Df
end Go.Proofs.YtemmkobgpciflaaDoor
