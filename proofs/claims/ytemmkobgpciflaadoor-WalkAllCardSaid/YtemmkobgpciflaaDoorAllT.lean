/- The document's All, Parent; the nodes around one; whether a list has one: walked. -/
import Derived.Test.YtemmkobgpciflaaDoorAllR
namespace Go.Proofs.YtemmkobgpciflaaDoor
open Go.RowKit
open Ch
namespace Df

theorem all_tree (B d : Nat) (S : List Im.Sl) (roots : List Nat) (ts : List Im.LT) : ∀ (t : Im.LT) (p : Nat), Im.Sd S t p → AllC B d S roots ts (Im.hdl S t.i) (Im.pre t) := by
  refine Im.LT.ind ?_
  intro i ks ih p h
  rw [Im.Sd] at h
  obtain ⟨s, h1, h2, h3, h4, h5⟩ := h
  rw [Im.pre]
  have hL := list_node (B := B) (d := d) (roots := roots) (ts := ts) h1 h2
  rw [h4] at hL
  exact all_step B d S roots ts (Im.hdl S i) [i] ks (Or.inr ⟨i, rfl, rfl⟩) hL (fun u hu => ih u hu _ (Im.SdL.all.1 h5 u hu))
theorem all_root (B d : Nat) (S : List Im.Sl) (roots : List Nat) (ts : List Im.LT) (hV : Im.Valid S roots ts) : AllC B d S roots ts 0 (Im.preL ts) := by
  have hL := list_root (B := B) (d := d) (S := S) (roots := roots) (ts := ts)
  have e : roots = ts.map fun t => Im.hdl S t.i := hV.rt
  have hL2 : ListC B d 0 (ts.map fun t => Im.hdl S t.i) S roots ts := by rw [← e]; exact hL
  exact all_step B d S roots ts 0 [] ts (Or.inl ⟨rfl, rfl⟩) hL2 (fun u hu => all_tree B d S roots ts u 0 (Im.SdL.all.1 hV.sd u hu))

theorem RDoc.up {w : World} {B B' d : Nat} {S : List Im.Sl} {roots : List Nat} {ts : List Im.LT} (h : RDoc w B d S roots ts) (hB : B ≤ B') (hB' : B' ≤ w.heap.size) : RDoc w B' d S roots ts := by
  obtain ⟨Sv, Rv, R, h1, h2, h3, h4, h5, h6, h7, h8, h9⟩ := h
  exact ⟨Sv, Rv, R, h1, h2.mono (fun g hg => Nat.lt_of_lt_of_le hg hB), h3, by omega, fun g hg => by have := h5 g hg; omega, fun g hg => by have := h6 g hg; omega, h7, hB', h9⟩
theorem RDoc.atI {w : World} {B d : Nat} {S : List Im.Sl} {roots : List Nat} {ts : List Im.LT} (h : RDoc w B d S roots ts) (a : Nat) : Calls Tryd.prog 70 #[.pointer (some ⟨d, 0, none⟩), .int .u64 (a : Nat)] w (fun e w' => e = .returned (.bool (Im.atP S a).isSome) ∧ Below w.heap.size w w') := by
  obtain ⟨Sv, Rv, R, h1, h2, h3, h4, h5, h6, h7, h8, h9⟩ := h
  rw [← h2.atR a]
  exact live_gen d Sv Rv R a w h1 h7 (by have := h9.len; have := h2.1; omega)

/-- A list of handles that a call has made. -/
def MList (w : World) (lo : Nat) (v : Value) (L : List Nat) : Prop := ∃ a c, v = .slice a L.length c ∧ w.ownsRow 0 46 1 v L.length (hcv L) ∧ ∀ g, v.ownBlock = some g → lo ≤ g
theorem MList.keep {w w' : World} {lo : Nat} {v : Value} {L : List Nat} (h : MList w lo v L) (hB : Below w.heap.size w w') : MList w' lo v L := by
  obtain ⟨a, c, e, h1, h2⟩ := h
  exact ⟨a, c, e, own_keep h1 (Upd.ofBelow (F := fun _ => False) hB) (fun _ _ h => h), h2⟩
theorem MList.hlist {w : World} {lo : Nat} {v : Value} {L : List Nat} (h : MList w lo v L) : HList w w.heap.size v L := by
  obtain ⟨a, c, e, h1, h2⟩ := h
  exact ⟨a, c, e, Rd.ofOwn h1, fun _ g hg => own_lt h1 hg⟩
theorem HList.keep {w w' : World} {v : Value} {L : List Nat} {B : Nat} (h : HList w B v L) (hB : Below w.heap.size w w') : HList w' B v L := by
  obtain ⟨a, c, e, h1⟩ := h
  exact ⟨a, c, e, h1.keep (Upd.ofBelow (F := fun _ => False) hB) (fun _ _ h => h)⟩
/-- The list of all within a node; none: it is not live. -/
def AllIs (S : List Im.Sl) (ts : List Im.LT) (n : Nat) (L : List Nat) : Prop := (n = 0 ∧ L = (Im.preL ts).map (Im.hdl S)) ∨ ∃ u q, n = Im.hdl S u.i ∧ Im.Sd S u q ∧ L = (Im.pre u).map (Im.hdl S) ∧ (Im.pre u).length ≤ 4096

set_option maxRecDepth 100000 in
set_option maxHeartbeats 1600000 in
theorem allR_any (B d : Nat) (S : List Im.Sl) (roots : List Nat) (ts : List Im.LT) (n : Nat) (L : List Nat) (w : World) (hD : RDoc w B d S roots ts) (hL : AllIs S ts n L) :
    Calls Tryd.prog 24 #[.pointer (some ⟨d, 0, none⟩), .int .u64 (n : Nat)] w (fun e w' => ∃ v, e = .returned (.tuple #[v, .int .i64 0]) ∧ MList w' w.heap.size v L ∧ Below w.heap.size w w') := by
  have hV := hD.val
  have hc := hV.count
  obtain ⟨ix, hix, hlen, hA⟩ : ∃ ix : List Nat, L = ix.map (Im.hdl S) ∧ ix.length ≤ 4096 ∧ AllC w.heap.size d S roots ts n ix := by
    rcases hL with ⟨rfl, h⟩ | ⟨u, q, rfl, h1, h2, h3⟩
    · exact ⟨_, h, hc, all_root _ d S roots ts hV⟩
    · exact ⟨_, h2, h3, all_tree _ d S roots ts u q h1⟩
  have hlive : n = 0 ∨ (n ≠ 0 ∧ (Im.atP S n).isSome = true) := by
    rcases hL with ⟨h, _⟩ | ⟨u, q, h, h1, _, _⟩
    · exact Or.inl h
    · refine Or.inr ⟨by rw [h]; exact Im.hdl_ne S _, ?_⟩
      cases u with
      | mk i ks =>
      rw [Im.Sd] at h1
      obtain ⟨s, g1, g2, _⟩ := h1
      have hi := (List.getElem?_eq_some_iff.1 g1).1
      have := hV.len
      rw [h, Im.LT.i, Im.atP_hdl g1 g2 (by omega)]
      rfl
  have hLlen : L.length = ix.length := by rw [hix, List.length_map]
  have CL := hD.atI n
  obtain ⟨P, hP⟩ : ∃ P : Ending → World → Prop, P = fun e w' => ∃ v, e = .returned (.tuple #[v, .int .i64 0]) ∧ MList w' w.heap.size v L ∧ Below w.heap.size w w' := ⟨_, rfl⟩
  rw [← hP]
  have HP := Lib.hid hP
  have HH := Lib.hid (And.intro hD (And.intro hA (And.intro hlen (And.intro hix hLlen))))
  have HC := Lib.hid CL
  clear hV hc hix hlen hA hL hLlen CL hD hP
  go_enter Tryd.func24, Tryd.ntmps24
  rcases hlive with h0 | ⟨h0, h1⟩
  case' inl =>
    have HZ := Lib.hid h0
    have b1 : ((n : Int) == 0) = true := beq_iff_eq.2 (by omega)
    have b2 : ((n : Int) != 0) = false := by rw [bne, b1]; rfl
    have b3 : (n == 0) = true := beq_iff_eq.2 h0
    obtain ⟨w1, hw1⟩ : ∃ w1, w1 = w := ⟨_, rfl⟩
    have HB : Hid (Below w.heap.size w w1) := Lib.hid (by rw [hw1]; exact Below.refl _ _)
    rw [← hw1]
    clear hw1 h0
    go_upto_region 3 with fail
  case' inr =>
    have b1 : ((n : Int) == 0) = false := beq_eq_false_iff_ne.2 (by omega)
    have b2 : ((n : Int) != 0) = true := bne_iff_ne.2 (by omega)
    have b3 : (n == 0) = false := beq_eq_false_iff_ne.2 h0
    rw [h1] at HC
    clear h0 h1
    go_wp2_with fail
    refine HC.out.mono ?_
    rintro e w1 ⟨rfl, B1⟩
    have HB := Lib.hid B1
    clear B1
    go_upto_region 3 with fail
  all_goals
    obtain ⟨q, hq⟩ : ∃ q, q = w1.heap.size := ⟨_, rfl⟩
    have HQ := Lib.hid hq
    obtain ⟨W2, hW2⟩ : ∃ W2, W2 = w1.alloc (.cells #[] 46) := ⟨_, rfl⟩
    have U2 : Upd w1 W2 (fun _ => False) := by rw [hW2]; exact (Upd.refl w1 _).alloc _
    have O2 : W2.ownsRow 0 46 1 (.slice (some ⟨q, 0, none⟩) 0 0) 0 [] := by rw [hW2]; exact own_lit_sz hq
    have B2 : Below w.heap.size w W2 := HB.out.trans (U2.below (F := fun _ => False) HB.out.size (fun _ _ h => h))
    have C := HH.out.2.1 [] (some ⟨q, 0, none⟩) 0 W2 ((HH.out.1.below (B2.mono HH.out.1.le)).up HH.out.1.le B2.size) O2 (fun g hg => by have := ob_eq hg; have := HB.out.size; omega) (by have := HH.out.2.2.1; simp; omega)
    rw [hW2] at C
    simp only [List.length_nil, Nat.zero_add] at C
    have HA := Lib.hid C
    have HW := Lib.hid (And.intro B2 hW2)
    clear hq U2 O2 B2 C hW2 HC
    go_wp2_with fail
    rw [← HQ.out]
    refine HA.out.mono ?_
    rintro e w3 ⟨a, c, rfl, O, G, B3⟩
    have B3' : Below w.heap.size W2 w3 := by rw [HW.out.2]; exact B3
    obtain ⟨m, hm⟩ : ∃ m, m = ([] : List Nat).length + (ix).length := ⟨_, rfl⟩
    rw [← hm] at O G ⊢
    have HF := Lib.hid (And.intro O (And.intro G (And.intro (HW.out.1.trans B3') hm)))
    clear O G B3 B3' hm HA HQ
    go_wp2
    rw [HP.out]
    obtain ⟨O, G, B3, hm⟩ := HF.out
    have hm2 : m = L.length := by rw [hm, HH.out.2.2.2.2]; simp
    rw [hm2] at O G ⊢
    rw [List.nil_append, ← HH.out.2.2.2.1] at O
    exact ⟨_, rfl, ⟨a, c, rfl, O, G⟩, B3⟩

set_option maxRecDepth 100000 in
set_option maxHeartbeats 1600000 in
/-- The document's Parent of a live node. -/
theorem parentR_any (B d : Nat) (S : List Im.Sl) (roots : List Nat) (ts : List Im.LT) (n i : Nat) (s : Im.Sl) (w : World) (hD : RDoc w B d S roots ts) (ha : Im.atP S n = some i) (hs : S[i]? = some s) :
    Calls Tryd.prog 122 #[.pointer (some ⟨d, 0, none⟩), .int .u64 (n : Nat)] w (fun e w' => e = .returned (.tuple #[.int .u64 (s.p : Nat), .int .i64 0]) ∧ Below w.heap.size w w') := by
  obtain ⟨Sv, Rv, R, h1, h2, h3, h4, h5, h6, h7, h8, h9⟩ := hD
  obtain ⟨r, hr, hrs⟩ := h2.get hs
  have C := at_gen d Sv Rv R n w h1 h7 (by have := h9.len; have := h2.1; omega)
  have hat : atI R n = (i : Nat) := by unfold atI; rw [h2.atR n, ha]
  rw [hat] at C
  have i0 : ¬ ((i : Int) < 0) := by omega
  have i00 : (0 : Int) ≤ (i : Int) := by omega
  have hin := (List.getElem?_eq_some_iff.1 hr).1
  obtain ⟨p, hp⟩ : ∃ p, p = s.p := ⟨_, rfl⟩
  rw [← hp]
  have HH := Lib.hid (And.intro h1 (And.intro hr (And.intro hrs hp)))
  have HC := Lib.hid C
  obtain ⟨m, hm⟩ : ∃ m, m = R.length := ⟨_, rfl⟩
  have i1 : (i : Int) < (m : Int) := by omega
  have HM := Lib.hid hm
  clear h1 h2 h3 h4 h5 h6 h7 h8 h9 hr hrs C hat hin hp hm hs ha
  go_enter Tryd.func122, Tryd.ntmps122
  go_wp2_with fail
  refine HC.out.mono ?_
  rintro e w2 ⟨rfl, B2⟩
  have D2 := HH.out.1.below B2
  obtain ⟨g, c, e, hc, _, _, _, _, _, _, r6, _, _⟩ := D2.row HH.out.2.1
  subst e
  have d0 := D2.blk.cell 0
  simp only [List.getElem?_cons_zero] at d0
  rw [← HM.out] at d0 hc
  rw [HH.out.2.2.1.p, ← HH.out.2.2.2] at r6
  have HB := Lib.hid B2
  clear D2 B2 HC
  go_wp2
  go_ret2
  exact ⟨rfl, HB.out⟩

set_option maxRecDepth 100000 in
set_option maxHeartbeats 1600000 in
/-- has: whether a list has a node. -/
theorem has_any (L : List Nat) (a : Option Addr) (c n B : Nat) (w : World) (hR : RdP w (· < B) 1 (.slice a L.length c) L.length (hcv L)) (hl : L.length ≤ 1099511627776) :
    Calls Tryd.prog 78 #[.slice a L.length c, .int .u64 (n : Nat)] w (fun e w' => e = .returned (.bool (decide (n ∈ L))) ∧ w' = w) := by
  obtain ⟨m, hm⟩ : ∃ m, m = L.length := ⟨_, rfl⟩
  obtain ⟨b, hb⟩ : ∃ b, b = decide (n ∈ L) := ⟨_, rfl⟩
  rw [← hm, ← hb]
  have HH := Lib.hid (And.intro hR (And.intro hl (And.intro hm hb)))
  clear hR hl hm hb
  go_enter Tryd.func78, Tryd.ntmps78
  go_wp2
  go_loopg [5] m (fun kq v5 w' => ∃ i : Nat, v5 = .int .i64 i ∧ Hid (kq = m - i ∧ i ≤ m) ∧ Hid (∀ j x, j < i → L[j]? = some x → x ≠ n) ∧ w' = w)
  case atStart => exact ⟨0, rfl, Lib.hid ⟨rfl, Nat.zero_le _⟩, Lib.hid (fun j x hj => by omega), rfl⟩
  case round =>
    obtain ⟨i, rfl, HI, HN, rfl⟩ := hrel
    have hi0 : (0 : Int) ≤ (i : Int) := by omega
    by_cases hi : i < m
    · have hi1 : (i : Int) < (m : Int) := by omega
      have hi2 : decide (i < m) = true := decide_eq_true hi
      obtain ⟨x, hx⟩ : ∃ x, L[i]? = some x := ⟨L[i]'(by have := HH.out.2.2.1; omega), List.getElem?_eq_getElem _⟩
      obtain ⟨lg, loff, lc', el, hlc, hcell⟩ := HH.out.1.1.at_ (hcv_at hx)
      simp only [Value.slice.injEq] at el
      obtain ⟨rfl, _, rfl⟩ := el
      rw [← HH.out.2.2.1] at hlc
      have HX := Lib.hid (And.intro hx hi)
      clear hx hi
      by_cases hxn : x = n
      · have b1 : ((x : Int) == (n : Int)) = true := beq_iff_eq.2 (by omega)
        have b2 : (x == n) = true := beq_iff_eq.2 hxn
        have hmem : b = true := by rw [HH.out.2.2.2]; exact decide_eq_true (hxn ▸ List.mem_of_getElem? HX.out.1)
        have HMm := Lib.hid hmem
        subst hxn
        clear hmem
        go_wp2
        go_ret
        exact ⟨by rw [HMm.out]; rfl, rfl⟩
      · have b1 : ((x : Int) == (n : Int)) = false := beq_eq_false_iff_ne.2 (by omega)
        have b2 : (x == n) = false := beq_eq_false_iff_ne.2 hxn
        have HXn := Lib.hid hxn
        clear hxn
        go_wp2
        go_roundg (m - (i + 1))
        case measure => have := HI.out; have := HX.out; omega
        case rel =>
          refine ⟨i + 1, v64s HX.out.2 (by have := HH.out; omega), Lib.hid ⟨rfl, HX.out.2⟩, Lib.hid (fun j y hj hy => ?_), rfl⟩
          by_cases ej : j < i
          · exact HN.out j y ej hy
          · obtain rfl : j = i := by omega
            rw [HX.out.1] at hy
            rw [← Option.some.inj hy]
            exact HXn.out
    · have hi1 : ¬ (i : Int) < (m : Int) := by omega
      have hi2 : decide (i < m) = false := decide_eq_false hi
      have ei : i = L.length := by have := HI.out; have := HH.out.2.2.1; omega
      have hmem : b = false := by
        rw [HH.out.2.2.2]
        refine decide_eq_false (fun h => ?_)
        obtain ⟨j, hj⟩ := List.getElem?_of_mem h
        exact HN.out j n (by rw [ei]; exact (List.getElem?_eq_some_iff.1 hj).1) hj rfl
      have HMm := Lib.hid hmem
      clear hi ei hmem
      go_wp2
      go_ret
      exact ⟨by rw [HMm.out]; rfl, rfl⟩

end Df
end Go.Proofs.YtemmkobgpciflaaDoor
