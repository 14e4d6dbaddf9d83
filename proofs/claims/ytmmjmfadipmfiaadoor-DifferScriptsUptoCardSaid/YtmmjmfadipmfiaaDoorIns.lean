/- A tree's size and depth; a root put last: walked. -/
import Derived.Test.YtmmjmfadipmfiaaDoorMake
import Derived.Test.YtmmjmfadipmfiaaDoorScript
namespace Go.Proofs.YtmmjmfadipmfiaaDoor
open Go.RowKit
open Ch
namespace Df

theorem height_le : ∀ t : T, T.height t ≤ T.size t := by
  refine T.ind ?_
  intro k n al t ks ih
  rw [T.height, T.size]
  have key : ∀ (r : List T), (∀ x ∈ r, x ∈ ks) → T.heightL r ≤ T.sizeL r := by
    intro r
    induction r with
    | nil => intro _; simp [T.heightL]
    | cons x r ihr =>
      intro hr
      rw [T.heightL, T.sizeL]
      have h1 := ih x (hr x (by simp))
      have h2 := ihr fun y hy => hr y (by simp [hy])
      omega
  have := key ks fun _ h => h
  split <;> omega
theorem heightL_take {l : List T} {i : Nat} : T.heightL (l.take i) ≤ T.sizeL (l.take i) := by
  induction l.take i with
  | nil => simp [T.heightL]
  | cons x r ih =>
    rw [T.heightL, T.sizeL]
    have := height_le x
    omega

set_option maxRecDepth 100000 in
set_option maxHeartbeats 1600000 in
theorem size_any (P : Nat → Prop) : ∀ t, ∀ (cs : List Value) (w : World), TreeAt w P t cs → Fits t → T.size t ≤ 4096 → Calls Tryd.prog 59 #[.agg cs.toArray] w fun e w' => e = .returned (.tuple #[.int .i64 (T.size t : Nat), .int .i64 (T.height t : Nat)]) ∧ Below w.heap.size w w' := by
  refine T.ind ?_
  intro k nm al tx ks ih cs w hA hF hS
  obtain ⟨aa, ca, ak, ck, rfl, _, hFo⟩ := TreeAt.forest hA
  have hsm := hF.small
  unfold Small at hsm
  obtain ⟨l, ka0, kc0, hl1, hl2, hl3⟩ : ∃ (l : List T) (ka0 : Option Addr) (kc0 : Nat), l = (if k = 1 then ks else []) ∧ (if k = 1 then Value.slice ak ks.length ck else .slice none 0 0) = .slice ka0 l.length kc0 ∧ Forest w P l ka0 kc0 := by
    by_cases h : k = 1
    · exact ⟨ks, ak, ck, by rw [if_pos h], by rw [if_pos h], hFo⟩
    · refine ⟨[], none, 0, by rw [if_neg h], by rw [if_neg h]; rfl, [], ⟨Rd.nil _ _, fun h => absurd rfl h⟩, ?_⟩
      exact (by rw [ForestIs] : ForestIs (RdP w P 2) (RdP w P 5) [] [])
  have hlm : ∀ x ∈ l, x ∈ ks := by
    intro x hx
    rw [hl1] at hx
    split at hx
    · exact hx
    · cases hx
  have hsz : T.size (.mk k nm al tx ks) = T.sizeL l + 1 := by
    rw [T.size, hl1]
    split
    · rfl
    · rw [T.sizeL]
  have hht : T.height (.mk k nm al tx ks) = T.heightL l + 1 := by
    rw [T.height, hl1]
    split
    · rfl
    · rw [T.heightL]
  have hln : l.length ≤ 4096 := by have := sizeL_len l; omega
  have K := kids_any k nm tx (.slice aa al.length ca) ak ks.length ck
  rw [hl2] at K
  obtain ⟨S, hSd⟩ : ∃ S, S = T.size (.mk k nm al tx ks) := ⟨_, rfl⟩
  obtain ⟨H, hHd⟩ : ∃ H, H = T.height (.mk k nm al tx ks) := ⟨_, rfl⟩
  rw [← hSd, ← hHd]
  have HH := Lib.hid (And.intro hl3 (And.intro (fun x hx => ih x (hlm x hx)) (And.intro (fun x hx => hF.kid x (hlm x hx)) (And.intro (show S ≤ 4096 by rw [hSd]; exact hS) (And.intro (hSd.trans hsz) (And.intro (hHd.trans hht) hln))))))
  have HK := Lib.hid K
  have B0 : ∀ o, Below w.heap.size w (w.alloc o) := fun o => below_al (Below.refl _ _) (Nat.le_refl _) o
  clear hl1 hl2 hl3 hlm hsz hht hln K hA hF hS ih hFo hsm hSd hHd
  go_enter Tryd.func59, Tryd.ntmps59
  go_wp2_with fail
  refine (HK.out _).mono ?_
  rintro e w2 ⟨rfl, B2⟩
  have B2 := below_tr (B0 _) B2
  have H2 := Lib.hid B2
  clear B2 B0
  go_wp2
  go_loopg [4, 5, 7, 8, 9] l.length (fun kq v4 v5 v7 v8 v9 w' => ∃ j n h : Nat, v4 = .int .i64 n ∧ v5 = .int .i64 h ∧ v7 = .int .i64 j ∧ Hid (kq = l.length - j ∧ j ≤ l.length ∧ n = 1 + T.sizeL (l.take j) ∧ h = T.heightL (l.take j)) ∧ Hid (Below w.heap.size w w'))
  case atStart => exact ⟨0, 1, 0, rfl, rfl, rfl, Lib.hid ⟨rfl, Nat.zero_le _, by simp [T.sizeL], by simp [T.heightL]⟩, H2⟩
  case round =>
    obtain ⟨j, n, h, rfl, rfl, rfl, HJ, HB⟩ := hrel
    have hj0 : (0 : Int) ≤ (j : Int) := by omega
    by_cases hj : j < l.length
    · have hj1 : (j : Int) < (l.length : Int) := by omega
      have hj2 : decide (j < l.length) = true := decide_eq_true hj
      obtain ⟨x, hx⟩ : ∃ x, l[j]? = some x := ⟨l[j], List.getElem?_eq_getElem hj⟩
      have hxm := List.mem_of_getElem? hx
      obtain ⟨g1, off, xk, xn, xa, xla, xca, xt, xkk, xlk, xkc, rfl, hck, y0, y1, y2, y3, y4, hxA⟩ := (HH.out.1.keep (Upd.ofBelow (F := fun _ => False) HB.out) (fun _ _ h => h)).kid hx
      have hszx := size_mem hx
      have hat := sizeL_at hx
      have hht := heightL_at hx
      have hle := height_le x
      have hle2 := heightL_take (l := l) (i := j)
      have C := HH.out.2.1 x hxm _ wr hxA (HH.out.2.2.1 x hxm) (by have := HH.out; omega)
      obtain ⟨sx, hsx⟩ : ∃ s, s = T.size x := ⟨_, rfl⟩
      obtain ⟨hx', hhx⟩ : ∃ s, s = T.height x := ⟨_, rfl⟩
      rw [← hsx, ← hhx] at C
      have b1 : (n : Int) ≤ 5000 := by have := HJ.out; have := HH.out; omega
      have b2 : (sx : Int) ≤ 5000 := by have := HH.out; omega
      have b3 : (hx' : Int) ≤ 5000 := by have := HH.out; omega
      have HC := Lib.hid C
      have HX := Lib.hid (And.intro hj (And.intro hat (And.intro hht (And.intro hsx hhx))))
      clear hx hj hxm hxA hszx hat hht hle hle2 C hsx hhx
      go_wp2_with fail
      refine HC.out.mono ?_
      rintro e w3 ⟨rfl, B3⟩
      have H3 := Lib.hid (below_tr HB.out B3)
      clear B3 y0 y1 y2 y3 y4
      by_cases hc : h < hx'
      · have hc1 : (h : Int) < (hx' : Int) := by omega
        have HCC := Lib.hid hc
        go_wp2
        go_roundg (l.length - (j + 1))
        case measure => have := HJ.out; have := HX.out; omega
        case rel =>
          have h1 := HJ.out
          have h2 := HX.out
          have h3 := HCC.out
          exact ⟨j + 1, n + sx, hx', by go_num, rfl, v64s h2.1 (by have := HH.out; omega), Lib.hid ⟨rfl, h2.1, by omega, by omega⟩, H3⟩
      · have hc1 : ¬ (h : Int) < (hx' : Int) := by omega
        have HCC := Lib.hid hc
        go_wp2
        go_roundg (l.length - (j + 1))
        case measure => have := HJ.out; have := HX.out; omega
        case rel =>
          have h1 := HJ.out
          have h2 := HX.out
          have h3 := HCC.out
          exact ⟨j + 1, n + sx, h, by go_num, rfl, v64s h2.1 (by have := HH.out; omega), Lib.hid ⟨rfl, h2.1, by omega, by omega⟩, H3⟩
    · have hj1 : ¬ (j : Int) < (l.length : Int) := by omega
      have hj2 : decide (j < l.length) = false := decide_eq_false hj
      have ej : j = l.length := by have := HJ.out; omega
      have hq := HJ.out
      have hh := HH.out.2.2.2
      rw [ej, List.take_length] at hq
      have eS : S = n := by omega
      have eH : H = h + 1 := by omega
      have b2 : (h : Int) ≤ 5000 := by have := heightL_take (l := l) (i := l.length); rw [List.take_length] at this; omega
      have HE := Lib.hid (And.intro eS eH)
      clear hj ej hq hh eS eH
      go_wp2
      go_ret2
      exact ⟨ret_ii (by rw [HE.out.1]) (by rw [HE.out.2]; first | rfl | (rw [Go.IntWalk.wrap64_in _ (by omega)]; rfl)), HB.out⟩

set_option maxRecDepth 100000 in
set_option maxHeartbeats 1600000 in
theorem set0_any (d : Nat) (Sv Rv : Value) (ra : Option Addr) (rn rc : Nat) (w : World) (hB : Blk w d [Sv, Rv] 86) :
    Calls Tryd.prog 80 #[.pointer (some ⟨d, 0, none⟩), .int .u64 0, .slice ra rn rc] w (fun e w' => e = .returned (.tuple #[]) ∧ Blk w' d [Sv, .slice ra rn rc] 86 ∧ Upd w w' (· = d)) := by
  have d1 := hB.cell 1
  have f1 := hB.free 1
  simp only [List.getElem?_cons_zero, List.getElem?_cons_succ] at d1
  have HH := Lib.hid hB
  clear hB
  go_enter Tryd.func80, Tryd.ntmps80
  go_wp2
  go_end0
  exact ⟨rfl, HH.out.set 1 _, (Upd.refl w (· = d)).set ⟨d, 1, none⟩ _ (fun _ => rfl)⟩

/-- A document whose rows are a forest's. -/
structure DocSt (w : World) (B d : Nat) (gn : Nat → Nat) (k ge m : Nat) (f : List T) (Sv : Value) (ra : Option Addr) (rc : Nat) (N : List Row) : Prop where
  doc : DocIs w d Sv (.slice ra f.length rc) (List.replicate k (dead 1) ++ N ++ List.replicate m (dead ge))
  live : ∀ r ∈ N, r.lv = true
  len : N.length = T.sizeL f
  slots : SlF w (fun g => B ≤ g ∧ g < w.heap.size ∧ Sv.ownBlock ≠ some g ∧ g ≠ d) gn f k 0 N
  roots : w.ownsRow 0 62 1 (.slice ra f.length rc) f.length (hands gn k f)
  svB : ∀ g, Sv.ownBlock = some g → B ≤ g
  rB : ∀ g, (Value.slice ra f.length rc).ownBlock = some g → B ≤ g
  dB : B ≤ d

set_option maxRecDepth 100000 in
set_option maxHeartbeats 1600000 in
/-- A handle put behind the roots. -/
theorem put0_any (d : Nat) (Sv : Value) (ra : Option Addr) (n rc : Nat) (hs : List Value) (R : List Row) (i : Nat) (r : Row) (w : World) (hD : DocIs w d Sv (.slice ra n rc) R) (hr : R[i]? = some r) (hl : r.lv = true) (hg : r.g < 4294967296) (hi : i < 1048576) (hp : r.p = 0) (hR : w.ownsRow 0 62 1 (.slice ra n rc) n hs) (h1 : ∀ u ∈ hs, u.oneCell' = true) (hn : n ≤ 1048576) :
    Calls Tryd.prog 63 #[.pointer (some ⟨d, 0, none⟩), .int .u64 (hand r.g i : Nat), .int .u64 0, .int .i64 2, .int .u64 0] w (fun e w' => e = .returned (.tuple #[]) ∧ ∃ ra' rc', DocIs w' d Sv (.slice ra' (n + 1) rc') R ∧ w'.ownsRow 0 62 1 (.slice ra' (n + 1) rc') (n + 1) (hs ++ [.int .u64 (hand r.g i : Nat)]) ∧ (∀ g, (Value.slice ra' (n + 1) rc').ownBlock = some g → w.heap.size ≤ g) ∧ Upd w w' (fun g => g = d ∨ Sv.ownBlock = some g)) := by
  have C := list0_any d Sv (.slice ra n rc) R w hD
  obtain ⟨s1, q1, R1, _⟩ := (Rd.ofOwn hR).cutH elemHd Tryd.underlying84 (Nat.le_refl n) .i64
  obtain ⟨s2, q2, R2, _⟩ := (Rd.ofOwn hR).cutL elemHd Tryd.underlying84 (Nat.le_refl n) .i64
  have hl1 : hs.length = n := by have := hR.1; omega
  rw [Nat.mul_one, ← hl1, List.take_length, hl1] at R1
  rw [Nat.mul_one, ← hl1, List.drop_length, hl1, Nat.sub_self] at R2
  obtain ⟨X, hX⟩ : ∃ X, X = hand r.g i := ⟨_, rfl⟩
  have HH := Lib.hid (And.intro hD (And.intro hr (And.intro hl (And.intro hg (And.intro hi (And.intro hp (And.intro hR (And.intro h1 (And.intro hn (And.intro R1 (And.intro R2 hX)))))))))))
  rw [← hX]
  have HC := Lib.hid C
  clear hD hr hl hg hi hp hR h1 hn R1 R2 hl1 C hX
  go_enter Tryd.func63, Tryd.ntmps63
  go_wp2_with fail
  refine HC.out.mono ?_
  rintro e w2 ⟨rfl, rfl⟩
  clear HC
  go_wp2_with (at_builtin; refine halt_mk ?_)
  refine halt_go ?_
  obtain ⟨q, hq⟩ : ∃ q, q = w2.heap.size := ⟨_, rfl⟩
  have HQ := Lib.hid hq
  rw [← hq]
  clear hq
  generalize hW : World.alloc _ _ = W1
  have T1 : Upd w2 W1 (fun _ => False) := by rw [← hW]; exact (Upd.refl w2 _).alloc _
  have O1 : W1.ownsRow 0 62 1 (.slice (some ⟨q, 0, none⟩) 0 0) 0 [] := by rw [← hW]; exact own_lit_sz HQ.out
  clear hW
  obtain ⟨hD, hr, hl, hg, hi, hp, hR, h1, hn, R1, R2, hX⟩ := HH.out
  have hsl1 : ∀ g, s1.ownBlock = some g → (Value.slice ra n rc).ownBlock = some g := by assumption
  refine wpl_app (n := 0) (m := n) rfl rfl elemHd Tryd.underlying84 rfl O1 rfl (R1.keep T1 (fun _ _ h => h)) h1 (by omega) ?_
  rintro v3 w3 ⟨O3, U3, b3⟩
  rw [Nat.zero_add, List.nil_append] at O3
  have V3 : Upd w2 w3 (fun _ => False) := T1.trans U3 (fun g hg e => by have := ob_eq e; have := HQ.out; omega)
  have hv3 : ∀ g, v3.ownBlock = some g → w2.heap.size ≤ g := fun g hg => by
    rcases b3 with e | e
    · have := ob_eq (e.symm.trans hg); have := HQ.out; omega
    · have := ob_some (e.symm.trans hg); have := T1.size; omega
  obtain ⟨a3, c3, rfl, _⟩ := (Rd.ofOwn O3).form
  have H3 := Lib.hid (And.intro O3 (And.intro V3 hv3))
  clear O1 T1 O3 U3 b3 V3 hv3 hD hr hl hg hi hp hR h1 hn R1 R2 hX hsl1
  go_wp2_with (at_builtin; refine halt_mk ?_)
  refine halt_go ?_
  obtain ⟨q2', hq2⟩ : ∃ q, q = w3.heap.size := ⟨_, rfl⟩
  have HQ2 := Lib.hid hq2
  rw [← hq2]
  clear hq2
  generalize hW : World.alloc _ _ = W4
  have T4 : Upd w3 W4 (fun _ => False) := by rw [← hW]; exact (Upd.refl w3 _).alloc _
  have X4 : Blk W4 q2' [.int .u64 (X : Nat)] 62 := by rw [← hW]; exact Blk.new' HQ2.out
  clear hW
  refine wpl_app (n := n) (m := 1) rfl rfl elemHd Tryd.underlying84 rfl (own_keep H3.out.1 T4 (fun _ _ h => h)) rfl (Rd.ofBlk X4 1 1 rfl) (by intro u hu; simp at hu; subst hu; rfl) (by have := HH.out.2.2.2.2.2.2.2.2.1; omega) ?_
  rintro v5 w5 ⟨O5, U5, b5⟩
  have V5 : Upd w2 w5 (fun _ => False) := (H3.out.2.1.trans T4 (fun _ _ h => h)).trans U5 (fun g hg e => by have := H3.out.2.2 g e; omega)
  have hv5 : ∀ g, v5.ownBlock = some g → w2.heap.size ≤ g := fun g hg => by
    rcases b5 with e | e
    · exact H3.out.2.2 g (e ▸ hg)
    · have := ob_some (e.symm.trans hg); have := T4.size; have := H3.out.2.1.size; omega
  obtain ⟨a5, c5, rfl, _⟩ := (Rd.ofOwn O5).form
  have H5 := Lib.hid (And.intro O5 (And.intro V5 hv5))
  clear T4 X4 O5 U5 b5 V5 hv5
  go_wp2_with (at_builtin; refine halt_mk ?_)
  refine halt_go ?_
  refine wpl_app (n := n + 1) (m := 0) rfl rfl elemHd Tryd.underlying84 rfl H5.out.1 rfl (HH.out.2.2.2.2.2.2.2.2.2.2.1.keep H5.out.2.1 (fun _ _ h => h)) (by intro u hu; cases hu) (by have := HH.out.2.2.2.2.2.2.2.2.1; omega) ?_
  rintro v6 w6 ⟨O6, U6, b6⟩
  rw [List.append_nil] at O6
  have V6 : Upd w2 w6 (fun _ => False) := H5.out.2.1.trans U6 (fun g hg e => by have := H5.out.2.2 g e; omega)
  have hv6 : ∀ g, v6.ownBlock = some g → w2.heap.size ≤ g := fun g hg => by
    rcases b6 with e | e
    · exact H5.out.2.2 g (e ▸ hg)
    · have := ob_some (e.symm.trans hg); have := H5.out.2.1.size; omega
  obtain ⟨a6, c6, rfl, _⟩ := (Rd.ofOwn O6).form
  have D6 := HH.out.1.keep V6 (fun h => h) (fun _ _ h => h)
  have C6 := set0_any d Sv (.slice ra n rc) a6 (n + 1) c6 w6 D6.blk
  have HC6 := Lib.hid C6
  have H6 := Lib.hid (And.intro O6 (And.intro V6 (And.intro hv6 D6)))
  clear O6 U6 b6 V6 hv6 D6 C6 q1 q2
  go_wp2_with fail
  refine HC6.out.mono ?_
  rintro e w7 ⟨rfl, B7, U7⟩
  have D7 : DocIs w7 d Sv (.slice a6 (n + 1) c6) R := ⟨B7, own_keep H6.out.2.2.2.own U7 (fun g hg e => H6.out.2.2.2.ne (e ▸ hg))⟩
  have O7 : w7.ownsRow 0 62 1 (.slice a6 (n + 1) c6) (n + 1) (hs ++ [.int .u64 (X : Nat)]) := own_keep H6.out.1 U7 (fun g hg e => by have := H6.out.2.2.1 g hg; have := HH.out.1.blk.lt; omega)
  have V7 : Upd w2 w7 (· = d) := (H6.out.2.1.mono (fun _ _ h => h.elim)).trans U7 (fun _ _ h => h)
  have hil := (List.getElem?_eq_some_iff.1 HH.out.2.1).1
  obtain ⟨sg, sc, rfl, hsc, _, _, _, _, _, _, k6, _, fz⟩ := D7.row HH.out.2.1
  have d0 := D7.blk.cell 0
  simp only [List.getElem?_cons_zero] at d0
  obtain ⟨m, hm⟩ : ∃ m, m = R.length := ⟨_, rfl⟩
  have D7d : DocIs w7.drew d (.slice (some ⟨sg, 0, none⟩) R.length sc) (.slice a6 (n + 1) c6) R := D7.keep (Upd.refl w7 (fun _ => False)).drew (fun h => h) (fun _ _ h => h)
  have C7 := at_any d _ _ R i r w7.drew D7d HH.out.2.1 HH.out.2.2.1 HH.out.2.2.2.1 HH.out.2.2.2.2.1
  rw [← HH.out.2.2.2.2.2.2.2.2.2.2.2] at C7
  rw [← hm] at d0 hil hsc
  have i0 : (0 : Int) ≤ (i : Int) := Int.natCast_nonneg _
  have i1 : (i : Int) < (m : Int) := Int.ofNat_lt.2 hil
  have HC7 := Lib.hid C7
  have H7 := Lib.hid (And.intro D7 (And.intro O7 (And.intro V7 hm)))
  clear B7 U7 D7 O7 V7 hil fz k6 hm D7d C7
  go_wp2
  apply wp_reg (fun w' : World => w'.cell? ⟨d, 0, none⟩ = some (.slice (some ⟨sg, 0, none⟩) m sc)) [0, 1, 2, 3, 4, 5, 7] [6] [8, 9, 10] (by kernel_rfl) (by kernel_rfl) (fun _ _ d _ _ h => by cases d <;> exact h) d0
  · iterate 7 (apply reads_consL rfl rfl; (· intro w0 hS; go_simp; try rfl); simp only [Act.put, List.setIfInBounds_toArray, List.set_cons_zero, List.set_cons_succ])
    exact rfl
  clear d0
  refine tail_consL rfl ?_
  go_wp2_with fail
  refine HC7.out.mono ?_
  rintro e w8 ⟨rfl, B8⟩
  have U8 : Upd w7 w8 (fun _ => False) := (Upd.refl w7 (fun _ => False)).drew.trans (Upd.ofBelow (F := fun _ => False) B8) (fun _ _ h => h)
  have D8 := H7.out.1.keep U8 (fun h => h) (fun _ _ h => h)
  have d0 : w8.cell? ⟨d, 0, none⟩ = some (.slice (some ⟨sg, 0, none⟩) m sc) := by rw [H7.out.2.2.2]; exact D8.blk.cell 0
  obtain ⟨g', c', e, _, _, _, _, _, _, _, k6, _, fz⟩ := D8.row HH.out.2.1
  simp only [Value.slice.injEq, Option.some.injEq, Addr.mk.injEq] at e
  obtain ⟨⟨rfl, _⟩, _, _⟩ := e
  have z6 := fz (i * 8 + 6)
  have H8 := Lib.hid (And.intro U8 D8)
  clear U8 D8 fz B8
  go_wp2_with fail
  refine ⟨d0, tail_threeL rfl rfl rfl ?_⟩
  go_wp2
  go_end0
  have D9 := H8.out.2.setPar HH.out.2.1 0
  have hsame : R.set i (r.withPar 0) = R := by
    have e : r.withPar 0 = r := by
      have := HH.out.2.2.2.2.2.1
      cases r
      simp [Row.withPar] at this ⊢
      exact this.symm
    rw [e]
    have hi' := (List.getElem?_eq_some_iff.1 HH.out.2.1)
    obtain ⟨hi1, hi2⟩ := hi'
    rw [← hi2, List.set_getElem_self]
  rw [hsame] at D9
  have U9 : Upd w8 (w8.setCell ⟨sg, i * 8 + 6, none⟩ (.int .u64 ((0 : Nat) : Int))) (· = sg) := (Upd.refl w8 (· = sg)).set ⟨sg, _, none⟩ _ (fun _ => rfl)
  refine ⟨rfl, a6, c6, D9, ?_, H6.out.2.2.1, ?_⟩
  · refine own_keep (own_keep H7.out.2.1 H8.out.1 (fun _ _ h => h)) U9 (fun g hg e => ?_)
    obtain ⟨_, hv⟩ := own_ty H7.out.2.1 hg
    obtain ⟨_, hv2⟩ := own_ty H7.out.1.own (show (Value.slice (some ⟨sg, 0, none⟩) R.length sc).ownBlock = some sg from rfl)
    exact (e ▸ hv).ty hv2 (by decide) rfl
  · exact ((H7.out.2.2.1.mono (fun _ _ h => Or.inl h)).trans H8.out.1 (fun _ _ h => h.elim)).trans U9 (fun g hg e => Or.inr (by rw [e]; rfl))

end Df
end Go.Proofs.YtmmjmfadipmfiaaDoor

namespace Go.Proofs.YtmmjmfadipmfiaaDoor
open Go.RowKit
open Ch
namespace Df

theorem ww1 (H : Nat) (h : (H : Int) ≤ 64) : wrap64 (H : Int) = (H : Int) ∧ ¬ (64 : Int) < (H : Int) := ⟨by rw [Go.IntWalk.wrap64_in _ (by omega)], by omega⟩
theorem ww2 (n S : Nat) (h : (n : Int) + (S : Int) ≤ 4096) : wrap64 ((n : Int) + (S : Int)) = (n : Int) + (S : Int) ∧ ¬ (4096 : Int) < (n : Int) + (S : Int) := ⟨by rw [Go.IntWalk.wrap64_in _ (by omega)], by omega⟩

def InsPost (B d ge M : Nat) (x : T) (f : List T) (N : List Row) (w : World) (e : Ending) (w' : World) : Prop := ∃ (h : Nat) (Sv' : Value) (ra' : Option Addr) (rc' : Nat) (N' : List Row), e = .returned (.tuple #[.int .u64 (h : Nat), .int .i64 0]) ∧ DocSt w' B d (gen ge M) 0 ge (M - (N ++ N').length) (f ++ [norm x]) Sv' ra' rc' (N ++ N') ∧ Upd w w' (fun g => B ≤ g)

set_option maxRecDepth 100000 in
set_option maxHeartbeats 1600000 in
theorem insert_any (B d ge M : Nat) (hge : ge < 4294967294) (hM : M ≤ 4096) (x : T) (cs : List Value) (f : List T) (Sv : Value) (ra : Option Addr) (rc : Nat) (N : List Row) (w : World) (hS : DocSt w B d (gen ge M) 0 ge (M - N.length) f Sv ra rc N) (hA : TreeAt w (· < B) x cs) (hF : Fits x) (hK : Kinds x) (hc : chk x 1 0 = 0) (hn : T.sizeL f + T.size x ≤ 4096) :
    Calls Tryd.prog 43 #[.pointer (some ⟨d, 0, none⟩), .int .i64 2, .int .u64 0, .agg cs.toArray] w (InsPost B d ge M x f N w) := by
  cases x with
  | mk k nm al tx ks =>
  obtain ⟨aa, ca, ak, ck, rfl, _, _⟩ := TreeAt.forest hA
  have hcs := chk_size _ _ _ hc
  have hBw : B ≤ w.heap.size := Nat.le_trans hS.dB (Nat.le_of_lt hS.doc.blk.lt)
  obtain ⟨X, hX⟩ : ∃ X, X = w.heap.size := ⟨_, rfl⟩
  obtain ⟨S, hSz⟩ : ∃ S, S = T.size (.mk k nm al tx ks) := ⟨_, rfl⟩
  obtain ⟨H, hHt⟩ : ∃ H, H = T.height (.mk k nm al tx ks) := ⟨_, rfl⟩
  obtain ⟨n, hnN⟩ : ∃ n, n = N.length := ⟨_, rfl⟩
  have HH := Lib.hid (And.intro hS (And.intro hA (And.intro hF (And.intro hK (And.intro hc (And.intro hn (And.intro hcs (And.intro hBw (And.intro hX (And.intro hSz (And.intro hHt hnN)))))))))))
  have b1 : (S : Int) ≤ 4096 := by omega
  have b2 : (H : Int) ≤ 64 := by omega
  have b3 : (n : Int) + (S : Int) ≤ 4096 := by have := hS.len; omega
  have HBB := Lib.hid (And.intro b1 (And.intro b2 b3))
  have C1 := place0_any d (w.alloc (.cells #[Value.int .i64 k, .string nm, .slice aa al.length ca, .string tx, .slice ak ks.length ck] 25))
  have B1 : Below w.heap.size w (w.alloc (.cells #[Value.int .i64 k, .string nm, .slice aa al.length ca, .string tx, .slice ak ks.length ck] 25)) := below_al (Below.refl _ _) (Nat.le_refl _) _
  have X1 : Blk (w.alloc (.cells #[Value.int .i64 k, .string nm, .slice aa al.length ca, .string tx, .slice ak ks.length ck] 25)) X [.int .i64 k, .string nm, .slice aa al.length ca, .string tx, .slice ak ks.length ck] 25 := Blk.new' hX
  have HC := Lib.hid (And.intro C1 (And.intro B1 X1))
  clear hS hA hF hK hc hn hcs hBw hX hSz hHt hnN C1 B1 X1
  go_enter Tryd.func43, Tryd.ntmps43
  go_wp2_with fail
  rw [← HH.out.2.2.2.2.2.2.2.2.1]
  refine HC.out.1.mono ?_
  rintro e w2 ⟨rfl, B2⟩
  have BB := below_tr HC.out.2.1 B2
  have X2 := (Upd.ofBelow (F := fun _ => False) B2).blk HC.out.2.2 (fun h => h)
  have C2 := rCheck_any (.mk k nm al tx ks) _ w2 (· < B) (HH.out.2.1.keep (Upd.ofBelow (F := fun _ => False) BB) (fun _ _ h => h)) HH.out.2.2.1
  rw [HH.out.2.2.2.2.1] at C2
  have H2 := Lib.hid (And.intro BB (And.intro X2 C2))
  have x0 := X2.cell 0
  have x1 := X2.cell 1
  have x2 := X2.cell 2
  have x3 := X2.cell 3
  have x4 := X2.cell 4
  simp only [List.getElem?_cons_zero, List.getElem?_cons_succ] at x0 x1 x2 x3 x4
  clear BB X2 C2 B2
  go_wp2_with fail
  refine H2.out.2.2.mono ?_
  rintro e w3 ⟨rfl, B3⟩
  have BB := below_tr H2.out.1 B3
  have X3 := (Upd.ofBelow (F := fun _ => False) B3).blk H2.out.2.1 (fun h => h)
  have C3 := size_any (· < B) (.mk k nm al tx ks) _ w3 (HH.out.2.1.keep (Upd.ofBelow (F := fun _ => False) BB) (fun _ _ h => h)) HH.out.2.2.1 (by have := HH.out.2.2.2.2.2.1; omega)
  rw [← HH.out.2.2.2.2.2.2.2.2.2.1, ← HH.out.2.2.2.2.2.2.2.2.2.2.1] at C3
  have H3 := Lib.hid (And.intro BB (And.intro X3 C3))
  clear x0 x1 x2 x3 x4
  have x0 := X3.cell 0
  have x1 := X3.cell 1
  have x2 := X3.cell 2
  have x3 := X3.cell 3
  have x4 := X3.cell 4
  simp only [List.getElem?_cons_zero, List.getElem?_cons_succ] at x0 x1 x2 x3 x4
  clear BB X3 C3 B3
  go_wp2_with fail
  refine H3.out.2.2.mono ?_
  rintro e w4 ⟨rfl, B4⟩
  have BB := below_tr H3.out.1 B4
  have X4 := (Upd.ofBelow (F := fun _ => False) B4).blk H3.out.2.1 (fun h => h)
  have H4 := Lib.hid (And.intro BB (And.intro X4 (level0_any d w4)))
  clear x0 x1 x2 x3 x4 BB X4 B4
  go_wp2_with fail
  refine H4.out.2.2.mono ?_
  rintro e w5 ⟨rfl, rfl⟩
  have D5 := (HH.out.1.doc.below H4.out.1)
  rw [List.replicate_zero, List.nil_append] at D5
  have C5 := taken_any d Sv _ N (List.replicate (M - N.length) (dead ge)) w5 D5 HH.out.1.live (fun r hr => by
    rw [List.eq_of_mem_replicate hr]
    exact ⟨rfl, show ge < _ by omega⟩) (by have := HH.out.1.len; have := HH.out.2.2.2.2.2.1; simp; omega)
  rw [← HH.out.2.2.2.2.2.2.2.2.2.2.2] at C5
  have HC5 := Lib.hid (And.intro C5 D5)
  clear C5 D5
  obtain ⟨w1', w2'⟩ := ww1 H HBB.out.2.1
  go_wp2_with fail
  refine HC5.out.1.mono ?_
  rintro e w6 ⟨rfl, B6⟩
  have BB := below_tr H4.out.1 B6
  have X6 := (Upd.ofBelow (F := fun _ => False) B6).blk H4.out.2.1 (fun h => h)
  have D6 := HC5.out.2.below B6
  have d0 := D6.blk.cell 0
  simp only [List.getElem?_cons_zero] at d0
  obtain ⟨sa, sc, rfl, hsc⟩ := D6.form
  obtain ⟨m, hm⟩ : ∃ m, m = (N ++ List.replicate (M - N.length) (dead ge)).length := ⟨_, rfl⟩
  rw [← hm] at d0 hsc
  have hdlt := D6.blk.lt
  have hdne : d ≠ w6.heap.size := Nat.ne_of_lt hdlt
  obtain ⟨w3', w4'⟩ := ww2 n S HBB.out.2.2
  have H6 := Lib.hid (And.intro BB (And.intro X6 (And.intro D6 hm)))
  clear BB X6 D6 hm B6 w1' w2'
  go_wp2_with (at_builtin; refine halt_mk ?_)
  refine halt_go ?_
  obtain ⟨q, hq⟩ : ∃ q, q = w6.heap.size := ⟨_, rfl⟩
  have HQ := Lib.hid hq
  rw [← hq]
  clear hq
  generalize hW : World.alloc _ _ = W1
  have T1 : Upd w6 W1 (fun _ => False) := by rw [← hW]; exact (Upd.refl w6 _).alloc _
  have O1 : W1.ownsRow 0 112 8 (.slice (some ⟨q, 0, none⟩) 0 0) 0 [] := by rw [← hW]; exact own_lit_sz HQ.out
  clear hW
  have D1 := H6.out.2.2.1.keep T1 (fun h => h) (fun _ _ h => h)
  have hRd := Rd.ofOwn D1.own
  rw [← H6.out.2.2.2] at hRd
  have hmb : m ≤ 8192 := by
    have h1 := H6.out.2.2.2
    have h2 := HH.out.1.len
    have h3 := HH.out.2.2.2.2.2.1
    rw [h1, List.length_append, List.length_replicate]
    omega
  refine wpl_app (n := 0) (m := m) rfl rfl elemSlot Tryd.underlying83 rfl O1 rfl hRd (rowsC_one _) (by omega) ?_
  rintro v7 w7 ⟨O7, U7, b7⟩
  rw [Nat.zero_add, List.nil_append] at O7
  have hv7 : ∀ g, v7.ownBlock = some g → w6.heap.size ≤ g := fun g hg => by
    have hq := HQ.out
    rcases b7 with e | e
    · have := ob_eq (e.symm.trans hg); omega
    · have := ob_some (e.symm.trans hg); have := T1.size; omega
  have V7 : Upd w6 w7 (fun _ => False) := T1.trans U7 (fun i hi e => by have := ob_eq e; have := HQ.out; omega)
  have X7 := V7.blk H6.out.2.1 (fun h => h)
  have D7 := V7.blk H6.out.2.2.1.blk (fun h => h)
  obtain ⟨a7, c7, rfl, _⟩ := (Rd.ofOwn O7).form
  have H7 := Lib.hid (And.intro O7 (And.intro hv7 (And.intro V7 (And.intro X7 D7))))
  have x0 := X7.cell 0
  have x1 := X7.cell 1
  have x2 := X7.cell 2
  have x3 := X7.cell 3
  have x4 := X7.cell 4
  have d0 := D7.cell 0
  have f0 := D7.free 0
  simp only [List.getElem?_cons_zero, List.getElem?_cons_succ] at x0 x1 x2 x3 x4 d0
  have hdX : d ≠ X := fun e => by have := HH.out.1.doc.blk.lt; have := HH.out.2.2.2.2.2.2.2.2.1; omega
  have hXd : X ≠ d := fun e => hdX e.symm
  -- the world in which the nodes are made
  obtain ⟨W8, hW8⟩ : ∃ W8, W8 = w7.setCell ⟨d, 0, none⟩ (.slice a7 m c7) := ⟨_, rfl⟩
  have U8 : Upd w7 W8 (· = d) := by rw [hW8]; exact (Upd.refl w7 (· = d)).set ⟨d, 0, none⟩ _ (fun _ => rfl)
  have B8 : Blk W8 d [.slice a7 m c7, .slice ra f.length rc] 86 := by rw [hW8]; exact H7.out.2.2.2.2.set 0 _
  have X8 := U8.blk H7.out.2.2.2.1 hXd
  have D8 : DocIs W8 d (.slice a7 m c7) (.slice ra f.length rc) (N ++ List.replicate (M - N.length) (dead ge)) := by
    refine ⟨B8, ?_⟩
    have h := own_keep H7.out.1 U8 (fun g hg e => by
      have h1 := H7.out.2.1 g hg
      have h2 := H6.out.2.2.1.blk.lt
      omega)
    rw [H6.out.2.2.2] at h ⊢
    exact h
  have hU6 : Upd w w6 (fun _ => False) := Upd.ofBelow H6.out.1
  have hU8 : Upd w W8 (· = d) := ((hU6.trans H7.out.2.2.1 (fun _ _ h => h)).mono (fun _ _ h => h.elim)).trans U8 (fun _ _ h => h)
  have hBd := HH.out.1.dB
  have hBw := HH.out.2.2.2.2.2.2.2.1
  have C8 := make_any B d ge M hge hM hBd (.mk k nm al tx ks) N (.slice a7 m c7) (.slice ra f.length rc) 0 _ W8 HH.out.2.2.2.1 HH.out.2.2.1 (HH.out.2.1.keep hU8 (fun g (hg : g < B) e => by omega)) D8 HH.out.1.live (fun g hg => by have := H7.out.2.1 g hg; have := hU6.size; omega) (by have := HH.out.1.len; have := HH.out.2.2.2.2.2.1; omega)
  rw [hW8] at C8
  have H8 := Lib.hid (And.intro D8 (And.intro hU8 (And.intro X8 hW8)))
  have HC8 := Lib.hid C8
  clear T1 O1 D1 hRd O7 U7 b7 hv7 V7 X7 D7 U8 B8 X8 D8 hU6 hU8 C8 hW8
  go_wp2_with fail
  refine HC8.out.mono ?_
  rintro e w9 ⟨Sv9, N', rfl, D9, L9, V9, S9, U9, s9⟩
  rw [← H8.out.2.2.2] at S9 U9 s9
  have hr : (N ++ N' ++ List.replicate (M - (N.length + N'.length)) (dead ge))[N.length]? = some (N'.headD (dead 0)) := by
    cases N' with
    | nil =>
      have h1 := T.size_pos (.mk k nm al tx ks)
      simp at L9
      omega
    | cons r N' =>
      rw [List.append_assoc, List.getElem?_append_right (Nat.le_refl _), Nat.sub_self]
      rfl
  obtain ⟨r, hrr⟩ : ∃ r, r = N'.headD (dead 0) := ⟨_, rfl⟩
  rw [← hrr] at hr
  have hrg : r.g = gen ge M N.length ∧ r.lv = true ∧ r.p = 0 := by
    rw [norm] at S9
    split at S9
    · rw [SlT] at S9
      obtain ⟨r', D', rfl, g1, g2, _, _, _, g3, _⟩ := S9
      rw [hrr]
      exact ⟨g1, g2, g3⟩
    · rw [SlT] at S9
      obtain ⟨r', D', rfl, g1, g2, _, _, _, g3, _⟩ := S9
      rw [hrr]
      exact ⟨g1, g2, g3⟩
  have hO9 : w9.ownsRow 0 62 1 (.slice ra f.length rc) f.length (hands (gen ge M) 0 f) := by
    refine own_keep (own_keep HH.out.1.roots H8.out.2.1 (fun g hg e => ?_)) U9 (fun g hg e => ?_)
    · obtain ⟨_, hv⟩ := own_ty HH.out.1.roots hg
      exact HH.out.1.doc.blk.ty (e ▸ hv) (by decide) rfl
    · have hO8 := own_keep HH.out.1.roots H8.out.2.1 (fun g hg e => by
        obtain ⟨_, hv⟩ := own_ty HH.out.1.roots hg
        exact HH.out.1.doc.blk.ty (e ▸ hv) (by decide) rfl)
      obtain ⟨_, hv⟩ := own_ty hO8 hg
      rcases e with e | e
      · exact H8.out.1.blk.ty (e ▸ hv) (by decide) rfl
      · obtain ⟨_, hv2⟩ := own_ty H8.out.1.own e
        exact hv.ty hv2 (by decide) rfl
  have hfl := sizeL_len f
  have C9 := put0_any d Sv9 ra f.length rc _ _ N.length r w9 D9 hr hrg.2.1 (by rw [hrg.1]; unfold gen; split <;> omega) (by have := HH.out.1.len; have := HH.out.2.2.2.2.2.1; omega) hrg.2.2 hO9 (hands_one _ _ _) (by have := HH.out.2.2.2.2.2.1; omega)
  rw [hrg.1] at C9
  obtain ⟨Hn, hHn⟩ : ∃ Hn, Hn = hand (gen ge M N.length) N.length := ⟨_, rfl⟩
  rw [← hHn] at C9 ⊢
  have H9 := Lib.hid (And.intro D9 (And.intro L9 (And.intro V9 (And.intro S9 (And.intro U9 (And.intro s9 hHn))))))
  have HC9 := Lib.hid C9
  clear D9 L9 V9 S9 U9 s9 hr hrr hrg hO9 hfl C9 hHn x0 x1 x2 x3 x4 d0 f0
  go_wp2_with fail
  refine HC9.out.mono ?_
  rintro e w10 ⟨rfl, ra', rc', D10, O10, r10, U10⟩
  have H10 := Lib.hid (And.intro D10 (And.intro O10 (And.intro r10 U10)))
  clear D10 O10 r10 U10
  go_wp2
  go_ret2
  obtain ⟨D9, L9, V9, S9, U9, s9, hHn⟩ := H9.out
  obtain ⟨D10, O10, r10, U10⟩ := H10.out
  have hS := HH.out.1
  have z8 := H8.out.2.1.size
  have z9 := U9.size
  have z10 := U10.size
  have h8B : ∀ g, (Value.slice a7 m c7).ownBlock = some g → w6.heap.size ≤ g := H7.out.2.1
  have z6 := H6.out.1.size
  have hlen2 : f.length + 1 = (f ++ [norm (.mk k nm al tx ks)]).length := by simp
  have hsn := size_norm (.mk k nm al tx ks) HH.out.2.2.2.1
  have hsNf : N.length = T.sizeL f := hS.len
  have hsv9 : ∀ g, Sv9.ownBlock = some g → w.heap.size ≤ g := fun g hg => by
    rcases s9 g hg with e | e
    · have := h8B g e; omega
    · omega
  refine ⟨Hn, Sv9, ra', rc', N', rfl, ⟨?_, ?_, ?_, ?_, ?_, ?_, ?_, hBd⟩, ?_⟩
  · rw [← hlen2, List.replicate_zero, List.nil_append, List.length_append]
    exact D10
  · intro r hr
    rcases List.mem_append.1 hr with h | h
    · exact hS.live r h
    · exact V9 r h
  · rw [List.length_append, L9, T.sizeL_append, hsNf]
    simp [T.sizeL, hsn]
  · refine SlF.snoc (hS.slots.keep fun sz v n xs h => ?_) ?_
    · refine (((h.keep H8.out.2.1 (fun g hg e => ?_)).keep U9 (fun g hg e => ?_)).keep U10 (fun g hg e => ?_)).mono (fun g hg => ⟨hg.1, by have := hg.2.1; omega, fun e => by have := hsv9 g e; have := hg.2.1; omega, hg.2.2.2⟩)
      · exact hg.2.2.2 e
      · rcases e with e | e
        · exact hg.2.2.2 e
        · have := h8B g e; have := hg.2.1; omega
      · rcases e with e | e
        · exact hg.2.2.2 e
        · have := hsv9 g e; have := hg.2.1; omega
    · rw [Nat.zero_add, ← hsNf]
      refine SlT.keep (fun sz v n xs h => ?_) _ _ _ _ S9
      refine (h.keep U10 (fun g hg e => ?_)).mono (fun g hg => ⟨by have := hg.1; omega, by have := hg.2.1; omega, hg.2.2, fun e => by have := hg.1; have := hS.doc.blk.lt; omega⟩)
      rcases e with e | e
      · have := hg.1
        have := hS.doc.blk.lt
        omega
      · exact hg.2.2 e
  · rw [← hlen2, hands_snoc, Nat.zero_add, ← hsNf, ← hHn]
    exact O10
  · intro g hg
    have := hsv9 g hg
    omega
  · intro g hg
    rw [← hlen2] at hg
    have := r10 g hg
    omega
  · refine (((H8.out.2.1.mono (fun g hg e => ?_)).trans U9 (fun g hg e => ?_)).trans U10 (fun g hg e => ?_))
    · show B ≤ g
      omega
    · rcases e with e | e
      · omega
      · have := h8B g e; omega
    · rcases e with e | e
      · omega
      · have := hsv9 g e; omega

end Df
end Go.Proofs.YtmmjmfadipmfiaaDoor
