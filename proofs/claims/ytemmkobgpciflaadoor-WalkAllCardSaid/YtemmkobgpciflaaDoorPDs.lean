/- A valid document of the program, its blocks below a bound; Parent: walked. -/
import Derived.Test.YtemmkobgpciflaaDoorPSt
import Derived.Test.YtemmkobgpciflaaDoorNearR
namespace Go.Proofs.YtemmkobgpciflaaDoor
open Go.RowKit
open Ch
namespace Pd

/-- A valid document of the program: its blocks lie below Bd. -/
def PD (w : World) (Bd d : Nat) (B : List Nat) (S : List Im.Sl) (roots : List Nat) (ts : List Im.LT) : Prop :=
  ∃ ρ hu lv wn lo Nv Rv, PDoc w ρ d B S roots hu lv wn lo Nv Rv ∧ (∀ g, ρ g ≠ .free → g < Bd) ∧ (∀ s ∈ S, s.g < 4294967296 ∧ s.al.length * 32 ≤ 140737488351232) ∧ Bd ≤ w.heap.size ∧ Im.Valid S roots ts
theorem PD.below {w w' : World} {Bd d : Nat} {B : List Nat} {S : List Im.Sl} {roots : List Nat} {ts : List Im.LT} (h : PD w Bd d B S roots ts) (hB : Below Bd w w') : PD w' Bd d B S roots ts := by
  obtain ⟨ρ, hu, lv, wn, lo, Nv, Rv, h1, h2, h3, h4, h5⟩ := h
  have hU : Upd w w' (fun g => Bd ≤ g) := ⟨hB.os, hB.tape, hB.output, hB.size, fun i hi hF => hB.block i (by omega)⟩
  exact ⟨ρ, hu, lv, wn, lo, Nv, Rv, h1.keep hU (fun g hg => Classical.byContradiction fun e => by have := h2 g e; omega), h2, h3, Nat.le_trans h4 hB.size, h5⟩
theorem PD.up {w : World} {Bd Bd' d : Nat} {B : List Nat} {S : List Im.Sl} {roots : List Nat} {ts : List Im.LT} (h : PD w Bd d B S roots ts) (hB : Bd ≤ Bd') (hB' : Bd' ≤ w.heap.size) : PD w Bd' d B S roots ts := by
  obtain ⟨ρ, hu, lv, wn, lo, Nv, Rv, h1, h2, h3, h4, h5⟩ := h
  exact ⟨ρ, hu, lv, wn, lo, Nv, Rv, h1, fun g hg => Nat.lt_of_lt_of_le (h2 g hg) hB, h3, hB', h5⟩
theorem PD.le {w : World} {Bd d : Nat} {B : List Nat} {S : List Im.Sl} {roots : List Nat} {ts : List Im.LT} (h : PD w Bd d B S roots ts) : Bd ≤ w.heap.size := by
  obtain ⟨_, _, _, _, _, _, _, _, _, _, h4, _⟩ := h
  exact h4
theorem PD.val {w : World} {Bd d : Nat} {B : List Nat} {S : List Im.Sl} {roots : List Nat} {ts : List Im.LT} (h : PD w Bd d B S roots ts) : Im.Valid S roots ts := by
  obtain ⟨_, _, _, _, _, _, _, _, _, _, _, h5⟩ := h
  exact h5
theorem PD.gens {w : World} {Bd d : Nat} {B : List Nat} {S : List Im.Sl} {roots : List Nat} {ts : List Im.LT} (h : PD w Bd d B S roots ts) : ∀ s ∈ S, s.g < 4294967296 := by
  obtain ⟨_, _, _, _, _, _, _, _, _, h3, _, _⟩ := h
  exact fun s hs => (h3 s hs).1
theorem PD.als {w : World} {Bd d : Nat} {B : List Nat} {S : List Im.Sl} {roots : List Nat} {ts : List Im.LT} (h : PD w Bd d B S roots ts) : ∀ s ∈ S, s.al.length * 32 ≤ 140737488351232 := by
  obtain ⟨_, _, _, _, _, _, _, _, _, h3, _, _⟩ := h
  exact fun s hs => (h3 s hs).2
theorem PD.atC {w : World} {Bd d : Nat} {B : List Nat} {S : List Im.Sl} {roots : List Nat} {ts : List Im.LT} (h : PD w Bd d B S roots ts) (n : Nat) (hn : n < 18446744073709551616) : Calls Tryd.prog 117 #[ptr d, .int .u64 (n : Nat)] w (Quiet w (atV B S n)) := by
  obtain ⟨ρ, hu, lv, wn, lo, Nv, Rv, h1, h2, h3, h4, h5⟩ := h
  exact at_any ρ d B S roots hu lv wn lo Nv Rv n w h1 hn (fun s hs => (h3 s hs).1) (by have := h5.len; omega)

/-- A node as readers see it. -/
structure Seen (w : World) (Bd : Nat) (B : List Nat) (i b : Nat) (s : Im.Sl) (av kv : Value) : Prop where
  c : Blk w b (nodeC (i + 1) s.g s.lv s.k s.n av s.t (pt0 B s.p) kv) 160
  a : w.ownsRow 0 146 2 av s.al.length (atc s.al)
  al : ∀ g, av.ownBlock = some g → g < Bd
  k : w.ownsRow 0 154 1 kv s.ks.length (s.ks.map (pt B))
  kl : ∀ g, kv.ownBlock = some g → g < Bd
  bl : b < Bd
theorem Seen.below {w w' : World} {Bd : Nat} {B : List Nat} {i b : Nat} {s : Im.Sl} {av kv : Value} (h : Seen w Bd B i b s av kv) (hB : Below Bd w w') : Seen w' Bd B i b s av kv := by
  have hU : Upd w w' (fun g => Bd ≤ g) := ⟨hB.os, hB.tape, hB.output, hB.size, fun i hi hF => hB.block i (by omega)⟩
  exact ⟨hU.blk h.c (by have := h.bl; omega), own_keep h.a hU (fun g hg => by have := h.al g hg; omega), h.al, own_keep h.k hU (fun g hg => by have := h.kl g hg; omega), h.kl, h.bl⟩
theorem PD.node {w : World} {Bd d : Nat} {B : List Nat} {S : List Im.Sl} {roots : List Nat} {ts : List Im.LT} (h : PD w Bd d B S roots ts) {i : Nat} {s : Im.Sl} (hs : S[i]? = some s) : ∃ b av kv, B[i]? = some b ∧ Seen w Bd B i b s av kv := by
  obtain ⟨ρ, hu, lv, wn, lo, Nv, Rv, h1, h2, h3, h4, h5⟩ := h
  have hi := (List.getElem?_eq_some_iff.1 hs).1
  obtain ⟨b, hb⟩ : ∃ b, B[i]? = some b := ⟨B[i]'(by have := h1.len; omega), List.getElem?_eq_getElem _⟩
  obtain ⟨av, kv, hN⟩ := h1.nd i b s hb hs
  exact ⟨b, av, kv, hb, hN.c, hN.a.1, fun g hg => h2 g (by rw [hN.a.2 g hg]; simp), hN.k.1, fun g hg => h2 g (by rw [hN.k.2 g hg]; simp), h2 b (by rw [hN.r]; simp)⟩
theorem PD.roots_ {w : World} {Bd d : Nat} {B : List Nat} {S : List Im.Sl} {roots : List Nat} {ts : List Im.LT} (h : PD w Bd d B S roots ts) : ∃ Nv Rv lv wn lo, w.cell? ⟨d, 1, none⟩ = some Rv ∧ w.cell? ⟨d, 0, none⟩ = some Nv ∧ w.cell? ⟨d, 2, none⟩ = some (.int .i64 lv) ∧ w.cell? ⟨d, 3, none⟩ = some (.int .i64 wn) ∧ w.cell? ⟨d, 4, none⟩ = some (.int .i64 lo) ∧ w.ownsRow 0 154 1 Rv roots.length (roots.map (pt B)) ∧ (∀ g, Rv.ownBlock = some g → g < Bd) ∧ d < Bd := by
  obtain ⟨ρ, hu, lv, wn, lo, Nv, Rv, h1, h2, h3, h4, h5⟩ := h
  exact ⟨Nv, Rv, lv, wn, lo, h1.doc.cell 1, h1.doc.cell 0, h1.doc.cell 2, h1.doc.cell 3, h1.doc.cell 4, h1.rt.1, fun g hg => h2 g (by rw [h1.rt.2 g hg]; simp), h2 d (by rw [h1.dr]; simp)⟩

theorem hdl_mod {S : List Im.Sl} {i : Nat} (hi : i < 4294967295) : Im.hdl S i % 4294967296 - 1 = i := by unfold Im.hdl Im.handG; omega
theorem pt_hdl {B : List Nat} {S : List Im.Sl} {i b : Nat} (hb : B[i]? = some b) (hi : i < 4294967295) : pt B (Im.hdl S i) = ptr b := by
  unfold pt blkOf
  rw [hdl_mod hi, List.getD_eq_getElem?_getD, hb]
  rfl
theorem pt0_hdl {B : List Nat} {S : List Im.Sl} {i b : Nat} (hb : B[i]? = some b) (hi : i < 4294967295) : pt0 B (Im.hdl S i) = ptr b := by
  unfold pt0
  rw [if_neg (Im.hdl_ne S i), pt_hdl hb hi]
theorem hdl_lt {S : List Im.Sl} (hg : ∀ s ∈ S, s.g < 4294967296) {i : Nat} {s : Im.Sl} (hs : S[i]? = some s) (hi : i < 65536) : Im.hdl S i < 18446744073709551616 := by
  rw [Im.hdl_at hs]
  unfold Im.handG
  have := hg s (List.mem_of_getElem? hs)
  omega
/-- The handle of a node's pointer. -/
theorem PD.handleC {w : World} {Bd d : Nat} {B : List Nat} {S : List Im.Sl} {roots : List Nat} {ts : List Im.LT} (h : PD w Bd d B S roots ts) {i : Nat} {s : Im.Sl} (hs : S[i]? = some s) : Calls Tryd.prog 135 #[pt B (Im.hdl S i)] w (Quiet w (.int .u64 (Im.hdl S i : Nat))) := by
  obtain ⟨b, av, kv, hb, hN⟩ := h.node hs
  have hi := (List.getElem?_eq_some_iff.1 hs).1
  have hn := h.val.len
  rw [pt_hdl hb (by omega), Im.hdl_at hs]
  exact handle_node b s.g i s.lv s.k s.n av s.t _ kv w hN.c (h.gens s (List.mem_of_getElem? hs)) (by omega)
/-- The handle of what a node's parent is. -/
theorem PD.parC {w : World} {Bd d : Nat} {B : List Nat} {S : List Im.Sl} {roots : List Nat} {ts : List Im.LT} (h : PD w Bd d B S roots ts) {p : Nat} {l : List Nat} (hC : Im.Climb S p l) : Calls Tryd.prog 135 #[pt0 B p] w (Quiet w (.int .u64 (p : Nat))) := by
  rcases Df.Climb.ne hC with ⟨h0, _⟩ | ⟨i, s, l', h0, _, ha, hs, _⟩
  · rw [h0]
    exact handle_nil w
  · unfold pt0
    rw [if_neg h0, Im.atP_eq ha]
    exact h.handleC hs
/-- at of a live node. -/
theorem PD.atL {w : World} {Bd d : Nat} {B : List Nat} {S : List Im.Sl} {roots : List Nat} {ts : List Im.LT} (h : PD w Bd d B S roots ts) {n i : Nat} (ha : Im.atP S n = some i) : ∃ s b av kv, S[i]? = some s ∧ s.lv = true ∧ B[i]? = some b ∧ Seen w Bd B i b s av kv ∧ atV B S n = ptr b ∧ n = Im.hdl S i ∧ n < 18446744073709551616 ∧ Calls Tryd.prog 117 #[ptr d, .int .u64 (n : Nat)] w (Quiet w (ptr b)) := by
  obtain ⟨s, hs, hl, _⟩ := Im.atP_some ha
  obtain ⟨b, av, kv, hb, hN⟩ := h.node hs
  have hn : n < 18446744073709551616 := by
    rw [Im.atP_eq ha]
    exact hdl_lt h.gens hs (by have := h.val.len; have := (List.getElem?_eq_some_iff.1 hs).1; omega)
  have hv := atV_some ha hb
  refine ⟨s, b, av, kv, hs, hl, hb, hN, hv, Im.atP_eq ha, hn, ?_⟩
  rw [← hv]
  exact h.atC n hn

set_option maxRecDepth 100000 in
set_option maxHeartbeats 1600000 in
/-- The program's Parent of a live node. -/
theorem parentP_any (Bd d : Nat) (B : List Nat) (S : List Im.Sl) (roots : List Nat) (ts : List Im.LT) (n i : Nat) (s : Im.Sl) (l : List Nat) (w : World) (hD : PD w Bd d B S roots ts) (ha : Im.atP S n = some i) (hs : S[i]? = some s) (hC : Im.Climb S s.p l) :
    Calls Tryd.prog 119 #[ptr d, .int .u64 (n : Nat)] w (fun e w' => e = .returned (.tuple #[.int .u64 (s.p : Nat), .int .i64 0]) ∧ Below w.heap.size w w') := by
  obtain ⟨s', b, av, kv, hs', hl, hb, hN, hv, hn, hn64, C⟩ := hD.atL ha
  rw [hs] at hs'
  obtain rfl := Option.some.inj hs'
  obtain ⟨p, hp⟩ : ∃ p, p = s.p := ⟨_, rfl⟩
  obtain ⟨pv, hpv⟩ : ∃ pv, pv = pt0 B s.p := ⟨_, rfl⟩
  have CP : ∀ m, Calls Tryd.prog 135 #[pv] (w.drewN m) (Quiet (w.drewN m) (.int .u64 (p : Nat))) := fun m => by
    rw [hpv, hp]
    exact (hD.below (below_dn (Below.refl Bd w) m)).parC hC
  have c7 : ∀ m, (w.drewN m).cell? ⟨b, 7, none⟩ = some pv := fun m => by rw [hpv]; exact hN.c.cell 7
  obtain ⟨P, hP⟩ : ∃ P : Ending → World → Prop, P = fun e w' => e = .returned (.tuple #[.int .u64 (s.p : Nat), .int .i64 0]) ∧ Below w.heap.size w w' := ⟨_, rfl⟩
  rw [← hP]
  have HP := Lib.hid (And.intro hP hp)
  have HC := Lib.hid C
  have HQ := Lib.hid CP
  unfold ptr at HC
  unfold ptr
  clear hD ha hs hC hl hb hN hv hn hn64 C hp hpv CP hP
  go_enter Tryd.func119, Tryd.ntmps119
  go_wp2_with fail
  refine HC.out.mono ?_
  rintro e w2 ⟨rfl, m, rfl⟩
  have x7 := c7 m
  clear c7
  have HQ2 := Lib.hid (HQ.out m)
  clear HC HQ
  go_wp2_with fail
  refine HQ2.out.mono ?_
  rintro e w3 ⟨rfl, m', rfl⟩
  clear HQ2
  go_wp2
  rw [HP.out.1]
  exact ⟨by rw [← HP.out.2]; rfl, below_dn (Below.refl _ _) _⟩

end Pd
end Go.Proofs.YtemmkobgpciflaaDoor

namespace Go.Proofs.YtemmkobgpciflaaDoor
open Go.RowKit
open Ch
open Df (hcv hcv_at hcv_app hcv_one elemHd AllPost MList AllIs below_low)
namespace Pd

def PAllC (Bd d : Nat) (B : List Nat) (S : List Im.Sl) (roots : List Nat) (ts : List Im.LT) (ls : List Im.LT) : Prop := ∀ (la : Option Addr) (lc : Nat) (xs : List Nat) (a : Option Addr) (c : Nat) (w : World), PD w Bd d B S roots ts →
    RdP w (· < Bd) 1 (.slice la ls.length lc) ls.length ((ls.map fun t => Im.hdl S t.i).map (pt B)) → w.ownsRow 0 46 1 (.slice a xs.length c) xs.length (hcv xs) → (∀ g, (Value.slice a xs.length c).ownBlock = some g → Bd ≤ g) → xs.length + (Im.preL ls).length ≤ 65536 →
    Calls Tryd.prog 116 #[.slice la ls.length lc, .slice a xs.length c] w (AllPost Bd S w xs (Im.preL ls))

set_option maxRecDepth 100000 in
set_option maxHeartbeats 1600000 in
theorem allP_step (Bd d : Nat) (B : List Nat) (S : List Im.Sl) (roots : List Nat) (ts : List Im.LT) (ls : List Im.LT) (hls : ∀ t ∈ ls, ∃ s, S[t.i]? = some s ∧ s.lv = true ∧ s.ks = t.ks.map fun u => Im.hdl S u.i) (ih : ∀ t ∈ ls, PAllC Bd d B S roots ts t.ks) : PAllC Bd d B S roots ts ls := by
  intro la lc xs a c w hD hL hO ha hlen
  obtain ⟨n, hn⟩ : ∃ n, n = xs.length := ⟨_, rfl⟩
  obtain ⟨k, hk⟩ : ∃ k, k = ls.length := ⟨_, rfl⟩
  obtain ⟨P, hP⟩ : ∃ P : Ending → World → Prop, P = AllPost Bd S w xs (Im.preL ls) := ⟨_, rfl⟩
  have HH := Lib.hid (And.intro hD (And.intro hL (And.intro hO (And.intro ha (And.intro hlen (And.intro hls (And.intro ih hk)))))))
  have HN := Lib.hid hn
  have HP := Lib.hid hP
  rw [← hn, ← hk, ← hP]
  clear hD hL hO ha hlen hls ih hn hk hP
  go_enter Tryd.func116, Tryd.ntmps116
  go_wp2
  go_loopg [1, 6, 9] k (fun kq v1 v6 v9 w' => ∃ (j : Nat) (aj : Option Addr) (mj cj : Nat) (ys : List Nat), v1 = .slice aj mj cj ∧ v9 = .int .i64 j ∧ Hid (kq = k - j ∧ j ≤ k) ∧ Hid (ys.length = mj ∧ ys = xs ++ (Im.preL (ls.take j)).map (Im.hdl S)) ∧ Hid (w'.ownsRow 0 46 1 (.slice aj mj cj) mj (hcv ys)) ∧ Hid (∀ g, (Value.slice aj mj cj).ownBlock = some g → Bd ≤ g) ∧ Hid (Below Bd w w'))
  case atStart =>
    have h1 := HH.out.2.2.1
    have h2 := HH.out.2.2.2.1
    rw [← HN.out] at h1 h2
    exact ⟨0, _, _, _, xs, rfl, rfl, Lib.hid ⟨rfl, Nat.zero_le _⟩, Lib.hid ⟨HN.out.symm, by simp [Im.preL]⟩, Lib.hid h1, Lib.hid h2, Lib.hid (Below.refl _ _)⟩
  case round =>
    obtain ⟨j, aj, mj, cj, ys, rfl, rfl, HJ, HY, HO, HG, HB⟩ := hrel
    have hj0 : (0 : Int) ≤ (j : Int) := by omega
    by_cases hj : j < k
    · have hj1 : (j : Int) < (k : Int) := by omega
      have hj2 : decide (j < k) = true := decide_eq_true hj
      obtain ⟨u, hu⟩ : ∃ u, ls[j]? = some u := ⟨ls[j]'(by have := HH.out.2.2.2.2.2.2.2; omega), List.getElem?_eq_getElem _⟩
      have hum := List.mem_of_getElem? hu
      obtain ⟨s, hs, hl, hks⟩ := HH.out.2.2.2.2.2.1 u hum
      have hDr := HH.out.1.below HB.out
      obtain ⟨b, av, kv, hb, hN⟩ := hDr.node hs
      have hi := (List.getElem?_eq_some_iff.1 hs).1
      have hSn := hDr.val.len
      have hpt : pt B (Im.hdl S u.i) = ptr b := pt_hdl hb (by omega)
      have hLr := HH.out.2.1.keep (F := fun g => Bd ≤ g) ⟨HB.out.os, HB.out.tape, HB.out.output, HB.out.size, fun i hi hF => HB.out.block i (Nat.lt_of_not_le hF)⟩ (fun g hg e => by have : g < Bd := hg; omega)
      have hcell := hLr.1.at_ (j := j) (u := ptr b) (by rw [List.getElem?_map, List.getElem?_map, hu]; exact congrArg some hpt)
      obtain ⟨lg, loff, lc', el, hlc, hcell⟩ := hcell
      simp only [Value.slice.injEq] at el
      obtain ⟨rfl, _, rfl⟩ := el
      rw [← HH.out.2.2.2.2.2.2.2] at hlc
      obtain ⟨ka, kc, hkv, _⟩ := (Rd.ofOwn hN.k).form
      have hkl : s.ks.length = u.ks.length := by rw [hks, List.length_map]
      rw [hkl] at hkv
      have c8 := hN.c.cell 8
      unfold nodeC at c8
      simp only [List.getElem?_cons_zero, List.getElem?_cons_succ] at c8
      rw [hkv] at c8
      have hpl : Im.preL (ls.take (j + 1)) = Im.preL (ls.take j) ++ Im.pre u := by rw [take_at hu, Im.preL_append, Im.preL, Im.preL, List.append_nil]
      have hpu : Im.pre u = u.i :: Im.preL u.ks := by cases u; rfl
      have hbound : ys.length + 1 + (Im.preL u.ks).length ≤ 65536 := by
        have h1 := HY.out.2
        have h2 := HH.out.2.2.2.2.1
        have h3 : (Im.preL (ls.take (j + 1))).length ≤ (Im.preL ls).length := by
          have := Im.preL_append (ls.take (j + 1)) (ls.drop (j + 1))
          rw [List.take_append_drop] at this
          rw [this, List.length_append]
          omega
        rw [hpl, List.length_append, hpu, List.length_cons] at h3
        rw [h1]
        simp only [List.length_append, List.length_map] at h2 ⊢
        omega
      have hKs : RdP wr (· < Bd) 1 (.slice ka u.ks.length kc) u.ks.length ((u.ks.map fun t => Im.hdl S t.i).map (pt B)) := by
        have h1 := Rd.ofOwn hN.k
        rw [hkl, hkv, hks] at h1
        exact ⟨h1, fun _ g hg => hN.kl g (by rw [hkv]; exact hg)⟩
      have Ch := hDr.handleC hs
      rw [hpt] at Ch
      obtain ⟨m, hm⟩ : ∃ m, m = u.ks.length := ⟨_, rfl⟩
      obtain ⟨hh, hhh⟩ : ∃ hh, hh = Im.hdl S u.i := ⟨_, rfl⟩
      rw [← hm] at c8
      rw [← hhh] at Ch
      unfold ptr at Ch hcell
      have Cq : ∀ W, Below Bd wr W → Calls Tryd.prog 135 #[.pointer (some ⟨b, 0, none⟩)] W (Quiet W (.int .u64 (hh : Nat))) := fun W hW => by
        have h1 := (hDr.below hW).handleC hs
        rw [hpt, ← hhh] at h1
        exact h1
      have HX := Lib.hid (And.intro hu (And.intro hj (And.intro hDr (And.intro hN (And.intro hKs (And.intro hpl (And.intro hpu (And.intro hbound (And.intro hm hhh)))))))))
      have HC := Lib.hid Cq
      clear hj hu hum hs hl hks hDr hb hi hSn hpt hLr hkv hkl hpl hpu hbound hKs hm hhh Ch Cq hN
      go_upto_region 4 with fail
      apply wp_reg (fun w' : World => w'.cell? ⟨b, 8, none⟩ = some (.slice ka m kc)) [0, 1, 2, 3, 4, 5] [6, 7, 8, 9] [10] (by kernel_rfl) (by kernel_rfl) (fun _ _ d _ _ h => by cases d <;> exact h) c8
      · iterate 6 (apply reads_consL rfl rfl; (· intro w0 hS; go_simp; try rfl); simp only [Act.put, List.setIfInBounds_toArray, List.set_cons_zero, List.set_cons_succ])
        exact rfl
      have U0 : Upd wr wr.drew (fun _ => False) := (Upd.refl wr _).drew
      generalize wr.drew = W6 at U0 ⊢
      have HU : Hid (∀ W, Upd wr W (fun _ => False) → Below Bd wr W) := Lib.hid (fun W hU => hU.below (Nat.le_trans HH.out.1.le HB.out.size) (fun _ _ h => h))
      have HC6 := Lib.hid (HC.out W6 (HU.out W6 U0))
      have HU6 := Lib.hid U0
      have HSW : Hid (∀ W, Below Bd wr W → W.cell? ⟨b, 8, none⟩ = some (.slice ka m kc)) := Lib.hid (fun W hW => (hW.cell (p := ⟨b, 8, none⟩) HX.out.2.2.2.1.bl).trans c8)
      clear U0 c8 HC hcell
      refine tail_consL rfl ?_
      go_wp2_with fail
      refine HC6.out.mono ?_
      rintro e w7 ⟨rfl, q, hw7⟩
      have U7 : Upd wr w7 (fun _ => False) := by rw [hw7]; exact HU6.out.drewN q
      have S7 := HSW.out w7 (HU.out w7 U7)
      have HU7 := Lib.hid U7
      clear hw7 U7 HC6 HU6
      go_wp2_with fail
      refine ⟨S7, tail_consL rfl ?_⟩
      clear S7
      obtain ⟨z, hz⟩ : ∃ z, z = w7.heap.size := ⟨_, rfl⟩
      go_wp2_with fail
      rw [← hz]
      generalize hW : World.alloc _ _ = W8
      have U8 : Upd wr W8 (fun _ => False) := by rw [← hW]; exact HU7.out.alloc _
      have Z8 : Blk W8 z [.int .u64 (hh : Nat)] 46 := by rw [← hW]; exact Blk.new' hz
      have S8 := HSW.out W8 (HU.out W8 U8)
      have O8 := own_keep HO.out U8 (fun _ _ h => h)
      have H8 := Lib.hid (And.intro U8 (And.intro Z8 O8))
      clear hW U8 Z8 O8 hz HU7
      refine ⟨S8, tail_consL rfl ?_⟩
      clear S8
      go_wp2_with (at_builtin; refine halt_mk ?_)
      refine halt_go ?_
      refine wpl_app (n := mj) (m := 1) rfl rfl elemHd Tryd.underlying42 rfl H8.out.2.2 rfl (Rd.ofBlk H8.out.2.1 1 1 rfl) (by intro u hu; simp at hu; subst hu; rfl) (by have h1 := HX.out.2.2.2.2.2.2.2.1; have h2 := HY.out.1; omega) ?_
      rintro v9 W9 ⟨O9, U9, b9⟩
      obtain ⟨a9, c9, rfl, _⟩ := (Rd.ofOwn O9).form
      have B9 : Below Bd wr W9 := (HU.out W8 H8.out.1).trans (U9.below (Nat.le_trans (Nat.le_trans HH.out.1.le HB.out.size) H8.out.1.size) (fun g hg e => by have := HG.out g e; omega))
      have G9 : ∀ g, (Value.slice a9 (mj + 1) c9).ownBlock = some g → Bd ≤ g := fun g hg => by
        rcases b9 with e | e
        · exact HG.out g (e.symm.trans hg)
        · have := ob_some (e.symm.trans hg)
          have := H8.out.1.size
          have := HH.out.1.le
          have := HB.out.size
          omega
      have S9 := HSW.out W9 B9
      obtain ⟨hu, hj, hDr, hN, hKs, hpl, hpu, hbound, hm, hhh⟩ := HX.out
      have O9' : W9.ownsRow 0 46 1 (.slice a9 (mj + 1) c9) (mj + 1) (hcv (ys ++ [hh])) := by rw [hcv_app]; exact O9
      have hyl : (ys ++ [hh]).length = mj + 1 := by rw [List.length_append, HY.out.1]; rfl
      have C := HH.out.2.2.2.2.2.2.1 u (List.mem_of_getElem? hu) ka kc (ys ++ [hh]) a9 c9 W9 (hDr.below B9)
        (hKs.keep (F := fun g => Bd ≤ g) ⟨B9.os, B9.tape, B9.output, B9.size, fun i hi hF => B9.block i (Nat.lt_of_not_le hF)⟩ (fun g hg e => by have : g < Bd := hg; omega)) (by rw [hyl]; exact O9') (by rw [hyl]; exact G9) (by rw [hyl]; have h2 := HY.out.1; omega)
      rw [hyl, ← hm] at C
      obtain ⟨m1, hm1⟩ : ∃ m1, m1 = mj + 1 := ⟨_, rfl⟩
      rw [← hm1] at C hyl ⊢
      have HC := Lib.hid C
      have H9 := Lib.hid (And.intro B9 (And.intro hyl hm1))
      clear O9 U9 b9 B9 G9 hu hj hDr hN hKs hpl hpu hbound hm hhh O9' hyl hm1 C
      go_wp2_with fail
      refine ⟨S9, tail_consL rfl ?_⟩
      clear S9
      go_wp2_with fail
      refine HC.out.mono ?_
      rintro e w10 ⟨a5, c5, rfl, O5, G5, B5⟩
      have B10 := H9.out.1.trans B5
      have S10 := HSW.out w10 B10
      obtain ⟨m5, hm5⟩ : ∃ m5, m5 = (ys ++ [hh]).length + (Im.preL u.ks).length := ⟨_, rfl⟩
      rw [← hm5] at O5 G5 ⊢
      have HF := Lib.hid (And.intro O5 (And.intro G5 (And.intro B10 hm5)))
      clear O5 G5 B5 B10 hm5 HC
      go_wp2_with fail
      refine ⟨S10, tail_oneL rfl ?_⟩
      clear S10
      go_wp2
      go_roundg (k - (j + 1))
      case measure => have := HJ.out; have := HX.out; omega
      case rel =>
        obtain ⟨O5, G5, B10, hm5⟩ := HF.out
        obtain ⟨hu, hj, hDr, hN, hKs, hpl, hpu, hbound, hm, hhh⟩ := HX.out
        have hS := hDr.val.len
        have hk := HH.out.2.2.2.2.2.2.2
        have h5 := HH.out.2.2.2.2.1
        have h6 := Df.len_preL ls
        refine ⟨j + 1, a5, m5, c5, (ys ++ [hh]) ++ (Im.preL u.ks).map (Im.hdl S), rfl, v64s hj (by omega), Lib.hid ⟨rfl, hj⟩, Lib.hid ⟨?_, ?_⟩, Lib.hid O5, Lib.hid G5, Lib.hid (HB.out.trans B10)⟩
        · rw [List.length_append, List.length_map, hm5]
        · rw [hpl, hpu, hhh, HY.out.2]
          simp only [List.map_append, List.map_cons, List.append_assoc, List.cons_append, List.nil_append]
    · have hj1 : ¬ (j : Int) < (k : Int) := by omega
      have hj2 : decide (j < k) = false := decide_eq_false hj
      have ej : j = ls.length := by have := HJ.out; have := HH.out.2.2.2.2.2.2.2; omega
      have HE := Lib.hid ej
      clear hj ej
      go_wp2
      have hy := HY.out
      rw [HE.out, List.take_length] at hy
      have hl : mj = xs.length + (Im.preL ls).length := by rw [← hy.1, hy.2, List.length_append, List.length_map]
      rw [HP.out]
      refine ⟨aj, cj, ?_, ?_, ?_, HB.out⟩
      · rw [← hl]
      · rw [← hl, ← hy.2]
        exact HO.out
      · rw [← hl]
        exact HG.out

theorem sd_head {S : List Im.Sl} {t : Im.LT} {p : Nat} (h : Im.Sd S t p) : ∃ s, S[t.i]? = some s ∧ s.lv = true ∧ s.ks = t.ks.map fun u => Im.hdl S u.i := by
  cases t with
  | mk i ks =>
  rw [Im.Sd] at h
  obtain ⟨s, h1, h2, h3, h4, h5⟩ := h
  exact ⟨s, h1, h2, h4⟩
theorem allP_tree (Bd d : Nat) (B : List Nat) (S : List Im.Sl) (roots : List Nat) (ts : List Im.LT) : ∀ (t : Im.LT) (p : Nat), Im.Sd S t p → PAllC Bd d B S roots ts t.ks := by
  refine Im.LT.ind ?_
  intro i ks ih p h
  rw [Im.Sd] at h
  obtain ⟨s, h1, h2, h3, h4, h5⟩ := h
  exact allP_step Bd d B S roots ts ks (fun u hu => sd_head (Im.SdL.all.1 h5 u hu)) (fun u hu => ih u hu _ (Im.SdL.all.1 h5 u hu))
theorem allP_list (Bd d : Nat) (B : List Nat) (S : List Im.Sl) (roots : List Nat) (ts : List Im.LT) (ls : List Im.LT) (h : ∀ u ∈ ls, ∃ q, Im.Sd S u q) : PAllC Bd d B S roots ts ls :=
  allP_step Bd d B S roots ts ls (fun u hu => by obtain ⟨q, hq⟩ := h u hu; exact sd_head hq) (fun u hu => by obtain ⟨q, hq⟩ := h u hu; exact allP_tree Bd d B S roots ts u q hq)

set_option maxRecDepth 100000 in
set_option maxHeartbeats 1600000 in
theorem allP_any (Bd d : Nat) (B : List Nat) (S : List Im.Sl) (roots : List Nat) (ts : List Im.LT) (n : Nat) (L : List Nat) (w : World) (hD : PD w Bd d B S roots ts) (hL : AllIs S ts n L) :
    Calls Tryd.prog 73 #[ptr d, .int .u64 (n : Nat)] w (fun e w' => ∃ v, e = .returned (.tuple #[v, .int .i64 0]) ∧ MList w' w.heap.size v L ∧ Below w.heap.size w w') := by
  have hV := hD.val
  have hcnt := hV.count
  have hD0 := hD.up hD.le (Nat.le_refl _)
  obtain ⟨P, hP⟩ : ∃ P : Ending → World → Prop, P = fun e w' => ∃ v, e = .returned (.tuple #[v, .int .i64 0]) ∧ MList w' w.heap.size v L ∧ Below w.heap.size w w' := ⟨_, rfl⟩
  rw [← hP]
  have HP := Lib.hid hP
  clear hP
  have finish : ∀ (w3 : World) (ls : List Im.LT) (a : Option Addr) (c : Nat), L = (Im.preL ls).map (Im.hdl S) → w3.ownsRow 0 46 1 (.slice a (([] : List Nat).length + (Im.preL ls).length) c) (([] : List Nat).length + (Im.preL ls).length) (hcv ([] ++ (Im.preL ls).map (Im.hdl S))) → (∀ g, (Value.slice a (([] : List Nat).length + (Im.preL ls).length) c).ownBlock = some g → w.heap.size ≤ g) → Below w.heap.size w w3 → P (.returned (.tuple #[.slice a (([] : List Nat).length + (Im.preL ls).length) c, .int .i64 0])) w3 := by
    intro w3 ls a c hL' O G hB
    rw [HP.out]
    have hl : ([] : List Nat).length + (Im.preL ls).length = L.length := by rw [hL', List.length_map]; simp
    rw [hl] at O G ⊢
    rw [List.nil_append, ← hL'] at O
    exact ⟨_, rfl, ⟨a, c, rfl, O, G⟩, hB⟩
  have HFin := Lib.hid finish
  clear finish
  rcases hL with ⟨rfl, hL⟩ | ⟨u, q, hn, hSd, hL, hu⟩
  · obtain ⟨Nv, Rv, lv, wn, lo, d1, _, _, _, _, hRo, hRl, _⟩ := hD0.roots_
    obtain ⟨ra, rc, hRv, _⟩ := (Rd.ofOwn hRo).form
    have hrt := hV.rt
    have hrn : roots.length = ts.length := by rw [hrt, List.length_map]
    rw [hRv, hrn] at d1
    have C := allP_list w.heap.size d B S roots ts ts (fun u hu => ⟨0, Im.SdL.all.1 hV.sd u hu⟩) ra rc [] none 0 w hD0 ⟨by have h1 := Rd.ofOwn hRo; rw [hRv, hrn] at h1; rw [← hrt]; exact h1, fun _ g hg => hRl g (by rw [hRv, hrn]; exact hg)⟩ own_none (fun g hg => by cases hg) (by simp; omega)
    obtain ⟨k, hk⟩ : ∃ k, k = ts.length := ⟨_, rfl⟩
    rw [← hk] at d1 C
    unfold ptr
    have HC := Lib.hid C
    have HL := Lib.hid hL
    clear hD hV hcnt hD0 hRo hRl hRv hrt hrn C hk hL
    go_enter Tryd.func73, Tryd.ntmps73
    go_wp2_with fail
    refine HC.out.mono ?_
    rintro e w3 ⟨a, c, rfl, O, G, B3⟩
    have HQ := Lib.hid (HFin.out w3 ts a c HL.out O G B3)
    clear O G B3 HC
    obtain ⟨m, hm⟩ : ∃ m, m = ([] : List Nat).length + (Im.preL ts).length := ⟨_, rfl⟩
    rw [← hm] at HQ ⊢
    clear hm
    go_wp2
    exact HQ.out
  · obtain ⟨s, hs, hl, hks⟩ := sd_head hSd
    have hi := (List.getElem?_eq_some_iff.1 hs).1
    have hSl := hV.len
    obtain ⟨s', b, av, kv, hs', hl', hb, hN, hv, hne, hn64, C1⟩ := hD0.atL (n := n) (i := u.i) (by rw [hn]; exact Im.atP_hdl hs hl (by omega))
    have hpt : pt B (Im.hdl S u.i) = ptr b := pt_hdl hb (by omega)
    have h0 : n ≠ 0 := by rw [hn]; exact Im.hdl_ne S _
    have b1 : ((n : Int) == 0) = false := beq_eq_false_iff_ne.2 (by omega)
    have b2 : ((n : Int) != 0) = true := bne_iff_ne.2 (by omega)
    have b3 : (n == 0) = false := beq_eq_false_iff_ne.2 h0
    unfold ptr at C1
    unfold ptr
    have HC1 := Lib.hid C1
    have HH := Lib.hid (And.intro hD0 (And.intro hSd (And.intro hpt (And.intro hL hu))))
    clear hD hV hcnt hD0 hs hl hks hi hSl hs' hl' hne hb hN hv hn64 C1 hpt h0 hL hu hn hSd
    go_enter Tryd.func73, Tryd.ntmps73
    go_wp2_with fail
    refine HC1.out.mono ?_
    rintro e w2 ⟨rfl, q', hw2⟩
    have U2 : Upd w w2 (fun _ => False) := by rw [hw2]; exact (Upd.refl w _).drewN q'
    have HU2 := Lib.hid U2
    clear hw2 U2 HC1
    obtain ⟨z, hz⟩ : ∃ z, z = w2.heap.size := ⟨_, rfl⟩
    go_wp2_with fail
    rw [← hz]
    generalize hW : World.alloc _ _ = W3
    have U3 : Upd w W3 (fun _ => False) := by rw [← hW]; exact HU2.out.alloc _
    have Z3 : Blk W3 z [ptr b] 154 := by rw [← hW]; exact Blk.new' hz
    have B3 : Below w.heap.size w W3 := U3.below (F := fun _ => False) (Nat.le_refl _) (fun _ _ h => h)
    have C : Calls Tryd.prog 116 #[.slice (some ⟨z, 0, none⟩) 1 1, .slice none 0 0] W3 (AllPost W3.heap.size S W3 [] (Im.preL [u])) := allP_list W3.heap.size d B S roots ts [u] (fun x hx => by rw [List.mem_singleton.1 hx]; exact ⟨q, HH.out.2.1⟩) (some ⟨z, 0, none⟩) 1 [] none 0 W3 ((HH.out.1.below B3).up B3.size (Nat.le_refl _))
      ⟨by show Rd W3 _ _ _ [pt B (Im.hdl S u.i)]; rw [HH.out.2.2.1]; exact Rd.ofBlk Z3 1 1 rfl, fun _ g hg => by have := ob_eq hg; have := Z3.lt; omega⟩ own_none (fun g hg => by cases hg) (by have := HH.out.2.2.2.2; simp [Im.preL]; omega)
    have HC := Lib.hid C
    have HB3 := Lib.hid B3
    clear hW U3 Z3 B3 C hz HU2
    refine HC.out.mono ?_
    rintro e w4 ⟨a, c, rfl, O, G, B4⟩
    have HQ := Lib.hid (HFin.out w4 [u] a c (by rw [HH.out.2.2.2.1]; simp [Im.preL]) O (fun g hg => Nat.le_trans HB3.out.size (G g hg)) (HB3.out.trans (B4.mono HB3.out.size)))
    clear O G B4 HC
    obtain ⟨m, hm⟩ : ∃ m, m = ([] : List Nat).length + (Im.preL [u]).length := ⟨_, rfl⟩
    rw [← hm] at HQ ⊢
    clear hm
    go_wp2
    exact HQ.out

end Pd
end Go.Proofs.YtemmkobgpciflaaDoor
