/- The program's document in memory: each block has one role; handle and at: walked. -/
import Derived.Test.YtemmkobgpciflaaDoorDocH
import Derived.Test.YtemmkobgpciflaaDoorImgT
import Derived.Test.YtemmkobgpciflaaDoorOTree
import Derived.Deep.QuietTactic
import Derived.BigQuiet
import Derived.LaidEqlPtr
import Derived.Laws.MathBits
namespace Go.Proofs.YtemmkobgpciflaaDoor
open Go.RowKit
open Ch
namespace Pd

def nodeC (ix ge : Nat) (lv : Bool) (k : Int) (n : ByteArray) (av : Value) (t : ByteArray) (pv kv : Value) : List Value := [.int .u32 (ix : Nat), .int .u32 (ge : Nat), .bool lv, .int .i64 k, .string n, av, .string t, pv, kv]
def ptr (b : Nat) : Value := .pointer (some ⟨b, 0, none⟩)
theorem elemNp : Elem Tryd.prog 154 1 8 (.pointer none) := Elem.mk' (by kernel_rfl) rfl (by omega) (by omega)

/-- What a block is for. -/
inductive Role where
  | free
  | doc
  | nodes
  | node (i : Nat)
  | kids (o : Option Nat)
  | attrs (i : Nat)
  | other

/-- The node's block of a handle. -/
def blkOf (B : List Nat) (h : Nat) : Nat := B.getD (h % 4294967296 - 1) 0
def pt (B : List Nat) (h : Nat) : Value := ptr (blkOf B h)
def pt0 (B : List Nat) (h : Nat) : Value := if h = 0 then .pointer none else pt B h
theorem pts_one (B l : List Nat) : ∀ u ∈ l.map (pt B), u.oneCell' = true := by
  intro u hu
  obtain ⟨b, _, rfl⟩ := List.mem_map.1 hu
  rfl
theorem ptrs_one (l : List Nat) : ∀ u ∈ l.map ptr, u.oneCell' = true := by
  intro u hu
  obtain ⟨b, _, rfl⟩ := List.mem_map.1 hu
  rfl

/-- A row of its own, in a block of this role. -/
def Mine (w : World) (ρ : Nat → Role) (r : Role) (e sz : Nat) (v : Value) (n : Nat) (xs : List Value) : Prop := w.ownsRow 0 e sz v n xs ∧ ∀ g, v.ownBlock = some g → ρ g = r
theorem Mine.keep {w w' : World} {ρ : Nat → Role} {r : Role} {e sz : Nat} {v : Value} {n : Nat} {xs : List Value} (h : Mine w ρ r e sz v n xs) {F : Nat → Prop} (hU : Upd w w' F) (hF : ∀ g, F g → ρ g ≠ r) : Mine w' ρ r e sz v n xs := ⟨own_keep h.1 hU (fun g hg e => hF g e (h.2 g hg)), h.2⟩
theorem Mine.role {w : World} {ρ ρ' : Nat → Role} {r : Role} {e sz : Nat} {v : Value} {n : Nat} {xs : List Value} (h : Mine w ρ r e sz v n xs) (hρ : ∀ g, ρ g = r → ρ' g = r) : Mine w ρ' r e sz v n xs := ⟨h.1, fun g hg => hρ g (h.2 g hg)⟩

/-- A node's block. -/
structure NodeIs (w : World) (ρ : Nat → Role) (B : List Nat) (hu : Prop) (i b : Nat) (s : Im.Sl) (av kv : Value) : Prop where
  r : ρ b = .node i
  c : Blk w b (nodeC (i + 1) s.g s.lv s.k s.n av s.t (pt0 B s.p) kv) 160
  a : Mine w ρ (.attrs i) 146 2 av s.al.length (atc s.al)
  k : Mine w ρ (.kids (some i)) 154 1 kv s.ks.length (s.ks.map (pt B))
  h : hu → kv ≠ .slice none 0 0
  n : ¬ hu → kv = .slice none 0 0
theorem NodeIs.keep {w w' : World} {ρ : Nat → Role} {B : List Nat} {hu : Prop} {i b : Nat} {s : Im.Sl} {av kv : Value} (h : NodeIs w ρ B hu i b s av kv) {F : Nat → Prop} (hU : Upd w w' F) (hF : ∀ g, F g → ρ g = .free) : NodeIs w' ρ B hu i b s av kv :=
  ⟨h.r, hU.blk h.c (fun e => by have := hF b e; rw [h.r] at this; cases this), h.a.keep hU (fun g hg e => by rw [hF g hg] at e; cases e), h.k.keep hU (fun g hg e => by rw [hF g hg] at e; cases e), h.h, h.n⟩
/-- The program's document: its blocks by their roles. -/
structure PDoc (w : World) (ρ : Nat → Role) (d : Nat) (B : List Nat) (S : List Im.Sl) (roots : List Nat) (hu : Nat → Prop) (lv wn lo : Int) (Nv Rv : Value) : Prop where
  doc : Blk w d [Nv, Rv, .int .i64 lv, .int .i64 wn, .int .i64 lo] 120
  dr : ρ d = .doc
  ns : Mine w ρ .nodes 154 1 Nv B.length (B.map ptr)
  rt : Mine w ρ (.kids none) 154 1 Rv roots.length (roots.map (pt B))
  len : B.length = S.length
  nd : ∀ (i b : Nat) (s : Im.Sl), B[i]? = some b → S[i]? = some s → ∃ av kv, NodeIs w ρ B (hu i) i b s av kv
  lt : ∀ g, ρ g ≠ .free → g < w.heap.size
theorem PDoc.keep {w w' : World} {ρ : Nat → Role} {d : Nat} {B : List Nat} {S : List Im.Sl} {roots : List Nat} {hu : Nat → Prop} {lv wn lo : Int} {Nv Rv : Value} (h : PDoc w ρ d B S roots hu lv wn lo Nv Rv) {F : Nat → Prop} (hU : Upd w w' F) (hF : ∀ g, F g → ρ g = .free) : PDoc w' ρ d B S roots hu lv wn lo Nv Rv :=
  ⟨hU.blk h.doc (fun e => by have := hF d e; rw [h.dr] at this; cases this), h.dr, h.ns.keep hU (fun g hg e => by rw [hF g hg] at e; cases e), h.rt.keep hU (fun g hg e => by rw [hF g hg] at e; cases e), h.len, fun i b s h1 h2 => by
    obtain ⟨av, kv, h3⟩ := h.nd i b s h1 h2
    exact ⟨av, kv, h3.keep hU hF⟩, fun g hg => Nat.lt_of_lt_of_le (h.lt g hg) hU.size⟩
theorem PDoc.none {w w' : World} {ρ : Nat → Role} {d : Nat} {B : List Nat} {S : List Im.Sl} {roots : List Nat} {hu : Nat → Prop} {lv wn lo : Int} {Nv Rv : Value} (h : PDoc w ρ d B S roots hu lv wn lo Nv Rv) (hU : Upd w w' (fun _ => False)) : PDoc w' ρ d B S roots hu lv wn lo Nv Rv := h.keep hU (fun _ e => e.elim)

/-- A read that may draw. -/
def Quiet (w : World) (v : Value) (e : Ending) (w' : World) : Prop := e = .returned v ∧ ∃ m, w' = w.drewN m
theorem quiet_upd {w w' : World} {m : Nat} (h : w' = w.drewN m) : Upd w w' (fun _ => False) := by rw [h]; exact (Upd.refl w _).drewN m

theorem handle_nil (w : World) : Calls Tryd.prog 135 #[.pointer none] w (Quiet w (.int .u64 0)) := by
  go_enter Tryd.func135, Tryd.ntmps135
  go_wp2
  go_ret
  exact ⟨rfl, 0, rfl⟩
theorem handle_node (b ge i : Nat) (lv : Bool) (k : Int) (n : ByteArray) (av : Value) (t : ByteArray) (pv kv : Value) (w : World) (hb : Blk w b (nodeC (i + 1) ge lv k n av t pv kv) 160) (hg : ge < 4294967296) (hi : i < 1048576) :
    Calls Tryd.prog 135 #[ptr b] w (Quiet w (.int .u64 (Im.handG ge i : Nat))) := by
  have c0 := hb.cell 0
  have c1 := hb.cell 1
  unfold nodeC at c0 c1
  simp only [List.getElem?_cons_zero, List.getElem?_cons_succ] at c0 c1
  obtain ⟨q1, q2, q3, q4, q5, hi0⟩ := Df.handQ ge i hg hi
  rw [← show ((i + 1 : Nat) : Int) = (i : Int) + 1 from rfl] at q1 q4
  obtain ⟨X, hX⟩ : ∃ X, X = Df.hand ge i := ⟨_, rfl⟩
  have hX2 : X = Im.handG ge i := hX
  rw [← hX2]
  rw [← hX] at q1
  obtain ⟨j, hj⟩ : ∃ j, j = i + 1 := ⟨_, rfl⟩
  rw [← hj] at c0 q1 q4
  unfold ptr
  clear hb hg hi hX hX2 hj q5 hi0
  go_enter Tryd.func135, Tryd.ntmps135
  go_wp2
  apply wp_reg (fun w' : World => w'.cell? ⟨b, 1, none⟩ = some (.int .u32 (ge : Nat)) ∧ w'.cell? ⟨b, 0, none⟩ = some (.int .u32 (j : Nat))) [0, 1, 2, 3, 4, 5, 6, 7, 8, 9, 10, 11] [] [12] (by kernel_rfl) (by kernel_rfl) (fun _ _ d _ _ h => by cases d <;> exact h) ⟨c1, c0⟩
  · iterate 12 (apply reads_consL rfl rfl; (· intro w0 hS; obtain ⟨hS1, hS2⟩ := hS; go_simp; try rfl); simp only [Act.put, List.setIfInBounds_toArray, List.set_cons_zero, List.set_cons_succ])
    exact rfl
  refine tail_oneL rfl ?_
  go_wp2
  go_ret
  exact ⟨rfl, 1, rfl⟩

/-- at of any handle. -/
def atV (B : List Nat) (S : List Im.Sl) (h : Nat) : Value := match Im.atP S h with
  | some i => ptr (B.getD i 0)
  | none => .pointer none
theorem atV_none {B : List Nat} {S : List Im.Sl} {h : Nat} (e : Im.atP S h = none) : atV B S h = .pointer none := by unfold atV; rw [e]
theorem atV_some {B : List Nat} {S : List Im.Sl} {h i b : Nat} (e : Im.atP S h = some i) (hb : B[i]? = some b) : atV B S h = ptr b := by unfold atV; rw [e]; dsimp only; rw [List.getD_eq_getElem?_getD, hb]; rfl

set_option maxRecDepth 100000 in
set_option maxHeartbeats 1600000 in
theorem at_any (ρ : Nat → Role) (d : Nat) (B : List Nat) (S : List Im.Sl) (roots : List Nat) (hu : Nat → Prop) (lv wn lo : Int) (Nv Rv : Value) (h : Nat) (w : World) (hD : PDoc w ρ d B S roots hu lv wn lo Nv Rv) (hh : h < 18446744073709551616) (hg : ∀ s ∈ S, s.g < 4294967296) (hn : S.length ≤ 65536) :
    Calls Tryd.prog 117 #[ptr d, .int .u64 (h : Nat)] w (Quiet w (atV B S h)) := by
  obtain ⟨a, c, rfl, hc⟩ := (Rd.ofOwn hD.ns.1).form
  have d0 := hD.doc.cell 0
  simp only [List.getElem?_cons_zero] at d0
  have q1 : bits .and .u64 (h : Int) 4294967295 = ((h % 4294967296 : Nat) : Int) := by rw [Go.and_low32 _ (by omega) (by omega)]; omega
  obtain ⟨m, hm⟩ : ∃ m, m = h % 4294967296 := ⟨_, rfl⟩
  obtain ⟨n, hnn⟩ : ∃ n, n = B.length := ⟨_, rfl⟩
  have hm4 : m < 4294967296 := by omega
  rw [← hm] at q1
  rw [← hnn] at d0
  obtain ⟨V, hV⟩ : ∃ V, V = atV B S h := ⟨_, rfl⟩
  rw [← hV]
  have k1 : IntKind.u64.wrap (n : Int) = (n : Int) := by rw [IntKind.wrap_u64]; have := hD.len; omega
  have HH := Lib.hid (And.intro hD (And.intro hg (And.intro hn (And.intro hm (And.intro hnn hV)))))
  unfold ptr
  clear hD hh hg hn hm hV hc
  by_cases h0 : m = 0
  · have hz : V = .pointer none := by rw [HH.out.2.2.2.2.2]; exact atV_none (by unfold Im.atP; rw [if_pos (by rw [← HH.out.2.2.2.1]; exact h0)])
    have HZ := Lib.hid hz
    subst h0
    clear hz hm4
    simp only [Int.natCast_zero, Int.ofNat_zero] at q1
    go_enter Tryd.func117, Tryd.ntmps117
    go_wp2
    go_ret
    exact ⟨by rw [HZ.out]; rfl, 0, rfl⟩
  · obtain ⟨i, hi⟩ : ∃ i, m = i + 1 := ⟨m - 1, by omega⟩
    have hi4 : i + 1 < 4294967296 := by omega
    rw [hi] at q1
    have q1 : bits .and .u64 (h : Int) 4294967295 = (i : Int) + 1 := by rw [q1]; rfl
    have e0 : (((i : Int) + 1) == 0) = false := beq_eq_false_iff_ne.2 (by omega)
    have i0 : (0 : Int) ≤ (i : Int) := by omega
    have k2 : IntKind.u64.wrap ((i : Int) + 1 - 1) = (i : Int) := by rw [IntKind.wrap_u64]; omega
    have k3 : (i : Int) + 1 - 1 = (i : Int) := by omega
    have k4 : IntKind.u64.wrap (i : Int) = (i : Int) := by rw [IntKind.wrap_u64]; omega
    have HI := Lib.hid (And.intro hi hi4)
    clear h0 hi hi4 hm4
    by_cases hin : i < n
    · have g1 : ¬ ((n : Int) < (i : Int) + 1) := by omega
      have i1 : (i : Int) < (n : Int) := by omega
      obtain ⟨b, hb⟩ : ∃ b, B[i]? = some b := ⟨B[i]'(by omega), List.getElem?_eq_getElem _⟩
      obtain ⟨s, hs⟩ : ∃ s, S[i]? = some s := ⟨S[i]'(by have := HH.out.1.len; omega), List.getElem?_eq_getElem _⟩
      obtain ⟨av, kv, hN⟩ := HH.out.1.nd i b s hb hs
      have hBm : (B.map ptr)[i]? = some (ptr b) := by rw [List.getElem?_map, hb]; rfl
      obtain ⟨ng, no, nc, en, hnc, hcell⟩ := (Rd.ofOwn HH.out.1.ns.1).at_ hBm
      simp only [Value.slice.injEq] at en
      obtain ⟨rfl, _, rfl⟩ := en
      rw [← hnn] at hnc
      have c2 := hN.c.cell 2
      unfold nodeC at c2
      unfold ptr at hcell
      simp only [List.getElem?_cons_zero, List.getElem?_cons_succ] at c2
      have hat : V = if s.lv = true ∧ Im.handG s.g i = h then ptr b else .pointer none := by
        rw [HH.out.2.2.2.2.2]
        unfold atV Im.atP
        rw [← HH.out.2.2.2.1, HI.out.1, if_neg (by omega), Nat.add_sub_cancel, hs]
        dsimp only
        split
        · rename_i j hj
          split at hj
          · rename_i hc
            obtain rfl := Option.some.inj hj
            rw [if_pos hc, List.getD_eq_getElem?_getD, hb]
            rfl
          · cases hj
        · rename_i hj
          split at hj
          · cases hj
          · rename_i hc
            rw [if_neg hc]
      have C := handle_node b s.g i s.lv s.k s.n av s.t (pt0 B s.p) kv w hN.c (HH.out.2.1 s (List.mem_of_getElem? hs)) (by have := HH.out.2.2.1; have := HH.out.1.len; omega)
      obtain ⟨X, hX⟩ : ∃ X, X = Im.handG s.g i := ⟨_, rfl⟩
      rw [← hX] at C hat
      unfold ptr at C
      have HC := Lib.hid (And.intro C hat)
      clear hb hs hN hBm hnn hin C hat hX
      cases hlv : s.lv with
      | false =>
        rw [hlv] at c2
        have HLv := Lib.hid hlv
        clear hlv
        go_enter Tryd.func117, Tryd.ntmps117
        go_wp2
        go_ret
        exact ⟨by rw [HC.out.2, if_neg (by rw [HLv.out]; simp)]; rfl, 0, rfl⟩
      | true =>
        rw [hlv] at c2
        have HLv := Lib.hid hlv
        clear hlv
        go_enter Tryd.func117, Tryd.ntmps117
        go_wp2_with fail
        refine HC.out.1.mono ?_
        rintro e w2 ⟨rfl, m', rfl⟩
        by_cases hx : X = h
        · have b1 : ((X : Int) == (h : Int)) = true := beq_iff_eq.2 (by omega)
          have b2 : ((X : Int) != (h : Int)) = false := by rw [bne, b1]; rfl
          have b3 : (X == h) = true := beq_iff_eq.2 hx
          have HX := Lib.hid hx
          clear hx
          go_wp2
          go_ret
          exact ⟨by rw [HC.out.2, if_pos ⟨HLv.out, HX.out⟩]; rfl, m', rfl⟩
        · have b1 : ((X : Int) == (h : Int)) = false := beq_eq_false_iff_ne.2 (by omega)
          have b2 : ((X : Int) != (h : Int)) = true := by rw [bne, b1]; rfl
          have b3 : (X == h) = false := beq_eq_false_iff_ne.2 hx
          have HX := Lib.hid hx
          clear hx
          go_wp2
          go_ret
          exact ⟨by rw [HC.out.2, if_neg (fun h => HX.out h.2)]; rfl, m', rfl⟩
    · have g1 : (n : Int) < (i : Int) + 1 := by omega
      have hz : V = .pointer none := by
        rw [HH.out.2.2.2.2.2]
        refine atV_none ?_
        unfold Im.atP
        rw [← HH.out.2.2.2.1, HI.out.1, if_neg (by omega), Nat.add_sub_cancel, List.getElem?_eq_none (by have := HH.out.1.len; omega)]
      have HZ := Lib.hid hz
      clear hz hin hnn
      go_enter Tryd.func117, Tryd.ntmps117
      go_wp2
      go_ret
      exact ⟨by rw [HZ.out]; rfl, 0, rfl⟩

end Pd
end Go.Proofs.YtemmkobgpciflaaDoor
