/- The first root taken out of the roots; all handles within a node: walked. -/
import Derived.Test.YtmmjmfadipmfiaaDoorSub
namespace Go.Proofs.YtmmjmfadipmfiaaDoor
open Go.RowKit
open Ch
namespace Df

set_option maxRecDepth 100000 in
set_option maxHeartbeats 1600000 in
theorem find0_any (ra : Option Addr) (n rc h : Nat) (hs : List Value) (w : World) (hR : Rd w (.slice ra (n + 1) rc) (n + 1) 1 (.int .u64 (h : Nat) :: hs)) (hn : n ≤ 65536) :
    Calls Tryd.prog 79 #[.slice ra (n + 1) rc, .int .u64 (h : Nat)] w (fun e w' => e = .returned (.int .i64 0) ∧ w' = w) := by
  obtain ⟨g, off, c, e, hc, h0⟩ := hR.at_ (j := 0) rfl
  simp only [Value.slice.injEq] at e
  obtain ⟨rfl, _, rfl⟩ := e
  rw [Nat.add_zero] at h0
  obtain ⟨m, hm⟩ : ∃ m, m = n + 1 := ⟨_, rfl⟩
  have hm0 : (0 : Int) < (m : Int) := by omega
  have hm1 : 0 < m := by omega
  have hm2 : decide (0 < m) = true := decide_eq_true hm1
  rw [← hm] at hc ⊢
  clear hR hn hm
  go_enter Tryd.func79, Tryd.ntmps79
  go_wp2
  go_loopg [5] 0 (fun kq v5 w' => v5 = .int .i64 0 ∧ w' = w)
  case atStart => exact ⟨rfl, rfl⟩
  case round =>
    obtain ⟨rfl, rfl⟩ := hrel
    go_wp2
    go_ret
    exact ⟨rfl, rfl⟩

set_option maxRecDepth 100000 in
set_option maxHeartbeats 1600000 in
/-- The first root out of the roots. -/
theorem out0_any (d : Nat) (Sv : Value) (ra : Option Addr) (n rc : Nat) (hs : List Value) (R : List Row) (i : Nat) (r : Row) (w : World) (hD : DocIs w d Sv (.slice ra (n + 1) rc) R) (hr : R[i]? = some r) (hl : r.lv = true) (hg : r.g < 4294967296) (hi : i < 1048576) (hp : r.p = 0) (hR : w.ownsRow 0 62 1 (.slice ra (n + 1) rc) (n + 1) (.int .u64 (hand r.g i : Nat) :: hs)) (h1 : ∀ u ∈ hs, u.oneCell' = true) (hn : n ≤ 65536) :
    Calls Tryd.prog 66 #[.pointer (some ⟨d, 0, none⟩), .int .u64 (hand r.g i : Nat)] w (fun e w' => e = .returned (.tuple #[]) ∧ ∃ ra' rc', DocIs w' d Sv (.slice ra' n rc') R ∧ w'.ownsRow 0 62 1 (.slice ra' n rc') n hs ∧ (∀ g, (Value.slice ra' n rc').ownBlock = some g → w.heap.size ≤ g) ∧ Upd w w' (· = d)) := by
  have hil := (List.getElem?_eq_some_iff.1 hr).1
  obtain ⟨X, hX⟩ : ∃ X, X = hand r.g i := ⟨_, rfl⟩
  have Dd : DocIs w.drew d Sv (.slice ra (n + 1) rc) R := hD.keep (Upd.refl w (fun _ => False)).drew (fun h => h) (fun _ _ h => h)
  have C := at_any d Sv _ R i r w.drew Dd hr hl hg hi
  obtain ⟨s1, q1, R1, _⟩ := (Rd.ofOwn hR).cutH elemHd Tryd.underlying84 (k := 0) (by omega) .i64
  obtain ⟨s2, q2, R2, _⟩ := (Rd.ofOwn hR).cutL elemHd Tryd.underlying84 (k := 1) (by omega) .i64
  have R1 : Rd w s1 0 1 [] := by simpa using R1
  have R2 : Rd w s2 n 1 hs := by simpa using R2
  have q1 : ∀ w', (Instr.sliceAt 84 (.slice ra (n + 1) rc) none (some (.int .i64 0)) none).run Tryd.prog w' = .ok s1 w' := q1
  have q2 : ∀ w', (Instr.sliceAt 84 (.slice ra (n + 1) rc) (some (.int .i64 1)) none none).run Tryd.prog w' = .ok s2 w' := q2
  rw [← hX] at C hR ⊢
  have HH := Lib.hid (And.intro hD (And.intro hr (And.intro hl (And.intro hg (And.intro hi (And.intro hR (And.intro h1 (And.intro hn (And.intro R1 (And.intro R2 C))))))))))
  obtain ⟨sg, sc, rfl, hsc, _, _, _, _, _, _, c6, _, fz⟩ := hD.row hr
  rw [hp] at c6
  have d0 := hD.blk.cell 0
  simp only [List.getElem?_cons_zero] at d0
  obtain ⟨m, hm⟩ : ∃ m, m = R.length := ⟨_, rfl⟩
  rw [← hm] at d0 hsc hil
  have i0 : (0 : Int) ≤ (i : Int) := Int.natCast_nonneg _
  have i1 : (i : Int) < (m : Int) := Int.ofNat_lt.2 hil
  have hdc0 : w.drew.cell? ⟨d, 0, none⟩ = some (.slice (some ⟨sg, 0, none⟩) m sc) := d0
  have hdc6 : w.drew.cell? ⟨sg, i * 8 + 6, none⟩ = some (.int .u64 0) := c6
  have HM := Lib.hid (And.intro hm hp)
  have hw1 : IntKind.i64.wrap 1 = 1 := by rfl
  clear hD hr hl hg hi hR h1 hn R1 R2 C fz hX Dd hil hp hm c6 d0
  go_enter Tryd.func66, Tryd.ntmps66
  go_wp2
  apply wp_reg (fun w' : World => w'.cell? ⟨d, 0, none⟩ = some (.slice (some ⟨sg, 0, none⟩) m sc) ∧ w'.cell? ⟨sg, i * 8 + 6, none⟩ = some (.int .u64 0)) [0, 1, 2, 3, 4, 5] [6, 7, 8, 9] [10] (by kernel_rfl) (by kernel_rfl) (fun _ _ d _ _ h => by cases d <;> exact h) ⟨hdc0, hdc6⟩
  · iterate 6 (apply reads_consL rfl rfl; (· intro w0 hS; obtain ⟨hS1, hS2⟩ := hS; go_simp; try rfl); simp only [Act.put, List.setIfInBounds_toArray, List.set_cons_zero, List.set_cons_succ])
    exact rfl
  clear hdc0 hdc6
  refine tail_consL rfl ?_
  go_wp2_with fail
  refine HH.out.2.2.2.2.2.2.2.2.2.2.mono ?_
  rintro e w2 ⟨rfl, B2⟩
  have U2 : Upd w w2 (fun _ => False) := (Upd.refl w (fun _ => False)).drew.trans (Upd.ofBelow (F := fun _ => False) B2) (fun _ _ h => h)
  have D2 := HH.out.1.keep U2 (fun h => h) (fun _ _ h => h)
  have d0 := D2.blk.cell 0
  obtain ⟨g', c', e, _, _, _, _, _, _, _, k6, _, _⟩ := D2.row HH.out.2.1
  simp only [Value.slice.injEq, Option.some.injEq, Addr.mk.injEq] at e
  obtain ⟨⟨rfl, _⟩, _, _⟩ := e
  simp only [List.getElem?_cons_zero] at d0
  rw [← HM.out.1] at d0
  rw [HM.out.2] at k6
  have S2 : w2.cell? ⟨d, 0, none⟩ = some (.slice (some ⟨sg, 0, none⟩) m sc) ∧ w2.cell? ⟨sg, i * 8 + 6, none⟩ = some (.int .u64 0) := ⟨d0, k6⟩
  have C2 := list0_any d _ (.slice ra (n + 1) rc) R w2 D2
  have O2 := own_keep HH.out.2.2.2.2.2.1 U2 (fun _ _ h => h)
  have F2 := find0_any ra n rc X hs w2 (Rd.ofOwn O2) HH.out.2.2.2.2.2.2.2.1
  have H2 := Lib.hid (And.intro U2 (And.intro D2 (And.intro C2 (And.intro F2 S2))))
  clear U2 B2 C2 O2 F2 S2 D2
  go_wp2_with fail
  refine ⟨H2.out.2.2.2.2, tail_consL rfl ?_⟩
  go_wp2_with fail
  refine ⟨H2.out.2.2.2.2, tail_consL rfl ?_⟩
  go_wp2_with fail
  refine ⟨H2.out.2.2.2.2, tail_consL rfl ?_⟩
  go_wp2_with fail
  refine ⟨H2.out.2.2.2.2, tail_oneL rfl ?_⟩
  clear d0 k6
  go_wp2_with fail
  refine H2.out.2.2.1.mono ?_
  rintro e w3 ⟨rfl, rfl⟩
  go_wp2_with fail
  refine H2.out.2.2.2.1.mono ?_
  rintro e w3' ⟨rfl, rfl⟩
  go_wp2
  obtain ⟨SP, hSP⟩ : ∃ SP : World → Prop, ∀ w', SP w' := ⟨fun _ => True, fun _ => trivial⟩
  have HSP := Lib.hid hSP
  clear hSP
  apply wp_reg SP [0, 1, 3, 4, 5, 7, 8, 9, 10] [2, 6, 11, 12] [] (by kernel_rfl) (by kernel_rfl) (fun _ _ d _ _ h => by cases d <;> exact h) (HSP.out _)
  · iterate 9 (apply reads_consL rfl rfl; (· intro w0 hS; go_simp; try rfl); simp only [Act.put, List.setIfInBounds_toArray, List.set_cons_zero, List.set_cons_succ])
    exact rfl
  have V0 : Upd w w3'.drew (fun _ => False) := H2.out.1.drew
  have D0 := HH.out.1.keep V0 (fun h => h) (fun _ _ h => h)
  generalize w3'.drew = w4 at V0 D0 ⊢
  obtain ⟨q, hq⟩ : ∃ q, q = w4.heap.size := ⟨_, rfl⟩
  have H4 := Lib.hid (And.intro V0 (And.intro D0 hq))
  clear V0 D0 hq
  refine tail_consL rfl ?_
  go_wp2_with fail
  rw [← H4.out.2.2]
  generalize hW : World.alloc _ _ = W5
  have T5 : Upd w4 W5 (fun _ => False) := by rw [← hW]; exact (Upd.refl w4 _).alloc _
  have O5 : W5.ownsRow 0 62 1 (.slice (some ⟨q, 0, none⟩) 0 0) 0 [] := by rw [← hW]; exact own_lit_sz H4.out.2.2
  have V5 := H4.out.1.trans T5 (fun _ _ h => h)
  have H5 := Lib.hid (And.intro T5 (And.intro O5 V5))
  clear hW T5 O5 V5
  refine ⟨HSP.out _, tail_consL rfl ?_⟩
  refine wpl_app (n := 0) (m := 0) rfl rfl elemHd Tryd.underlying84 rfl H5.out.2.1 rfl (HH.out.2.2.2.2.2.2.2.2.1.keep H5.out.2.2 (fun _ _ h => h)) (by intro u hu; cases hu) (by omega) ?_
  rintro v6 w6 ⟨O6, U6, b6⟩
  rw [Nat.zero_add, List.nil_append] at O6
  have hv6 : ∀ g, v6.ownBlock = some g → w4.heap.size ≤ g := fun g hg => by
    have h2 := H4.out.2.2
    rcases b6 with e | e
    · have := ob_eq (e.symm.trans hg); omega
    · have := ob_some (e.symm.trans hg); have := H5.out.1.size; omega
  have U46 : Upd w4 w6 (fun _ => False) := H5.out.1.trans U6 (fun i hi e => by have := ob_eq e; have := H4.out.2.2; omega)
  obtain ⟨a6, c6, rfl, _⟩ := (Rd.ofOwn O6).form
  have H6 := Lib.hid (And.intro O6 (And.intro hv6 (And.intro U46 (H4.out.1.trans U46 (fun _ _ h => h)))))
  clear O6 U6 b6 hv6 U46
  go_wp2_with fail
  refine ⟨HSP.out _, tail_consL rfl ?_⟩
  refine wpl_app (n := 0) (m := n) rfl rfl elemHd Tryd.underlying84 rfl H6.out.1 rfl (HH.out.2.2.2.2.2.2.2.2.2.1.keep H6.out.2.2.2 (fun _ _ h => h)) HH.out.2.2.2.2.2.2.1 (by have := HH.out.2.2.2.2.2.2.2.1; omega) ?_
  rintro v7 w7 ⟨O7, U7, b7⟩
  rw [Nat.zero_add, List.nil_append] at O7
  have hv7 : ∀ g, v7.ownBlock = some g → w4.heap.size ≤ g := fun g hg => by
    rcases b7 with e | e
    · exact H6.out.2.1 g (e ▸ hg)
    · have := ob_some (e.symm.trans hg); have := H6.out.2.2.1.size; omega
  have U47 : Upd w4 w7 (fun _ => False) := H6.out.2.2.1.trans U7 (fun i hi e => by have := H6.out.2.1 i e; omega)
  obtain ⟨a7, c7, rfl, _⟩ := (Rd.ofOwn O7).form
  have D7 := H4.out.2.1.keep U47 (fun h => h) (fun _ _ h => h)
  have C7 := set0_any d (.slice (some ⟨sg, 0, none⟩) R.length sc) (.slice ra (n + 1) rc) a7 n c7 w7 D7.blk
  have H7 := Lib.hid (And.intro O7 (And.intro hv7 (And.intro U47 (And.intro D7 (And.intro C7 (H4.out.1.trans U47 (fun _ _ h => h)))))))
  clear O7 U7 b7 hv7 U47 D7 C7
  go_wp2_with fail
  refine ⟨HSP.out _, tail_consL rfl ?_⟩
  go_wp2_with fail
  refine H7.out.2.2.2.2.1.mono ?_
  rintro e w8 ⟨rfl, B8, U8⟩
  have H8 := Lib.hid (And.intro B8 U8)
  clear B8 U8
  go_wp2_with fail
  refine ⟨HSP.out _, tail_zero ?_⟩
  go_wp2
  go_end0
  obtain ⟨O7, hv7, U47, D7, _, V7⟩ := H7.out
  obtain ⟨B8, U8⟩ := H8.out
  have z4 := H4.out.1.size
  refine ⟨rfl, a7, c7, ⟨B8, own_keep D7.own U8 (fun g hg e => D7.ne (e ▸ hg))⟩, own_keep O7 U8 (fun g hg e => by have := hv7 g hg; have := HH.out.1.blk.lt; omega), fun g hg => by have := hv7 g hg; omega, (V7.mono (fun _ _ h => h.elim)).trans U8 (fun _ _ h => h)⟩

end Df
end Go.Proofs.YtmmjmfadipmfiaaDoor

namespace Go.Proofs.YtmmjmfadipmfiaaDoor
open Go.RowKit
open Ch
namespace Df

/-- The handles of s indexes from i on. -/
def hrow (gn : Nat → Nat) (i s : Nat) : List Value := (List.range s).map fun j => .int .u64 (hand (gn (i + j)) (i + j) : Nat)
theorem hrow_add (gn : Nat → Nat) (i s t : Nat) : hrow gn i (s + t) = hrow gn i s ++ hrow gn (i + s) t := by
  unfold hrow
  rw [List.range_add, List.map_append, List.map_map]
  refine congrArg (List.map _ (List.range s) ++ ·) (List.map_congr_left fun j _ => ?_)
  show Value.int .u64 (hand (gn (i + (s + j))) (i + (s + j)) : Nat) = Value.int .u64 (hand (gn (i + s + j)) (i + s + j) : Nat)
  rw [Nat.add_assoc]
theorem hrow_one (gn : Nat → Nat) (i : Nat) : hrow gn i 1 = [.int .u64 (hand (gn i) i : Nat)] := by simp [hrow]
theorem hrow_len (gn : Nat → Nat) (i s : Nat) : (hrow gn i s).length = s := by simp [hrow]
theorem hrow_at (gn : Nat → Nat) (i : Nat) {s j : Nat} (h : j < s) : (hrow gn i s)[j]? = some (.int .u64 (hand (gn (i + j)) (i + j) : Nat)) := by
  unfold hrow
  rw [List.getElem?_map, List.getElem?_range h]
  rfl

def AllPost (w : World) (gn : Nat → Nat) (i s : Nat) (v : Value) (n : Nat) (hs : List Value) (e : Ending) (w' : World) : Prop := ∃ a c, e = .returned (.slice a (n + s) c) ∧ w'.ownsRow 0 62 1 (.slice a (n + s) c) (n + s) (hs ++ hrow gn i s) ∧ Upd w w' (fun b => v.ownBlock = some b) ∧ (∀ g, (Value.slice a (n + s) c).ownBlock = some g → v.ownBlock = some g ∨ w.heap.size ≤ g)

set_option maxRecDepth 100000 in
set_option maxHeartbeats 1600000 in
theorem all_any (Q : Nat → Prop) (d : Nat) (gn : Nat → Nat) (hgn : ∀ i, gn i < 4294967296) : ∀ t : T, Nice t → ∀ (Sv Rv : Value) (Pre N Suf : List Row) (p : Nat) (la : Option Addr) (n lc : Nat) (hs : List Value) (w : World), DocIs w d Sv Rv (Pre ++ N ++ Suf) → SlT w Q gn t Pre.length p N → (∀ g, Q g → g < w.heap.size) → (Pre ++ N ++ Suf).length ≤ 65536 →
    w.ownsRow 0 62 1 (.slice la n lc) n hs → (∀ g, (Value.slice la n lc).ownBlock = some g → ¬ Q g) → n + T.size t ≤ 65536 →
    Calls Tryd.prog 81 #[.pointer (some ⟨d, 0, none⟩), .int .u64 (hand (gn Pre.length) Pre.length : Nat), .slice la n lc] w (AllPost w gn Pre.length (T.size t) (.slice la n lc) n hs) := by
  refine T.ind ?_
  intro k nm al tx ks ih hN Sv Rv Pre N Suf p la n lc hs w hD hT hQ hlen hL hLQ hn
  obtain ⟨i, hi⟩ : ∃ i, i = Pre.length := ⟨_, rfl⟩
  rw [Nice] at hN
  rw [SlT] at hT
  obtain ⟨r, D, rfl, t1, t2, t3, t4, t5, t6, t7, t8, t9⟩ := hT
  have hr : (Pre ++ (r :: D) ++ Suf)[i]? = some r := by
    rw [hi, List.append_assoc, List.getElem?_append_right (Nat.le_refl _), Nat.sub_self]
    rfl
  obtain ⟨R, hR⟩ : ∃ R, R = Pre ++ (r :: D) ++ Suf := ⟨_, rfl⟩
  rw [← hR] at hD hr hlen
  have hsz : T.size (.mk k nm al tx ks) = 1 + T.sizeL ks := by
    rw [T.size]
    split
    · omega
    · rename_i h1
      rcases hN.1 with h2 | h2
      · exact absurd h2 h1
      · rw [h2, T.sizeL]
  have t8' : r.kl = ks.length := by
    obtain ⟨_, _, _, e', _⟩ := t8.1
    simp only [Value.slice.injEq] at e'
    exact e'.2.1
  obtain ⟨X, hX⟩ : ∃ X, X = hand (gn i) i := ⟨_, rfl⟩
  rw [← hi, ← hX, hsz]
  have hX0 : X ≠ 0 := by rw [hX]; exact hand_ne _ _
  have hX1 : ((X : Int) == 0) = false := beq_eq_false_iff_ne.2 (by omega)
  have HH := Lib.hid (And.intro hR (And.intro hD (And.intro hr (And.intro hQ (And.intro ih (And.intro hN (And.intro t1 (And.intro t2 (And.intro t8 (And.intro t9 (And.intro t8' (And.intro hi (And.intro hX (And.intro hlen (And.intro hL (And.intro hLQ (And.intro hn hsz)))))))))))))))))
  clear hR hD hr hQ ih hN t1 t2 t3 t4 t5 t6 t7 t8 t9 t8' hi hX hlen hL hLQ hn hsz hX0
  go_enter Tryd.func81, Tryd.ntmps81
  go_wp2_with (at_builtin; refine halt_mk ?_)
  refine halt_go ?_
  obtain ⟨q, hq⟩ : ∃ q, q = w.heap.size := ⟨_, rfl⟩
  have HQ := Lib.hid hq
  rw [← hq]
  clear hq
  generalize hW : World.alloc _ _ = W1
  have T1 : Upd w W1 (fun _ => False) := by rw [← hW]; exact (Upd.refl w _).alloc _
  have X1 : Blk W1 q [.int .u64 (X : Nat)] 62 := by rw [← hW]; exact Blk.new' HQ.out
  clear hW
  refine wpl_app (n := n) (m := 1) rfl rfl elemHd Tryd.underlying84 rfl (own_keep HH.out.2.2.2.2.2.2.2.2.2.2.2.2.2.2.1 T1 (fun _ _ h => h)) rfl (Rd.ofBlk X1 1 1 rfl) (by intro u hu; simp at hu; subst hu; rfl) (by have := HH.out.2.2.2.2.2.2.2.2.2.2.2.2.2.2.2.2.1; omega) ?_
  intro v2 w2 hA
  obtain ⟨a2, c2, rfl, _⟩ := (Rd.ofOwn hA.1).form
  have hlb : ∀ g, (Value.slice la n lc).ownBlock = some g → (Sv.ownBlock ≠ some g ∧ g ≠ d) := fun g hg => by
    obtain ⟨_, hv⟩ := own_ty HH.out.2.2.2.2.2.2.2.2.2.2.2.2.2.2.1 hg
    refine ⟨fun e => ?_, fun e => HH.out.2.1.blk.ty (e ▸ hv) (by decide) rfl⟩
    obtain ⟨_, hv2⟩ := own_ty HH.out.2.1.own e
    exact hv.ty hv2 (by decide) rfl
  have U2 : Upd w w2 (fun b => (Value.slice la n lc).ownBlock = some b) := (T1.mono (fun _ _ h => h.elim)).trans hA.2.1 (fun _ _ h => h)
  have D2 := HH.out.2.1.keep U2 (fun e => (hlb d e).2 rfl) (fun g hg e => (hlb g e).1 hg)
  have hb2 : ∀ g, (Value.slice a2 (n + 1) c2).ownBlock = some g → (Value.slice la n lc).ownBlock = some g ∨ w.heap.size ≤ g := fun g hg => by
    rcases hA.2.2 with e | e
    · exact Or.inl (e ▸ hg)
    · have := ob_some (e.symm.trans hg)
      have := T1.size
      exact Or.inr (by omega)
  have C2 := list_any d Sv Rv R i r w2 D2 HH.out.2.2.1 HH.out.2.2.2.2.2.2.2.1 (by rw [HH.out.2.2.2.2.2.2.1]; exact hgn _) (by have := HH.out.2.2.2.2.2.2.2.2.2.2.2.2.2.1; have := (List.getElem?_eq_some_iff.1 HH.out.2.2.1).1; omega)
  rw [HH.out.2.2.2.2.2.2.1, ← HH.out.2.2.2.2.2.2.2.2.2.2.2.1, ← HH.out.2.2.2.2.2.2.2.2.2.2.2.2.1] at C2
  have H2 := Lib.hid (And.intro hA.1 (And.intro U2 (And.intro D2 (And.intro hb2 (And.intro C2 hlb)))))
  clear T1 X1 hA U2 D2 hb2 C2 hlb
  go_wp2_with fail
  refine H2.out.2.2.2.2.1.mono ?_
  rintro e w3 ⟨rfl, B3⟩
  have U3 := Upd.ofBelow (F := fun _ => False) B3
  have H3 := Lib.hid U3
  obtain ⟨kl, hkl⟩ : ∃ kl, kl = r.kl := ⟨_, rfl⟩
  obtain ⟨ka, hka⟩ : ∃ ka, ka = r.ka := ⟨_, rfl⟩
  obtain ⟨kcc, hkcc⟩ : ∃ kc, kc = r.kc := ⟨_, rfl⟩
  have HKA := Lib.hid (And.intro hka (And.intro hkcc (hkl.trans HH.out.2.2.2.2.2.2.2.2.2.2.1)))
  rw [← hkl, ← hka, ← hkcc]
  clear U3 B3 hkl hka hkcc
  go_wp2
  go_loopg [2, 8] kl (fun kq v2 v8 w' => ∃ (j s : Nat) (l3 : Option Addr) (c3 : Nat), v2 = .slice l3 (n + s) c3 ∧ v8 = .int .i64 j ∧ Hid (kq = kl - j ∧ j ≤ kl ∧ s = 1 + T.sizeL (ks.take j)) ∧ Hid (w'.ownsRow 0 62 1 (.slice l3 (n + s) c3) (n + s) (hs ++ hrow gn i s)) ∧ Hid (Upd w w' (fun b => (Value.slice la n lc).ownBlock = some b)) ∧ Hid (∀ g, (Value.slice l3 (n + s) c3).ownBlock = some g → (Value.slice la n lc).ownBlock = some g ∨ w.heap.size ≤ g))
  case atStart =>
    refine ⟨0, 1, a2, c2, rfl, rfl, Lib.hid ⟨rfl, Nat.zero_le _, by simp [T.sizeL]⟩, Lib.hid ?_, Lib.hid (H2.out.2.1.trans H3.out (fun _ _ h => h.elim)), Lib.hid H2.out.2.2.2.1⟩
    rw [hrow_one, ← HH.out.2.2.2.2.2.2.2.2.2.2.2.2.1]
    exact own_keep H2.out.1 H3.out (fun _ _ h => h)
  case round =>
    obtain ⟨j, s, l3, c3, rfl, rfl, HJ, HO, HU, HB⟩ := hrel
    have hj0 : (0 : Int) ≤ (j : Int) := by omega
    by_cases hj : j < kl
    · have hj1 : (j : Int) < (kl : Int) := by omega
      have hj2 : decide (j < kl) = true := decide_eq_true hj
      obtain ⟨x, hx⟩ : ∃ x, ks[j]? = some x := ⟨ks[j]'(by have := HKA.out; omega), List.getElem?_eq_getElem _⟩
      obtain ⟨hR, hD, hr, hQ, ih, hN, t1, t2, t8, t9, t8', hi, hX, hlen, hL, hLQ, hn, hsz⟩ := HH.out
      have Dr := hD.keep HU.out (fun e => (H2.out.2.2.2.2.2 d e).2 rfl) (fun g hg e => (H2.out.2.2.2.2.2 g e).1 hg)
      have hkids := (t8.keep HU.out (fun g hg e => hLQ g e hg)).1
      have hat := hands_at gn (i + 1) ks j x hx
      rw [hi] at hat
      obtain ⟨kg, koff, kc', ekk, hkc', hkc⟩ := hkids.at_ hat
      obtain ⟨A, C, B, hD', hA', hC'⟩ := SlF.at_ hN.2 (t9.upd HU.out (fun g hg e => hLQ g e hg) (fun _ h => h)) hx
      have hPre : (Pre ++ (r :: A)).length = i + 1 + T.sizeL (ks.take j) := by
        rw [hi, List.length_append, List.length_cons, hA']
        omega
      have hRR : R = (Pre ++ (r :: A)) ++ C ++ (B ++ Suf) := by
        rw [hR, hD']
        simp
      rw [hRR] at Dr
      have hpos : Pre.length + 1 + T.sizeL (ks.take j) = (Pre ++ (r :: A)).length := by rw [hPre, hi]
      rw [hpos] at hC' hkc
      have hmem := size_mem hx
      have CC := ih x (List.mem_of_getElem? hx) (NiceL.all.1 hN.2 x (List.mem_of_getElem? hx)) Sv Rv (Pre ++ (r :: A)) C (B ++ Suf) _ l3 (n + s) c3 (hs ++ hrow gn i s) wr Dr hC' (fun g hg => by have := hQ g hg; have := HU.out.size; omega) (by rw [← hRR]; exact hlen) HO.out (fun g hg hq => by
        rcases HB.out g hg with h | h
        · exact hLQ g h hq
        · have := hQ g hq; omega) (by have := HJ.out.2.2; omega)
      obtain ⟨Y, hY⟩ : ∃ Y, Y = hand (gn (Pre ++ (r :: A)).length) (Pre ++ (r :: A)).length := ⟨_, rfl⟩
      rw [← hY] at CC hkc
      simp only [Value.slice.injEq] at ekk
      obtain ⟨eka, ekl, ekc⟩ := ekk
      have eka' := HKA.out.1.trans eka
      have ekc' := HKA.out.2.1.trans ekc
      have hkc'' : kl ≤ kc' := by have := HKA.out.2.2; omega
      subst eka'
      subst ekc'
      have hat2 := sizeL_at hx
      have hkb : ks.length ≤ 65536 := by have := sizeL_len ks; omega
      have HCC := Lib.hid CC
      have HX := Lib.hid (And.intro hx (And.intro hj (And.intro hPre (And.intro hat2 hkb))))
      clear hx hj Dr hkids hat hD' hA' hC' hPre hRR hpos CC hY eka ekc hR hD hr hQ ih hN t1 t2 t8 t9 t8' hi hX hlen hL hLQ hn hsz hmem hat2 hkb ekl hkc'
      go_wp2_with fail
      refine HCC.out.mono ?_
      rintro e w6 ⟨a6, c6, rfl, O6, U6, b6⟩
      have H6 := Lib.hid (And.intro O6 (And.intro U6 b6))
      clear O6 U6 b6 hkc
      go_wp2
      go_roundg (kl - (j + 1))
      case measure => have := HJ.out; have := HX.out; omega
      case rel =>
        obtain ⟨O6, U6, b6⟩ := H6.out
        obtain ⟨hx, hj, hPre, hat2, hkb⟩ := HX.out
        refine ⟨j + 1, s + T.size x, a6, c6, by rw [Nat.add_assoc], v64s hj (by have := HKA.out.2.2; omega), Lib.hid ⟨rfl, hj, by have := HJ.out.2.2; omega⟩, Lib.hid ?_, Lib.hid (HU.out.trans U6 (fun g hg e => ?_)), Lib.hid (fun g hg => ?_)⟩
        · rw [hrow_add, ← List.append_assoc, ← Nat.add_assoc]
          have e1 : i + s = (Pre ++ (r :: A)).length := by have := HJ.out.2.2; omega
          rw [e1]
          exact O6
        · rcases HB.out g e with h | h
          · exact h
          · omega
        · rw [← Nat.add_assoc] at hg
          rcases b6 g hg with h | h
          · exact HB.out g h
          · have := HU.out.size
            exact Or.inr (by omega)
    · have hj1 : ¬ (j : Int) < (kl : Int) := by omega
      have hj2 : decide (j < kl) = false := decide_eq_false hj
      have ej : j = ks.length := by have := HJ.out; have := HKA.out.2.2; omega
      have HE := Lib.hid ej
      clear hj ej
      go_wp2
      go_ret
      have ej := HE.out
      have es := HJ.out.2.2
      rw [ej, List.take_length] at es
      subst es
      exact ⟨l3, c3, rfl, HO.out, HU.out, HB.out⟩

def AllsPost (w : World) (gn : Nat → Nat) (i s : Nat) (e : Ending) (w' : World) : Prop := ∃ a c, e = .returned (.tuple #[.slice a s c, .int .i64 0]) ∧ w'.ownsRow 0 62 1 (.slice a s c) s (hrow gn i s) ∧ Below w.heap.size w w' ∧ (∀ g, (Value.slice a s c).ownBlock = some g → w.heap.size ≤ g)

set_option maxRecDepth 100000 in
set_option maxHeartbeats 1600000 in
theorem alls_any (Q : Nat → Prop) (d : Nat) (gn : Nat → Nat) (hgn : ∀ i, gn i < 4294967296) (t : T) (ht : Nice t) (Sv Rv : Value) (Pre N Suf : List Row) (p : Nat) (w : World) (hD : DocIs w d Sv Rv (Pre ++ N ++ Suf)) (hT : SlT w Q gn t Pre.length p N) (hQ : ∀ g, Q g → g < w.heap.size) (hlen : (Pre ++ N ++ Suf).length ≤ 65536) (hs : T.size t ≤ 65536) :
    Calls Tryd.prog 67 #[.pointer (some ⟨d, 0, none⟩), .int .u64 (hand (gn Pre.length) Pre.length : Nat)] w (AllsPost w gn Pre.length (T.size t)) := by
  obtain ⟨r, D, hND, t1, t2⟩ := hT.head
  have hr : (Pre ++ N ++ Suf)[Pre.length]? = some r := by
    rw [hND, List.append_assoc, List.getElem?_append_right (Nat.le_refl _), Nat.sub_self]
    rfl
  have hil := (List.getElem?_eq_some_iff.1 hr).1
  have C1 := live_any d Sv Rv _ Pre.length r w hD hr t2 (by rw [t1]; exact hgn _) (by omega)
  rw [t1] at C1
  have hX0 : hand (gn Pre.length) Pre.length ≠ 0 := hand_ne _ _
  have CA := fun la lc w' (hB : Upd w w' (fun _ => False)) (hL : w'.ownsRow 0 62 1 (.slice la 0 lc) 0 []) (hl : ∀ g, (Value.slice la 0 lc).ownBlock = some g → w.heap.size ≤ g) => all_any Q d gn hgn t ht Sv Rv Pre N Suf p la 0 lc [] w' (hD.keep hB (fun h => h) (fun _ _ h => h)) (SlT.upd hB (fun _ _ h => h) (fun _ h => h) hT) (fun g hg => by have := hQ g hg; have := hB.size; omega) hlen hL (fun g hg hq => by have := hl g hg; have := hQ g hq; omega) (by omega)
  obtain ⟨X, hX⟩ : ∃ X, X = hand (gn Pre.length) Pre.length := ⟨_, rfl⟩
  rw [← hX] at C1 CA hX0 ⊢
  have hX1 : ((X : Int) == 0) = false := beq_eq_false_iff_ne.2 (by omega)
  have hX2 : ((X : Int) != 0) = true := by rw [bne, hX1]; rfl
  have hX3 : (X == 0) = false := beq_eq_false_iff_ne.2 hX0
  have HH := Lib.hid (And.intro C1 CA)
  clear hD hT hQ hlen hs hND t1 t2 hr hil C1 CA hX ht
  go_enter Tryd.func67, Tryd.ntmps67
  go_wp2_with fail
  refine HH.out.1.mono ?_
  rintro e w2 ⟨rfl, B2⟩
  obtain ⟨q, hq⟩ : ∃ q, q = w2.heap.size := ⟨_, rfl⟩
  obtain ⟨W3, hW3⟩ : ∃ W3, W3 = w2.alloc (.cells #[] 62) := ⟨_, rfl⟩
  have U3 : Upd w W3 (fun _ => False) := by rw [hW3]; exact (Upd.ofBelow B2).alloc _
  have O3 : W3.ownsRow 0 62 1 (.slice (some ⟨q, 0, none⟩) 0 0) 0 [] := by rw [hW3]; exact own_lit_sz hq
  have hqw : w.heap.size ≤ q := by rw [hq]; exact B2.size
  have C := HH.out.2 (some ⟨q, 0, none⟩) 0 W3 U3 O3 (fun g hg => by have := ob_eq hg; omega)
  have H3 := Lib.hid (And.intro U3 (And.intro hqw (And.intro C (And.intro hq hW3))))
  clear U3 O3 hqw C hq hW3 B2
  go_wp2_with fail
  rw [← H3.out.2.2.2.2, ← H3.out.2.2.2.1]
  refine H3.out.2.2.1.mono ?_
  rintro e w4 ⟨a4, c4, rfl, O4, U4, b4⟩
  have H4 := Lib.hid (And.intro O4 (And.intro U4 b4))
  clear O4 U4 b4
  go_wp2
  go_ret2
  obtain ⟨O4, U4, b4⟩ := H4.out
  obtain ⟨U3, hqw, _⟩ := H3.out
  rw [Nat.zero_add] at O4 b4
  refine ⟨a4, c4, rfl, O4, (U3.trans U4 (fun g hg e => ?_) : Upd w w4 (fun _ => False)).below (Nat.le_refl _) (fun _ _ h => h), fun g hg => ?_⟩
  · have := ob_eq e; omega
  · rcases b4 g hg with h | h
    · have := ob_eq h; omega
    · have := U3.size; omega

end Df
end Go.Proofs.YtmmjmfadipmfiaaDoor

namespace Go.Proofs.YtmmjmfadipmfiaaDoor
open Go.RowKit
open Ch
namespace Df

theorem SlF.rowsOf {w : World} {Q : Nat → Prop} {gn : Nat → Nat} : ∀ {l : List T} {i p : Nat} {N : List Row}, NiceL l → (∀ x ∈ l, ∀ i p N, SlT w Q gn x i p N → ∀ j r, N[j]? = some r → r.g = gn (i + j) ∧ r.lv = true) → SlF w Q gn l i p N → ∀ j r, N[j]? = some r → r.g = gn (i + j) ∧ r.lv = true
  | [], _, _, _, _, _, h, j, r, hj => by rw [SlF] at h; subst h; simp at hj
  | t :: l, i, p, N, hN, hk, h, j, r, hj => by
    rw [SlF] at h
    rw [NiceL] at hN
    obtain ⟨C, D, rfl, h1, h2⟩ := h
    have hc := SlT.len t hN.1 _ _ _ h1
    by_cases hjc : j < C.length
    · rw [List.getElem?_append_left hjc] at hj
      exact hk t (by simp) _ _ _ h1 j r hj
    · rw [List.getElem?_append_right (by omega)] at hj
      have := h2.rowsOf hN.2 (fun x hx => hk x (by simp [hx])) (j - C.length) r hj
      rw [show i + j = i + T.size t + (j - C.length) by omega]
      exact this
theorem SlT.rows {w : World} {Q : Nat → Prop} {gn : Nat → Nat} : ∀ t, Nice t → ∀ i p N, SlT w Q gn t i p N → ∀ j r, N[j]? = some r → r.g = gn (i + j) ∧ r.lv = true := by
  refine T.ind ?_
  intro k n al t ks ih hN i p N h j r hj
  rw [Nice] at hN
  rw [SlT] at h
  obtain ⟨r', D, rfl, h1, h2, _, _, _, _, _, _, h9⟩ := h
  cases j with
  | zero => simp at hj; subst hj; exact ⟨h1, h2⟩
  | succ j =>
    have := h9.rowsOf hN.2 (fun x hx => ih x hx (NiceL.all.1 hN.2 x hx)) j r (by simpa using hj)
    rw [show i + (j + 1) = i + 1 + j by omega]
    exact this

theorem rows_next {k j : Nat} {C E : List Row} {r : Row} (h : C[j]? = some r) : (List.replicate (k + j) (dead 1) ++ C.drop j ++ E).set (k + j) (dead 1) = List.replicate (k + (j + 1)) (dead 1) ++ C.drop (j + 1) ++ E := by
  rw [drop_at h, List.append_assoc, List.set_append_right _ _ (by simp), List.length_replicate, Nat.sub_self]
  show List.replicate (k + j) (dead 1) ++ (dead 1 :: (C.drop (j + 1) ++ E)) = _
  rw [show k + (j + 1) = (k + j) + 1 by omega, List.replicate_succ']
  simp
theorem rows_get {k j : Nat} {C E : List Row} {r : Row} (h : C[j]? = some r) : (List.replicate (k + j) (dead 1) ++ C.drop j ++ E)[k + j]? = some r := by
  rw [drop_at h, List.append_assoc, List.getElem?_append_right (by simp), List.length_replicate, Nat.sub_self]
  rfl

def one1 : Nat → Nat := fun _ => 1
def DelPost (B d k ge m : Nat) (t : T) (f : List T) (w : World) (e : Ending) (w' : World) : Prop := ∃ (Sv' : Value) (ra' : Option Addr) (rc' : Nat) (N' : List Row), e = .returned (.int .i64 0) ∧ DocSt w' B d one1 (k + T.size t) ge m f Sv' ra' rc' N' ∧ Upd w w' (fun g => B ≤ g)

set_option maxRecDepth 100000 in
set_option maxHeartbeats 1000000 in
theorem delete_any (B d k ge m : Nat) (t : T) (f : List T) (Sv : Value) (ra : Option Addr) (rc : Nat) (N : List Row) (w : World) (hS : DocSt w B d one1 k ge m (t :: f) Sv ra rc N) (hN : NiceL (t :: f)) (hlen : k + N.length + m ≤ 65536) :
    Calls Tryd.prog 45 #[.pointer (some ⟨d, 0, none⟩), .int .u64 (hand 1 k : Nat)] w (DelPost B d k ge m t f w) := by
  have hsl := hS.slots
  rw [SlF] at hsl
  obtain ⟨C, D, hND, hC, hDf⟩ := hsl
  have hNt := hN
  rw [NiceL] at hNt
  have hCl := SlT.len t hNt.1 _ _ _ hC
  have hrows := SlT.rows t hNt.1 _ _ _ hC
  obtain ⟨r, C', hCr, hrg, hrl⟩ := hC.head
  have hrp : r.p = 0 := by
    cases t
    rw [SlT] at hC
    obtain ⟨r', D', e, _, _, _, _, _, hp, _⟩ := hC
    rw [hCr] at e
    obtain ⟨rfl, _⟩ := List.cons.inj e
    exact hp
  obtain ⟨R, hR⟩ : ∃ R, R = List.replicate k (dead 1) ++ N ++ List.replicate m (dead ge) := ⟨_, rfl⟩
  have hRR : R = List.replicate k (dead 1) ++ C ++ (D ++ List.replicate m (dead ge)) := by rw [hR, hND]; simp
  have hRl : R.length = k + N.length + m := by rw [hR]; simp; omega
  have hrk : R[k]? = some r := by
    rw [hRR, hCr, List.append_assoc, List.getElem?_append_right (by simp), List.length_replicate, Nat.sub_self]
    rfl
  have hdoc := hS.doc
  rw [← hR] at hdoc
  have C1 := live_any d Sv _ R k r w hdoc hrk hrl (by rw [hrg]; unfold one1; omega) (by have := (List.getElem?_eq_some_iff.1 hrk).1; omega)
  have hdoc2 := hdoc
  rw [hRR] at hdoc2
  have hlr : (List.replicate k (dead 1)).length = k := List.length_replicate
  have hC0 := hC
  rw [← hlr] at hC0
  have hCN : T.size t ≤ 65536 := by
    have h1 : N.length = C.length + D.length := by rw [hND, List.length_append]
    omega
  have CA := fun w' (hB : Below w.heap.size w w') => alls_any (fun g => B ≤ g ∧ g < w.heap.size ∧ Sv.ownBlock ≠ some g ∧ g ≠ d) d one1 (fun _ => by unfold one1; omega) t hNt.1 Sv _ (List.replicate k (dead 1)) C (D ++ List.replicate m (dead ge)) 0 w' (hdoc2.below hB) (SlT.upd (Upd.ofBelow (F := fun _ => False) hB) (fun _ _ h => h) (fun _ h => h) hC0) (fun g hg => by have := hg.2.1; have := hB.size; omega) (by rw [← hRR]; omega) hCN
  rw [hlr] at CA
  rw [show r.g = 1 from hrg] at C1
  have CA : ∀ w', Below w.heap.size w w' → Calls Tryd.prog _ #[.pointer (some ⟨d, 0, none⟩), .int .u64 (hand 1 k : Nat)] w' (AllsPost w' one1 k (T.size t)) := CA
  obtain ⟨X, hX⟩ : ∃ X, X = hand 1 k := ⟨_, rfl⟩
  rw [← hX] at C1 CA ⊢
  have HH := Lib.hid (And.intro hS (And.intro hNt (And.intro hlen (And.intro hND (And.intro hC (And.intro hDf (And.intro hCl (And.intro hrows (And.intro hR (And.intro hRR (And.intro hRl (And.intro hrk (And.intro hdoc (And.intro hX (And.intro hrp (And.intro hrl hrg))))))))))))))))
  have HC1 := Lib.hid C1
  have HCA := Lib.hid CA
  clear hCN hS hN hNt hlen hND hC hDf hCl hrows hR hRR hRl hrk hdoc hX hrp hrl hrg C1 CA hdoc2 hlr hC0 hCr
  go_enter Tryd.func45, Tryd.ntmps45
  go_wp2_with fail
  refine HC1.out.mono ?_
  rintro e w2 ⟨rfl, B2⟩
  have HC2 := Lib.hid (And.intro (HCA.out w2 B2) B2)
  clear B2
  go_wp2_with fail
  refine HC2.out.1.mono ?_
  rintro e w3 ⟨la, lc, rfl, O3, B3, b3⟩
  have BB := below_tr HC2.out.2 B3
  have D3 := HH.out.2.2.2.2.2.2.2.2.2.2.2.2.1.below BB
  have d0 := D3.blk.cell 0
  simp only [List.getElem?_cons_zero] at d0
  obtain ⟨sa, sc, hsv, hsc⟩ := D3.form
  rw [hsv] at d0
  obtain ⟨n, hn⟩ : ∃ n, n = R.length := ⟨_, rfl⟩
  rw [← hn] at d0 hsc
  have hdlt := D3.blk.lt
  have hdne : d ≠ w3.heap.size := Nat.ne_of_lt hdlt
  obtain ⟨s, hs⟩ : ∃ s, s = T.size t := ⟨_, rfl⟩
  rw [← hs] at O3 b3 ⊢
  have H3 := Lib.hid (And.intro O3 (And.intro BB (And.intro b3 (And.intro D3 (And.intro hsv (And.intro hn hs))))))
  clear O3 BB b3 D3 hsv hn hs B3
  go_wp2_with (at_builtin; refine halt_mk ?_)
  refine halt_go ?_
  obtain ⟨q, hq⟩ : ∃ q, q = w3.heap.size := ⟨_, rfl⟩
  have HQ := Lib.hid hq
  rw [← hq]
  clear hq
  generalize hW : World.alloc _ _ = W1
  have T1 : Upd w3 W1 (fun _ => False) := by rw [← hW]; exact (Upd.refl w3 _).alloc _
  have O1 : W1.ownsRow 0 112 8 (.slice (some ⟨q, 0, none⟩) 0 0) 0 [] := by rw [← hW]; exact own_lit_sz HQ.out
  clear hW
  have D1 := H3.out.2.2.2.1.keep T1 (fun h => h) (fun _ _ h => h)
  have hRd := Rd.ofOwn D1.own
  rw [H3.out.2.2.2.2.1, ← H3.out.2.2.2.2.2.1] at hRd
  have hmb : n ≤ 65536 := by
    have h1 := H3.out.2.2.2.2.2.1
    have h2 := HH.out.2.2.2.2.2.2.2.2.2.2.1
    have h3 := HH.out.2.2.1
    omega
  refine wpl_app (n := 0) (m := n) rfl rfl elemSlot Tryd.underlying83 rfl O1 rfl hRd (rowsC_one _) (by omega) ?_
  rintro v7 w7 ⟨O7, U7, b7⟩
  rw [Nat.zero_add, List.nil_append] at O7
  have hv7 : ∀ g, v7.ownBlock = some g → w3.heap.size ≤ g := fun g hg => by
    have hq := HQ.out
    rcases b7 with e | e
    · have := ob_eq (e.symm.trans hg); omega
    · have := ob_some (e.symm.trans hg); have := T1.size; omega
  have V7 : Upd w3 w7 (fun _ => False) := T1.trans U7 (fun i hi e => by have := ob_eq e; have := HQ.out; omega)
  have D7 := V7.blk H3.out.2.2.2.1.blk (fun h => h)
  obtain ⟨a7, c7, rfl, _⟩ := (Rd.ofOwn O7).form
  have d0 := D7.cell 0
  have f0 := D7.free 0
  simp only [List.getElem?_cons_zero, List.getElem?_cons_succ] at d0
  obtain ⟨W8, hW8⟩ : ∃ W8, W8 = w7.setCell ⟨d, 0, none⟩ (.slice a7 n c7) := ⟨_, rfl⟩
  have U8 : Upd w7 W8 (· = d) := by rw [hW8]; exact (Upd.refl w7 (· = d)).set ⟨d, 0, none⟩ _ (fun _ => rfl)
  have B8 : Blk W8 d [.slice a7 n c7, .slice ra (t :: f).length rc] 86 := by rw [hW8]; exact D7.set 0 _
  have D8 : DocIs W8 d (.slice a7 n c7) (.slice ra (f.length + 1) rc) R := by
    refine ⟨B8, ?_⟩
    have h := own_keep O7 U8 (fun g hg e => by
      have h1 := hv7 g hg
      have h2 := H3.out.2.2.2.1.blk.lt
      omega)
    rw [H3.out.2.2.2.2.2.1] at h ⊢
    exact h
  have hU8 : Upd w W8 (· = d) := (((Upd.ofBelow H3.out.2.1).trans V7 (fun _ _ h => h) : Upd w w7 (fun _ => False)).mono (fun _ _ h => h.elim)).trans U8 (fun _ _ h => h)
  have hS := HH.out.1
  have hO8 : W8.ownsRow 0 62 1 (.slice ra (f.length + 1) rc) (f.length + 1) (.int .u64 (hand r.g k : Nat) :: hands one1 (k + T.size t) f) := by
    have hgg : r.g = 1 := HH.out.2.2.2.2.2.2.2.2.2.2.2.2.2.2.2.2
    rw [hgg]
    refine own_keep hS.roots hU8 (fun g hg e => ?_)
    obtain ⟨_, hv⟩ := own_ty hS.roots hg
    exact hS.doc.blk.ty (e ▸ hv) (by decide) rfl
  have hfl : f.length ≤ 65536 := by
    have h1 := sizeL_len (t :: f)
    have h2 := hS.len
    have h3 := HH.out.2.2.1
    rw [List.length_cons] at h1
    omega
  have C8 := out0_any d _ ra f.length rc _ R k r W8 D8 HH.out.2.2.2.2.2.2.2.2.2.2.2.1 HH.out.2.2.2.2.2.2.2.2.2.2.2.2.2.2.2.1 (by rw [HH.out.2.2.2.2.2.2.2.2.2.2.2.2.2.2.2.2]; unfold one1; omega) (by have := (List.getElem?_eq_some_iff.1 HH.out.2.2.2.2.2.2.2.2.2.2.2.1).1; have := H3.out.2.2.2.2.2.1; omega) HH.out.2.2.2.2.2.2.2.2.2.2.2.2.2.2.1 hO8 (hands_one _ _ _) hfl
  rw [show r.g = 1 from HH.out.2.2.2.2.2.2.2.2.2.2.2.2.2.2.2.2, ← HH.out.2.2.2.2.2.2.2.2.2.2.2.2.2.1, hW8] at C8
  have hL8 : W8.ownsRow 0 62 1 (.slice la s lc) s (hrow one1 k s) := own_keep (own_keep H3.out.1 V7 (fun _ _ h => h)) U8 (fun g hg e => by have := H3.out.2.2.1 g hg; have := hS.doc.blk.lt; have := HC2.out.2.size; omega)
  have H8 := Lib.hid (And.intro D8 (And.intro hU8 (And.intro hL8 (And.intro (show ∀ g, (Value.slice a7 n c7).ownBlock = some g → w.heap.size ≤ g from fun g hg => by have := hv7 g hg; have := H3.out.2.1.size; omega) (And.intro hW8 hmb)))))
  have HC8 := Lib.hid C8
  clear T1 O1 D1 hRd O7 U7 b7 hv7 V7 D7 U8 B8 D8 hU8 hS hO8 hfl C8 hL8 hW8 hmb
  go_wp2_with fail
  refine HC8.out.mono ?_
  rintro e w9 ⟨rfl, ra', rc', D9, O9, b9, U9⟩
  rw [← H8.out.2.2.2.2.1] at U9 b9
  have hL9 : w9.ownsRow 0 62 1 (.slice la s lc) s (hrow one1 k s) := own_keep H8.out.2.2.1 U9 (fun g hg e => by
    obtain ⟨_, hv⟩ := own_ty H8.out.2.2.1 hg
    exact H8.out.1.blk.ty (e ▸ hv) (by decide) rfl)
  have hsC : s = C.length := by rw [H3.out.2.2.2.2.2.2]; exact HH.out.2.2.2.2.2.2.1.symm
  have D9' : DocIs w9 d (.slice a7 n c7) (.slice ra' f.length rc') (List.replicate (k + 0) (dead 1) ++ C.drop 0 ++ (D ++ List.replicate m (dead ge))) := by
    have h := HH.out.2.2.2.2.2.2.2.2.2.1
    rw [Nat.add_zero, List.drop_zero, ← h]
    exact D9
  have hsn : s ≤ n := by
    have h1 := HH.out.2.2.2.1
    have h2 := HH.out.2.2.2.2.2.2.2.2.2.2.1
    have h3 : N.length = C.length + D.length := by rw [h1, List.length_append]
    have h4 := H3.out.2.2.2.2.2.1
    omega
  have H9 := Lib.hid (And.intro D9' (And.intro O9 (And.intro b9 (And.intro U9 (And.intro hL9 (And.intro hsC hsn))))))
  clear D9 O9 b9 U9 hL9 hsC D9' hsn d0 f0 hdlt hdne
  go_wp2
  go_loopg [7, 8] s (fun kq v7 v8 w' => ∃ j : Nat, v7 = .int .i64 j ∧ Hid (kq = s - j ∧ j ≤ s) ∧ Hid (DocIs w' d (.slice a7 n c7) (.slice ra' f.length rc') (List.replicate (k + j) (dead 1) ++ C.drop j ++ (D ++ List.replicate m (dead ge)))) ∧ Hid (Upd w9 w' (fun g => (Value.slice a7 n c7).ownBlock = some g)))
  case atStart => exact ⟨0, rfl, Lib.hid ⟨rfl, Nat.zero_le _⟩, Lib.hid H9.out.1, Lib.hid (Upd.refl _ _)⟩
  case round =>
    obtain ⟨j, rfl, HJ, HD, HU⟩ := hrel
    have hj0 : (0 : Int) ≤ (j : Int) := by omega
    by_cases hj : j < s
    · have hj1 : (j : Int) < (s : Int) := by omega
      have hj2 : decide (j < s) = true := decide_eq_true hj
      obtain ⟨rj, hrj⟩ : ∃ rj, C[j]? = some rj := ⟨C[j]'(by have := H9.out.2.2.2.2.2.1; omega), List.getElem?_eq_getElem _⟩
      obtain ⟨hg1, hg2⟩ := HH.out.2.2.2.2.2.2.2.1 j rj hrj
      have hg1 : rj.g = 1 := hg1
      have hrow := rows_get (k := k) (E := D ++ List.replicate m (dead ge)) hrj
      obtain ⟨RJ, hRJ⟩ : ∃ RJ, RJ = List.replicate (k + j) (dead 1) ++ C.drop j ++ (D ++ List.replicate m (dead ge)) := ⟨_, rfl⟩
      have hDj := HD.out
      rw [← hRJ] at hrow hDj
      obtain ⟨i, hi⟩ : ∃ i, i = k + j := ⟨_, rfl⟩
      rw [← hi] at hrow
      have hRJl : RJ.length = n := by
        have h1 := hDj.own.1
        obtain ⟨_, _, e, _⟩ := hDj.form
        simp only [Value.slice.injEq] at e
        exact e.2.1.symm
      have hil := (List.getElem?_eq_some_iff.1 hrow).1
      rw [hRJl] at hil
      have hnb := H8.out.2.2.2.2.2
      have C1 := at_any d _ _ RJ i rj wr hDj hrow hg2 (by omega) (by omega)
      have hLr := own_keep H9.out.2.2.2.2.1 HU.out (fun g hg e => by
        obtain ⟨_, hv⟩ := own_ty H9.out.2.2.2.2.1 hg
        obtain ⟨_, hv2⟩ := own_ty H9.out.1.own e
        exact hv.ty hv2 (by decide) rfl)
      obtain ⟨lg, loff, lc', el, hlc, hlcell⟩ := (Rd.ofOwn hLr).at_ (hrow_at one1 k hj)
      rw [← hi] at hlcell
      have hY1 : hand (one1 i) i = hand 1 i := rfl
      rw [hY1] at hlcell
      rw [hg1] at C1
      obtain ⟨Y, hY⟩ : ∃ Y, Y = hand 1 i := ⟨_, rfl⟩
      rw [← hY] at hlcell C1
      simp only [Value.slice.injEq] at el
      obtain ⟨rfl, _, rfl⟩ := el
      have HX := Lib.hid (And.intro hj (And.intro hrj (And.intro hg1 (And.intro hrow (And.intro hRJ (And.intro hDj (And.intro hi hRJl)))))))
      have HC := Lib.hid C1
      have i0 : (0 : Int) ≤ (i : Int) := by omega
      have i1 : (i : Int) < (n : Int) := by omega
      clear hj hrj hg1 hg2 hrow hRJ hDj hi hRJl hil hnb C1 hLr hY hY1
      go_wp2_with fail
      refine HC.out.mono ?_
      rintro e wa ⟨rfl, Ba⟩
      have Da := HX.out.2.2.2.2.2.1.below Ba
      obtain ⟨sg, sc2, esv, _, c0, c1, c2, c3, c4, c5, c6, c7', fz⟩ := Da.row HX.out.2.2.2.1
      simp only [Value.slice.injEq] at esv
      obtain ⟨rfl, enl, rfl⟩ := esv
      have d0 := Da.blk.cell 0
      simp only [List.getElem?_cons_zero] at d0
      obtain ⟨G, hG⟩ : ∃ G : Nat, G = rj.g := ⟨_, rfl⟩
      rw [← hG] at c0
      have Ha := Lib.hid (And.intro Da (And.intro Ba (And.intro hG (And.intro fz (And.intro c1 (And.intro c2 (And.intro c3 (And.intro c4 (And.intro c5 (And.intro c6 c7'))))))))))
      clear Da Ba hG fz c1 c2 c3 c4 c5 c6 c7' enl hlcell hj0 hj1
      go_wp2
      apply wp_reg (fun w' : World => w'.cell? ⟨d, 0, none⟩ = some (.slice (some ⟨sg, 0, none⟩) n c7) ∧ w'.cell? ⟨sg, i * 8, none⟩ = some (.int .u32 (G : Nat))) [0, 1, 2, 3, 4, 5, 6, 7, 8, 9, 10, 11, 12, 13] [] [14, 15] (by kernel_rfl) (by kernel_rfl) (fun _ _ d _ _ h => by cases d <;> exact h) ⟨d0, c0⟩
      · iterate 14 (apply reads_consL rfl rfl; (· intro w0 hS; obtain ⟨hS1, hS2⟩ := hS; go_simp; try rfl); simp only [Act.put, List.setIfInBounds_toArray, List.set_cons_zero, List.set_cons_succ])
        exact rfl
      obtain ⟨wd, hwd⟩ : ∃ wd, wd = wa.drew := ⟨_, rfl⟩
      have hcd : ∀ a, wd.cell? a = wa.cell? a := fun a => by rw [hwd]; rfl
      have hfd : ∀ a, wd.frozen? a = wa.frozen? a := fun a => by rw [hwd]; rfl
      have Ud : Upd wa wd (fun _ => False) := by rw [hwd]; exact (Upd.refl wa _).drew
      rw [← hwd]
      clear d0 c0 hwd
      have d0 : wd.cell? ⟨d, 0, none⟩ = some (.slice (some ⟨sg, 0, none⟩) n c7) := (hcd _).trans (Ha.out.1.blk.cell 0)
      have c1 := (hcd _).trans Ha.out.2.2.2.2.1
      have c2 := (hcd _).trans Ha.out.2.2.2.2.2.1
      have c3 := (hcd _).trans Ha.out.2.2.2.2.2.2.1
      have c4 := (hcd _).trans Ha.out.2.2.2.2.2.2.2.1
      have c5 := (hcd _).trans Ha.out.2.2.2.2.2.2.2.2.1
      have c6 := (hcd _).trans Ha.out.2.2.2.2.2.2.2.2.2.1
      have c7' := (hcd _).trans Ha.out.2.2.2.2.2.2.2.2.2.2
      have c0 : ∃ v, wd.cell? ⟨sg, i * 8, none⟩ = some v := by
        obtain ⟨g', c', e, _, h0, _⟩ := Ha.out.1.row HX.out.2.2.2.1
        simp only [Value.slice.injEq, Option.some.injEq, Addr.mk.injEq] at e
        obtain ⟨⟨rfl, _⟩, _, _⟩ := e
        exact ⟨_, (hcd _).trans h0⟩
      obtain ⟨v0, c0⟩ := c0
      have fz := fun j => (hfd ⟨sg, j, none⟩).trans (Ha.out.2.2.2.1 j)
      have z0 := fz (i * 8)
      have z1 := fz (i * 8 + 1)
      have z2 := fz (i * 8 + 2)
      have z3 := fz (i * 8 + 3)
      have z4 := fz (i * 8 + 4)
      have z5 := fz (i * 8 + 5)
      have z6 := fz (i * 8 + 6)
      have z7 := fz (i * 8 + 7)
      have HUd := Lib.hid Ud
      clear hcd hfd Ud fz
      refine tail_twoL rfl rfl ?_
      go_wp2
      go_roundg (s - (j + 1))
      case measure => have := HJ.out; have := HX.out; omega
      case rel =>
        obtain ⟨hj, hrj, hg1, hrow, hRJ, hDj, hi, hRJl⟩ := HX.out
        have hG1 : G = 1 := Ha.out.2.2.1.trans hg1
        subst hG1
        have Dd := Ha.out.1.keep HUd.out (fun h => h) (fun _ _ h => h)
        rw [← hRJl] at Dd
        have hil := (List.getElem?_eq_some_iff.1 hrow).1
        have D9 := Dd.setRow hil (dead 1)
        have hnx := rows_next (k := k) (E := D ++ List.replicate m (dead ge)) hrj
        rw [← hRJ, ← hi] at hnx
        rw [hnx, hRJl] at D9
        have U1 : Upd wd ((((((((wd.setCell ⟨sg, i * 8, none⟩ (.int .u32 ((dead 1).g : Nat))).setCell ⟨sg, i * 8 + 1, none⟩ (.bool (dead 1).lv)).setCell ⟨sg, i * 8 + 2, none⟩ (.int .i64 (dead 1).k)).setCell ⟨sg, i * 8 + 3, none⟩ (.string (dead 1).n)).setCell ⟨sg, i * 8 + 4, none⟩ (.slice (dead 1).aa (dead 1).al (dead 1).ac)).setCell ⟨sg, i * 8 + 5, none⟩ (.string (dead 1).t)).setCell ⟨sg, i * 8 + 6, none⟩ (.int .u64 ((dead 1).p : Nat))).setCell ⟨sg, i * 8 + 7, none⟩ (.slice (dead 1).ka (dead 1).kl (dead 1).kc)) (· = sg) :=
          ((((((((Upd.refl wd (· = sg)).set ⟨sg, i * 8, none⟩ _ (fun _ => rfl)).set ⟨sg, i * 8 + 1, none⟩ _ (fun _ => rfl)).set ⟨sg, i * 8 + 2, none⟩ _ (fun _ => rfl)).set ⟨sg, i * 8 + 3, none⟩ _ (fun _ => rfl)).set ⟨sg, i * 8 + 4, none⟩ _ (fun _ => rfl)).set ⟨sg, i * 8 + 5, none⟩ _ (fun _ => rfl)).set ⟨sg, i * 8 + 6, none⟩ _ (fun _ => rfl)).set ⟨sg, i * 8 + 7, none⟩ _ (fun _ => rfl)
        have U0 : Upd w9 wd (fun g => (Value.slice (some ⟨sg, 0, none⟩) n c7).ownBlock = some g) := (HU.out.trans (Upd.ofBelow (F := fun _ => False) Ha.out.2.1) (fun _ _ h => h.elim)).trans HUd.out (fun _ _ h => h.elim)
        have U2 := U0.trans U1 (fun g hg e => by rw [e]; rfl)
        exact ⟨j + 1, v64s hj (by have := H8.out.2.2.2.2.2; have := H9.out.2.2.2.2.2.2; omega), Lib.hid ⟨rfl, hj⟩, Lib.hid D9, Lib.hid U2⟩
    · have hj1 : ¬ (j : Int) < (s : Int) := by omega
      have hj2 : decide (j < s) = false := decide_eq_false hj
      have ej : j = s := by have := HJ.out; omega
      have HE := Lib.hid ej
      clear hj ej
      go_wp2
      go_ret
      have ej := HE.out
      subst ej
      have hS := HH.out.1
      have hNt := HH.out.2.1
      have hND := HH.out.2.2.2.1
      have hDf := HH.out.2.2.2.2.2.1
      have hCl := HH.out.2.2.2.2.2.2.1
      have hst := H3.out.2.2.2.2.2.2
      have hsC := H9.out.2.2.2.2.2.1
      have z8 := H8.out.2.1.size
      have zd := hS.doc.blk.lt
      have hsv := H8.out.2.2.2.1
      have Uall : Upd w wr (fun g => g = d) := (H8.out.2.1.trans H9.out.2.2.2.1 (fun _ _ h => h)).trans HU.out (fun g hg e => by have := hsv g e; omega)
      have hdoc := HD.out
      rw [hsC, List.drop_length, List.append_nil, ← hsC, ← List.append_assoc] at hdoc
      have hNl : N.length = C.length + D.length := by rw [hND, List.length_append]
      have hlen := hS.len
      rw [T.sizeL] at hlen
      refine ⟨.slice a7 n c7, ra', rc', D, rfl, ⟨?_, ?_, ?_, ?_, ?_, ?_, ?_, hS.dB⟩, ?_⟩
      · rw [← hst]
        exact hdoc
      · intro r hr
        exact hS.live r (by rw [hND]; exact List.mem_append_right _ hr)
      · omega
      · refine SlF.upd Uall (fun g hg e => hg.2.2.2 e) (fun g hg => ⟨hg.1, by have := hg.2.1; have := Uall.size; omega, fun e => by have := hsv g e; have := hg.2.1; omega, hg.2.2.2⟩) hDf
      · refine own_keep H9.out.2.1 HU.out (fun g hg e => ?_)
        obtain ⟨_, hv⟩ := own_ty H9.out.2.1 hg
        obtain ⟨_, hv2⟩ := own_ty H9.out.1.own e
        exact hv.ty hv2 (by decide) rfl
      · intro g hg
        have := hsv g hg
        have := hS.dB
        omega
      · intro g hg
        have := H9.out.2.2.1 g hg
        have := hS.dB
        omega
      · exact Uall.mono (fun g hg e => by have := hS.dB; show B ≤ g; omega)

end Df
end Go.Proofs.YtmmjmfadipmfiaaDoor
