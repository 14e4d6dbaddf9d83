/- A call by the program and by the document. -/
import Derived.Test.YtnhgeoccknhiiaaTagLaw
namespace Go.Proofs.Ytnhgeoccknhiiaa
open Go.RowKit

@[reducible] def actV (kind how : Int) (tag other : Nat) : Value := .agg #[.int .i64 kind, .int .i64 how, .int .u64 tag, .int .u64 other]

def MeantPost (w : World) (e : Ending) (w' : World) : Prop := ∃ t : Nat, e = .returned (.int .u64 t) ∧ Upd w w' (fun _ => False)

set_option maxRecDepth 10000 in
theorem meant_any (d g : Nat) (L : List Nat) (kind how : Int) (tag other : Nat) (w : World) (h : RefIs w d L g) (hL : L.length ≤ 8192) (ht : tag < 18446744073709551616) :
    Calls Try.prog 68 #[.pointer (some ⟨d, 0, none⟩), .agg #[.int .i64 kind, .int .i64 how, .int .u64 tag, .int .u64 other]] w (MeantPost w) := by
  obtain ⟨v, hB, hO⟩ := h
  have hR := Rd.ofOwn hO
  obtain ⟨a, c, rfl, hc⟩ := hR.form
  have h0 : w.cell? ⟨d, 0, none⟩ = some (.slice a L.length c) := hB.cell 0
  have hdl := hB.lt
  have HR := Lib.hid hR
  have hfin : ∀ t : Nat, MeantPost w (.returned (.int .u64 t)) (w.alloc (.cells #[.int .i64 kind, .int .i64 how, .int .u64 tag, .int .u64 other] 89)) := fun t => ⟨t, rfl, (Upd.refl w _).alloc _⟩
  have HF := Lib.hid hfin
  clear hB hO hR hfin
  by_cases c1 : how = 0
  · have d1 : (how == 0) = true := by rw [beq_iff_eq]; exact c1
    clear c1
    go_enter Try.func68, Try.ntmps68
    go_wp2
    go_ret
    exact HF.out tag
  · have d1 : (how == 0) = false := by rw [beq_eq_false_iff_ne]; exact c1
    clear c1
    by_cases c2 : L.length = 0
    · have d2 : ((L.length : Int) == 0) = true := by rw [beq_iff_eq]; omega
      have C2 := Lib.hid c2
      clear c2
      go_enter Try.func68, Try.ntmps68
      go_wp2
      go_ret
      exact HF.out tag
    · have d2 : ((L.length : Int) == 0) = false := by rw [beq_eq_false_iff_ne]; omega
      have hlp : 0 < L.length := by omega
      have d2b : decide (L = []) = false := decide_eq_false (fun e => c2 (by rw [e]; rfl))
      clear c2
      obtain ⟨k, hk⟩ : ∃ k, k = tag % (L.length + 1) := ⟨_, rfl⟩
      have hkl : k ≤ L.length := by rw [hk]; have := Nat.mod_lt tag (show 0 < L.length + 1 by omega); omega
      have hrem : (tag : Int) % ((L.length : Int) + 1) = (k : Int) := by rw [hk]; push_cast; rfl
      have hrem2 : Int.tmod (tag : Int) ((L.length : Int) + 1) = (k : Int) := by rw [Int.tmod_eq_emod_of_nonneg (by omega)]; exact hrem
      clear hk
      by_cases c3 : k = 0
      · have d3 : ((k : Int) == 0) = true := by rw [beq_iff_eq]; omega
        clear c3
        go_enter Try.func68, Try.ntmps68
        go_wp2
        go_ret
        exact HF.out 0
      · have d3 : ((k : Int) == 0) = false := by rw [beq_eq_false_iff_ne]; omega
        have hkp : 0 < k := by omega
        clear c3
        by_cases c4 : how = 2
        · have d4 : (how == 2) = true := by rw [beq_iff_eq]; exact c4
          clear c4
          have hlt : L.length - k < L.length := by omega
          obtain ⟨gb, off, c', e1, _, hcell⟩ := HR.out.at_ (j := L.length - k) (u := .int .u64 (nameL L (L.length - k + 1) : Nat)) (by rw [ns_get, nameL_get hlt]; rfl)
          cases e1
          have hlg := World.block_lt_of_cell? w _ hcell
          have hi0 : (0 : Int) ≤ (L.length : Int) + 1 - (k : Int) - 1 := by omega
          have hi1 : (L.length : Int) + 1 - (k : Int) - 1 < (L.length : Int) := by omega
          have hcell' : w.cell? ⟨gb, off + (L.length + 1 - k - 1), none⟩ = some (.int .u64 (nameL L (L.length - k + 1) : Nat)) := by rw [show L.length + 1 - k - 1 = L.length - k by omega]; exact hcell
          go_enter Try.func68, Try.ntmps68
          go_wp2
          go_ret
          exact HF.out _
        · have d4 : (how == 2) = false := by rw [beq_eq_false_iff_ne]; exact c4
          clear c4
          have hlt : k - 1 < L.length := by omega
          obtain ⟨gb, off, c', e1, _, hcell⟩ := HR.out.at_ (j := k - 1) (u := .int .u64 (nameL L (k - 1 + 1) : Nat)) (by rw [ns_get, nameL_get hlt]; rfl)
          cases e1
          have hlg := World.block_lt_of_cell? w _ hcell
          have hi0 : (0 : Int) ≤ (k : Int) - 1 := by omega
          have hi1 : (k : Int) - 1 < (L.length : Int) := by omega
          have hcell' : w.cell? ⟨gb, off + ((k : Int) - 1).toNat, none⟩ = some (.int .u64 (nameL L (k - 1 + 1) : Nat)) := by rw [show ((k : Int) - 1).toNat = k - 1 by omega]; exact hcell
          go_enter Try.func68, Try.ntmps68
          go_wp2
          go_ret
          exact HF.out _

theorem blk_tf {B p b : Nat} {w w' : World} {vs : List Value} {t : TypeId} (hb : Blk w b vs t) (h1 : t ≠ 73) (h2 : t ≠ 130) (hU : Upd w w' (TF B w p)) : Blk w' b vs t :=
  hU.blk hb (fun hf => by
    rcases hf.2.1 with ⟨us, hu⟩ | ⟨us, hu⟩ | ⟨M, hu⟩
    · exact absurd rfl (hb.ty hu h1)
    · exact absurd rfl (hb.ty hu h2)
    · exact hu.ne hb rfl)
theorem below_tf {B p : Nat} {w w' : World} (hB : B ≤ w.heap.size) (hU : Upd w w' (TF B w p)) : Below B w w' := hU.below hB (fun i hi hf => by have := hf.1; omega)
theorem below_d {B d : Nat} {w w' : World} (hB : B ≤ w.heap.size) (hd : B ≤ d) (hU : Upd w w' (· = d)) : Below B w w' := hU.below hB (fun i hi e => by have e' : i = d := e; omega)
theorem below_0 {B : Nat} {w w' : World} (hB : B ≤ w.heap.size) (hU : Upd w w' (fun _ => False)) : Below B w w' := hU.below hB (fun _ _ h => h)
theorem Pair.lt {B : Nat} {w : World} {p d : Nat} {N : List Nd} {g nw : Nat} (h : Pair B w p d N g nw) : B ≤ w.heap.size := h.tags.lt
theorem Pair.nd {B : Nat} {w : World} {p d : Nat} {N : List Nd} {g nw : Nat} (h : Pair B w p d N g nw) : (nms N).Nodup := h.inv.nodup
theorem Pair.blkd {B : Nat} {w : World} {p d : Nat} {N : List Nd} {g nw : Nat} (h : Pair B w p d N g nw) {b : Nat} {vs : List Value} {t : TypeId} (hb : Blk w b vs t) (ht : t ≠ 86) : b ≠ d := by
  obtain ⟨v, hd, _⟩ := h.ref
  exact hb.ty hd ht

def DoesPost (B p d : Nat) (N : List Nd) (g nw : Nat) (kind : Int) (w : World) (e : Ending) (w' : World) : Prop :=
  ∃ N' g' nw', e = .returned (.bool true) ∧ Pair B w' p d N' g' nw' ∧ g ≤ g' ∧ g' ≤ g + 1 ∧ Below B w w' ∧ (kind ≠ 0 → g' = g ∧ nw' = nw ∧ List.Sublist N' N)

set_option maxRecDepth 10000 in
set_option maxHeartbeats 1000000 in
theorem does_any (B p d : Nat) (N : List Nd) (g nw : Nat) (kind how : Int) (tag other : Nat) (w : World) (h : Pair B w p d N g nw) (hg : g < 4503599627370496) (ht : tag < 18446744073709551616) :
    Calls Try.prog 43 #[.pointer (some ⟨p, 0, none⟩), .pointer (some ⟨d, 0, none⟩), .agg #[.int .i64 kind, .int .i64 how, .int .u64 tag, .int .u64 other]] w (DoesPost B p d N g nw kind w) := by
  have HP := Lib.hid h
  clear h
  go_enter Try.func43, Try.ntmps43
  go_wp2_with fail
  obtain ⟨w1, hw1⟩ : ∃ w1, w1 = w.alloc (.cells #[.int .i64 kind, .int .i64 how, .int .u64 tag, .int .u64 other] 89) := ⟨_, rfl⟩
  obtain ⟨b, hb⟩ : ∃ b, b = w.heap.size := ⟨_, rfl⟩
  rw [← hw1, ← hb]
  have U1 : Upd w w1 (fun _ => False) := by rw [hw1]; exact (Upd.refl w _).alloc _
  have K1 : Blk w1 b [.int .i64 kind, .int .i64 how, .int .u64 tag, .int .u64 other] 89 := by rw [hw1, hb]; exact Blk.new w _ _
  have P1 := HP.out.upd0 U1
  have L1 := below_0 HP.out.lt U1
  clear hw1 hb U1
  refine (meant_any d g (nms N) kind how tag other w1 P1.ref (by rw [nms_len]; exact P1.inv.len) ht).mono ?_
  rintro e w2 ⟨t, rfl, U2⟩
  have P2 := P1.upd0 U2
  have L2 := L1.trans (below_0 P1.lt U2)
  have K2 := U2.blk K1 (fun h => h)
  clear P1 L1 K1 U2
  have k0 : w2.cell? ⟨b, 0, none⟩ = some (.int .i64 kind) := K2.cell 0
  have S2 := Lib.hid (And.intro P2 (And.intro L2 K2))
  clear P2 L2 K2
  by_cases c0 : kind = 0
  · have d0 : (kind == 0) = true := by rw [beq_iff_eq]; exact c0
    have C0 := Lib.hid c0
    clear c0
    go_wp2_with fail
    obtain ⟨P2, L2, K2⟩ := S2.out
    refine (after_p B p d t N g nw w2 P2 hg).mono ?_
    rintro e w3 ⟨x, y, N', g', nw', rfl, hA, hT, hI, hR, hU⟩
    have hg' : g ≤ g' ∧ g' ≤ g + 1 := by
      rcases hA with ⟨_, _, _, _, rfl⟩ | ⟨k, _, ⟨_, _, _, _, rfl⟩ | ⟨_, _, _, rfl, _⟩⟩ <;> omega
    have HC := Lib.hid (after_d B p d t N N' g g' nw' x y w3 hA hT hI hR P2.inv.len P2.nd hg P2.low)
    have S3 := Lib.hid (And.intro (L2.trans (below_tf P2.lt hU)) (And.intro hg' (And.intro P2.low (Nat.le_trans P2.lt hU.size))))
    clear hA hT hI hR hU P2 L2 K2 hg'
    go_wp2_with fail
    refine HC.out.mono ?_
    rintro e w4 ⟨rfl, P4, U4⟩
    have S4 := Lib.hid (And.intro P4 U4)
    clear P4 U4
    go_wp2
    go_ret
    obtain ⟨L3, hg', hlow, hlt⟩ := S3.out
    exact ⟨N', g', nw', rfl, S4.out.1, hg'.1, hg'.2, L3.trans (below_d hlt hlow S4.out.2), fun h => absurd C0.out h⟩
  · have d0 : (kind == 0) = false := by rw [beq_eq_false_iff_ne]; exact c0
    clear c0
    by_cases c1 : kind = 1
    · have d1 : (kind == 1) = true := by rw [beq_iff_eq]; exact c1
      clear c1
      go_wp2_with fail
      obtain ⟨P2, L2, K2⟩ := S2.out
      refine (drop_p B p d t N g nw w2 P2).mono ?_
      rintro e w3 ⟨y, N', rfl, hA, hT, hI, hR, hU⟩
      have hsub : List.Sublist N' N := by
        rcases hA with ⟨_, _, rfl⟩ | ⟨k, _, _, rfl⟩
        · exact List.Sublist.refl _
        · exact List.eraseIdx_sublist _ _
      have HC := Lib.hid (drop_d B p d t N N' g nw y w3 hA hT hI hR P2.inv.len P2.nd P2.low)
      have S3 := Lib.hid (And.intro (L2.trans (below_tf P2.lt hU)) (And.intro hsub (And.intro P2.low (Nat.le_trans P2.lt hU.size))))
      clear hA hT hI hR hU P2 L2 K2 hsub
      go_wp2_with fail
      refine HC.out.mono ?_
      rintro e w4 ⟨rfl, P4, U4⟩
      have S4 := Lib.hid (And.intro P4 U4)
      clear P4 U4
      go_wp2
      go_ret
      obtain ⟨L3, hsub, hlow, hlt⟩ := S3.out
      exact ⟨N', g, nw, rfl, S4.out.1, Nat.le_refl _, by omega, L3.trans (below_d hlt hlow S4.out.2), fun _ => ⟨rfl, rfl, hsub⟩⟩
    · have d1 : (kind == 1) = false := by rw [beq_eq_false_iff_ne]; exact c1
      clear c1
      go_wp2_with fail
      obtain ⟨P2, L2, K2⟩ := S2.out
      refine (ask_p P2 (next_pub B p t N g nw w2 P2.tags)).mono ?_
      rintro e w3 ⟨x1, y1, rfl, A1, P3, U3⟩
      have L3 := L2.trans (below_tf P2.lt U3)
      have K3 := blk_tf K2 (by decide) (by decide) U3
      have HC := Lib.hid (ask_d P3.nd A1 (by have := rnext_any d t g (nms N) w3 P3.ref (by rw [nms_len]; exact P3.inv.len); simpa only [nameL_nms] using this))
      have S3 := Lib.hid (And.intro P3 (And.intro L3 K3))
      clear P2 L2 K2 A1 P3 U3 L3 K3
      go_wp2_with fail
      refine HC.out.mono ?_
      rintro e w4 ⟨rfl, rfl⟩
      clear HC
      go_wp2_with fail
      obtain ⟨P2, L2, K2⟩ := S3.out
      refine (ask_p P2 (prev_pub B p t N g nw w3 P2.tags)).mono ?_
      rintro e w3 ⟨x2, y2, rfl, A1, P3, U3⟩
      have L3 := L2.trans (below_tf P2.lt U3)
      have K3 := blk_tf K2 (by decide) (by decide) U3
      have HC := Lib.hid (ask_d P3.nd A1 (by have := rprev_any d t g (nms N) w3 P3.ref (by rw [nms_len]; exact P3.inv.len); simpa only [nameL_nms] using this))
      have o3 : w3.cell? ⟨b, 3, none⟩ = some (.int .u64 other) := K3.cell 3
      have S4 := Lib.hid (And.intro P3 (And.intro L3 K3))
      clear P2 L2 K2 A1 P3 U3 L3 K3
      go_wp2_with fail
      refine HC.out.mono ?_
      rintro e w4 ⟨rfl, rfl⟩
      clear HC
      go_wp2_with fail
      obtain ⟨P2, L2, K2⟩ := S4.out
      refine (order_p B p d t other N g nw w3 P2).mono ?_
      rintro e w5 ⟨x3, y3, rfl, A1, P3, U3⟩
      have L3 := L2.trans (below_tf P2.lt U3)
      have K3 := blk_tf K2 (by decide) (by decide) U3
      have HC := Lib.hid (order_d d t other g N x3 y3 w5 P3.nd P3.inv.len P3.ref A1)
      have o5 : w5.cell? ⟨b, 3, none⟩ = some (.int .u64 other) := K3.cell 3
      have S5 := Lib.hid (And.intro P3 L3)
      clear P2 L2 K2 A1 P3 U3 L3 K3 o3
      go_wp2_with fail
      refine HC.out.mono ?_
      rintro e w6 ⟨rfl, rfl⟩
      clear HC
      go_wp2
      go_ret
      exact ⟨N, g, nw, rfl, S5.out.1, Nat.le_refl _, by omega, S5.out.2, fun _ => ⟨rfl, rfl, List.Sublist.refl _⟩⟩

end Go.Proofs.Ytnhgeoccknhiiaa
