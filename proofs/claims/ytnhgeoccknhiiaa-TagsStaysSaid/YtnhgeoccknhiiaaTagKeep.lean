/- does, walked once more: which blocks may have changed (those of the list of tags, and the document's list). -/
import Derived.Test.YtnhgeoccknhiiaaTagDoes
import Derived.Test.YtnhgeoccknhiiaaTagSolo
namespace Go.Proofs.Ytnhgeoccknhiiaa
open Go.RowKit

def TD (B d : Nat) (w : World) (b : Nat) : Prop := B ≤ b ∧ (TagBlk w b ∨ b = d)
def Kept (B d : Nat) (w w' : World) : Prop := Upd w w' (TD B d w) ∧ B ≤ w.heap.size

theorem TagBlk.at_ {w w' : World} {b : Nat} (h : TagBlk w b) (he : w'.heap[b]? = w.heap[b]?) : TagBlk w' b := by
  rcases h with ⟨vs, h⟩ | ⟨vs, h⟩ | ⟨L, h⟩
  · exact Or.inl ⟨vs, h.at_ he⟩
  · exact Or.inr (Or.inl ⟨vs, h.at_ he⟩)
  · exact Or.inr (Or.inr ⟨L, h.at_ he⟩)
theorem Kept.trans {B d : Nat} {a b c : World} (h : Kept B d a b) (k : Kept B d b c) : Kept B d a c := by
  refine ⟨h.1.trans k.1 (fun i hi hf => Classical.byContradiction fun hn => ?_), h.2⟩
  refine hn ⟨hf.1, ?_⟩
  rcases hf.2 with ht | e
  · exact Or.inl (ht.at_ (h.1.block i hi hn).symm)
  · exact Or.inr e
theorem Kept.refl {B d : Nat} {w : World} (h : B ≤ w.heap.size) : Kept B d w w := ⟨Upd.refl _ _, h⟩
theorem kept_tf {B p d : Nat} {w w' : World} (hB : B ≤ w.heap.size) (hU : Upd w w' (TF B w p)) : Kept B d w w' := ⟨hU.mono fun _ _ h => ⟨h.1, Or.inl h.2.1⟩, hB⟩
theorem kept_d {B d : Nat} {w w' : World} (hB : B ≤ w.heap.size) (hd : B ≤ d) (hU : Upd w w' (· = d)) : Kept B d w w' := ⟨hU.mono fun i _ e => by have e' : i = d := e; exact ⟨by omega, Or.inr e'⟩, hB⟩
theorem kept_0 {B d : Nat} {w w' : World} (hB : B ≤ w.heap.size) (hU : Upd w w' (fun _ => False)) : Kept B d w w' := ⟨hU.mono fun _ _ h => h.elim, hB⟩
theorem Kept.below {B d : Nat} {w w' : World} (h : Kept B d w w') : Below B w w' := h.1.below h.2 (fun i hi hf => by have := hf.1; omega)

def DoesKept (B p d : Nat) (N : List Nd) (g nw : Nat) (kind : Int) (w : World) (e : Ending) (w' : World) : Prop :=
  ∃ N' g' nw', e = .returned (.bool true) ∧ Pair B w' p d N' g' nw' ∧ g ≤ g' ∧ g' ≤ g + 1 ∧ Kept B d w w' ∧ (kind ≠ 0 → g' = g ∧ nw' = nw ∧ List.Sublist N' N)

set_option maxRecDepth 10000 in
set_option maxHeartbeats 1000000 in
theorem does_kept (B p d : Nat) (N : List Nd) (g nw : Nat) (kind how : Int) (tag other : Nat) (w : World) (h : Pair B w p d N g nw) (hg : g < 4503599627370496) (ht : tag < 18446744073709551616) :
    Calls Try.prog 43 #[.pointer (some ⟨p, 0, none⟩), .pointer (some ⟨d, 0, none⟩), .agg #[.int .i64 kind, .int .i64 how, .int .u64 tag, .int .u64 other]] w (DoesKept B p d N g nw kind w) := by
  have HP := Lib.hid h
  clear h
  go_enter Try.func43, Try.ntmps43
  go_wp2_with fail
  obtain ⟨w1, hw1⟩ : ∃ w1, w1 = w.alloc (.cells #[.int .i64 kind, .int .i64 how, .int .u64 tag, .int .u64 other] 89) := ⟨_, rfl⟩
  obtain ⟨b, hb⟩ : ∃ b, b = w.heap.size := ⟨_, rfl⟩
  rw [← hw1, ← hb]
  have U1 : Upd w w1 (fun _ => False) := by rw [hw1]; exact (Upd.refl w _).alloc _
  have K1 : Blk w1 b [.int .i64 kind, .int .i64 how, .int .u64 tag, .int .u64 other] 89 := by rw [hw1, hb]; exact Blk.new w _ _
  have P1 := HP.out.upd0 U1
  have L1 := kept_0 (d := d) HP.out.lt U1
  clear hw1 hb U1
  refine (meant_any d g (nms N) kind how tag other w1 P1.ref (by rw [nms_len]; exact P1.inv.len) ht).mono ?_
  rintro e w2 ⟨t, rfl, U2⟩
  have P2 := P1.upd0 U2
  have L2 := L1.trans (kept_0 P1.lt U2)
  have K2 := U2.blk K1 (fun h => h)
  clear P1 L1 K1 U2
  have k0 : w2.cell? ⟨b, 0, none⟩ = some (.int .i64 kind) := K2.cell 0
  have S2 := Lib.hid (And.intro P2 (And.intro L2 K2))
  clear P2 L2 K2
  by_cases c0 : kind = 0
  · have d0 : (kind == 0) = true := by rw [beq_iff_eq]; exact c0
    have C0 := Lib.hid c0
    clear c0
    go_wp2_with fail
    obtain ⟨P2, L2, K2⟩ := S2.out
    refine (after_p B p d t N g nw w2 P2 hg).mono ?_
    rintro e w3 ⟨x, y, N', g', nw', rfl, hA, hT, hI, hR, hU⟩
    have hg' : g ≤ g' ∧ g' ≤ g + 1 := by
      rcases hA with ⟨_, _, _, _, rfl⟩ | ⟨k, _, ⟨_, _, _, _, rfl⟩ | ⟨_, _, _, rfl, _⟩⟩ <;> omega
    have HC := Lib.hid (after_d B p d t N N' g g' nw' x y w3 hA hT hI hR P2.inv.len P2.nd hg P2.low)
    have S3 := Lib.hid (And.intro (L2.trans (kept_tf P2.lt hU)) (And.intro hg' (And.intro P2.low (Nat.le_trans P2.lt hU.size))))
    clear hA hT hI hR hU P2 L2 K2 hg'
    go_wp2_with fail
    refine HC.out.mono ?_
    rintro e w4 ⟨rfl, P4, U4⟩
    have S4 := Lib.hid (And.intro P4 U4)
    clear P4 U4
    go_wp2
    go_ret
    obtain ⟨L3, hg', hlow, hlt⟩ := S3.out
    exact ⟨N', g', nw', rfl, S4.out.1, hg'.1, hg'.2, L3.trans (kept_d hlt hlow S4.out.2), fun h => absurd C0.out h⟩
  · have d0 : (kind == 0) = false := by rw [beq_eq_false_iff_ne]; exact c0
    clear c0
    by_cases c1 : kind = 1
    · have d1 : (kind == 1) = true := by rw [beq_iff_eq]; exact c1
      clear c1
      go_wp2_with fail
      obtain ⟨P2, L2, K2⟩ := S2.out
      refine (drop_p B p d t N g nw w2 P2).mono ?_
      rintro e w3 ⟨y, N', rfl, hA, hT, hI, hR, hU⟩
      have hsub : List.Sublist N' N := by
        rcases hA with ⟨_, _, rfl⟩ | ⟨k, _, _, rfl⟩
        · exact List.Sublist.refl _
        · exact List.eraseIdx_sublist _ _
      have HC := Lib.hid (drop_d B p d t N N' g nw y w3 hA hT hI hR P2.inv.len P2.nd P2.low)
      have S3 := Lib.hid (And.intro (L2.trans (kept_tf P2.lt hU)) (And.intro hsub (And.intro P2.low (Nat.le_trans P2.lt hU.size))))
      clear hA hT hI hR hU P2 L2 K2 hsub
      go_wp2_with fail
      refine HC.out.mono ?_
      rintro e w4 ⟨rfl, P4, U4⟩
      have S4 := Lib.hid (And.intro P4 U4)
      clear P4 U4
      go_wp2
      go_ret
      obtain ⟨L3, hsub, hlow, hlt⟩ := S3.out
      exact ⟨N', g, nw, rfl, S4.out.1, Nat.le_refl _, by omega, L3.trans (kept_d hlt hlow S4.out.2), fun _ => ⟨rfl, rfl, hsub⟩⟩
    · have d1 : (kind == 1) = false := by rw [beq_eq_false_iff_ne]; exact c1
      clear c1
      go_wp2_with fail
      obtain ⟨P2, L2, K2⟩ := S2.out
      refine (ask_p P2 (next_pub B p t N g nw w2 P2.tags)).mono ?_
      rintro e w3 ⟨x1, y1, rfl, A1, P3, U3⟩
      have L3 := L2.trans (kept_tf P2.lt U3)
      have K3 := blk_tf K2 (by decide) (by decide) U3
      have HC := Lib.hid (ask_d P3.nd A1 (by have := rnext_any d t g (nms N) w3 P3.ref (by rw [nms_len]; exact P3.inv.len); simpa only [nameL_nms] using this))
      have S3 := Lib.hid (And.intro P3 (And.intro L3 K3))
      clear P2 L2 K2 A1 P3 U3 L3 K3
      go_wp2_with fail
      refine HC.out.mono ?_
      rintro e w4 ⟨rfl, rfl⟩
      clear HC
      go_wp2_with fail
      obtain ⟨P2, L2, K2⟩ := S3.out
      refine (ask_p P2 (prev_pub B p t N g nw w3 P2.tags)).mono ?_
      rintro e w3 ⟨x2, y2, rfl, A1, P3, U3⟩
      have L3 := L2.trans (kept_tf P2.lt U3)
      have K3 := blk_tf K2 (by decide) (by decide) U3
      have HC := Lib.hid (ask_d P3.nd A1 (by have := rprev_any d t g (nms N) w3 P3.ref (by rw [nms_len]; exact P3.inv.len); simpa only [nameL_nms] using this))
      have o3 : w3.cell? ⟨b, 3, none⟩ = some (.int .u64 other) := K3.cell 3
      have S4 := Lib.hid (And.intro P3 (And.intro L3 K3))
      clear P2 L2 K2 A1 P3 U3 L3 K3
      go_wp2_with fail
      refine HC.out.mono ?_
      rintro e w4 ⟨rfl, rfl⟩
      clear HC
      go_wp2_with fail
      obtain ⟨P2, L2, K2⟩ := S4.out
      refine (order_p B p d t other N g nw w3 P2).mono ?_
      rintro e w5 ⟨x3, y3, rfl, A1, P3, U3⟩
      have L3 := L2.trans (kept_tf P2.lt U3)
      have K3 := blk_tf K2 (by decide) (by decide) U3
      have HC := Lib.hid (order_d d t other g N x3 y3 w5 P3.nd P3.inv.len P3.ref A1)
      have o5 : w5.cell? ⟨b, 3, none⟩ = some (.int .u64 other) := K3.cell 3
      have S5 := Lib.hid (And.intro P3 L3)
      clear P2 L2 K2 A1 P3 U3 L3 K3 o3
      go_wp2_with fail
      refine HC.out.mono ?_
      rintro e w6 ⟨rfl, rfl⟩
      clear HC
      go_wp2
      go_ret
      exact ⟨N, g, nw, rfl, S5.out.1, Nat.le_refl _, by omega, S5.out.2, fun _ => ⟨rfl, rfl, List.Sublist.refl _⟩⟩

end Go.Proofs.Ytnhgeoccknhiiaa
