/- Lists in an order, of items: New, Len, At, Has. -/
import Derived.Test.YtnhgeoccknhiiaaOrdI
namespace Go.Proofs.Ytnhgeoccknhiiaa
open Go.RowKit
namespace OrdI

theorem new_any (w : World) : Calls Try.prog 48 #[.func (.func 29) #[] #[]] w fun e w' => ∃ p, e = .returned (.tuple #[.pointer (some ⟨p, 0, none⟩), .int .i64 0]) ∧ w.heap.size ≤ p ∧ OrdFresh w.heap.size w' p [] ∧ Below w.heap.size w w' := by
  have qn : ∀ (w : World) (f : Fn) (a b : Array Value), (binOp .eql 58 (.func f a b) .nilFunc).run Try.prog w = .ok (.bool false) w := fun _ _ _ _ => by kernel_rfl
  go_enter Try.func48, Try.ntmps48
  go_wp2
  go_ret2
  refine ⟨w.heap.size, rfl, Nat.le_refl _, ⟨.slice none 0 0, Blk.new w _ _, World.ownsRow_nil _ _ _ _, fun _ h => nomatch h⟩, (Upd.refl w (fun _ => False)).alloc _ |>.below (Nat.le_refl _) (fun _ _ h => h)⟩

theorem len_any (p : Nat) (L : List It) (w : World) (h : OrdIs w p L) : Calls Try.prog 83 #[.pointer (some ⟨p, 0, none⟩)] w fun e w' => e = .returned (.int .i64 L.length) ∧ w' = w := by
  obtain ⟨v, hB, hO⟩ := h
  obtain ⟨a, c, rfl, hc⟩ := (Rd.ofOwn hO).form
  have h1 : w.cell? ⟨p, 1, none⟩ = some (.slice a L.length c) := hB.cell 1
  clear hB hO
  go_enter Try.func83, Try.ntmps83
  go_wp2
  go_ret
  exact ⟨rfl, rfl⟩

theorem at_any (p : Nat) (L : List It) (i : Nat) (x : It) (w : World) (h : OrdIs w p L) (hx : L[i]? = some x) (hl : L.length ≤ 8192) : Calls Try.prog 79 #[.pointer (some ⟨p, 0, none⟩), .int .i64 i] w fun e w' => e = .returned (.tuple #[itv x, .bool true]) ∧ Below w.heap.size w w' := by
  have U : Upd w (w.alloc (.cells #[.int .i64 0, .int .i64 0] 36)) (fun _ => False) := (Upd.refl w _).alloc _
  obtain ⟨v, hB, hO⟩ := h.below (U.below (Nat.le_refl _) (fun _ _ h => h))
  have hi : i < L.length := (List.getElem?_eq_some_iff.1 hx).1
  obtain ⟨g, off, c, rfl, hc, hcell, hcel1⟩ := it_at (Rd.ofOwn hO) hx
  have h1 : (w.alloc (.cells #[.int .i64 0, .int .i64 0] 36)).cell? ⟨p, 1, none⟩ = some (.slice (some ⟨g, off, none⟩) L.length c) := hB.cell 1
  have hi0 : ¬ (i : Int) < 0 := by omega
  have hi1 : (i : Int) < (L.length : Int) := by omega
  have hi2 : ¬ (i : Int) ≥ (L.length : Int) := by omega
  have hi00 : (0 : Int) ≤ (i : Int) := by omega
  have d1 : decide ((i : Int) < 0) = false := decide_eq_false hi0
  have d2 : decide ((i : Int) ≥ (L.length : Int)) = false := decide_eq_false hi2
  clear hB hO hx U
  go_enter Try.func79, Try.ntmps79
  go_wp2
  simp [bodyPost, results, Try.results79, go_sem]
  first | exact Below.refl _ _ | exact ((Upd.refl w (fun _ => False)).alloc _).below (Nat.le_refl _) (fun _ _ h => h) | exact ((Upd.refl w (fun _ => False)).alloc _).drewN _ |>.below (Nat.le_refl _) (fun _ _ h => h)

theorem at_none (p : Nat) (L : List It) (i : Int) (w : World) (h : OrdIs w p L) (hi : i < 0 ∨ (L.length : Int) ≤ i) : Calls Try.prog 79 #[.pointer (some ⟨p, 0, none⟩), .int .i64 i] w fun e w' => e = .returned (.tuple #[itv ⟨0, 0⟩, .bool false]) ∧ Below w.heap.size w w' := by
  have U : Upd w (w.alloc (.cells #[.int .i64 0, .int .i64 0] 36)) (fun _ => False) := (Upd.refl w _).alloc _
  obtain ⟨v, hB, hO⟩ := h.below (U.below (Nat.le_refl _) (fun _ _ h => h))
  obtain ⟨a, c, rfl, hc⟩ := (Rd.ofOwn hO).form
  have h1 : (w.alloc (.cells #[.int .i64 0, .int .i64 0] 36)).cell? ⟨p, 1, none⟩ = some (.slice a L.length c) := hB.cell 1
  by_cases h0 : i < 0
  · have d1 : decide (i < 0) = true := decide_eq_true h0
    clear hB hO U hi
    go_enter Try.func79, Try.ntmps79
    go_wp2
    simp [bodyPost, results, Try.results79, go_sem]
    first | exact (((Upd.refl w (fun _ => False)).alloc _).alloc _).below (Nat.le_refl _) (fun _ _ h => h)
  · have d1 : decide (i < 0) = false := decide_eq_false h0
    have h2 : i ≥ (L.length : Int) := by omega
    have d2 : decide (i ≥ (L.length : Int)) = true := decide_eq_true h2
    clear hB hO hi U
    go_enter Try.func79, Try.ntmps79
    go_wp2
    simp [bodyPost, results, Try.results79, go_sem]
    first | exact (((Upd.refl w (fun _ => False)).alloc _).alloc _).below (Nat.le_refl _) (fun _ _ h => h)


theorem has_any {S : World → Prop} {key : It → Int} (A : Ask S key) (p : Nat) (L : List It) (x : It) (w : World) (hS : S w) (h : OrdIs w p L) (hs : Sorted key L) (hl : L.length ≤ 8192) :
    Calls Try.prog 77 #[.pointer (some ⟨p, 0, none⟩), itv x] w fun e w' => (∃ r : Nat, RankOf key L (key x) r ∧ ((∃ y, L[r]? = some y ∧ key y = key x ∧ e = .returned (.bool true)) ∨ ((∀ y, L[r]? = some y → key x < key y) ∧ e = .returned (.bool false)))) ∧ Below w.heap.size w w' := by
  obtain ⟨w1, hw1⟩ : ∃ w1, w1 = w.alloc (.cells #[.int .i64 x.k, .int .i64 x.m] 36) := ⟨_, rfl⟩
  have U1 : Upd w w1 (fun _ => False) := by rw [hw1]; exact (Upd.refl w _).alloc _
  have X1 : Blk w1 w.heap.size (icells x) 36 := by rw [hw1]; exact Blk.new w _ _
  have B1 : Below w.heap.size w w1 := U1.below (Nat.le_refl _) (fun _ _ h => h)
  have hS := A.stays _ _ hS B1
  have h := h.below B1
  have HC := Lib.hid (find_any A p L x w1 hS h hs hl)
  have HU := Lib.hid (And.intro U1 X1)
  have HW1 := Lib.hid hw1
  clear A hS h hs U1 X1 B1 hw1
  go_enter Try.func77, Try.ntmps77
  go_wp2_with fail
  rw [← HW1.out]
  refine HC.out.mono ?_
  rintro e w2 ⟨⟨r, hR, hcase⟩, hb⟩
  have HB := Lib.hid (And.intro ((HU.out.1.below (Nat.le_refl _) (fun _ _ h => h)).trans (Upd.below (Upd.ofBelow (F := fun _ => False) hb) HU.out.1.size (fun _ _ h => h))) hR)
  clear hb hR HC
  rcases hcase with ⟨y, hy, hk, rfl⟩ | ⟨hno, rfl⟩
  · have HY := Lib.hid (And.intro hy hk)
    clear hy hk
    go_wp2
    go_ret
    exact ⟨⟨r, HB.out.2, Or.inl ⟨y, HY.out.1, HY.out.2, rfl⟩⟩, HB.out.1⟩
  · have HN := Lib.hid hno
    clear hno
    go_wp2
    go_ret
    exact ⟨⟨r, HB.out.2, Or.inr ⟨HN.out, rfl⟩⟩, HB.out.1⟩

end OrdI
end Go.Proofs.Ytnhgeoccknhiiaa
