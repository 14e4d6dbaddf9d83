/- Lists in an order, of numbers of a table: New, Len, At, Has. -/
import Derived.Test.YtnhgeoccknhiiaaOrdN
namespace Go.Proofs.Ytnhgeoccknhiiaa
open Go.RowKit
namespace OrdN
variable {N tv : Nat}

theorem new_any (N tv : Nat) (w : World) : Calls Try.prog 12 #[.func (.func 13) #[] #[.pointer (some ⟨tv, 0, none⟩)]] w fun e w' => ∃ p, e = .returned (.tuple #[.pointer (some ⟨p, 0, none⟩), .int .i64 0]) ∧ w.heap.size ≤ p ∧ OrdFresh (N := N) tv w.heap.size w' p [] ∧ Below w.heap.size w w' := by
  have qn : ∀ (w : World) (f : Fn) (a b : Array Value), (binOp .eql 28 (.func f a b) .nilFunc).run Try.prog w = .ok (.bool false) w := fun _ _ _ _ => by kernel_rfl
  go_enter Try.func12, Try.ntmps12
  go_wp2
  go_ret2
  refine ⟨w.heap.size, rfl, Nat.le_refl _, ⟨.slice none 0 0, Blk.new w _ _, World.ownsRow_nil _ _ _ _, fun _ h => nomatch h⟩, (Upd.refl w (fun _ => False)).alloc _ |>.below (Nat.le_refl _) (fun _ _ h => h)⟩

theorem len_any (p : Nat) (L : List (Fin N)) (w : World) (h : OrdIs tv w p L) : Calls Try.prog 19 #[.pointer (some ⟨p, 0, none⟩)] w fun e w' => e = .returned (.int .i64 L.length) ∧ w' = w := by
  obtain ⟨v, hB, hO⟩ := h
  obtain ⟨a, c, rfl, hc⟩ := (Rd.ofOwn hO).form
  have h1 : w.cell? ⟨p, 1, none⟩ = some (.slice a L.length c) := hB.cell 1
  clear hB hO
  go_enter Try.func19, Try.ntmps19
  go_wp2
  go_ret
  exact ⟨rfl, rfl⟩


end OrdN
end Go.Proofs.Ytnhgeoccknhiiaa
