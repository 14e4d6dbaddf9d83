/- Lists in an order, of texts: New, Len, At, Has. -/
import Derived.Test.YtnhgeoccknhiiaaOrdS
namespace Go.Proofs.Ytnhgeoccknhiiaa
open Go.RowKit
namespace OrdS

theorem new_any (w : World) : Calls Try.prog 20 #[.func (.func 21) #[] #[]] w fun e w' => ∃ p, e = .returned (.tuple #[.pointer (some ⟨p, 0, none⟩), .int .i64 0]) ∧ w.heap.size ≤ p ∧ OrdIs w' p [] ∧ Below w.heap.size w w' := by
  have qn : ∀ (w : World) (f : Fn) (a b : Array Value), (binOp .eql 47 (.func f a b) .nilFunc).run Try.prog w = .ok (.bool false) w := fun _ _ _ _ => by kernel_rfl
  go_enter Try.func20, Try.ntmps20
  go_wp2
  go_ret2
  refine ⟨w.heap.size, rfl, Nat.le_refl _, ⟨.slice none 0 0, Blk.new w _ _, World.ownsRow_nil _ _ _ _⟩, (Upd.refl w (fun _ => False)).alloc _ |>.below (Nat.le_refl _) (fun _ _ h => h)⟩

theorem len_any (p : Nat) (L : List ByteArray) (w : World) (h : OrdIs w p L) : Calls Try.prog 26 #[.pointer (some ⟨p, 0, none⟩)] w fun e w' => e = .returned (.int .i64 L.length) ∧ w' = w := by
  obtain ⟨v, hB, hO⟩ := h
  obtain ⟨a, c, rfl, hc⟩ := (Rd.ofOwn hO).form
  have h1 : w.cell? ⟨p, 1, none⟩ = some (.slice a L.length c) := hB.cell 1
  clear hB hO
  go_enter Try.func26, Try.ntmps26
  go_wp2
  go_ret
  exact ⟨rfl, rfl⟩

theorem at_any (p : Nat) (L : List ByteArray) (i : Nat) (x : ByteArray) (w : World) (h : OrdIs w p L) (hx : L[i]? = some x) (hl : L.length ≤ 8192) : Calls Try.prog 23 #[.pointer (some ⟨p, 0, none⟩), .int .i64 i] w fun e w' => e = .returned (.tuple #[.string x, .bool true]) ∧ Below w.heap.size w w' := by
  obtain ⟨v, hB, hO⟩ := h
  have hi : i < L.length := (List.getElem?_eq_some_iff.1 hx).1
  obtain ⟨g, off, c, rfl, hc, hcell⟩ := (Rd.ofOwn hO).at_ (j := i) (u := .string x) (by rw [cells_get, hx]; rfl)
  have h1 : w.cell? ⟨p, 1, none⟩ = some (.slice (some ⟨g, off, none⟩) L.length c) := hB.cell 1
  have hi0 : ¬ (i : Int) < 0 := by omega
  have hi1 : (i : Int) < (L.length : Int) := by omega
  have hi2 : ¬ (i : Int) ≥ (L.length : Int) := by omega
  have hi00 : (0 : Int) ≤ (i : Int) := by omega
  have d1 : decide ((i : Int) < 0) = false := decide_eq_false hi0
  have d2 : decide ((i : Int) ≥ (L.length : Int)) = false := decide_eq_false hi2
  clear hB hO hx
  go_enter Try.func23, Try.ntmps23
  go_wp2
  go_ret2
  exact ⟨rfl, by first | exact Below.refl _ _ | exact (Upd.refl w (fun _ => False)).drewN _ |>.below (Nat.le_refl _) (fun _ _ h => h)⟩

theorem has_any {S : World → Prop} {key : ByteArray → Int} (A : Ask S key) (p : Nat) (L : List ByteArray) (x : ByteArray) (w : World) (hS : S w) (h : OrdIs w p L) (hs : Sorted key L) (hl : L.length ≤ 8192) :
    Calls Try.prog 25 #[.pointer (some ⟨p, 0, none⟩), .string x] w fun e w' => (∃ r : Nat, RankOf key L (key x) r ∧ ((∃ y, L[r]? = some y ∧ key y = key x ∧ e = .returned (.bool true)) ∨ ((∀ y, L[r]? = some y → key x < key y) ∧ e = .returned (.bool false)))) ∧ Below w.heap.size w w' := by
  have HC := Lib.hid (find_any A p L x w hS h hs hl)
  clear A hS h hs
  go_enter Try.func25, Try.ntmps25
  go_wp2_with fail
  refine HC.out.mono ?_
  rintro e w2 ⟨⟨r, hR, hcase⟩, hb⟩
  have HB := Lib.hid (And.intro hb hR)
  clear hb hR HC
  rcases hcase with ⟨y, hy, hk, rfl⟩ | ⟨hno, rfl⟩
  · have HY := Lib.hid (And.intro hy hk)
    clear hy hk
    go_wp2
    go_ret
    exact ⟨⟨r, HB.out.2, Or.inl ⟨y, HY.out.1, HY.out.2, rfl⟩⟩, HB.out.1⟩
  · have HN := Lib.hid hno
    clear hno
    go_wp2
    go_ret
    exact ⟨⟨r, HB.out.2, Or.inr ⟨HN.out, rfl⟩⟩, HB.out.1⟩

end OrdS
end Go.Proofs.Ytnhgeoccknhiiaa
