/- Items: a key and a mark. -/
import Derived.Test.YtnhgeoccknhiiaaReg2
import Derived.Test.YtnhgeoccknhiiaaSlice
import Derived.Test.YtnhgeoccknhiiaaProg
namespace Go.Proofs.Ytnhgeoccknhiiaa
open Go.RowKit

structure It where
  k : Int
  m : Int
deriving DecidableEq

namespace OrdI
@[reducible] def itv (x : It) : Value := .agg #[.int .i64 x.k, .int .i64 x.m]
def icells (x : It) : List Value := [.int .i64 x.k, .int .i64 x.m]
def cells (L : List It) : List Value := L.flatMap icells
theorem cells_nil : cells [] = [] := rfl
theorem cells_cons (x : It) (L : List It) : cells (x :: L) = icells x ++ cells L := List.flatMap_cons ..
theorem cells_append (L M : List It) : cells (L ++ M) = cells L ++ cells M := List.flatMap_append
theorem cells_len (L : List It) : (cells L).length = L.length * 2 := by
  induction L with
  | nil => rfl
  | cons b L ih => rw [cells_cons, List.length_append, ih, List.length_cons]; simp [icells]; omega
theorem cells_take (L : List It) (i : Nat) : (cells L).take (i * 2) = cells (L.take i) := by
  induction L generalizing i with
  | nil => simp [cells]
  | cons b L ih =>
    cases i with
    | zero => simp [cells]
    | succ i =>
      rw [List.take_succ_cons, cells_cons, cells_cons, ← ih i, show (i + 1) * 2 = i * 2 + 1 + 1 by omega]
      rfl
theorem cells_drop (L : List It) (i : Nat) : (cells L).drop (i * 2) = cells (L.drop i) := by
  induction L generalizing i with
  | nil => simp [cells]
  | cons b L ih =>
    cases i with
    | zero => simp [cells]
    | succ i =>
      rw [List.drop_succ_cons, cells_cons, ← ih i, show (i + 1) * 2 = i * 2 + 1 + 1 by omega]
      rfl
theorem cells_at {L : List It} {i : Nat} {x : It} (h : L[i]? = some x) (j : Nat) (hj : j < 2) : (cells L)[i * 2 + j]? = (icells x)[j]? := by
  have e : cells L = cells (L.take i) ++ (icells x ++ cells (L.drop (i + 1))) := by
    rw [← cells_cons, ← cells_append]
    congr 1
    have hi := (List.getElem?_eq_some_iff.1 h)
    obtain ⟨hi, hx⟩ := hi
    rw [← hx, ← List.drop_eq_getElem_cons hi, List.take_append_drop]
  have hl : (cells (L.take i)).length = i * 2 := by
    rw [cells_len, List.length_take, Nat.min_eq_left (Nat.le_of_lt (List.getElem?_eq_some_iff.1 h).1)]
  rw [e, List.getElem?_append_right (by omega), hl, show i * 2 + j - i * 2 = j by omega, List.getElem?_append_left (by simpa [icells] using hj)]
theorem cells_one (L : List It) : ∀ u ∈ cells L, u.oneCell' = true := by
  intro u hu
  obtain ⟨x, _, hx⟩ := List.mem_flatMap.1 hu
  simp [icells] at hx
  rcases hx with rfl | rfl <;> rfl
/-- An item's two cells. -/
theorem it_at {w : World} {v : Value} {n : Nat} {L : List It} (h : Rd w v n 2 (cells L)) {i : Nat} {x : It} (hx : L[i]? = some x) : ∃ g off c, v = .slice (some ⟨g, off, none⟩) n c ∧ n ≤ c ∧
    w.cell? ⟨g, off + i * 2, none⟩ = some (.int .i64 x.k) ∧ w.cell? ⟨g, off + i * 2 + 1, none⟩ = some (.int .i64 x.m) := by
  obtain ⟨g, off, c, e, hc, h0⟩ := h.at_ (j := i * 2 + 0) (u := .int .i64 x.k) (by rw [cells_at hx 0 (by omega)]; rfl)
  obtain ⟨g', off', c', e', _, h1⟩ := h.at_ (j := i * 2 + 1) (u := .int .i64 x.m) (by rw [cells_at hx 1 (by omega)]; rfl)
  rw [e] at e'
  cases e'
  exact ⟨g, off, c, e, hc, h0, h1⟩
end OrdI
end Go.Proofs.Ytnhgeoccknhiiaa
