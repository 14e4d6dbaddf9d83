/- What all walks of this seat import. -/
import Derived.Test.YtemmkobgpciflaaDoorHeap
import Derived.Test.YtemmkobgpciflaaDoorSlice
import Derived.Test.YtemmkobgpciflaaDoorReg2
import Derived.Test.YtemmkobgpciflaaDoorProg
import Derived.OwnWalk
import Derived.Outline
import Derived.Deep.QuietTactic
import Derived.Deep.LoopGhost
import Derived.Deep.Cut
import Derived.Deep.DeepCutAuto
import Derived.Deep.DeepFit
import Derived.BigQuiet
import Derived.IntWalk
import Derived.Laws.Pointers
import Derived.Lib.Strings
import Derived.Shelf.Unicode.DecodeAny
import Derived.WalkLawsBesides
namespace Go.Proofs.YtemmkobgpciflaaDoor
open Go.RowKit

theorem ret_bool {a b : Bool} (h : a = b) : Ending.returned (.bool a) = .returned (.bool b) := by rw [h]
theorem ret_ii {k j : IntKind} {a b c d : Int} (h : a = c) (h' : b = d) : Ending.returned (.tuple #[.int k a, .int j b]) = .returned (.tuple #[.int k c, .int j d]) := by rw [h, h']
theorem lt_dec {i n : Nat} (h : i < n) : ((i : Int) < (n : Int)) ∧ decide (i < n) = true := ⟨by omega, decide_eq_true h⟩
theorem nlt_dec {i n : Nat} (h : ¬ i < n) : ¬ ((i : Int) < (n : Int)) ∧ decide (i < n) = false := ⟨by omega, decide_eq_false h⟩
theorem v64s {i n : Nat} (h : i < n) (hn : n ≤ 9223372036854775807) : Value.int .i64 (wrap64 ((i : Int) + 1)) = .int .i64 ((i + 1 : Nat) : Int) := by
  rw [Go.IntWalk.wrap64_in _ (by omega)]
  rfl
theorem wrapj {z : Int} (h1 : -9223372036854775808 ≤ z) (h2 : z ≤ 9223372036854775807) : IntKind.i64.wrap z = z := by rw [Go.IntWalk.i64_left, Go.IntWalk.wrap64_in _ ⟨h1, h2⟩]
theorem below_dn {B : Nat} {w wr : World} (h : Below B w wr) (n : Nat) : Below B w (wr.drewN n) := ⟨h.os, h.tape, h.output, h.size, h.block⟩
theorem below_al {B : Nat} {w wr : World} (h : Below B w wr) (hB : B ≤ w.heap.size) (o : Obj) : Below B w (wr.alloc o) := h.alloc (Nat.le_trans hB h.size) o
theorem below_ad {B : Nat} {w wr : World} (h : Below B w wr) (hB : B ≤ w.heap.size) (o : Obj) (n : Nat) : Below B w ((wr.alloc o).drewN n) := below_dn (below_al h hB o) n
theorem below_tr {w a b : World} (h : Below w.heap.size w a) (k : Below a.heap.size a b) : Below w.heap.size w b := h.trans (k.mono h.size)

end Go.Proofs.YtemmkobgpciflaaDoor
