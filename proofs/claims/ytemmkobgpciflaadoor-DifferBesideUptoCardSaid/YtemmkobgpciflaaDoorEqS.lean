/- Two attributes compared. -/
import Derived.Test.YtemmkobgpciflaaDoorTr
import Derived.Laws.StructEq
namespace Go.Proofs.YtemmkobgpciflaaDoor
open Go.RowKit

/-- Whether two attributes differ. -/
def attNe (a b c d : ByteArray) : Bool := decide ((a, b) ≠ (c, d))

theorem toList_inj' {a b : ByteArray} : a.toList = b.toList ↔ a = b := by
  rw [ByteArray.toList_eq, ByteArray.toList_eq]
  constructor
  · intro h
    cases a with
    | mk a => cases b with
      | mk b =>
        cases a; cases b
        simp at h
        rw [h]
  · intro h; rw [h]

theorem run_eqAttr (a b c d : ByteArray) (w : World) : (Op.equalIn 10000 146 (.agg #[.string a, .string b]) (.agg #[.string c, .string d])).run Tryd.prog w = .ok (!attNe a b c d) w := by
  have u3 := Tryd.underlying9
  have a3 := Tryd.isAgg9
  have z3 := Tryd.sizeOf9
  have hS : Tryd.prog.underlying 146 = some (.struct (Tryd.prog.fieldsOf 146)) := by kernel_rfl
  have hp : Tryd.prog.stoodInHeld 146 = false := by kernel_rfl
  rw [show (10000 : Nat) = 9999 + 1 from rfl, run_equalIn_agg w 9999 146 _ _ hS hp]
  simp only [Program.fieldsOf, Tryd.underlying146]
  go_simp
  unfold attNe
  by_cases h1 : a = c <;> by_cases h2 : b = d <;> simp [h1, h2, toList_inj']
@[go_sem] theorem neqAttr (a b c d : ByteArray) (w : World) : (binOp .neq 146 (.agg #[.string a, .string b]) (.agg #[.string c, .string d])).run Tryd.prog w = .ok (.bool (attNe a b c d)) w := by
  rw [run_neq_struct, run_eqAttr]
  simp [Result.andThen]
@[go_sem] theorem guardAttr (op : BinOp) (x y : Operand) (xs ys : Array Value) (w : World) : (eqGuard op 146 x y (.agg xs) (.agg ys)).run Tryd.prog w = .ok () w := run_eqGuard_agg w op 146 x y xs ys (by kernel_rfl)

end Go.Proofs.YtemmkobgpciflaaDoor
