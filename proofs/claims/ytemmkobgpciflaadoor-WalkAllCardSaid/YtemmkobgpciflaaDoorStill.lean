/- What hang leaves as it is: the nodes' indexes, the image in the loader's block. -/
import Derived.Test.YtemmkobgpciflaaDoorPSt
namespace Go.Proofs.YtemmkobgpciflaaDoor
open Go.RowKit
namespace Pd

structure Still (Lb : Nat) (B : List Nat) (w w' : World) : Prop where
  b : ∀ b ∈ B, w'.cell? ⟨b, 0, none⟩ = w.cell? ⟨b, 0, none⟩
  l : w'.cell? ⟨Lb, 1, none⟩ = w.cell? ⟨Lb, 1, none⟩
theorem Still.refl (Lb : Nat) (B : List Nat) (w : World) : Still Lb B w w := ⟨fun _ _ => rfl, rfl⟩
theorem Still.trans {Lb : Nat} {B : List Nat} {a b c : World} (h : Still Lb B a b) (k : Still Lb B b c) : Still Lb B a c := ⟨fun x hx => (k.b x hx).trans (h.b x hx), k.l.trans h.l⟩
theorem Still.upd {Lb : Nat} {B : List Nat} {w w' : World} {F : Nat → Prop} (hU : Upd w w' F) (hB : ∀ b ∈ B, b < w.heap.size ∧ ¬ F b) (hL : Lb < w.heap.size ∧ ¬ F Lb) : Still Lb B w w' :=
  ⟨fun x hx => hU.cell (p := ⟨x, 0, none⟩) (hB x hx).1 (hB x hx).2, hU.cell (p := ⟨Lb, 1, none⟩) hL.1 hL.2⟩
/-- A store beside them. -/
theorem Still.set {Lb : Nat} {B : List Nat} {w : World} {g o : Nat} (v : Value) (h0 : o ≠ 0) (h1 : g = Lb → o ≠ 1) : Still Lb B w (w.setCell ⟨g, o, none⟩ v) := by
  refine ⟨fun x _ => ?_, ?_⟩
  · exact World.cell?_setCell_other w ⟨g, o, none⟩ ⟨x, 0, none⟩ v (fun e => h0 (by simpa using congrArg Addr.off e))
  · exact World.cell?_setCell_other w ⟨g, o, none⟩ ⟨Lb, 1, none⟩ v (fun e => h1 (by simpa using congrArg Addr.block e) (by simpa using congrArg Addr.off e))

end Pd
end Go.Proofs.YtemmkobgpciflaaDoor
