/- Characters in UTF-8: what begins at a place of a text (step; 0: nothing that can be), and where a text goes wrong (bad). -/
import Derived.Test.YtemmkobgpciflaaDoorNm
import Derived.Test.YtemmkobgpciflaaDoorShelf
import Derived.Lib.RuneCountTail
namespace Go.Proofs.YtemmkobgpciflaaDoor
open Go.RowKit

/-- Go's two tables of UTF-8 hold what they hold. -/
def Tabs (w : World) : Prop := Lib.Utf8Tabs 1 2 w
theorem Tabs.keep {w w' : World} {F : Nat → Prop} (h : Tabs w) (hU : Upd w w' F) (h1 : ¬ F 1) (h2 : ¬ F 2) : Tabs w' := by
  refine ⟨fun c hc => ?_, fun i hi => ⟨?_, ?_⟩⟩
  · have e := h.1 c hc
    rw [hU.cell (by exact World.block_lt_of_cell? w _ e) h1]
    exact e
  · have e := (h.2 i hi).1
    rw [hU.cell (by exact World.block_lt_of_cell? w _ e) h2]
    exact e
  · have e := (h.2 i hi).2
    rw [hU.cell (by exact World.block_lt_of_cell? w _ e) h2]
    exact e
theorem Tabs.below {w w' : World} (h : Tabs w) (hB : Below w.heap.size w w') : Tabs w' := h.keep (F := fun _ => False) (Upd.ofBelow hB) (fun h => h) (fun h => h)
theorem Tabs.drew {w : World} (h : Tabs w) : Tabs w.drew := h

namespace Ch

def dec (s : ByteArray) (i : Nat) : Nat × Nat := Lib.decodeN (s.size - i) (bt s i) (bt s (i + 1)) (bt s (i + 2)) (bt s (i + 3))
/-- How many bytes the character has that begins at a place; 0: there is none that can be. -/
def step (s : ByteArray) (i : Nat) : Nat := if ((dec s i).1 = 65533 ∧ (dec s i).2 = 1) ∨ canB (dec s i).1 = false then 0 else (dec s i).2

theorem decodeGo_eq (s : ByteArray) (i : Nat) (h : i < s.size) : Lib.decodeGo (s.extract i s.size) = dec s i := by
  have hs : (s.extract i s.size).size = s.size - i := by rw [ByteArray.size_extract]; omega
  unfold Lib.decodeGo
  rw [if_neg (by omega), Lib.tail_decode, Lib.decode_at]
  rfl

theorem dec_le (s : ByteArray) (i : Nat) (h : i < s.size) : 1 ≤ (dec s i).2 ∧ i + (dec s i).2 ≤ s.size := by
  unfold dec Lib.decodeN
  repeat' split
  all_goals (simp only; omega)
theorem dec_r (s : ByteArray) (i : Nat) : (dec s i).1 < 2097152 := by
  have h0 := bt_lt s i
  have h1 := bt_lt s (i + 1)
  have h2 := bt_lt s (i + 2)
  have h3 := bt_lt s (i + 3)
  unfold dec Lib.decodeN
  repeat' split
  all_goals (simp only; omega)
theorem step_le (s : ByteArray) (i : Nat) (h : i < s.size) : i + step s i ≤ s.size := by
  have := dec_le s i h
  unfold step
  split <;> omega

/-- The first place from i on at which no character that can be begins. -/
def bad (s : ByteArray) (i : Nat) : Option Nat :=
  if h : i < s.size then
    if h0 : step s i = 0 then some i else bad s (i + step s i)
  else none
termination_by s.size - i
decreasing_by omega

theorem bad_end {s : ByteArray} {i : Nat} (h : ¬ i < s.size) : bad s i = none := by rw [bad, dif_neg h]
theorem bad_here {s : ByteArray} {i : Nat} (h : i < s.size) (h0 : step s i = 0) : bad s i = some i := by rw [bad, dif_pos h, dif_pos h0]
theorem bad_on {s : ByteArray} {i : Nat} (h : i < s.size) (h0 : step s i ≠ 0) : bad s i = bad s (i + step s i) := by rw [bad, dif_pos h, dif_neg h0]

/-- What is wrong with a text, and where. -/
def textE (s : ByteArray) : Int := if 16384 < s.size then 2 else match bad s 0 with | none => 0 | some _ => 7
def textP (s : ByteArray) : Int := if 16384 < s.size then 0 else match bad s 0 with | none => 0 | some p => p
theorem text_long {s : ByteArray} (h : 16384 < s.size) : textE s = 2 ∧ textP s = 0 := by unfold textE textP; rw [if_pos h, if_pos h]; exact ⟨rfl, rfl⟩
theorem text_bad {s : ByteArray} (h : ¬ 16384 < s.size) {p : Nat} (hb : bad s 0 = some p) : textE s = 7 ∧ textP s = p := by unfold textE textP; rw [if_neg h, if_neg h, hb]; exact ⟨rfl, rfl⟩
theorem text_good {s : ByteArray} (h : ¬ 16384 < s.size) (hb : bad s 0 = none) : textE s = 0 ∧ textP s = 0 := by unfold textE textP; rw [if_neg h, if_neg h, hb]; exact ⟨rfl, rfl⟩

end Ch
end Go.Proofs.YtemmkobgpciflaaDoor
