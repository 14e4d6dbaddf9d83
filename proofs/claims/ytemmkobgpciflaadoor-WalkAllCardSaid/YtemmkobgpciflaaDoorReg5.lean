/- A region that draws its order: reads, forced effects, then reads of what the effects have changed. -/
import Derived.Test.YtemmkobgpciflaaDoorReg2
namespace Go.Proofs.YtemmkobgpciflaaDoor
open Go.RowKit

section
variable {P : Program} {ops : Array Oper} {Q : Exit → Act → World → Prop} {md : Region.Mode} {F : Nat → Bool}
theorem wpAnyF_mono {S S2 : World → Prop} (h : ∀ w, S2 w → S w) : ∀ (fuel : Nat) (listed : Array Bool) (a : Act) (w : World), wpAnyF P md ops Q S2 F fuel listed a w → wpAnyF P md ops Q S F fuel listed a w
  | 0, _, _, _, k => k
  | fuel + 1, _, _, _, k => ⟨k.1, fun i hi => wpOp_mono (fun a' w' h' => ⟨fun e => h _ (h'.1 e), wpAnyF_mono h fuel _ a' w' h'.2⟩) (k.2 i hi)⟩

theorem wp_reg2s {id : Nat} {l : List Oper} {a : Act} {w : World} (S : World → Prop) (rs us rs2 us2 ls : List Nat) (hm : P.follows .mixedOrders = true) (hB : regB2 l.toArray rs us rs2 us2 ls = true)
    (hQ : ∀ c a d v w, Q (.panic c) (Act.put a d v) w → Q (.panic c) a w) (hS : S w.drew) (A : Act) (hr : readsTo P l.toArray S A rs a)
    (h : wpPre P l.toArray Q S (fun a' w' => ∃ (S2 : World → Prop) (A2 : Act), (∀ w, S2 w → S w) ∧ S2 w' ∧ readsTo P l.toArray S2 A2 rs2 a' ∧ wpTail P l.toArray Q S2 ls us2 A2 w') us A w.drew) : (Code.region id l.toArray true).wp P Q a w := by
  simp only [regB2, Bool.and_eq_true, beq_iff_eq] at hB
  obtain ⟨⟨⟨⟨⟨⟨h1, h2⟩, h2c⟩, h3⟩, h4⟩, h5⟩, h6⟩ := hB
  refine wp_region_any hm (wpAny_of_F (S := S) (F := fun j => !ls.contains j) _ _ _ _ ?_)
  have hF : ∀ j, (fun j => !ls.contains j) j = false → j ∈ ls := fun j hj => by simpa using hj
  have hc0 : Closed .any l.toArray (Array.replicate l.toArray.size false) := fun m om _ hl => by rw [getD_replicate_false] at hl; cases hl
  have := wpAnyF_reads (Q := Q) (S := S) (F := fun j => !ls.contains j) ls hF h1 hQ A rs ((us2 ++ ls).length + rs2.length + us.length) (Array.replicate l.toArray.size false) a w.drew hc0 h2 hr hS
    (wpAnyF_pre (F := fun j => !ls.contains j) ((us2 ++ ls).length + rs2.length) us _ A w.drew (closed_all rs _ hc0 h2c) h3 hS h (fun a' w' hS' hK hc' => by
      obtain ⟨S2, A2, hmono, hS2, hr2, ht⟩ := hK
      exact wpAnyF_mono hmono _ _ _ _ (wpAnyF_reads ls hF h1 hQ A2 rs2 (us2 ++ ls).length _ a' w' hc' h4 hr2 hS2 (wpAnyF_tail ls (fun l hl => by simpa using hl) us2 _ A2 w' h5 ht))))
  rw [h6] at this
  exact this
theorem pre_lastS {l : List Oper} {S : World → Prop} {rs2 us2 ls : List Nat} {a : Act} {w : World} (S2 : World → Prop) (h0 : ∀ w, S2 w → S w) (h1 : S2 w) (A2 : Act) (hr : readsTo P l.toArray S2 A2 rs2 a) (h : wpTail P l.toArray Q S2 ls us2 A2 w) : wpPre P l.toArray Q S (fun a' w' => ∃ (S2 : World → Prop) (A2 : Act), (∀ w, S2 w → S w) ∧ S2 w' ∧ readsTo P l.toArray S2 A2 rs2 a' ∧ wpTail P l.toArray Q S2 ls us2 A2 w') [] a w := ⟨S2, A2, h0, h1, hr, h⟩
end
end Go.Proofs.YtemmkobgpciflaaDoor
