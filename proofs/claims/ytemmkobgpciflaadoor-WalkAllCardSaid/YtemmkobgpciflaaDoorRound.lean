/- Regions that draw their order, inside a round of a range over a function; lists with their places. -/
import Derived.Test.YtemmkobgpciflaaDoorReg3
import Derived.RangeFuncNested
import Derived.RangeFuncBound
import Derived.RangeFuncCalls
import Derived.RangeFuncLeaves
import Derived.Shelf.Abstract
import Derived.Shelf.RegionOpen
import Derived.WalkKit
import Derived.OwnWalkIn
import Derived.TacticsInMore
import Derived.LoopNIn
import Derived.LoopIn
namespace Go.Proofs.YtemmkobgpciflaaDoor
open Go.RowKit

section
variable {P : Program} {ops : Array Oper} {Q : Exit → Act → World → Prop} {md : Region.Mode} {S : World → Prop} {F : Nat → Bool} {r n : Nat}

def noDefer (ops : Array Oper) : Bool := ops.all fun o => match o.op with | .defer _ => false | _ => true
theorem noDefer_spec (h : noDefer ops = true) {i : Nat} {o : Oper} (ho : ops[i]? = some o) : ∀ c, o.op ≠ .defer c := by
  intro c heq
  have := Array.all_eq_true_iff_forall_mem.1 h o (Array.mem_of_getElem? ho)
  simp [heq] at this

theorem callsIn_round {m : Nat} {f : FuncId} {args : Array Value} {w : World} {R : Ending → World → Prop} (h : Calls P f args w R) : CallsIn (Fence.wide.inRound r) m P f args w R := CallsIn.inRound r (callsIn_wide.2 h)
theorem opIn_of_wp {o : Oper} {a : Act} {w : World} {K : Act → World → Prop} (hnd : ∀ c, o.op ≠ .defer c) (h : o.wp P a w K Q) : o.wpIn (Fence.wide.inRound r) n P a w K Q := by
  refine ⟨fun _ _ => trivial, ?_⟩
  rw [Oper.semAt_eq _ _ _ hnd]
  unfold Oper.wp at h
  generalize (execOp a.eval o).run P w = x at h
  cases x with
  | ok x w' =>
    cases x <;> simp only [Oper.upon, Oper.uponIn] at h ⊢
    all_goals first
      | exact h
      | exact ⟨fun h => by simp [Fence.wide] at h, callsIn_round h⟩
      | exact ⟨fun h => by simp [Fence.wide] at h, fun c cs _ => let ⟨v, w', r, s⟩ := h c cs; ⟨v, w', r, stepsIn_wide.2 s⟩⟩
      | exact False.elim h
  | halt x w' => cases x <;> simp only [Oper.upon, Oper.uponIn] at h ⊢ <;> exact h
theorem wpOpIn_of_wpOp (hlo : ¬ LetsOut Q) (hnd : noDefer ops = true) {i : Nat} {K K' : Act → World → Prop} {a : Act} {w : World} (hK : ∀ a w, K a w → K' a w) (h : wpOp P ops Q i K a w) : wpOpIn (Fence.wide.inRound r) n P ops Q i K' a w := by
  unfold wpOp at h
  unfold wpOpIn
  split
  · rename_i ho
    simp only [ho] at h
    exact hK _ _ h
  · rename_i o ho
    simp only [ho] at h
    split
    · rename_i hw
      simp only [hw, if_true] at h
      rcases h with h | ⟨_, h⟩
      · exact opIn_of_wp (noDefer_spec hnd ho) (Oper.wp_mono hK h)
      · exact (hlo h).elim
    · rename_i hw
      simp only [hw] at h
      exact ⟨fun _ _ => trivial, hK _ _ h⟩
theorem wpAnyIn_of_wpAny (hlo : ¬ LetsOut Q) (hnd : noDefer ops = true) : ∀ (fuel : Nat) (listed : Array Bool) (a : Act) (w : World), wpAny P md ops Q fuel listed a w → wpAnyIn (Fence.wide.inRound r) n P md ops Q fuel listed a w
  | 0, _, _, _, h => h
  | fuel + 1, listed, a, w, h => ⟨h.1, fun i hi => wpOpIn_of_wpOp hlo hnd (fun a w => wpAnyIn_of_wpAny hlo hnd fuel _ a w) (h.2 i hi)⟩
theorem regionIn_of_any {id : Nat} {l : List Oper} {a : Act} {w : World} (hlo : ¬ LetsOut Q) (hm : P.follows .mixedOrders = true) (hnd : noDefer l.toArray = true)
    (h : wpAny P .any l.toArray Q l.toArray.size (Array.replicate l.toArray.size false) a w.drew) : (Code.region id l.toArray true).wpIn (Fence.wide.inRound r) n P Q a w :=
  wpIn_region_any hm (wpAnyIn_of_wpAny hlo hnd _ _ _ _ h)

theorem listIn_of_list (hlo : ¬ LetsOut Q) : ∀ (l : List Oper) (a : Act) (w : World), (∀ o ∈ l, ∀ c, o.op ≠ .defer c) → wpList P ops Q l a w → wpListIn (Fence.wide.inRound r) n P ops Q l a w
  | [], _, _, _, h => h
  | o :: rest, a, w, hnd, h => by
    have hnd2 : ∀ o ∈ rest, ∀ c, o.op ≠ .defer c := fun o ho => hnd o (List.mem_cons_of_mem _ ho)
    simp only [wpList] at h
    simp only [wpListIn]
    split
    · rename_i hw
      rw [if_pos hw] at h
      rcases h with h | ⟨_, h⟩
      · exact opIn_of_wp (hnd o List.mem_cons_self) (Oper.wp_mono (fun a w h => listIn_of_list hlo rest a w hnd2 h) h)
      · exact (hlo h).elim
    · rename_i hw
      rw [if_neg hw] at h
      exact ⟨fun _ _ => trivial, listIn_of_list hlo rest _ w hnd2 h⟩
/-- A region in a round, walked as everywhere. -/
theorem regionIn_text {id : Nat} {l : List Oper} {a : Act} {w : World} (hlo : ¬ LetsOut Q) (hnd : noDefer l.toArray = true) (h : wpList P l.toArray Q l a w) : (Code.region id l.toArray false).wpIn (Fence.wide.inRound r) n P Q a w :=
  wpIn_region_lit (listIn_of_list hlo l a w (fun o ho c => by
    obtain ⟨i, hi, e⟩ := List.mem_iff_getElem.1 ho
    exact noDefer_spec hnd (i := i) (by rw [List.getElem?_toArray, List.getElem?_eq_getElem hi, e]) c) h)

/-- A drawn region in a round: reads, then effects in one order. -/
theorem wpIn_reg {id : Nat} {l : List Oper} {a : Act} {w : World} (S : World → Prop) (rs us ls : List Nat) (hlo : ¬ LetsOut Q) (hm : P.follows .mixedOrders = true) (hnd : noDefer l.toArray = true) (hB : regB l.toArray rs us ls = true)
    (hQ : ∀ c a d v w, Q (.panic c) (Act.put a d v) w → Q (.panic c) a w) (hS : S w.drew) (A : Act) (hr : readsTo P l.toArray S A rs a) (h : wpTail P l.toArray Q S ls us A w.drew) : (Code.region id l.toArray true).wpIn (Fence.wide.inRound r) n P Q a w := by
  simp only [regB, Bool.and_eq_true, beq_iff_eq] at hB
  obtain ⟨⟨⟨h1, h2⟩, h3⟩, h4⟩ := hB
  refine regionIn_of_any hlo hm hnd (wpAny_of_F (S := S) (F := fun j => !ls.contains j) _ _ _ _ ?_)
  have := wpAnyF_reads (Q := Q) (S := S) (F := fun j => !ls.contains j) ls (fun j hj => by simpa using hj) h1 hQ A rs (us ++ ls).length (Array.replicate l.toArray.size false) a w.drew
    (fun m om _ hl => by rw [getD_replicate_false] at hl; cases hl) h2 hr hS (wpAnyF_tail ls (fun l hl => by simpa using hl) us _ A w.drew h3 h)
  rw [h4] at this
  exact this
end

/-- A list's elements with their places. -/
def en {α : Type} (L : List α) : List (Nat × α) := L.mapIdx fun i x => (i, x)
theorem en_len {α : Type} (L : List α) : (en L).length = L.length := by simp [en]
theorem en_get {α : Type} (L : List α) (i : Nat) : (en L)[i]? = L[i]?.map fun x => (i, x) := by simp [en]
theorem en_snd {α : Type} (L : List α) : (en L).map Prod.snd = L := by
  apply List.ext_getElem?
  intro i
  rw [List.getElem?_map, en_get]
  cases L[i]? <;> rfl
theorem en_take {α : Type} {L : List α} {k : Nat} {y : α} (h : L[k]? = some y) : (en L).take k ++ [(k, y)] = (en L).take (k + 1) := by
  have hk : (en L)[k]? = some (k, y) := by rw [en_get, h]; rfl
  rw [List.take_add_one, hk]
  rfl
end Go.Proofs.YtemmkobgpciflaaDoor
