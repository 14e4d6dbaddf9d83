/- A region that draws its order: reads first, then forced effects, then reads again, then its last effects in the one order that the edges leave. -/
import Derived.Test.YtemmkobgpciflaaDoorReg
namespace Go.Proofs.YtemmkobgpciflaaDoor
open Go.RowKit

section
variable {P : Program} {ops : Array Oper} {Q : Exit → Act → World → Prop} {md : Region.Mode} {S : World → Prop} {F : Nat → Bool}

/-- Forced effects, S behind each; then K. -/
def wpPre (P : Program) (ops : Array Oper) (Q : Exit → Act → World → Prop) (S : World → Prop) (K : Act → World → Prop) : List Nat → Act → World → Prop
  | [], a, w => K a w
  | u :: r, a, w => wpList P ops (Exit.then (fun a' w' => S w' ∧ wpPre P ops Q S K r a' w') Q) ((ops[u]?).toList) a w

theorem pre_cons {K : Act → World → Prop} {r : List Nat} {u : Nat} {a : Act} {w : World} {o : Oper} (ho : ops[u]? = some o) (h : wpList P ops (Exit.then (fun a' w' => S w' ∧ wpPre P ops Q S K r a' w') Q) [o] a w) : wpPre P ops Q S K (u :: r) a w := by
  unfold wpPre
  rw [ho]
  exact h

theorem pre_last {rs2 us2 ls : List Nat} {a : Act} {w : World} (A2 : Act) (hr : readsTo P ops S A2 rs2 a) (h : wpTail P ops Q S ls us2 A2 w) : wpPre P ops Q S (fun a' w' => ∃ A2, readsTo P ops S A2 rs2 a' ∧ wpTail P ops Q S ls us2 A2 w') [] a w := ⟨A2, hr, h⟩

def chainP (md : Region.Mode) (ops : Array Oper) : List Nat → Array Bool → Bool
  | [], _ => true
  | t :: r, listed => Region.ready md ops listed == [t] && chainP md ops r (listed.setIfInBounds t true)

theorem wpAnyF_pre {K : Act → World → Prop} (fuel : Nat) : ∀ (us : List Nat) (listed : Array Bool) (a : Act) (w : World), Closed md ops listed → chainP md ops us listed = true → S w → wpPre P ops Q S K us a w →
    (∀ a w, S w → K a w → Closed md ops (listAll us listed) → wpAnyF P md ops Q S F fuel (listAll us listed) a w) → wpAnyF P md ops Q S F (fuel + us.length) listed a w
  | [], _, a, w, hc, _, hS, h, hK => hK a w hS h hc
  | u :: r, listed, a, w, hc, hb, _, h, hK => by
    simp only [chainP, Bool.and_eq_true, beq_iff_eq] at hb
    refine ⟨fun h0 => absurd (hb.1.symm.trans h0) (by simp), fun i hi => ?_⟩
    have hi0 := hi
    rw [hb.1] at hi
    simp at hi
    subst hi
    exact wpOp_of_list h (fun a w hx => ⟨fun _ => hx.1, wpAnyF_pre fuel r (listed.setIfInBounds i true) a w (hc.next hi0) hb.2 hx.1 hx.2 hK⟩)

def listAllClosed (md : Region.Mode) (ops : Array Oper) : List Nat → Array Bool → Bool
  | [], _ => true
  | i :: r, listed => (Region.ready md ops listed).contains i && listAllClosed md ops r (listed.setIfInBounds i true)

theorem closed_all : ∀ (rs : List Nat) (listed : Array Bool), Closed md ops listed → listAllClosed md ops rs listed = true → Closed md ops (listAll rs listed)
  | [], _, hc, _ => hc
  | i :: r, listed, hc, hb => by
    simp only [listAllClosed, Bool.and_eq_true] at hb
    exact closed_all r _ (hc.next (by simpa using hb.1)) hb.2

def regB2 (ops : Array Oper) (rs us rs2 us2 ls : List Nat) : Bool :=
  Region.noSelect ops && readsB .any ops ls rs (Array.replicate ops.size false) && listAllClosed .any ops rs (Array.replicate ops.size false) && chainP .any ops us (listAll rs (Array.replicate ops.size false)) &&
    readsB .any ops ls rs2 (listAll us (listAll rs (Array.replicate ops.size false))) && chainB .any ops (us2 ++ ls) (listAll rs2 (listAll us (listAll rs (Array.replicate ops.size false)))) && (us2 ++ ls).length + rs2.length + us.length + rs.length == ops.size

theorem wp_reg2 {id : Nat} {l : List Oper} {a : Act} {w : World} (S : World → Prop) (rs us rs2 us2 ls : List Nat) (hm : P.follows .mixedOrders = true) (hB : regB2 l.toArray rs us rs2 us2 ls = true)
    (hQ : ∀ c a d v w, Q (.panic c) (Act.put a d v) w → Q (.panic c) a w) (hS : S w.drew) (A : Act) (hr : readsTo P l.toArray S A rs a)
    (h : wpPre P l.toArray Q S (fun a' w' => ∃ A2, readsTo P l.toArray S A2 rs2 a' ∧ wpTail P l.toArray Q S ls us2 A2 w') us A w.drew) : (Code.region id l.toArray true).wp P Q a w := by
  simp only [regB2, Bool.and_eq_true, beq_iff_eq] at hB
  obtain ⟨⟨⟨⟨⟨⟨h1, h2⟩, h2c⟩, h3⟩, h4⟩, h5⟩, h6⟩ := hB
  refine wp_region_any hm (wpAny_of_F (S := S) (F := fun j => !ls.contains j) _ _ _ _ ?_)
  have hF : ∀ j, (fun j => !ls.contains j) j = false → j ∈ ls := fun j hj => by simpa using hj
  have hc0 : Closed .any l.toArray (Array.replicate l.toArray.size false) := fun m om _ hl => by rw [getD_replicate_false] at hl; cases hl
  have := wpAnyF_reads (Q := Q) (S := S) (F := fun j => !ls.contains j) ls hF h1 hQ A rs ((us2 ++ ls).length + rs2.length + us.length) (Array.replicate l.toArray.size false) a w.drew hc0 h2 hr hS
    (wpAnyF_pre (F := fun j => !ls.contains j) ((us2 ++ ls).length + rs2.length) us _ A w.drew (closed_all rs _ hc0 h2c) h3 hS h (fun a' w' hS' hK hc' => by
      obtain ⟨A2, hr2, ht⟩ := hK
      exact wpAnyF_reads ls hF h1 hQ A2 rs2 (us2 ++ ls).length _ a' w' hc' h4 hr2 hS' (wpAnyF_tail ls (fun l hl => by simpa using hl) us2 _ A2 w' h5 ht)))
  rw [h6] at this
  exact this

theorem arr {l : List Oper} {i : Nat} {o : Oper} (h : l[i]? = some o) : l.toArray[i]? = some o := by rw [List.getElem?_toArray]; exact h
theorem reads_consL {l : List Oper} {A a : Act} {i : Nat} {r : List Nat} {o : Oper} {v : Value} (ho : l[i]? = some o) (hw : Region.wanted o (yielded l.toArray a.tmps) = true) (hy : ∀ w, S w → (execOp a.eval o).run P w = .ok (.value v) w)
    (h : readsTo P l.toArray S A r (a.put o.dst v)) : readsTo P l.toArray S A (i :: r) a := reads_cons (arr ho) hw hy h
theorem reads_skipL {l : List Oper} {A a : Act} {i : Nat} {r : List Nat} {o : Oper} (ho : l[i]? = some o) (hw : Region.wanted o (yielded l.toArray a.tmps) = false)
    (h : readsTo P l.toArray S A r (a.put o.dst undef)) : readsTo P l.toArray S A (i :: r) a := reads_skip (arr ho) hw h
theorem pre_consL {l : List Oper} {K : Act → World → Prop} {r : List Nat} {u : Nat} {a : Act} {w : World} {o : Oper} (ho : l[u]? = some o) (h : wpList P l.toArray (Exit.then (fun a' w' => S w' ∧ wpPre P l.toArray Q S K r a' w') Q) [o] a w) : wpPre P l.toArray Q S K (u :: r) a w := pre_cons (arr ho) h
theorem tail_consL {l : List Oper} {ls r : List Nat} {u : Nat} {a : Act} {w : World} {o : Oper} (ho : l[u]? = some o) (h : wpList P l.toArray (Exit.then (fun a' w' => S w' ∧ wpTail P l.toArray Q S ls r a' w') Q) [o] a w) : wpTail P l.toArray Q S ls (u :: r) a w := tail_cons (arr ho) h
theorem tail_oneL {l : List Oper} {k : Nat} {a : Act} {w : World} {o : Oper} (ho : l[k]? = some o) (h : wpList P l.toArray Q [o] a w) : wpTail P l.toArray Q S [k] [] a w := tail_one (arr ho) h

end
end Go.Proofs.YtemmkobgpciflaaDoor
