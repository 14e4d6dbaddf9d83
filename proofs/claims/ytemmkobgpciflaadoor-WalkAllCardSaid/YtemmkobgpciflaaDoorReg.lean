/- A region that draws its order: its reads first, whatever the order, then its effects in the one order that the edges leave. S: what the reads need of the world; F: behind which operations S has to hold. -/
import Derived.Test.YtemmkobgpciflaaDoorHeap
import Derived.OrdersHeld
namespace Go.Proofs.YtemmkobgpciflaaDoor
open Go.RowKit

section
variable {P : Program} {ops : Array Oper} {Q : Exit → Act → World → Prop} {md : Region.Mode} {S : World → Prop} {F : Nat → Bool}

def wpAnyF (P : Program) (md : Region.Mode) (ops : Array Oper) (Q : Exit → Act → World → Prop) (S : World → Prop) (F : Nat → Bool) : Nat → Array Bool → Act → World → Prop
  | 0, listed, a, w => Region.ready md ops listed = [] ∧ Q .normal a w
  | fuel + 1, listed, a, w =>
    (Region.ready md ops listed = [] → Q .normal a w) ∧
    ∀ i ∈ Region.ready md ops listed, wpOp P ops Q i (fun a' w' => (F i = true → S w') ∧ wpAnyF P md ops Q S F fuel (listed.setIfInBounds i true) a' w') a w

theorem wpAny_of_F : ∀ (fuel : Nat) (listed : Array Bool) (a : Act) (w : World), wpAnyF P md ops Q S F fuel listed a w → wpAny P md ops Q fuel listed a w
  | 0, _, _, _, h => h
  | fuel + 1, _, _, _, h => ⟨h.1, fun i hi => wpOp_mono (fun a' w' h' => wpAny_of_F fuel _ a' w' h'.2) (h.2 i hi)⟩

/-- What is listed is closed under what it waits for. -/
def Closed (md : Region.Mode) (ops : Array Oper) (listed : Array Bool) : Prop :=
  ∀ m om, ops[m]? = some om → listed.getD m false = true → ∀ e ∈ om.after, Region.binds md e = true → listed.getD e.on false = true

theorem getD_set (l : Array Bool) (i m : Nat) (h : (l.setIfInBounds i true).getD m false = true) : m = i ∨ l.getD m false = true := by
  by_cases e : m = i
  · exact Or.inl e
  · right
    rw [getD_set_ne false (fun h => e h.symm)] at h
    exact h

theorem Closed.next {listed : Array Bool} (h : Closed md ops listed) {j : Nat} (hj : j ∈ Region.ready md ops listed) : Closed md ops (listed.setIfInBounds j true) := by
  intro m om hm hl e he hb
  rcases getD_set _ _ _ hl with rfl | hl
  · obtain ⟨_, o, ho, hall⟩ := mem_ready.1 hj
    rw [ho] at hm
    cases hm
    exact getD_set_true (hall e he hb)
  · exact getD_set_true (h m om hm hl e he hb)

/-- j waits for i, by itself or through one other. -/
def waits (md : Region.Mode) (ops : Array Oper) (j i : Nat) : Bool :=
  match ops[j]? with
  | none => true
  | some o => o.after.any fun e => Region.binds md e && (e.on == i || match ops[e.on]? with
      | none => false
      | some p => p.after.any fun e' => Region.binds md e' && e'.on == i)

theorem waits_spec {listed : Array Bool} (hc : Closed md ops listed) {i j : Nat} (hj : j ∈ Region.ready md ops listed) (hi : i ∈ Region.ready md ops listed) (h : waits md ops j i = true) : False := by
  obtain ⟨_, o, ho, hall⟩ := mem_ready.1 hj
  obtain ⟨hun, oi, hoi, _⟩ := mem_ready.1 hi
  have hno : ¬ listed.getD i false = true := fun hl => by
    rcases Nat.lt_or_ge i listed.size with h' | h'
    · simp [h'] at hun hl; rw [hun] at hl; cases hl
    · simp [Array.getElem?_eq_none h'] at hl
  simp only [waits, ho] at h
  obtain ⟨e, he, hb⟩ := Array.any_eq_true'.1 h
  simp only [Bool.and_eq_true, Bool.or_eq_true, beq_iff_eq] at hb
  have h1 := hall e he hb.1
  rcases hb.2 with h2 | h2
  · rw [h2] at h1; exact hno h1
  · cases hp : ops[e.on]? with
    | none => rw [hp] at h2; cases h2
    | some p =>
      rw [hp] at h2
      obtain ⟨e', he', hb'⟩ := Array.any_eq_true'.1 h2
      simp only [Bool.and_eq_true, beq_iff_eq] at hb'
      have := hc e.on p hp h1 e' he' hb'.1
      rw [hb'.2] at this
      exact hno this

theorem wpAnyF_first {i : Nat} {oi : Oper} {v : Value} (hi : ops[i]? = some oi) (hsel : ∀ (j : Nat) (o : Oper) cs b, ops[j]? = some o → o.op ≠ .select cs b)
    (hQ : ∀ c a w, Q (.panic c) (a.put oi.dst v) w → Q (.panic c) a w) (hF : ∀ j o, ops[j]? = some o → F j = false → waits md ops j i = true) :
    ∀ (fuel : Nat) (listed : Array Bool) (a : Act) (w : World), Closed md ops listed →
      (∀ j oj, ops[j]? = some oj → j ≠ i → listed.getD j true = false → (∀ e ∈ oj.after, Region.binds md e = true → e.on ≠ i) → oi.apart ops oj = true) →
      i ∈ Region.ready md ops listed → YieldsIf P ops S oi v a → S w →
      wpAnyF P md ops Q S F fuel (listed.setIfInBounds i true) (a.put oi.dst v) w → wpAnyF P md ops Q S F (fuel + 1) listed a w := by
  intro fuel
  induction fuel with
  | zero =>
    intro listed a w _ _ hr hy hS H
    refine ⟨fun h => (by rw [h] at hr; cases hr), fun j hj => ?_⟩
    by_cases hji : j = i
    · subst hji; exact hy.wpOp hi hS ⟨fun _ => hS, H⟩
    · have := ready_mono hj hji
      rw [H.1] at this
      cases this
  | succ fuel ih =>
    intro listed a w hc hfree hr hy hS H
    refine ⟨fun h => (by rw [h] at hr; cases hr), fun j hj => ?_⟩
    by_cases hji : j = i
    · subst hji; exact hy.wpOp hi hS ⟨fun _ => hS, H⟩
    · have h1 := H.2 j (ready_mono hj hji)
      obtain ⟨hjun, oj, hoj, hall⟩ := mem_ready.1 hj
      have hFj : F j = true := by
        cases hf : F j with
        | true => rfl
        | false => exact (waits_spec hc hj hr (hF j oj hoj hf)).elim
      have hnot : ∀ e ∈ oj.after, Region.binds md e = true → e.on ≠ i := fun e he hb heq => by
        have h1 := hall e he hb
        have h0 := (mem_ready.1 hr).1
        rw [heq] at h1
        rcases Nat.lt_or_ge i listed.size with h' | h'
        · simp [h'] at h0 h1; rw [h0] at h1; cases h1
        · simp [Array.getElem?_eq_none h'] at h1
      have h2 := wpOp_putIf hoj (hfree j oj hoj hji hjun hnot) (fun cs b => hsel i oi cs b hi) (fun cs b => hsel j oj cs b hoj) hQ hy h1
      have hfree' : ∀ k ok, ops[k]? = some ok → k ≠ i → (listed.setIfInBounds j true).getD k true = false →
          (∀ e ∈ ok.after, Region.binds md e = true → e.on ≠ i) → oi.apart ops ok = true := fun k ok hk hki hun hno => by
        refine hfree k ok hk hki ?_ hno
        by_cases hjk : j = k
        · subst hjk; exact hjun
        · rw [getD_set_ne true hjk] at hun; exact hun
      refine wpOp_mono (fun a' w' h3 => ⟨h3.2.1, ih (listed.setIfInBounds j true) a' w' (hc.next hj) hfree' (ready_mono hr (Ne.symm hji)) h3.1 (h3.2.1 hFj) ?_⟩) h2
      rw [Array.setIfInBounds_comm _ _ hji]
      exact h3.2.2

/-- The reads, one behind the other: what each yields in every world that meets S; the frame that they leave. -/
def readsTo (P : Program) (ops : Array Oper) (S : World → Prop) (A : Act) : List Nat → Act → Prop
  | [], a => a = A
  | i :: r, a => ∃ o v, ops[i]? = some o ∧ YieldsIf P ops S o v a ∧ readsTo P ops S A r (a.put o.dst v)

theorem reads_cons {A a : Act} {i : Nat} {r : List Nat} {o : Oper} {v : Value} (ho : ops[i]? = some o) (hw : Region.wanted o (yielded ops a.tmps) = true) (hy : ∀ w, S w → (execOp a.eval o).run P w = .ok (.value v) w)
    (h : readsTo P ops S A r (a.put o.dst v)) : readsTo P ops S A (i :: r) a := ⟨o, v, ho, Or.inl ⟨hw, hy⟩, h⟩
theorem reads_skip {A a : Act} {i : Nat} {r : List Nat} {o : Oper} (ho : ops[i]? = some o) (hw : Region.wanted o (yielded ops a.tmps) = false)
    (h : readsTo P ops S A r (a.put o.dst undef)) : readsTo P ops S A (i :: r) a := ⟨o, undef, ho, Or.inr ⟨hw, rfl⟩, h⟩

theorem upon_then {o : Oper} {a : Act} {K X : Act → World → Prop} : ∀ {r : Result Next}, o.upon P a K (Exit.then X Q) r → o.upon P a K Q r
  | .ok n w', h => by
    cases n <;> simp only [Oper.upon] at h ⊢ <;> first | exact h | (refine Calls.mono h fun e w'' he => ?_; cases e <;> exact he)
  | .halt x w', h => by
    cases x <;> simp only [Oper.upon] at h ⊢ <;> exact h

theorem wpOp_of_list {u : Nat} {X K : Act → World → Prop} {a : Act} {w : World} (h : wpList P ops (Exit.then X Q) ((ops[u]?).toList) a w) (hK : ∀ a w, X a w → K a w) : wpOp P ops Q u K a w := by
  unfold wpOp
  cases ho : ops[u]? with
  | none => rw [ho] at h; exact hK _ _ h
  | some o =>
    rw [ho] at h
    simp only [Option.toList, wpList] at h
    dsimp only
    split
    · rename_i hw
      rw [if_pos hw] at h
      rcases h with h | ⟨h1, h2⟩
      · exact Or.inl (Oper.wp_mono hK (upon_then h))
      · exact Or.inr ⟨h1, h2⟩
    · rename_i hw
      rw [if_neg hw] at h
      exact hK _ _ h

/-- The effects: those of us one by one, S behind each; then those of ls. -/
def wpTail (P : Program) (ops : Array Oper) (Q : Exit → Act → World → Prop) (S : World → Prop) (ls : List Nat) : List Nat → Act → World → Prop
  | [], a, w => wpList P ops Q (ls.filterMap (ops[·]?)) a w
  | u :: r, a, w => wpList P ops (Exit.then (fun a' w' => S w' ∧ wpTail P ops Q S ls r a' w') Q) ((ops[u]?).toList) a w

theorem tail_cons {ls r : List Nat} {u : Nat} {a : Act} {w : World} {o : Oper} (ho : ops[u]? = some o) (h : wpList P ops (Exit.then (fun a' w' => S w' ∧ wpTail P ops Q S ls r a' w') Q) [o] a w) : wpTail P ops Q S ls (u :: r) a w := by
  unfold wpTail
  rw [ho]
  exact h
theorem tail_zero {a : Act} {w : World} (h : Q .normal a w) : wpTail P ops Q S [] [] a w := h
theorem tail_one {l : Nat} {o : Oper} {a : Act} {w : World} (ho : ops[l]? = some o) (h : wpList P ops Q [o] a w) : wpTail P ops Q S [l] [] a w := by
  unfold wpTail
  rw [List.filterMap_cons_some ho]
  exact h
theorem tail_two {l l' : Nat} {o o' : Oper} {a : Act} {w : World} (ho : ops[l]? = some o) (ho' : ops[l']? = some o') (h : wpList P ops Q [o, o'] a w) : wpTail P ops Q S [l, l'] [] a w := by
  unfold wpTail
  rw [List.filterMap_cons_some ho, List.filterMap_cons_some ho']
  exact h

theorem tail_three {l l' l'' : Nat} {o o' o'' : Oper} {a : Act} {w : World} (ho : ops[l]? = some o) (ho' : ops[l']? = some o') (ho'' : ops[l'']? = some o'') (h : wpList P ops Q [o, o', o''] a w) : wpTail P ops Q S [l, l', l''] [] a w := by
  unfold wpTail
  rw [List.filterMap_cons_some ho, List.filterMap_cons_some ho', List.filterMap_cons_some ho'']
  exact h

def chainB (md : Region.Mode) (ops : Array Oper) : List Nat → Array Bool → Bool
  | [], listed => Region.ready md ops listed == []
  | t :: r, listed => Region.ready md ops listed == [t] && chainB md ops r (listed.setIfInBounds t true)

theorem wpAnyF_last : ∀ (ls : List Nat) (listed : Array Bool) (a : Act) (w : World), (∀ l ∈ ls, F l = false) → chainB md ops ls listed = true → wpList P ops Q (ls.filterMap (ops[·]?)) a w → wpAnyF P md ops Q S F ls.length listed a w
  | [], listed, a, w, _, hb, h => by
    simp only [chainB, beq_iff_eq] at hb
    exact ⟨hb, h⟩
  | t :: r, listed, a, w, hF, hb, h => by
    simp only [chainB, Bool.and_eq_true, beq_iff_eq] at hb
    refine ⟨fun h0 => absurd (hb.1.symm.trans h0) (by simp), fun i hi => ?_⟩
    rw [hb.1] at hi
    simp at hi
    subst hi
    have ih := fun a w => wpAnyF_last r (listed.setIfInBounds i true) a w (fun l hl => hF l (List.mem_cons_of_mem _ hl)) hb.2
    have hFi := hF i List.mem_cons_self
    unfold wpOp
    cases ho : ops[i]? with
    | none =>
      rw [List.filterMap_cons_none ho] at h
      exact ⟨fun h => (by rw [hFi] at h; cases h), ih a w h⟩
    | some o =>
      rw [List.filterMap_cons_some ho] at h
      simp only [wpList] at h
      dsimp only
      split
      · rename_i hw
        rw [if_pos hw] at h
        exact h.imp (Oper.wp_mono (fun a w h => ⟨fun h => (by rw [hFi] at h; cases h), ih a w h⟩)) id
      · rename_i hw
        rw [if_neg hw] at h
        exact ⟨fun h => (by rw [hFi] at h; cases h), ih _ w h⟩

theorem wpAnyF_tail (ls : List Nat) (hF : ∀ l ∈ ls, F l = false) : ∀ (us : List Nat) (listed : Array Bool) (a : Act) (w : World), chainB md ops (us ++ ls) listed = true → wpTail P ops Q S ls us a w → wpAnyF P md ops Q S F (us ++ ls).length listed a w
  | [], listed, a, w, hb, h => wpAnyF_last ls listed a w hF hb h
  | u :: r, listed, a, w, hb, h => by
    simp only [List.cons_append, chainB, Bool.and_eq_true, beq_iff_eq] at hb
    refine ⟨fun h0 => absurd (hb.1.symm.trans h0) (by simp), fun i hi => ?_⟩
    rw [hb.1] at hi
    simp at hi
    subst hi
    exact wpOp_of_list h (fun a w hx => ⟨fun _ => hx.1, wpAnyF_tail ls hF r (listed.setIfInBounds i true) a w hb.2 hx.2⟩)

def readsB (md : Region.Mode) (ops : Array Oper) (ls : List Nat) : List Nat → Array Bool → Bool
  | [], _ => true
  | i :: r, listed => Region.free md ops listed i && (Region.ready md ops listed).contains i && ls.all (fun j => waits md ops j i) && readsB md ops ls r (listed.setIfInBounds i true)

def listAll : List Nat → Array Bool → Array Bool
  | [], l => l
  | i :: r, l => listAll r (l.setIfInBounds i true)

theorem wpAnyF_reads (ls : List Nat) (hF : ∀ j, F j = false → j ∈ ls) (hs : Region.noSelect ops = true) (hQ : ∀ c a d v w, Q (.panic c) (Act.put a d v) w → Q (.panic c) a w) (A : Act) :
    ∀ (rs : List Nat) (fuel : Nat) (listed : Array Bool) (a : Act) (w : World), Closed md ops listed → readsB md ops ls rs listed = true → readsTo P ops S A rs a → S w →
      wpAnyF P md ops Q S F fuel (listAll rs listed) A w → wpAnyF P md ops Q S F (fuel + rs.length) listed a w
  | [], fuel, listed, a, w, _, _, hr, _, h => by
    have e : a = A := hr
    subst e
    exact h
  | i :: r, fuel, listed, a, w, hc, hb, hr, hS, h => by
    obtain ⟨o, v, ho, hy, hr⟩ := hr
    simp only [readsB, Bool.and_eq_true] at hb
    obtain ⟨⟨⟨h1, h2⟩, h3⟩, h4⟩ := hb
    have h2' : i ∈ Region.ready md ops listed := by simpa using h2
    exact wpAnyF_first ho (Region.noSelect_spec hs) (fun c a w => hQ c a _ _ w) (fun j oj _ hf => List.all_eq_true.1 h3 j (hF j hf)) (fuel + r.length) listed a w hc (Region.free_spec ho h1) h2' hy hS
      (wpAnyF_reads ls hF hs hQ A r fuel (listed.setIfInBounds i true) _ w (hc.next h2') h4 hr hS h)

def regB (ops : Array Oper) (rs us ls : List Nat) : Bool :=
  Region.noSelect ops && readsB .any ops ls rs (Array.replicate ops.size false) && chainB .any ops (us ++ ls) (listAll rs (Array.replicate ops.size false)) && (us ++ ls).length + rs.length == ops.size

/-- A REGION THAT DRAWS ITS ORDER: the reads rs first (what each yields hangs on S alone), then the effects us, S behind each, then those of ls, in their order. -/
theorem wp_reg {id : Nat} {l : List Oper} {a : Act} {w : World} (S : World → Prop) (rs us ls : List Nat) (hm : P.follows .mixedOrders = true) (hB : regB l.toArray rs us ls = true)
    (hQ : ∀ c a d v w, Q (.panic c) (Act.put a d v) w → Q (.panic c) a w) (hS : S w.drew) (A : Act) (hr : readsTo P l.toArray S A rs a) (h : wpTail P l.toArray Q S ls us A w.drew) : (Code.region id l.toArray true).wp P Q a w := by
  simp only [regB, Bool.and_eq_true, beq_iff_eq] at hB
  obtain ⟨⟨⟨h1, h2⟩, h3⟩, h4⟩ := hB
  refine wp_region_any hm (wpAny_of_F (S := S) (F := fun j => !ls.contains j) _ _ _ _ ?_)
  have := wpAnyF_reads (Q := Q) (S := S) (F := fun j => !ls.contains j) ls (fun j hj => by simpa using hj) h1 hQ A rs (us ++ ls).length (Array.replicate l.toArray.size false) a w.drew
    (fun m om _ hl => by rw [getD_replicate_false] at hl; cases hl) h2 hr hS (wpAnyF_tail ls (fun l hl => by simpa using hl) us _ A w.drew h3 h)
  rw [h4] at this
  exact this

end
end Go.Proofs.YtemmkobgpciflaaDoor
