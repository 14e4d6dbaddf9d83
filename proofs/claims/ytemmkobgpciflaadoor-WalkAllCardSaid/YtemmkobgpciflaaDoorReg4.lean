/- A region that draws its order: operations that hang on no world first, then reads, then such operations again, then a chain of effects with one more anywhere among them, then effects in one order. -/
import Derived.Test.YtemmkobgpciflaaDoorReg3
namespace Go.Proofs.YtemmkobgpciflaaDoor
open Go.RowKit

section
variable {P : Program} {ops : Array Oper} {Q : Exit → Act → World → Prop} {md : Region.Mode} {S : World → Prop} {F : Nat → Bool}

/-- What each waits for is not yet listed. -/
theorem wpAnyF_pure {i : Nat} {oi : Oper} {v : Value} (hi : ops[i]? = some oi) (hsel : ∀ (j : Nat) (o : Oper) cs b, ops[j]? = some o → o.op ≠ .select cs b)
    (hQ : ∀ c a w, Q (.panic c) (a.put oi.dst v) w → Q (.panic c) a w) (hFi : F i = false) :
    ∀ (fuel : Nat) (listed : Array Bool) (a : Act) (w : World),
      (∀ j oj, ops[j]? = some oj → j ≠ i → listed.getD j true = false → (∀ e ∈ oj.after, Region.binds md e = true → e.on ≠ i) → oi.apart ops oj = true) →
      i ∈ Region.ready md ops listed → YieldsIf P ops (fun _ => True) oi v a →
      wpAnyF P md ops Q S F fuel (listed.setIfInBounds i true) (a.put oi.dst v) w → wpAnyF P md ops Q S F (fuel + 1) listed a w := by
  intro fuel
  induction fuel with
  | zero =>
    intro listed a w _ hr hy H
    refine ⟨fun h => (by rw [h] at hr; cases hr), fun j hj => ?_⟩
    by_cases hji : j = i
    · subst hji; exact hy.wpOp hi trivial ⟨fun h => (by rw [hFi] at h; cases h), H⟩
    · have := ready_mono hj hji
      rw [H.1] at this
      cases this
  | succ fuel ih =>
    intro listed a w hfree hr hy H
    refine ⟨fun h => (by rw [h] at hr; cases hr), fun j hj => ?_⟩
    by_cases hji : j = i
    · subst hji; exact hy.wpOp hi trivial ⟨fun h => (by rw [hFi] at h; cases h), H⟩
    · have h1 := H.2 j (ready_mono hj hji)
      obtain ⟨hjun, oj, hoj, hall⟩ := mem_ready.1 hj
      have hnot : ∀ e ∈ oj.after, Region.binds md e = true → e.on ≠ i := fun e he hb heq => by
        have h1 := hall e he hb
        have h0 := (mem_ready.1 hr).1
        rw [heq] at h1
        rcases Nat.lt_or_ge i listed.size with h' | h'
        · simp [h'] at h0 h1; rw [h0] at h1; cases h1
        · simp [Array.getElem?_eq_none h'] at h1
      have h2 := wpOp_putIf hoj (hfree j oj hoj hji hjun hnot) (fun cs b => hsel i oi cs b hi) (fun cs b => hsel j oj cs b hoj) hQ hy h1
      have hfree' : ∀ k ok, ops[k]? = some ok → k ≠ i → (listed.setIfInBounds j true).getD k true = false →
          (∀ e ∈ ok.after, Region.binds md e = true → e.on ≠ i) → oi.apart ops ok = true := fun k ok hk hki hun hno => by
        refine hfree k ok hk hki ?_ hno
        by_cases hjk : j = k
        · subst hjk; exact hjun
        · rw [getD_set_ne true hjk] at hun; exact hun
      refine wpOp_mono (fun a' w' h3 => ⟨h3.2.1, ih (listed.setIfInBounds j true) a' w' hfree' (ready_mono hr (Ne.symm hji)) h3.1 ?_⟩) h2
      rw [Array.setIfInBounds_comm _ _ hji]
      exact h3.2.2

theorem wpAnyF_first' {i : Nat} {oi : Oper} {v : Value} (hi : ops[i]? = some oi) (hsel : ∀ (j : Nat) (o : Oper) cs b, ops[j]? = some o → o.op ≠ .select cs b)
    (hQ : ∀ c a w, Q (.panic c) (a.put oi.dst v) w → Q (.panic c) a w) :
    ∀ (fuel : Nat) (listed : Array Bool) (a : Act) (w : World), (∀ j o, ops[j]? = some o → F j = false → listed.getD j true = false → waits md ops j i = true) → Closed md ops listed →
      (∀ j oj, ops[j]? = some oj → j ≠ i → listed.getD j true = false → (∀ e ∈ oj.after, Region.binds md e = true → e.on ≠ i) → oi.apart ops oj = true) →
      i ∈ Region.ready md ops listed → YieldsIf P ops S oi v a → S w →
      wpAnyF P md ops Q S F fuel (listed.setIfInBounds i true) (a.put oi.dst v) w → wpAnyF P md ops Q S F (fuel + 1) listed a w := by
  intro fuel
  induction fuel with
  | zero =>
    intro listed a w hF hc _ hr hy hS H
    refine ⟨fun h => (by rw [h] at hr; cases hr), fun j hj => ?_⟩
    by_cases hji : j = i
    · subst hji; exact hy.wpOp hi hS ⟨fun _ => hS, H⟩
    · have := ready_mono hj hji
      rw [H.1] at this
      cases this
  | succ fuel ih =>
    intro listed a w hF hc hfree hr hy hS H
    refine ⟨fun h => (by rw [h] at hr; cases hr), fun j hj => ?_⟩
    by_cases hji : j = i
    · subst hji; exact hy.wpOp hi hS ⟨fun _ => hS, H⟩
    · have h1 := H.2 j (ready_mono hj hji)
      obtain ⟨hjun, oj, hoj, hall⟩ := mem_ready.1 hj
      have hFj : F j = true := by
        cases hf : F j with
        | true => rfl
        | false => exact (waits_spec hc hj hr (hF j oj hoj hf hjun)).elim
      have hnot : ∀ e ∈ oj.after, Region.binds md e = true → e.on ≠ i := fun e he hb heq => by
        have h1 := hall e he hb
        have h0 := (mem_ready.1 hr).1
        rw [heq] at h1
        rcases Nat.lt_or_ge i listed.size with h' | h'
        · simp [h'] at h0 h1; rw [h0] at h1; cases h1
        · simp [Array.getElem?_eq_none h'] at h1
      have h2 := wpOp_putIf hoj (hfree j oj hoj hji hjun hnot) (fun cs b => hsel i oi cs b hi) (fun cs b => hsel j oj cs b hoj) hQ hy h1
      have hun' : ∀ k, (listed.setIfInBounds j true).getD k true = false → listed.getD k true = false := fun k hun => by
        by_cases hjk : j = k
        · subst hjk; exact hjun
        · rw [getD_set_ne true hjk] at hun; exact hun
      refine wpOp_mono (fun a' w' h3 => ⟨h3.2.1, ih (listed.setIfInBounds j true) a' w' (fun k o ho hf hun => hF k o ho hf (hun' k hun)) (hc.next hj) (fun k ok hk hki hun hno => hfree k ok hk hki (hun' k hun) hno) (ready_mono hr (Ne.symm hji)) h3.1 (h3.2.1 hFj) ?_⟩) h2
      rw [Array.setIfInBounds_comm _ _ hji]
      exact h3.2.2

def pureB (md : Region.Mode) (ops : Array Oper) : List Nat → Array Bool → Bool
  | [], _ => true
  | i :: r, listed => Region.free md ops listed i && (Region.ready md ops listed).contains i && pureB md ops r (listed.setIfInBounds i true)

theorem wpAnyF_pures (hs : Region.noSelect ops = true) (hQ : ∀ c a d v w, Q (.panic c) (Act.put a d v) w → Q (.panic c) a w) (A : Act) :
    ∀ (rs : List Nat) (fuel : Nat) (listed : Array Bool) (a : Act) (w : World), (∀ i ∈ rs, F i = false) → pureB md ops rs listed = true → readsTo P ops (fun _ => True) A rs a →
      wpAnyF P md ops Q S F fuel (listAll rs listed) A w → wpAnyF P md ops Q S F (fuel + rs.length) listed a w
  | [], fuel, listed, a, w, _, _, hr, h => by
    have e : a = A := hr
    subst e
    exact h
  | i :: r, fuel, listed, a, w, hF, hb, hr, h => by
    obtain ⟨o, v, ho, hy, hr⟩ := hr
    simp only [pureB, Bool.and_eq_true] at hb
    obtain ⟨⟨h1, h2⟩, h4⟩ := hb
    have h2' : i ∈ Region.ready md ops listed := by simpa using h2
    exact wpAnyF_pure ho (Region.noSelect_spec hs) (fun c a w => hQ c a _ _ w) (hF i List.mem_cons_self) (fuel + r.length) listed a w (Region.free_spec ho h1) h2' hy
      (wpAnyF_pures hs hQ A r fuel (listed.setIfInBounds i true) _ w (fun k hk => hF k (List.mem_cons_of_mem _ hk)) h4 hr h)

def readsC (md : Region.Mode) (ops : Array Oper) (ns : List Nat) : List Nat → Array Bool → Bool
  | [], _ => true
  | i :: r, listed => Region.free md ops listed i && (Region.ready md ops listed).contains i && ns.all (fun j => listed.getD j true || waits md ops j i) && readsC md ops ns r (listed.setIfInBounds i true)

theorem wpAnyF_readsC (ns : List Nat) (hF : ∀ j, F j = false → j ∈ ns) (hs : Region.noSelect ops = true) (hQ : ∀ c a d v w, Q (.panic c) (Act.put a d v) w → Q (.panic c) a w) (A : Act) :
    ∀ (rs : List Nat) (fuel : Nat) (listed : Array Bool) (a : Act) (w : World), Closed md ops listed → readsC md ops ns rs listed = true → readsTo P ops S A rs a → S w →
      (Closed md ops (listAll rs listed) → wpAnyF P md ops Q S F fuel (listAll rs listed) A w) → wpAnyF P md ops Q S F (fuel + rs.length) listed a w
  | [], fuel, listed, a, w, hc, _, hr, _, h => by
    have e : a = A := hr
    subst e
    exact h hc
  | i :: r, fuel, listed, a, w, hc, hb, hr, hS, h => by
    obtain ⟨o, v, ho, hy, hr⟩ := hr
    simp only [readsC, Bool.and_eq_true] at hb
    obtain ⟨⟨⟨h1, h2⟩, h3⟩, h4⟩ := hb
    have h2' : i ∈ Region.ready md ops listed := by simpa using h2
    exact wpAnyF_first' ho (Region.noSelect_spec hs) (fun c a w => hQ c a _ _ w) (fuel + r.length) listed a w (fun j oj _ hf hun => by
      have := List.all_eq_true.1 h3 j (hF j hf)
      rw [hun, Bool.false_or] at this
      exact this) hc (Region.free_spec ho h1) h2' hy hS
      (wpAnyF_readsC ns hF hs hQ A r fuel (listed.setIfInBounds i true) _ w (hc.next h2') h4 hr hS h)

/-- A chain of effects with one more that may come anywhere among them; behind the chain's last one operations that hang on no world. -/
def wpShufC (P : Program) (ops : Array Oper) (Q : Exit → Act → World → Prop) (S : World → Prop) (r2 : List Nat) (M : Act → World → Prop) : List Nat → Nat → Act → World → Prop
  | [], u, a, w => ∃ A, readsTo P ops (fun _ => True) A r2 a ∧ wpList P ops (Exit.then (fun a' w' => S w' ∧ M a' w') Q) ((ops[u]?).toList) A w
  | c :: r, u, a, w => wpList P ops (Exit.then (fun a' w' => S w' ∧ wpShufC P ops Q S r2 M r u a' w') Q) ((ops[c]?).toList) a w ∧
      wpList P ops (Exit.then (fun a' w' => S w' ∧ wpPre P ops Q S (fun a w => ∃ A, readsTo P ops (fun _ => True) A r2 a ∧ M A w) (c :: r) a' w') Q) ((ops[u]?).toList) a w

def shufC (md : Region.Mode) (ops : Array Oper) (r2 rest : List Nat) : List Nat → Nat → Array Bool → Bool
  | [], u, listed => pureB md ops r2 listed && Region.ready md ops (listAll r2 listed) == [u] && chainB md ops rest ((listAll r2 listed).setIfInBounds u true)
  | c :: r, u, listed => (Region.ready md ops listed == [c, u] || Region.ready md ops listed == [u, c]) && shufC md ops r2 rest r u (listed.setIfInBounds c true) &&
      chainP md ops (c :: r) (listed.setIfInBounds u true) && pureB md ops r2 (listAll (c :: r) (listed.setIfInBounds u true)) && chainB md ops rest (listAll r2 (listAll (c :: r) (listed.setIfInBounds u true)))

theorem any_shufC {us ls r2 : List Nat} (hs : Region.noSelect ops = true) (hQ : ∀ c a d v w, Q (.panic c) (Act.put a d v) w → Q (.panic c) a w) (hF2 : ∀ i ∈ r2, F i = false) (hF' : ∀ j ∈ ls, F j = false) {M : Act → World → Prop} (hM : ∀ a' w', S w' → M a' w' → wpTail P ops Q S ls us a' w') :
    ∀ (ch : List Nat) (u : Nat) (listed : Array Bool) (a : Act) (w : World), Closed md ops listed → shufC md ops r2 (us ++ ls) ch u listed = true → wpShufC P ops Q S r2 M ch u a w → wpAnyF P md ops Q S F (ch.length + 1 + (us ++ ls).length + r2.length) listed a w
  | [], u, listed, a, w, hc, hb, h => by
    simp only [shufC, Bool.and_eq_true, beq_iff_eq] at hb
    obtain ⟨A, hr, h⟩ := h
    refine wpAnyF_pures hs hQ A r2 _ listed a w hF2 hb.1.1 hr ?_
    have := any_one (fuel := (us ++ ls).length) (F := F) hb.1.2 (list_mono' (fun a w ⟨hs, h⟩ => ⟨hs, wpAnyF_tail ls hF' us _ a w hb.2 (hM a w hs h)⟩) _ _ _ h)
    simpa [Nat.add_comm] using this
  | c :: r, u, listed, a, w, hc, hb, h => by
    simp only [shufC, Bool.and_eq_true, Bool.or_eq_true, beq_iff_eq] at hb
    obtain ⟨⟨⟨⟨b1, b2⟩, b3⟩, b4⟩, b5⟩ := hb
    have hcc : Closed md ops (listed.setIfInBounds c true) := hc.next (by rcases b1 with e | e <;> rw [e] <;> simp)
    have hcu : Closed md ops (listed.setIfInBounds u true) := hc.next (by rcases b1 with e | e <;> rw [e] <;> simp)
    have e : (c :: r).length + 1 + (us ++ ls).length + r2.length = (r.length + 1 + (us ++ ls).length + r2.length) + 1 := by simp; omega
    rw [e]
    have k1 := list_mono' (fun a w ⟨hs', h⟩ => (⟨hs', any_shufC hs hQ hF2 hF' hM r u _ a w hcc b2 h⟩ : S w ∧ wpAnyF P md ops Q S F (r.length + 1 + (us ++ ls).length + r2.length) (listed.setIfInBounds c true) a w)) _ _ _ h.1
    have k2 := list_mono' (fun a w ⟨hs', h⟩ => (⟨hs', by
      have := wpAnyF_pre (F := F) ((us ++ ls).length + r2.length) (c :: r) _ a w hcu b3 hs' h (fun a w hS ⟨A, hr, hm⟩ _ => wpAnyF_pures hs hQ A r2 (us ++ ls).length _ a w hF2 b4 hr (wpAnyF_tail ls hF' us _ A w b5 (hM A w hS hm)))
      have e2 : (us ++ ls).length + r2.length + (c :: r).length = r.length + 1 + (us ++ ls).length + r2.length := by simp; omega
      rw [e2] at this
      exact this⟩ : S w ∧ wpAnyF P md ops Q S F (r.length + 1 + (us ++ ls).length + r2.length) (listed.setIfInBounds u true) a w)) _ _ _ h.2
    rcases b1 with hr | hr
    · exact any_two hr k1 k2
    · exact any_two hr k2 k1

theorem pure_then {M : Act → World → Prop} {r2 : List Nat} {A a : Act} {w : World} (hr : readsTo P ops (fun _ => True) A r2 a) (h : M A w) : wpPre P ops Q S (fun a w => ∃ A, readsTo P ops (fun _ => True) A r2 a ∧ M A w) [] a w := ⟨A, hr, h⟩
theorem shufC_nilL {l : List Oper} {M : Act → World → Prop} {r2 : List Nat} {u : Nat} {A a : Act} {w : World} {o : Oper} (ho : l[u]? = some o) (hr : readsTo P l.toArray (fun _ => True) A r2 a) (h : wpList P l.toArray (Exit.then (fun a' w' => S w' ∧ M a' w') Q) [o] A w) : wpShufC P l.toArray Q S r2 M [] u a w := by
  unfold wpShufC
  rw [arr ho]
  exact ⟨A, hr, h⟩
theorem shufC_consL {l : List Oper} {M : Act → World → Prop} {r2 : List Nat} {c u : Nat} {r : List Nat} {a : Act} {w : World} {o o' : Oper} (ho : l[c]? = some o) (ho' : l[u]? = some o')
    (h1 : wpList P l.toArray (Exit.then (fun a' w' => S w' ∧ wpShufC P l.toArray Q S r2 M r u a' w') Q) [o] a w)
    (h2 : wpList P l.toArray (Exit.then (fun a' w' => S w' ∧ wpPre P l.toArray Q S (fun a w => ∃ A, readsTo P l.toArray (fun _ => True) A r2 a ∧ M A w) (c :: r) a' w') Q) [o'] a w) : wpShufC P l.toArray Q S r2 M (c :: r) u a w := by
  unfold wpShufC
  rw [arr ho, arr ho']
  exact ⟨h1, h2⟩

def regBT (ops : Array Oper) (r0 rs r2 ch : List Nat) (u : Nat) (us ls : List Nat) : Bool :=
  let l0 := Array.replicate ops.size false
  let l1 := listAll r0 l0
  Region.noSelect ops && pureB .any ops r0 l0 && listAllClosed .any ops r0 l0 && readsC .any ops (r0 ++ r2 ++ ls) rs l1 && shufC .any ops r2 (us ++ ls) ch u (listAll rs l1) &&
    ch.length + 1 + (us ++ ls).length + r2.length + rs.length + r0.length == ops.size

theorem wp_regT {α β γ : Type} {id : Nat} {l : List Oper} {a : Act} {w : World} (S : World → Prop) (r0 rs r2 ch : List Nat) (u : Nat) (us ls : List Nat)
    (hm : P.follows .mixedOrders = true) (hB : regBT l.toArray r0 rs r2 ch u us ls = true)
    (hQ : ∀ c a d v w, Q (.panic c) (Act.put a d v) w → Q (.panic c) a w) (KK : α → β → γ → World → Prop) (FA : α → β → γ → Act) (A0 A1 : Act) (hS : S w.drew) (h0 : readsTo P l.toArray (fun _ => True) A0 r0 a) (hr : readsTo P l.toArray S A1 rs A0)
    (h : wpShufC P l.toArray Q S r2 (fun a' w' => ∃ x y z, a' = FA x y z ∧ KK x y z w') ch u A1 w.drew)
    (hM : ∀ x y z w', S w' → KK x y z w' → wpTail P l.toArray Q S ls us (FA x y z) w') : (Code.region id l.toArray true).wp P Q a w := by
  simp only [regBT, Bool.and_eq_true, beq_iff_eq] at hB
  obtain ⟨⟨⟨⟨⟨b1, b2⟩, b2c⟩, b3⟩, b5⟩, b6⟩ := hB
  refine wp_region_any hm (wpAny_of_F (S := S) (F := fun j => !(r0 ++ r2 ++ ls).contains j) _ _ _ _ ?_)
  have hF : ∀ j, (fun j => !(r0 ++ r2 ++ ls).contains j) j = false → j ∈ r0 ++ r2 ++ ls := fun j hj => by
    cases h : (r0 ++ r2 ++ ls).contains j with
    | true => exact List.contains_iff_mem.1 h
    | false =>
      have hj' : (!(r0 ++ r2 ++ ls).contains j) = false := hj
      rw [h] at hj'
      cases hj'
  have hF0 : ∀ j ∈ r0, (fun j => !(r0 ++ r2 ++ ls).contains j) j = false := fun j hj => by simp [hj]
  have hF2 : ∀ j ∈ r2, (fun j => !(r0 ++ r2 ++ ls).contains j) j = false := fun j hj => by simp [hj]
  have hF' : ∀ j ∈ ls, (fun j => !(r0 ++ r2 ++ ls).contains j) j = false := fun j hj => by simp [hj]
  have hc0 : Closed .any l.toArray (Array.replicate l.toArray.size false) := fun m om _ hl => by rw [getD_replicate_false] at hl; cases hl
  have main := wpAnyF_pures (Q := Q) (S := S) (F := fun j => !(r0 ++ r2 ++ ls).contains j) b1 hQ A0 r0 (ch.length + 1 + (us ++ ls).length + r2.length + rs.length) (Array.replicate l.toArray.size false) a w.drew hF0 b2 h0
    (wpAnyF_readsC (r0 ++ r2 ++ ls) hF b1 hQ A1 rs (ch.length + 1 + (us ++ ls).length + r2.length) _ A0 w.drew (closed_all r0 _ hc0 b2c) b3 hr hS fun hc =>
      any_shufC b1 hQ hF2 hF' (fun a' w' hs ⟨x, y, z, e, hk⟩ => e ▸ hM x y z w' hs hk) ch u _ A1 w.drew hc b5 h)
  rw [b6] at main
  exact main

end
end Go.Proofs.YtemmkobgpciflaaDoor
