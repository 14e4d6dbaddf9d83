/- A region that draws its order: reads first, then two effects that may come in either order, then effects in the one order that the edges leave. -/
import Derived.Test.YtemmkobgpciflaaDoorReg2
namespace Go.Proofs.YtemmkobgpciflaaDoor
open Go.RowKit

section
variable {P : Program} {ops : Array Oper} {Q : Exit → Act → World → Prop} {md : Region.Mode} {S : World → Prop} {F : Nat → Bool}

def regB3 (ops : Array Oper) (rs pre : List Nat) (u1 u2 : Nat) (us ls : List Nat) : Bool :=
  let l0 := listAll pre (listAll rs (Array.replicate ops.size false))
  Region.noSelect ops && readsB .any ops ls rs (Array.replicate ops.size false) && chainP .any ops pre (listAll rs (Array.replicate ops.size false)) && (Region.ready .any ops l0 == [u1, u2]) &&
    (Region.ready .any ops (l0.setIfInBounds u1 true) == [u2]) && (Region.ready .any ops (l0.setIfInBounds u2 true) == [u1]) &&
    chainB .any ops (us ++ ls) ((l0.setIfInBounds u1 true).setIfInBounds u2 true) && chainB .any ops (us ++ ls) ((l0.setIfInBounds u2 true).setIfInBounds u1 true) &&
    (us ++ ls).length + 2 + pre.length + rs.length == ops.size

theorem any_one {fuel : Nat} {listed : Array Bool} {a : Act} {w : World} {i : Nat} (hb : Region.ready md ops listed = [i])
    (h : wpList P ops (Exit.then (fun a' w' => S w' ∧ wpAnyF P md ops Q S F fuel (listed.setIfInBounds i true) a' w') Q) ((ops[i]?).toList) a w) : wpAnyF P md ops Q S F (fuel + 1) listed a w := by
  refine ⟨fun h0 => absurd (hb.symm.trans h0) (by simp), fun j hj => ?_⟩
  rw [hb] at hj
  simp at hj
  subst hj
  exact wpOp_of_list h (fun a w hx => ⟨fun _ => hx.1, hx.2⟩)

theorem any_two {fuel : Nat} {listed : Array Bool} {a : Act} {w : World} {i1 i2 : Nat} (hb : Region.ready md ops listed = [i1, i2])
    (h1 : wpList P ops (Exit.then (fun a' w' => S w' ∧ wpAnyF P md ops Q S F fuel (listed.setIfInBounds i1 true) a' w') Q) ((ops[i1]?).toList) a w)
    (h2 : wpList P ops (Exit.then (fun a' w' => S w' ∧ wpAnyF P md ops Q S F fuel (listed.setIfInBounds i2 true) a' w') Q) ((ops[i2]?).toList) a w) : wpAnyF P md ops Q S F (fuel + 1) listed a w := by
  refine ⟨fun h0 => absurd (hb.symm.trans h0) (by simp), fun j hj => ?_⟩
  rw [hb] at hj
  simp at hj
  rcases hj with rfl | rfl
  · exact wpOp_of_list h1 (fun a w hx => ⟨fun _ => hx.1, hx.2⟩)
  · exact wpOp_of_list h2 (fun a w hx => ⟨fun _ => hx.1, hx.2⟩)

theorem upon_mono {o : Oper} {a : Act} {K X Y : Act → World → Prop} (hXY : ∀ a w, X a w → Y a w) : ∀ {r : Result Next}, o.upon P a K (Exit.then X Q) r → o.upon P a K (Exit.then Y Q) r
  | .ok n w', h => by
    cases n <;> simp only [Oper.upon] at h ⊢ <;> first | exact h | (refine Calls.mono h fun e w'' he => ?_; cases e <;> exact he)
  | .halt x w', h => by
    cases x <;> simp only [Oper.upon] at h ⊢ <;> exact h

theorem list_mono {X Y : Act → World → Prop} (hXY : ∀ a w, X a w → Y a w) (o : Oper) (a : Act) (w : World) (h : wpList P ops (Exit.then X Q) [o] a w) : wpList P ops (Exit.then Y Q) [o] a w := by
  simp only [wpList] at h ⊢
  split
  · rename_i hw
    rw [if_pos hw] at h
    rcases h with h | ⟨h1, h2⟩
    · exact Or.inl (Oper.wp_mono hXY (upon_mono hXY h))
    · exact Or.inr ⟨h1, h2⟩
  · rename_i hw
    rw [if_neg hw] at h
    exact hXY _ _ h

/-- Forced effects, then two effects in either order, S behind each; then M; from M on the tail. -/
theorem wp_regF {id : Nat} {l : List Oper} {a : Act} {w : World} (S : World → Prop) (M : Act → World → Prop) (rs pre : List Nat) (u1 u2 : Nat) (us ls : List Nat) {o1 o2 : Oper} (ho1 : l[u1]? = some o1) (ho2 : l[u2]? = some o2)
    (hm : P.follows .mixedOrders = true) (hB : regB3 l.toArray rs pre u1 u2 us ls = true)
    (hQ : ∀ c a d v w, Q (.panic c) (Act.put a d v) w → Q (.panic c) a w) (hS : S w.drew) (A : Act) (hr : readsTo P l.toArray S A rs a)
    (h : wpPre P l.toArray Q S (fun a' w' =>
      wpList P l.toArray (Exit.then (fun a' w' => S w' ∧ wpList P l.toArray (Exit.then (fun a' w' => S w' ∧ M a' w') Q) [o2] a' w') Q) [o1] a' w' ∧
      wpList P l.toArray (Exit.then (fun a' w' => S w' ∧ wpList P l.toArray (Exit.then (fun a' w' => S w' ∧ M a' w') Q) [o1] a' w') Q) [o2] a' w') pre A w.drew)
    (hM : ∀ a' w', S w' → M a' w' → wpTail P l.toArray Q S ls us a' w') : (Code.region id l.toArray true).wp P Q a w := by
  have q1 : l.toArray[u1]? = some o1 := arr ho1
  have q2 : l.toArray[u2]? = some o2 := arr ho2
  simp only [regB3, Bool.and_eq_true, beq_iff_eq] at hB
  obtain ⟨⟨⟨⟨⟨⟨⟨⟨h1, h2⟩, h3⟩, h4⟩, h5⟩, h6⟩, h7⟩, h8⟩, h9⟩ := hB
  refine wp_region_any hm (wpAny_of_F (S := S) (F := fun j => !ls.contains j) _ _ _ _ ?_)
  have hF : ∀ j, (fun j => !ls.contains j) j = false → j ∈ ls := fun j hj => by simpa using hj
  have hF' : ∀ j ∈ ls, (fun j => !ls.contains j) j = false := fun j hj => by simpa using hj
  have hc0 : Closed .any l.toArray (Array.replicate l.toArray.size false) := fun m om _ hl => by rw [getD_replicate_false] at hl; cases hl
  have step : ∀ (us : List Nat) (listed : Array Bool) (a : Act) (w : World), chainB .any l.toArray (us ++ ls) listed = true → S w → wpTail P l.toArray Q S ls us a w → wpAnyF P .any l.toArray Q S (fun j => !ls.contains j) (us ++ ls).length listed a w :=
    fun us listed a w hb _ ht => wpAnyF_tail ls hF' us listed a w hb ht
  have hcr : Closed .any l.toArray (listAll rs (Array.replicate l.toArray.size false)) := by
    have : ∀ (rs : List Nat) (listed : Array Bool), Closed .any l.toArray listed → readsB .any l.toArray ls rs listed = true → Closed .any l.toArray (listAll rs listed) := by
      intro rs
      induction rs with
      | nil => intro listed hc _; exact hc
      | cons i r ih =>
        intro listed hc hb
        simp only [readsB, Bool.and_eq_true] at hb
        exact ih _ (hc.next (by simpa using hb.1.1.2)) hb.2
    exact this rs _ hc0 h2
  have main := wpAnyF_reads (Q := Q) (S := S) (F := fun j => !ls.contains j) ls hF h1 hQ A rs ((us ++ ls).length + 2 + pre.length) (Array.replicate l.toArray.size false) a w.drew hc0 h2 hr hS
    (wpAnyF_pre (F := fun j => !ls.contains j) ((us ++ ls).length + 2) pre _ A w.drew hcr h3 hS h (fun a' w' hS' hK hc' => by
      obtain ⟨k1, k2⟩ := hK
      refine any_two h4 ?_ ?_
      · rw [q1]
        refine list_mono (fun a w ⟨hs, h⟩ => ⟨hs, any_one h5 ?_⟩) o1 _ _ k1
        rw [q2]
        exact list_mono (fun a w ⟨hs, h⟩ => ⟨hs, step us _ _ _ h7 hs (hM _ _ hs h)⟩) o2 _ _ h
      · rw [q2]
        refine list_mono (fun a w ⟨hs, h⟩ => ⟨hs, any_one h6 ?_⟩) o2 _ _ k2
        rw [q1]
        exact list_mono (fun a w ⟨hs, h⟩ => ⟨hs, step us _ _ _ h8 hs (hM _ _ hs h)⟩) o1 _ _ h))
  rw [h9] at main
  exact main

theorem tail_twoL {l : List Oper} {k k' : Nat} {o o' : Oper} {a : Act} {w : World} (ho : l[k]? = some o) (ho' : l[k']? = some o') (h : wpList P l.toArray Q [o, o'] a w) : wpTail P l.toArray Q S [k, k'] [] a w := tail_two (arr ho) (arr ho') h

theorem tail_threeL {l : List Oper} {k k' k'' : Nat} {o o' o'' : Oper} {a : Act} {w : World} (ho : l[k]? = some o) (ho' : l[k']? = some o') (ho'' : l[k'']? = some o'') (h : wpList P l.toArray Q [o, o', o''] a w) : wpTail P l.toArray Q S [k, k', k''] [] a w := tail_three (arr ho) (arr ho') (arr ho'') h

theorem wp_regG {α β : Type} {id : Nat} {l : List Oper} {a : Act} {w : World} (S : World → Prop) (rs pre : List Nat) (u1 u2 : Nat) (us ls : List Nat) {o1 o2 : Oper} (ho1 : l[u1]? = some o1) (ho2 : l[u2]? = some o2)
    (hm : P.follows .mixedOrders = true) (hB : regB3 l.toArray rs pre u1 u2 us ls = true)
    (hQ : ∀ c a d v w, Q (.panic c) (Act.put a d v) w → Q (.panic c) a w) (KK : α → β → World → Prop) (FA : α → β → Act) (A : Act) (hS : S w.drew) (hr : readsTo P l.toArray S A rs a)
    (h : wpPre P l.toArray Q S (fun a' w' =>
      wpList P l.toArray (Exit.then (fun a' w' => S w' ∧ wpList P l.toArray (Exit.then (fun a' w' => S w' ∧ ∃ x y, a' = FA x y ∧ KK x y w') Q) [o2] a' w') Q) [o1] a' w' ∧
      wpList P l.toArray (Exit.then (fun a' w' => S w' ∧ wpList P l.toArray (Exit.then (fun a' w' => S w' ∧ ∃ x y, a' = FA x y ∧ KK x y w') Q) [o1] a' w') Q) [o2] a' w') pre A w.drew)
    (hM : ∀ x y w', S w' → KK x y w' → wpTail P l.toArray Q S ls us (FA x y) w') : (Code.region id l.toArray true).wp P Q a w :=
  wp_regF S (fun a' w' => ∃ x y, a' = FA x y ∧ KK x y w') rs pre u1 u2 us ls ho1 ho2 hm hB hQ hS A hr h (fun a' w' hs ⟨x, y, e, hk⟩ => e ▸ hM x y w' hs hk)

/-- A chain of effects with one more that may come anywhere among them. -/
def wpShuf (P : Program) (ops : Array Oper) (Q : Exit → Act → World → Prop) (S : World → Prop) (M : Act → World → Prop) : List Nat → Nat → Act → World → Prop
  | [], u, a, w => wpList P ops (Exit.then (fun a' w' => S w' ∧ M a' w') Q) ((ops[u]?).toList) a w
  | c :: r, u, a, w => wpList P ops (Exit.then (fun a' w' => S w' ∧ wpShuf P ops Q S M r u a' w') Q) ((ops[c]?).toList) a w ∧
      wpList P ops (Exit.then (fun a' w' => S w' ∧ wpPre P ops Q S M (c :: r) a' w') Q) ((ops[u]?).toList) a w

def shufB (md : Region.Mode) (ops : Array Oper) (rest : List Nat) : List Nat → Nat → Array Bool → Bool
  | [], u, listed => Region.ready md ops listed == [u] && chainB md ops rest (listed.setIfInBounds u true)
  | c :: r, u, listed => (Region.ready md ops listed == [c, u] || Region.ready md ops listed == [u, c]) && shufB md ops rest r u (listed.setIfInBounds c true) && chainB md ops (c :: r ++ rest) (listed.setIfInBounds u true)

theorem list_mono' {X Y : Act → World → Prop} (hXY : ∀ a w, X a w → Y a w) (o : Option Oper) (a : Act) (w : World) (h : wpList P ops (Exit.then X Q) o.toList a w) : wpList P ops (Exit.then Y Q) o.toList a w := by
  cases o with
  | none => exact hXY _ _ h
  | some o => exact list_mono hXY o a w h

theorem any_pre {us ls : List Nat} (hF' : ∀ j ∈ ls, F j = false) {M : Act → World → Prop} (hM : ∀ a' w', S w' → M a' w' → wpTail P ops Q S ls us a' w') : ∀ (r : List Nat) (listed : Array Bool) (a : Act) (w : World),
    chainB md ops (r ++ (us ++ ls)) listed = true → S w → wpPre P ops Q S M r a w → wpAnyF P md ops Q S F (r ++ (us ++ ls)).length listed a w
  | [], listed, a, w, hb, hS, h => wpAnyF_tail ls hF' us listed a w hb (hM a w hS h)
  | u :: r, listed, a, w, hb, hS, h => by
    simp only [List.cons_append, chainB, Bool.and_eq_true, beq_iff_eq] at hb
    exact any_one hb.1 (list_mono' (fun a w ⟨hs, h⟩ => ⟨hs, any_pre hF' hM r _ a w hb.2 hs h⟩) _ _ _ h)

theorem any_shuf {us ls : List Nat} (hF' : ∀ j ∈ ls, F j = false) {M : Act → World → Prop} (hM : ∀ a' w', S w' → M a' w' → wpTail P ops Q S ls us a' w') : ∀ (ch : List Nat) (u : Nat) (listed : Array Bool) (a : Act) (w : World),
    shufB md ops (us ++ ls) ch u listed = true → wpShuf P ops Q S M ch u a w → wpAnyF P md ops Q S F (ch.length + 1 + (us ++ ls).length) listed a w
  | [], u, listed, a, w, hb, h => by
    simp only [shufB, Bool.and_eq_true, beq_iff_eq] at hb
    have := any_one (fuel := (us ++ ls).length) (F := F) hb.1 (list_mono' (fun a w ⟨hs, h⟩ => ⟨hs, wpAnyF_tail ls hF' us _ a w hb.2 (hM a w hs h)⟩) _ _ _ h)
    simpa [Nat.add_comm] using this
  | c :: r, u, listed, a, w, hb, h => by
    simp only [shufB, Bool.and_eq_true, Bool.or_eq_true, beq_iff_eq] at hb
    have e : (c :: r).length + 1 + (us ++ ls).length = (r.length + 1 + (us ++ ls).length) + 1 := by simp; omega
    rw [e]
    have k1 := list_mono' (fun a w ⟨hs, h⟩ => (⟨hs, any_shuf hF' hM r u _ a w hb.1.2 h⟩ : S w ∧ wpAnyF P md ops Q S F (r.length + 1 + (us ++ ls).length) (listed.setIfInBounds c true) a w)) _ _ _ h.1
    have k2 := list_mono' (fun a w ⟨hs, h⟩ => (⟨hs, by
      have := any_pre (F := F) hF' hM (c :: r) _ a w hb.2 hs h
      have e2 : (c :: r ++ (us ++ ls)).length = r.length + 1 + (us ++ ls).length := by simp; omega
      rw [e2] at this
      exact this⟩ : S w ∧ wpAnyF P md ops Q S F (r.length + 1 + (us ++ ls).length) (listed.setIfInBounds u true) a w)) _ _ _ h.2
    rcases hb.1.1 with hr | hr
    · exact any_two hr k1 k2
    · exact any_two hr k2 k1

def regBS (ops : Array Oper) (rs ch : List Nat) (u : Nat) (us ls : List Nat) : Bool :=
  Region.noSelect ops && readsB .any ops ls rs (Array.replicate ops.size false) && shufB .any ops (us ++ ls) ch u (listAll rs (Array.replicate ops.size false)) && ch.length + 1 + (us ++ ls).length + rs.length == ops.size

theorem wp_regS {α β γ : Type} {id : Nat} {l : List Oper} {a : Act} {w : World} (S : World → Prop) (rs ch : List Nat) (u : Nat) (us ls : List Nat)
    (hm : P.follows .mixedOrders = true) (hB : regBS l.toArray rs ch u us ls = true)
    (hQ : ∀ c a d v w, Q (.panic c) (Act.put a d v) w → Q (.panic c) a w) (KK : α → β → γ → World → Prop) (FA : α → β → γ → Act) (A : Act) (hS : S w.drew) (hr : readsTo P l.toArray S A rs a)
    (h : wpShuf P l.toArray Q S (fun a' w' => ∃ x y z, a' = FA x y z ∧ KK x y z w') ch u A w.drew)
    (hM : ∀ x y z w', S w' → KK x y z w' → wpTail P l.toArray Q S ls us (FA x y z) w') : (Code.region id l.toArray true).wp P Q a w := by
  simp only [regBS, Bool.and_eq_true, beq_iff_eq] at hB
  obtain ⟨⟨⟨h1, h2⟩, h3⟩, h4⟩ := hB
  refine wp_region_any hm (wpAny_of_F (S := S) (F := fun j => !ls.contains j) _ _ _ _ ?_)
  have hF : ∀ j, (fun j => !ls.contains j) j = false → j ∈ ls := fun j hj => by simpa using hj
  have hF' : ∀ j ∈ ls, (fun j => !ls.contains j) j = false := fun j hj => by simpa using hj
  have hc0 : Closed .any l.toArray (Array.replicate l.toArray.size false) := fun m om _ hl => by rw [getD_replicate_false] at hl; cases hl
  have main := wpAnyF_reads (Q := Q) (S := S) (F := fun j => !ls.contains j) ls hF h1 hQ A rs (ch.length + 1 + (us ++ ls).length) (Array.replicate l.toArray.size false) a w.drew hc0 h2 hr hS
    (any_shuf hF' (fun a' w' hs ⟨x, y, z, e, hk⟩ => e ▸ hM x y z w' hs hk) ch u _ A w.drew h3 h)
  rw [h4] at main
  exact main

theorem shuf_nilL {l : List Oper} {M : Act → World → Prop} {u : Nat} {a : Act} {w : World} {o : Oper} (ho : l[u]? = some o) (h : wpList P l.toArray (Exit.then (fun a' w' => S w' ∧ M a' w') Q) [o] a w) : wpShuf P l.toArray Q S M [] u a w := by
  unfold wpShuf
  rw [arr ho]
  exact h
theorem shuf_consL {l : List Oper} {M : Act → World → Prop} {c u : Nat} {r : List Nat} {a : Act} {w : World} {o o' : Oper} (ho : l[c]? = some o) (ho' : l[u]? = some o')
    (h1 : wpList P l.toArray (Exit.then (fun a' w' => S w' ∧ wpShuf P l.toArray Q S M r u a' w') Q) [o] a w)
    (h2 : wpList P l.toArray (Exit.then (fun a' w' => S w' ∧ wpPre P l.toArray Q S M (c :: r) a' w') Q) [o'] a w) : wpShuf P l.toArray Q S M (c :: r) u a w := by
  unfold wpShuf
  rw [arr ho, arr ho']
  exact ⟨h1, h2⟩

end
end Go.Proofs.YtemmkobgpciflaaDoor
