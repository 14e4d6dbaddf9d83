/- Loaded images in plain: what hangs together stands; where a node stands; the nodes around one. No program. -/
import Derived.Test.YtemmkobgpciflaaDoorImgP
namespace Go.Proofs.YtemmkobgpciflaaDoor
namespace Im
open Ch

/-- The handle of an index. -/
def hdl (S : List Sl) (i : Nat) : Nat := handG ((S[i]?.map (·.g)).getD 0) i
theorem hdl_at {S : List Sl} {i : Nat} {s : Sl} (h : S[i]? = some s) : hdl S i = handG s.g i := by
  unfold hdl
  rw [h]
  rfl
theorem hdl_ne (S : List Sl) (i : Nat) : hdl S i ≠ 0 := by unfold hdl handG; omega
theorem atP_hdl {S : List Sl} {i : Nat} {s : Sl} (h : S[i]? = some s) (hl : s.lv = true) (hi : i < 4294967295) : atP S (hdl S i) = some i := by
  rw [hdl_at h]
  have hm : handG s.g i % 4294967296 = i + 1 := by unfold handG; omega
  unfold atP
  rw [if_neg (by omega), hm, Nat.add_sub_cancel, h]
  dsimp only
  rw [if_pos ⟨hl, rfl⟩]
theorem atP_eq {S : List Sl} {h i : Nat} (e : atP S h = some i) : h = hdl S i := by
  obtain ⟨s, h1, _, h3⟩ := atP_some e
  rw [hdl_at h1, h3]
theorem atP_zero (S : List Sl) : atP S 0 = none := by unfold atP; rw [if_pos (by decide)]

mutual
/-- A tree of indexes stands so in slots, under p. -/
def Sd (S : List Sl) : LT → Nat → Prop
  | .mk i ks, p => ∃ s, S[i]? = some s ∧ s.lv = true ∧ s.p = p ∧ s.ks = ks.map (fun t => hdl S t.i) ∧ SdL S ks (hdl S i)
def SdL (S : List Sl) : List LT → Nat → Prop
  | [], _ => True
  | t :: l, p => Sd S t p ∧ SdL S l p
end
mutual
def lh : LT → Nat
  | .mk _ ks => lhL ks + 1
def lhL : List LT → Nat
  | [] => 0
  | t :: l => max (lh t) (lhL l)
end
theorem SdL.all {S : List Sl} {p : Nat} : ∀ {l : List LT}, SdL S l p ↔ ∀ t ∈ l, Sd S t p
  | [] => by simp [SdL]
  | t :: l => by rw [SdL, SdL.all]; simp
theorem lhL_mem {t : LT} : ∀ {l : List LT}, t ∈ l → lh t ≤ lhL l
  | [], h => by cases h
  | u :: l, h => by
    rw [lhL]
    rcases List.mem_cons.1 h with rfl | h
    · omega
    · have := lhL_mem h
      omega
theorem mem_preL {i : Nat} : ∀ {l : List LT}, i ∈ preL l ↔ ∃ t ∈ l, i ∈ pre t
  | [] => by simp [preL]
  | t :: l => by rw [preL, List.mem_append, mem_preL]; simp

/-- What hang answers. -/
def HangOk (S : List Sl) (f : Nat) (L : List Nat) (p : Nat) (seen s' : List Nat) (ts : List LT) : Prop :=
  L = ts.map (fun t => hdl S t.i) ∧ SdL S ts p ∧ lhL ts ≤ f ∧ s' = (preL ts).reverse ++ seen
def HangOk1 (S : List Sl) (f : Nat) (h p : Nat) (seen s' : List Nat) (t : LT) : Prop :=
  h = hdl S t.i ∧ Sd S t p ∧ lh t ≤ f ∧ s' = (pre t).reverse ++ seen

theorem ok_list {S : List Sl} {f : Nat} (H : ∀ (h p : Nat) (seen s' : List Nat) (t : LT), hang1 S f h p seen = some (s', t) → HangOk1 S f h p seen s' t) : ∀ (l : List Nat) (p : Nat) (seen s' : List Nat) (ts : List LT), hang S f l p seen = some (s', ts) → HangOk S f l p seen s' ts := by
  intro l
  induction l with
  | nil =>
    intro p seen s' ts e
    rw [hang_nil] at e
    simp only [Option.some.injEq, Prod.mk.injEq] at e
    obtain ⟨rfl, rfl⟩ := e
    exact ⟨rfl, trivial, Nat.zero_le _, by simp [preL]⟩
  | cons h r ih =>
    intro p seen s' ts e
    rw [hang_cons] at e
    cases h1 : hang1 S f h p seen with
    | none => rw [h1] at e; cases e
    | some x =>
      obtain ⟨s1, t⟩ := x
      rw [h1] at e
      dsimp only at e
      cases h2 : hang S f r p s1 with
      | none => rw [h2] at e; cases e
      | some y =>
        obtain ⟨s2, l⟩ := y
        rw [h2] at e
        simp only [Option.some.injEq, Prod.mk.injEq] at e
        obtain ⟨rfl, rfl⟩ := e
        obtain ⟨a1, a2, a3, a4⟩ := H h p seen s1 t h1
        obtain ⟨b1, b2, b3, b4⟩ := ih p s1 s2 l h2
        refine ⟨by rw [List.map_cons, ← a1, ← b1], ⟨a2, b2⟩, by rw [lhL]; omega, ?_⟩
        rw [b4, a4, preL, List.reverse_append, List.append_assoc]
theorem hang_ok (S : List Sl) : ∀ (f : Nat), (∀ (l : List Nat) (p : Nat) (seen s' : List Nat) (ts : List LT), hang S f l p seen = some (s', ts) → HangOk S f l p seen s' ts) ∧ (∀ (h p : Nat) (seen s' : List Nat) (t : LT), hang1 S f h p seen = some (s', t) → HangOk1 S f h p seen s' t) := by
  intro f
  induction f with
  | zero =>
    have h1 : ∀ (h p : Nat) (seen s' : List Nat) (t : LT), hang1 S 0 h p seen = some (s', t) → HangOk1 S 0 h p seen s' t := by
      intro h p seen s' t e
      rw [hang1] at e
      cases e
    exact ⟨ok_list h1, h1⟩
  | succ f ih =>
    have h1 : ∀ (h p : Nat) (seen s' : List Nat) (t : LT), hang1 S (f + 1) h p seen = some (s', t) → HangOk1 S (f + 1) h p seen s' t := by
      intro h p seen s' t e
      rw [hang1] at e
      cases ha : atP S h with
      | none => rw [ha] at e; cases e
      | some i =>
        rw [ha] at e
        dsimp only at e
        split at e
        · cases e
        · rename_i hc
          cases hk : hang S f (kidsOf S i) h (i :: seen) with
          | none => rw [hk] at e; cases e
          | some y =>
            obtain ⟨s1, k⟩ := y
            rw [hk] at e
            simp only [Option.some.injEq, Prod.mk.injEq] at e
            obtain ⟨rfl, rfl⟩ := e
            obtain ⟨s, hsl, hlv, _⟩ := atP_some ha
            have hh := atP_eq ha
            obtain ⟨a1, a2, a3, a4⟩ := ih.1 _ _ _ _ _ hk
            have hkid : kidsOf S i = s.ks := by unfold kidsOf; rw [hsl]; rfl
            have hpar : parOf S i = s.p := by unfold parOf; rw [hsl]; rfl
            have hp : s.p = p := by
              rw [← hpar]
              exact Decidable.not_not.1 (fun h => hc (Or.inr h))
            refine ⟨hh, ⟨s, hsl, hlv, hp, by rw [← hkid]; exact a1, by rw [← hh]; exact a2⟩, by rw [lh]; omega, ?_⟩
            rw [a4, pre, List.reverse_cons, List.append_assoc]
            rfl
    exact ⟨ok_list h1, h1⟩

theorem sub_len {α : Type} [DecidableEq α] : ∀ {l m : List α}, l.Nodup → (∀ x ∈ l, x ∈ m) → l.length ≤ m.length
  | [], m, _, _ => Nat.zero_le _
  | x :: l, m, hn, hs => by
    have hx := hs x (by simp)
    have hn' := List.nodup_cons.1 hn
    have h1 := sub_len (l := l) (m := m.erase x) hn'.2 (fun y hy => by
      have : y ≠ x := fun e => hn'.1 (e ▸ hy)
      exact (List.mem_erase_of_ne this).2 (hs y (by simp [hy])))
    have h2 := List.length_erase_of_mem hx
    have h3 := List.length_pos_of_mem hx
    rw [List.length_cons]
    omega
def liveIx (S : List Sl) : List Nat := (List.range S.length).filter fun i => (S[i]?.map (·.lv)).getD false
theorem liveIx_len (S : List Sl) : (liveIx S).length = lives S := by
  have key : ∀ (n : Nat), n ≤ S.length → ((List.range n).filter fun i => (S[i]?.map (·.lv)).getD false).length = ((S.take n).filter (·.lv)).length := by
    intro n
    induction n with
    | zero => intro _; simp
    | succ n ih =>
      intro hn
      have hs : S[n]? = some (S[n]'(by omega)) := List.getElem?_eq_getElem _
      rw [List.range_succ, List.filter_append, List.length_append, ih (by omega), take_at hs, List.filter_append, List.length_append]
      congr 1
      rw [List.filter_cons, List.filter_cons, hs]
      simp
      split <;> simp_all
  have := key S.length (Nat.le_refl _)
  rw [List.take_length] at this
  exact this
theorem mem_liveIx {S : List Sl} {i : Nat} : i ∈ liveIx S ↔ ∃ s, S[i]? = some s ∧ s.lv = true := by
  unfold liveIx
  rw [List.mem_filter, List.mem_range]
  constructor
  · rintro ⟨h1, h2⟩
    rw [List.getElem?_eq_getElem h1] at h2
    exact ⟨_, List.getElem?_eq_getElem h1, h2⟩
  · rintro ⟨s, h1, h2⟩
    exact ⟨(List.getElem?_eq_some_iff.1 h1).1, by rw [h1]; exact h2⟩

mutual
theorem sd_live {S : List Sl} : ∀ (t : LT) (p : Nat), Sd S t p → ∀ i ∈ pre t, ∃ s, S[i]? = some s ∧ s.lv = true
  | .mk j ks, p, h, i, hi => by
    rw [Sd] at h
    obtain ⟨s, h1, h2, h3, h4, h5⟩ := h
    rw [pre] at hi
    rcases List.mem_cons.1 hi with rfl | hi
    · exact ⟨s, h1, h2⟩
    · exact sdL_live ks _ h5 i hi
theorem sdL_live {S : List Sl} : ∀ (l : List LT) (p : Nat), SdL S l p → ∀ i ∈ preL l, ∃ s, S[i]? = some s ∧ s.lv = true
  | [], _, _, i, hi => by rw [preL] at hi; cases hi
  | t :: l, p, h, i, hi => by
    rw [SdL] at h
    rw [preL, List.mem_append] at hi
    rcases hi with hi | hi
    · exact sd_live t p h.1 i hi
    · exact sdL_live l p h.2 i hi
end

/-- A document: slots, roots, the trees that they make. -/
structure Valid (S : List Sl) (roots : List Nat) (ts : List LT) : Prop where
  rt : roots = ts.map (fun t => hdl S t.i)
  sd : SdL S ts 0
  nd : (preL ts).Nodup
  cov : ∀ (i : Nat) (s : Sl), S[i]? = some s → s.lv = true → i ∈ preL ts
  len : S.length ≤ 4096
  hgt : lhL ts ≤ 64
theorem tidy_lives (S : List Sl) : lives (S.map tidy) = lives S := by
  unfold lives
  rw [List.filter_map, List.length_map]
  congr 1
  apply List.filter_congr
  intro s _
  show (tidy s).lv = s.lv
  unfold tidy dead1
  cases h : s.lv with
  | true => rw [if_pos rfl]; split <;> rfl
  | false => rw [if_neg (by simp)]
theorem load_valid {S S' : List Sl} {roots : List Nat} {ts : List LT} (h : load S roots = some (S', ts)) : S' = S.map tidy ∧ Valid S' roots ts := by
  unfold load at h
  split at h
  · cases h
  · rename_i h1
    split at h
    · cases h
    · split at h
      · cases h
      · rename_i seen l hl
        split at h
        · rename_i hsn
          simp only [Option.some.injEq, Prod.mk.injEq] at h
          obtain ⟨rfl, rfl⟩ := h
          obtain ⟨a1, a2, a3, a4⟩ := (hang_ok (S.map tidy) 64).1 _ _ _ _ _ hl
          obtain ⟨b1, b2⟩ := (hang_inv (S.map tidy) 64).1 _ _ _ _ _ (show Sound (S.map tidy) [] from ⟨List.nodup_nil, fun i hi => by cases hi⟩) hl
          have hnd : (preL l).Nodup := by
            have := b1.1
            rw [a4, List.append_nil] at this
            exact (List.pairwise_reverse.1 this).imp (fun h => Ne.symm h)
          refine ⟨rfl, a1, a2, hnd, fun i s hi hs => ?_, by rw [List.length_map]; omega, a3⟩
          have hlen : (preL l).length = (liveIx (S.map tidy)).length := by
            rw [liveIx_len, tidy_lives, ← hsn, b2]
            simp
          by_cases hm : i ∈ preL l
          · exact hm
          · have h2 := sub_len (l := i :: preL l) (m := liveIx (S.map tidy)) (List.nodup_cons.2 ⟨hm, hnd⟩) (fun x hx => by
              rw [mem_liveIx]
              rcases List.mem_cons.1 hx with rfl | hx
              · exact ⟨s, hi, hs⟩
              · exact sdL_live l 0 a2 x hx)
            rw [List.length_cons] at h2
            omega
        · cases h
theorem valid_nil : Valid [] [] [] := ⟨rfl, trivial, List.nodup_nil, fun i s h => by simp at h, Nat.zero_le _, Nat.zero_le _⟩

/-- A node, and all around it up to a root. -/
inductive Climb (S : List Sl) : Nat → List Nat → Prop
  | top : Climb S 0 []
  | up {h i : Nat} {s : Sl} {l : List Nat} (e : atP S h = some i) (hs : S[i]? = some s) (hp : Climb S s.p l) : Climb S h (h :: l)
mutual
/-- Where a node stands. -/
theorem find_sd {S : List Sl} (hn : S.length ≤ 4096) : ∀ (t : LT) (p : Nat) (l : List Nat), Sd S t p → Climb S p l → ∀ i ∈ pre t, ∃ u q l', u.i = i ∧ Sd S u q ∧ Climb S (hdl S i) l' ∧ l'.length ≤ l.length + lh t ∧ (pre u).length ≤ (pre t).length
  | .mk j ks, p, l, h, hp, i, hi => by
    have hsd := h
    rw [Sd] at h
    obtain ⟨s, h1, h2, h3, h4, h5⟩ := h
    have hj := (List.getElem?_eq_some_iff.1 h1).1
    have hc : Climb S (hdl S j) (hdl S j :: l) := .up (atP_hdl h1 h2 (by omega)) h1 (by rw [h3]; exact hp)
    rw [pre] at hi
    rcases List.mem_cons.1 hi with rfl | hi
    · exact ⟨.mk i ks, p, _, rfl, hsd, hc, by rw [List.length_cons, lh]; omega, Nat.le_refl _⟩
    · obtain ⟨u, q, l', e, a1, a2, a3, a4⟩ := find_sdL hn ks _ _ h5 hc i hi
      exact ⟨u, q, l', e, a1, a2, by rw [lh]; rw [List.length_cons] at a3; omega, by rw [pre, List.length_cons]; omega⟩
theorem find_sdL {S : List Sl} (hn : S.length ≤ 4096) : ∀ (ts : List LT) (p : Nat) (l : List Nat), SdL S ts p → Climb S p l → ∀ i ∈ preL ts, ∃ u q l', u.i = i ∧ Sd S u q ∧ Climb S (hdl S i) l' ∧ l'.length ≤ l.length + lhL ts ∧ (pre u).length ≤ (preL ts).length
  | [], _, _, _, _, i, hi => by rw [preL] at hi; cases hi
  | t :: ts, p, l, h, hp, i, hi => by
    rw [SdL] at h
    rw [preL, List.mem_append] at hi
    rcases hi with hi | hi
    · obtain ⟨u, q, l', e, a1, a2, a3, a4⟩ := find_sd hn t p l h.1 hp i hi
      exact ⟨u, q, l', e, a1, a2, by rw [lhL]; omega, by rw [preL, List.length_append]; omega⟩
    · obtain ⟨u, q, l', e, a1, a2, a3, a4⟩ := find_sdL hn ts p l h.2 hp i hi
      exact ⟨u, q, l', e, a1, a2, by rw [lhL]; omega, by rw [preL, List.length_append]; omega⟩
end
theorem Valid.count {S : List Sl} {roots : List Nat} {ts : List LT} (h : Valid S roots ts) : (preL ts).length ≤ 4096 := by
  have h1 := sub_len (l := preL ts) (m := List.range S.length) h.nd (fun i hi => by
    obtain ⟨s, hs, _⟩ := sdL_live ts 0 h.sd i hi
    exact List.mem_range.2 (List.getElem?_eq_some_iff.1 hs).1)
  rw [List.length_range] at h1
  have := h.len
  omega
/-- Of a live node: its tree, and the nodes around it. -/
theorem Valid.find {S : List Sl} {roots : List Nat} {ts : List LT} (h : Valid S roots ts) {a i : Nat} (ha : atP S a = some i) : ∃ u q l, u.i = i ∧ Sd S u q ∧ Climb S a l ∧ l.length ≤ 64 ∧ (pre u).length ≤ 4096 ∧ a = hdl S i := by
  obtain ⟨s, h1, h2, h3⟩ := atP_some ha
  obtain ⟨u, q, l, e, a1, a2, a3, a4⟩ := find_sdL h.len ts 0 [] h.sd .top i (h.cov i s h1 h2)
  rw [← atP_eq ha] at a2
  exact ⟨u, q, l, e, a1, a2, by have := h.hgt; simp at a3; omega, Nat.le_trans a4 h.count, atP_eq ha⟩
theorem Climb.eq {S : List Sl} : ∀ {h : Nat} {l m : List Nat}, Climb S h l → Climb S h m → l = m := by
  intro h l m h1
  induction h1 generalizing m with
  | top =>
    intro h2
    cases h2 with
    | top => rfl
    | up e _ _ => rw [atP_zero] at e; cases e
  | up e hs hp ih =>
    intro h2
    cases h2 with
    | top => rw [atP_zero] at e; cases e
    | up e' hs' hp' =>
      rw [e] at e'
      obtain rfl := Option.some.inj e'
      rw [hs] at hs'
      obtain rfl := Option.some.inj hs'
      rw [ih hp']

end Im
end Go.Proofs.YtemmkobgpciflaaDoor
