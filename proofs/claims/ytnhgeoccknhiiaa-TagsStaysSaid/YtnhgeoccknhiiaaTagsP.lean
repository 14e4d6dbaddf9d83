/- The plain law of labels: they rise, a gap is never wanted, and they are not written too often. -/
import Derived.Test.YtnhgeoccknhiiaaTagsG
namespace Go.Proofs.Ytnhgeoccknhiiaa

structure Inv (N : List Nd) (g nw : Nat) : Prop where
  rise : Rise N
  name : ∀ n ∈ N, 0 < n.name ∧ n.name ≤ g
  nodup : (N.map (·.name)).Nodup
  len : N.length ≤ 8192
  cost : ∃ c, (∀ k, k ≤ N.length → 281474976710656 < (gapAt N k + 1) * 2 ^ c) ∧ nw + 170 * c ≤ 171 * g
  low : g ≤ nw

theorem labAt_ins (N : List Nd) (k : Nat) (x : Nd) (hk : k ≤ N.length) (j : Nat) :
    labAt (N.insertIdx k x) j = if j ≤ k then labAt N j else if j = k + 1 then x.label else labAt N (j - 1) := by
  cases j with
  | zero => simp [labAt]
  | succ j =>
    simp only [labAt]
    by_cases h1 : j + 1 ≤ k
    · rw [if_pos h1, List.getElem?_insertIdx, if_pos (by omega)]
    · rw [if_neg h1]
      by_cases h2 : j = k
      · subst h2
        rw [if_pos rfl, List.getElem?_insertIdx_self, if_pos hk]
        rfl
      · rw [if_neg (by omega), List.getElem?_insertIdx, if_neg (by omega), if_neg h2]
        rw [show j + 1 - 1 = (j - 1) + 1 by omega]

theorem labAt_del (N : List Nd) (k : Nat) (j : Nat) : labAt (N.eraseIdx k) j = if j ≤ k then labAt N j else labAt N (j + 1) := by
  cases j with
  | zero => simp [labAt]
  | succ j =>
    simp only [labAt]
    rw [List.getElem?_eraseIdx]
    by_cases h1 : j < k
    · rw [if_pos h1, if_pos (by omega)]
    · rw [if_neg h1, if_neg (by omega)]

theorem labAt_relab (step : Nat) (N : List Nd) (j : Nat) (hj : j ≤ N.length) : labAt (relab step N.length N) j = step * j := by
  cases j with
  | zero => simp [labAt]
  | succ j =>
    simp only [labAt]
    rw [relab_get, List.getElem?_eq_getElem (by omega)]
    simp [show j < N.length by omega, Nd.put]

theorem labAt_past (N : List Nd) (j : Nat) (hj : N.length < j) : labAt N j = 4611686018427387904 := by
  obtain ⟨i, rfl⟩ : ∃ i, j = i + 1 := ⟨j - 1, by omega⟩
  simp only [labAt]
  rw [List.getElem?_eq_none (by omega)]
  rfl

theorem relab_length (step i : Nat) (N : List Nd) : (relab step i N).length = N.length := by simp [relab]
theorem relab_names (step i : Nat) (N : List Nd) : (relab step i N).map (·.name) = N.map (·.name) := by
  apply List.ext_getElem?
  intro j
  rw [List.getElem?_map, relab_get, List.getElem?_map]
  cases N[j]? with
  | none => rfl
  | some n => simp only [Option.map_some]; split <;> rfl

theorem inv_nil : Inv [] 0 0 := by
  refine ⟨?_, by simp, by simp, by simp, ⟨0, ?_, by omega⟩, by omega⟩
  · intro k hk
    simp at hk
    subst hk
    simp [labAt]
  · intro k hk
    simp at hk
    subst hk
    simp [gapAt, labAt]

theorem stepOf_bound {n : Nat} (hn : n ≤ 8192) : 562812514330042 ≤ stepOf n ∧ stepOf n * (n + 2) ≤ 4611686018427387904 := by
  unfold stepOf
  refine ⟨?_, Nat.div_mul_le_self _ _⟩
  rw [Nat.le_div_iff_mul_le (by omega)]
  omega

theorem map_insertIdx' {α β : Type} (f : α → β) (a : α) : ∀ (l : List α) (i : Nat), (l.insertIdx i a).map f = (l.map f).insertIdx i (f a)
  | _, 0 => by simp
  | [], _ + 1 => by simp
  | b :: l, i + 1 => by simp [map_insertIdx' f a l i]

theorem ins_names (N : List Nd) (k : Nat) (x : Nd) : (N.insertIdx k x).map (·.name) = (N.map (·.name)).insertIdx k x.name := map_insertIdx' _ _ _ _

theorem inv_ins {N : List Nd} {k g nw : Nat} {N' : List Nd} {nw' : Nat} (h : Inv N g nw) (hk : k ≤ N.length) (hn : N.length < 8192) (hI : InsOf N k g nw N' nw') :
    Inv N' (g + 1) nw' ∧ N'.map (·.name) = (N.map (·.name)).insertIdx k (g + 1) := by
  obtain ⟨b, hI⟩ := hI
  obtain ⟨c, hc, hcost⟩ := h.cost
  have hfresh : g + 1 ∉ N.map (·.name) := fun hm => by
    obtain ⟨n, hn, e⟩ := List.mem_map.1 hm
    have := (h.name n hn).2
    omega
  have hnd : ((N.map (·.name)).insertIdx k (g + 1)).Nodup := by
    refine ((List.perm_insertIdx (g + 1) (N.map (·.name)) (i := k) (by simpa using hk)).nodup_iff).2 ?_
    rw [List.nodup_cons]
    exact ⟨hfresh, h.nodup⟩
  have hnm : ∀ x : Nd, x.name = g + 1 → ∀ n ∈ N.insertIdx k x, 0 < n.name ∧ n.name ≤ g + 1 := fun x hx n hn => by
    rcases (List.mem_insertIdx hk).1 hn with rfl | hn
    · omega
    · have := h.name n hn; omega
  rcases hI with ⟨hg, rfl, rfl⟩ | ⟨hg, rfl, hW⟩
  · have hl : (N.insertIdx k ⟨g + 1, labAt N k + gapAt N k / 2, b⟩).length = N.length + 1 := by rw [List.length_insertIdx, if_pos hk]
    have hr := h.rise k hk
    have hgap : gapAt N k = labAt N (k + 1) - labAt N k := rfl
    refine ⟨⟨?_, hnm _ rfl, by rw [ins_names]; exact hnd, by omega, ⟨c + 1, ?_, by omega⟩, by have := h.low; omega⟩, ins_names _ _ _⟩
    · intro j hj
      rw [hl] at hj
      rw [labAt_ins _ _ _ hk, labAt_ins _ _ _ hk]
      by_cases c1 : j + 1 ≤ k
      · rw [if_pos (by omega), if_pos c1]
        exact h.rise j (by omega)
      · by_cases c2 : j = k
        · subst c2
          rw [if_pos (Nat.le_refl _), if_neg (by omega), if_pos rfl]
          show _ < labAt N j + gapAt N j / 2 ∧ labAt N j + gapAt N j / 2 ≤ _
          omega
        · by_cases c3 : j = k + 1
          · subst c3
            rw [if_neg (by omega), if_pos rfl, if_neg (by omega), if_neg (by omega)]
            show labAt N k + gapAt N k / 2 < labAt N (k + 1 + 1 - 1) ∧ _
            rw [show k + 1 + 1 - 1 = k + 1 by omega]
            omega
          · rw [if_neg (by omega), if_neg (by omega), if_neg (by omega), if_neg (by omega)]
            have := h.rise (j - 1) (by omega)
            rw [show j - 1 + 1 = j by omega] at this
            rw [show j + 1 - 1 = j by omega]
            exact this
    · intro j hj
      rw [hl] at hj
      have hck := hc k hk
      have hpow : (2 : Nat) ^ (c + 1) = 2 ^ c * 2 := Nat.pow_succ ..
      have wide : ∀ d e : Nat, d + 1 ≤ (e + 1) * 2 → 281474976710656 < (d + 1) * 2 ^ c → 281474976710656 < (e + 1) * 2 ^ (c + 1) := by
        intro d e h1 h2
        rw [hpow]
        calc 281474976710656 < (d + 1) * 2 ^ c := h2
          _ ≤ (e + 1) * 2 * 2 ^ c := Nat.mul_le_mul_right _ h1
          _ = (e + 1) * (2 ^ c * 2) := by rw [Nat.mul_assoc, Nat.mul_comm 2 (2 ^ c)]
      unfold gapAt
      rw [labAt_ins _ _ _ hk, labAt_ins _ _ _ hk]
      by_cases c1 : j + 1 ≤ k
      · rw [if_pos c1, if_pos (show j ≤ k by omega)]
        exact wide (gapAt N j) _ (by unfold gapAt; omega) (hc j (by omega))
      · by_cases c2 : j = k
        · subst c2
          rw [if_pos (Nat.le_refl _), if_neg (by omega), if_pos rfl]
          refine wide (gapAt N j) _ ?_ hck
          show _ ≤ (labAt N j + gapAt N j / 2 - labAt N j + 1) * 2
          omega
        · by_cases c3 : j = k + 1
          · subst c3
            rw [if_neg (by omega), if_pos rfl, if_neg (by omega), if_neg (by omega)]
            refine wide (gapAt N k) _ ?_ hck
            show _ ≤ (labAt N (k + 1 + 1 - 1) - (labAt N k + gapAt N k / 2) + 1) * 2
            rw [show k + 1 + 1 - 1 = k + 1 by omega]
            omega
          · rw [if_neg (by omega), if_neg (by omega), if_neg (by omega), if_neg (by omega)]
            have e : gapAt N (j - 1) = labAt N (j + 1 - 1) - labAt N (j - 1) := by
              unfold gapAt
              rw [show j - 1 + 1 = j + 1 - 1 by omega]
            exact wide (gapAt N (j - 1)) _ (by omega) (hc (j - 1) (by omega))
  · have hl : (N.insertIdx k ⟨g + 1, 0, b⟩).length = N.length + 1 := by rw [List.length_insertIdx, if_pos hk]
    have hck := hc k hk
    have hc48 : 48 ≤ c := by
      rcases Nat.lt_or_ge c 48 with h' | h'
      · have h2 : (2 : Nat) ^ c ≤ 2 ^ 47 := Nat.pow_le_pow_right (by omega) (by omega)
        have h3 : (gapAt N k + 1) * 2 ^ c ≤ 2 * 2 ^ 47 := Nat.mul_le_mul (by omega) h2
        omega
      · exact h'
    obtain ⟨s1, s2⟩ := stepOf_bound (n := N.length + 1) (by omega)
    obtain ⟨w1, w2, w3⟩ := hW
    have w3' := w3 ⟨k, ⟨g + 1, 0, b⟩, by omega, by rw [List.getElem?_insertIdx_self, if_pos hk], rfl⟩
    have hrl : ∀ j, j ≤ N.length + 1 → labAt (relab (stepOf (N.length + 1)) (N.length + 1) (N.insertIdx k ⟨g + 1, 0, b⟩)) j = stepOf (N.length + 1) * j := fun j hj => by
      have := labAt_relab (stepOf (N.length + 1)) (N.insertIdx k ⟨g + 1, 0, b⟩) j (by rw [hl]; exact hj)
      rw [hl] at this
      exact this
    have hrp : labAt (relab (stepOf (N.length + 1)) (N.length + 1) (N.insertIdx k ⟨g + 1, 0, b⟩)) (N.length + 1 + 1) = 4611686018427387904 := labAt_past _ _ (by rw [relab_length, hl]; omega)
    have hstep : ∀ j, j ≤ N.length + 1 → labAt (relab (stepOf (N.length + 1)) (N.length + 1) (N.insertIdx k ⟨g + 1, 0, b⟩)) j + stepOf (N.length + 1) ≤ labAt (relab (stepOf (N.length + 1)) (N.length + 1) (N.insertIdx k ⟨g + 1, 0, b⟩)) (j + 1) ∧ labAt (relab (stepOf (N.length + 1)) (N.length + 1) (N.insertIdx k ⟨g + 1, 0, b⟩)) (j + 1) ≤ 4611686018427387904 := by
      intro j hj
      by_cases c1 : j = N.length + 1
      · subst c1
        rw [hrp, hrl _ (Nat.le_refl _)]
        have : stepOf (N.length + 1) * (N.length + 1) + stepOf (N.length + 1) ≤ stepOf (N.length + 1) * (N.length + 1 + 2) := by rw [← Nat.mul_succ]; exact Nat.mul_le_mul_left _ (by omega)
        omega
      · rw [hrl j hj, hrl (j + 1) (by omega), Nat.mul_succ]
        have : stepOf (N.length + 1) * j + stepOf (N.length + 1) ≤ stepOf (N.length + 1) * (N.length + 1 + 2) := by rw [← Nat.mul_succ]; exact Nat.mul_le_mul_left _ (by omega)
        omega
    refine ⟨⟨?_, ?_, ?_, by rw [relab_length, hl]; omega, ⟨0, ?_, by omega⟩, by have := h.low; omega⟩, ?_⟩
    · intro j hj
      rw [relab_length, hl] at hj
      have := hstep j hj
      omega
    · intro n hn
      have hmem : n.name ∈ (relab (stepOf (N.length + 1)) (N.length + 1) (N.insertIdx k ⟨g + 1, 0, b⟩)).map (·.name) := List.mem_map.2 ⟨n, hn, rfl⟩
      rw [relab_names] at hmem
      obtain ⟨n', hn', e⟩ := List.mem_map.1 hmem
      have := hnm _ rfl n' hn'
      omega
    · rw [relab_names, ins_names]; exact hnd
    · intro j hj
      rw [relab_length, hl] at hj
      have := hstep j hj
      unfold gapAt
      rw [Nat.pow_zero, Nat.mul_one]
      omega
    · rw [relab_names, ins_names]

theorem inv_del {N : List Nd} {k g nw : Nat} (h : Inv N g nw) (hk : k < N.length) : Inv (N.eraseIdx k) g nw := by
  obtain ⟨c, hc, hcost⟩ := h.cost
  have hl : (N.eraseIdx k).length = N.length - 1 := by rw [List.length_eraseIdx, if_pos hk]
  refine ⟨?_, fun n hn => h.name n (List.mem_of_mem_eraseIdx hn), ?_, by have := h.len; omega, ⟨c, ?_, hcost⟩, h.low⟩
  · intro j hj
    rw [labAt_del, labAt_del]
    have r0 := h.rise k (by omega)
    have r1 := h.rise (k + 1) (by omega)
    by_cases c1 : j + 1 ≤ k
    · rw [if_pos (by omega), if_pos c1]
      exact h.rise j (by omega)
    · by_cases c2 : j = k
      · subst c2
        rw [if_pos (Nat.le_refl _), if_neg (by omega)]
        omega
      · rw [if_neg (by omega), if_neg (by omega)]
        exact h.rise (j + 1) (by omega)
  · rw [map_eraseIdx']
    exact h.nodup.sublist (List.eraseIdx_sublist _ _)
  · intro j hj
    unfold gapAt
    rw [labAt_del, labAt_del]
    have r0 := h.rise k (by omega)
    have r1 := h.rise (k + 1) (by omega)
    by_cases c1 : j + 1 ≤ k
    · rw [if_pos c1, if_pos (show j ≤ k by omega)]
      exact hc j (by omega)
    · by_cases c2 : j = k
      · subst c2
        rw [if_pos (Nat.le_refl _), if_neg (by omega)]
        have := hc j (by omega)
        refine Nat.lt_of_lt_of_le this (Nat.mul_le_mul_right _ ?_)
        unfold gapAt
        omega
      · rw [if_neg (by omega), if_neg (by omega)]
        exact hc (j + 1) (by omega)

/-- What the statements ask of the writes. -/
theorem Inv.writes {N : List Nd} {g nw : Nat} (h : Inv N g nw) : g ≤ nw ∧ nw ≤ 496 * g := by
  obtain ⟨c, _, hc⟩ := h.cost
  exact ⟨h.low, by omega⟩

end Go.Proofs.Ytnhgeoccknhiiaa
