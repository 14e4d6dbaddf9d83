/- Distances are a metric, in plain: alignments of forests; the distance is the least cost of one. No program, no memory. -/
import Derived.Test.YtemmkobgpciflaaDoorDistP
import Derived.Test.YtemmkobgpciflaaDoorSameN
namespace Go.Proofs.YtemmkobgpciflaaDoor
namespace Df

/-- A node's children, where they count. -/
def kd (t : T) : List T := if t.kind = 1 then t.kids else []
theorem size_kd (t : T) : T.size t = T.sizeL (kd t) + 1 := by
  cases t with
  | mk k n al t ks =>
    unfold kd T.size T.kind T.kids
    split
    · rfl
    · rfl
theorem postT_kd (t : T) (l : List Nd) : postT t l = postL (kd t) l ++ [(t, l.length)] := by
  rw [postT_eq]
  unfold kd
  split
  · rfl
  · rfl
theorem postL_app2 : ∀ (f g : List T) (l : List Nd), postL (f ++ g) l = postL g (postL f l)
  | [], g, l => by rw [List.nil_append, postL]
  | t :: f, g, l => by rw [List.cons_append, postL, postL, postL_app2 f g]

/-- How one forest becomes another one, from the last trees on: what is taken out, put in, changed; how many. -/
inductive Al : List T → List T → Nat → Prop
  | nil : Al [] [] 0
  | del {f g : List T} {t : T} {n : Nat} : Al (f ++ kd t) g n → Al (f ++ [t]) g (n + 1)
  | ins {f g : List T} {t : T} {n : Nat} : Al f (g ++ kd t) n → Al f (g ++ [t]) (n + 1)
  | mat {f g : List T} {s t : T} {n m : Nat} : Al f g n → Al (kd s) (kd t) m → Al (f ++ [s]) (g ++ [t]) (n + m + turnN s t)

theorem turnN_symm (s t : T) : turnN s t = turnN t s := by
  unfold turnN oneB
  by_cases h : s.kind = t.kind
  · rw [h]
    simp only [decide_true, Bool.true_and]
    split
    · rw [Bool.beq_comm (a := s.name), Bool.beq_comm (a := s.atts)]
    · rw [Bool.beq_comm (a := s.text)]
  · simp [h, Ne.symm h]
theorem turnN_le (s t : T) : turnN s t ≤ 1 := by unfold turnN; split <;> omega
theorem oneB_iff (s t : T) : oneB s t = true ↔ s.kind = t.kind ∧ (s.kind = 1 → s.name = t.name ∧ s.atts = t.atts) ∧ (s.kind ≠ 1 → s.text = t.text) := by
  unfold oneB
  by_cases h : s.kind = t.kind
  · by_cases h1 : s.kind = 1
    · rw [if_pos h1]
      simp only [h, decide_true, Bool.true_and, Bool.and_eq_true, beq_iff_eq, true_and]
      exact ⟨fun e => ⟨fun _ => e, fun e2 => absurd (h ▸ h1) e2⟩, fun e => e.1 (h ▸ h1)⟩
    · rw [if_neg h1]
      simp only [h, decide_true, Bool.true_and, beq_iff_eq, true_and]
      exact ⟨fun e => ⟨fun e2 => absurd (h.trans e2) h1, fun _ => e⟩, fun e => e.2 (fun e2 => h1 (h.trans e2))⟩
  · simp [h]
theorem turnN_tri (s t u : T) : turnN s u ≤ turnN s t + turnN t u := by
  unfold turnN
  by_cases h1 : oneB s t = true
  · by_cases h2 : oneB t u = true
    · have h3 : oneB s u = true := by
        rw [oneB_iff] at h1 h2 ⊢
        obtain ⟨a, b, c⟩ := h1
        obtain ⟨a2, b2, c2⟩ := h2
        refine ⟨a.trans a2, fun h => ?_, fun h => ?_⟩
        · have := b h
          have := b2 (a ▸ h)
          exact ⟨by rw [(b h).1, this.1], by rw [(b h).2, this.2]⟩
        · rw [c h, c2 (a ▸ h)]
      rw [if_pos h1, if_pos h2, if_pos h3]
      omega
    · rw [if_neg h2]
      split <;> omega
  · rw [if_neg h1]
    split <;> omega

theorem Al.symm {f g : List T} {n : Nat} (h : Al f g n) : Al g f n := by
  induction h with
  | nil => exact .nil
  | del _ ih => exact .ins ih
  | ins _ ih => exact .del ih
  | mat _ _ ih1 ih2 =>
    rw [turnN_symm]
    exact .mat ih1 ih2
theorem sizeL_one (f : List T) (t : T) : T.sizeL (f ++ [t]) = T.sizeL f + T.sizeL (kd t) + 1 := by
  rw [T.sizeL_append, T.sizeL, T.sizeL, size_kd]
  omega
theorem Al.size {f g : List T} {n : Nat} (h : Al f g n) : T.sizeL f ≤ T.sizeL g + n ∧ T.sizeL g ≤ T.sizeL f + n := by
  induction h with
  | nil => simp
  | del _ ih =>
    rw [T.sizeL_append] at ih
    rw [sizeL_one]
    omega
  | ins _ ih =>
    rw [T.sizeL_append] at ih
    rw [sizeL_one]
    omega
  | mat _ _ ih1 ih2 =>
    rw [sizeL_one, sizeL_one]
    omega
theorem Al.append {f g f2 g2 : List T} {n m : Nat} (h : Al f g n) (h2 : Al f2 g2 m) : Al (f ++ f2) (g ++ g2) (n + m) := by
  induction h2 with
  | nil => simpa using h
  | del _ ih =>
    rw [← List.append_assoc] at ih ⊢
    exact .del ih
  | ins _ ih =>
    rw [← List.append_assoc] at ih ⊢
    exact .ins ih
  | mat _ h3 ih1 ih2 =>
    rw [← List.append_assoc, ← List.append_assoc, ← Nat.add_assoc, ← Nat.add_assoc]
    exact .mat ih1 h3

/-- What an alignment's last step was. -/
theorem Al.cases' {f g : List T} {n : Nat} (h : Al f g n) : (f = [] ∧ g = [] ∧ n = 0) ∨ (∃ f' t n', f = f' ++ [t] ∧ n = n' + 1 ∧ Al (f' ++ kd t) g n') ∨ (∃ g' t n', g = g' ++ [t] ∧ n = n' + 1 ∧ Al f (g' ++ kd t) n') ∨
    (∃ f' g' s t p q, f = f' ++ [s] ∧ g = g' ++ [t] ∧ n = p + q + turnN s t ∧ Al f' g' p ∧ Al (kd s) (kd t) q) := by
  cases h with
  | nil => exact Or.inl ⟨rfl, rfl, rfl⟩
  | del h => exact Or.inr (Or.inl ⟨_, _, _, rfl, rfl, h⟩)
  | ins h => exact Or.inr (Or.inr (Or.inl ⟨_, _, _, rfl, rfl, h⟩))
  | mat h h2 => exact Or.inr (Or.inr (Or.inr ⟨_, _, _, _, _, _, rfl, rfl, rfl, h, h2⟩))

theorem snoc_inj {α : Type} {a b : List α} {x y : α} (h : a ++ [x] = b ++ [y]) : a = b ∧ x = y := by
  have h1 := List.append_inj' h rfl
  exact ⟨h1.1, by simpa using h1.2⟩
theorem Al.tri : ∀ (s : Nat) (f g h : List T) (n m : Nat), T.sizeL f + T.sizeL g + T.sizeL h ≤ s → Al f g n → Al g h m → ∃ c, c ≤ n + m ∧ Al f h c := by
  intro s
  induction s with
  | zero =>
    intro f g h n m hs a b
    have nl : ∀ l : List T, T.sizeL l = 0 → l = [] := fun l hl => by
      cases l with
      | nil => rfl
      | cons t l =>
        have := T.size_pos t
        rw [T.sizeL] at hl
        omega
    obtain rfl := nl f (by omega)
    obtain rfl := nl h (by omega)
    exact ⟨0, by omega, .nil⟩
  | succ s ih =>
    intro f g h n m hs a b
    rcases a.cases' with ⟨rfl, rfl, rfl⟩ | ⟨f', t, n', rfl, rfl, a1⟩ | ⟨g', t, n', rfl, rfl, a1⟩ | ⟨f', g', x, t, p, q, rfl, rfl, rfl, a1, a2⟩
    · exact ⟨m, by omega, b⟩
    · rw [sizeL_one] at hs
      obtain ⟨c, hc, h1⟩ := ih (f' ++ kd t) g h n' m (by rw [T.sizeL_append]; omega) a1 b
      exact ⟨c + 1, by omega, .del h1⟩
    · rcases b.cases' with ⟨e, _, _⟩ | ⟨f2, t2, n2, e, rfl, b1⟩ | ⟨h', u, m', rfl, rfl, b1⟩ | ⟨g2, h', y, u, p2, q2, e, rfl, rfl, b1, b2⟩
      · simp at e
      · obtain ⟨rfl, rfl⟩ := snoc_inj e
        rw [sizeL_one] at hs
        obtain ⟨c, hc, h1⟩ := ih f (g' ++ kd t) h n' n2 (by rw [T.sizeL_append]; omega) a1 b1
        exact ⟨c, by omega, h1⟩
      · rw [sizeL_one h'] at hs
        obtain ⟨c, hc, h1⟩ := ih f (g' ++ [t]) (h' ++ kd u) (n' + 1) m' (by rw [T.sizeL_append h']; omega) a b1
        exact ⟨c + 1, by omega, .ins h1⟩
      · obtain ⟨rfl, rfl⟩ := snoc_inj e
        rw [sizeL_one, sizeL_one] at hs
        obtain ⟨c, hc, h1⟩ := ih f (g' ++ kd t) (h' ++ kd u) n' (p2 + q2) (by rw [T.sizeL_append, T.sizeL_append]; omega) a1 (b1.append b2)
        exact ⟨c + 1, by omega, .ins h1⟩
    · rcases b.cases' with ⟨e, _, _⟩ | ⟨f2, t2, n2, e, rfl, b1⟩ | ⟨h', u, m', rfl, rfl, b1⟩ | ⟨g2, h', y, u, p2, q2, e, rfl, rfl, b1, b2⟩
      · simp at e
      · obtain ⟨rfl, rfl⟩ := snoc_inj e
        rw [sizeL_one, sizeL_one] at hs
        obtain ⟨c, hc, h1⟩ := ih (f' ++ kd x) (g' ++ kd t) h (p + q) n2 (by rw [T.sizeL_append, T.sizeL_append]; omega) (a1.append a2) b1
        exact ⟨c + 1, by omega, .del h1⟩
      · rw [sizeL_one h'] at hs
        obtain ⟨c, hc, h1⟩ := ih (f' ++ [x]) (g' ++ [t]) (h' ++ kd u) (p + q + turnN x t) m' (by rw [T.sizeL_append h']; omega) a b1
        exact ⟨c + 1, by omega, .ins h1⟩
      · obtain ⟨rfl, rfl⟩ := snoc_inj e
        rw [sizeL_one, sizeL_one, sizeL_one] at hs
        obtain ⟨c, hc, h1⟩ := ih f' g' h' p p2 (by omega) a1 b1
        obtain ⟨d, hd, h2⟩ := ih (kd x) (kd t) (kd u) q q2 (by omega) a2 b2
        have := turnN_tri x t u
        exact ⟨c + d + turnN x u, by omega, .mat h1 h2⟩

/-- The nodes of a part are a forest's. -/
def Seg (A : List Nd) (i m : Nat) (f : List T) : Prop := i ≤ m ∧ m ≤ A.length ∧ A.take m = postL f (A.take i)
theorem Seg.size {A : List Nd} {i m : Nat} {f : List T} (h : Seg A i m f) : m = i + T.sizeL f := by
  obtain ⟨h1, h2, h3⟩ := h
  have := congrArg List.length h3
  rw [postL_size, List.length_take, List.length_take] at this
  omega
theorem take_pre {A l r : List Nd} {m : Nat} (hm : m ≤ A.length) (h : A.take m = l ++ r) : A.take l.length = l := by
  have h1 := congrArg (List.take l.length) h
  rw [List.take_take, List.take_left] at h1
  have h2 := congrArg List.length h
  rw [List.length_append, List.length_take] at h2
  rwa [Nat.min_eq_left (by omega)] at h1
/-- The last tree of a part. -/
theorem Seg.last {A : List Nd} {i m : Nat} {f : List T} {t : T} (h : Seg A i m (f ++ [t])) : i < m ∧ (at_ A m).1 = t ∧ Seg A i (at_ A m).2 f ∧ Seg A (at_ A m).2 (m - 1) (kd t) ∧ Seg A i (m - 1) (f ++ kd t) := by
  have hsz := h.size
  obtain ⟨h1, h2, h3⟩ := h
  rw [sizeL_one] at hsz
  rw [postL_app2, postL, postL, postT_kd] at h3
  obtain ⟨p, hp⟩ : ∃ p, p = postL f (A.take i) := ⟨_, rfl⟩
  rw [← hp] at h3
  have hpl : p.length = i + T.sizeL f := by rw [hp, postL_size, List.length_take]; omega
  have e1 := take_pre h2 h3
  rw [postL_size] at e1
  have hm1 : p.length + T.sizeL (kd t) = m - 1 := by omega
  rw [hm1] at e1
  have hat : A[m - 1]? = some (t, p.length) := by
    have h4 := congrArg (fun l => l[m - 1]?) h3
    rw [List.getElem?_take_of_lt (by omega)] at h4
    rw [h4, List.getElem?_append_right (by rw [postL_size]; omega), postL_size, hm1]
    simp
  have hat2 : at_ A m = (t, p.length) := by
    unfold at_
    rw [List.getD, hat]
    rfl
  obtain ⟨r, hr⟩ : ∃ r, postL (kd t) p = p ++ r := by
    have : ∀ (f : List T) (l : List Nd), ∃ r, postL f l = l ++ r := by
      intro f
      induction f with
      | nil => intro l; exact ⟨[], by rw [postL, List.append_nil]⟩
      | cons x f ih =>
        intro l
        rw [postL]
        have hx : ∀ (x : T) (l : List Nd), ∃ r, postT x l = l ++ r := by
          refine T.ind ?_
          intro k n al t ks ih l
          rw [postT]
          have hk : ∃ r, (if k = 1 then postL ks l else l) = l ++ r := by
            split
            · have key : ∀ (q : List T), (∀ x ∈ q, x ∈ ks) → ∀ l, ∃ r, postL q l = l ++ r := by
                intro q
                induction q with
                | nil => intro _ l; exact ⟨[], by rw [postL, List.append_nil]⟩
                | cons y q ihq =>
                  intro hq l
                  rw [postL]
                  obtain ⟨r, hr⟩ := ih y (hq y (by simp)) l
                  obtain ⟨r2, hr2⟩ := ihq (fun z hz => hq z (by simp [hz])) (postT y l)
                  exact ⟨r ++ r2, by rw [hr2, hr, List.append_assoc]⟩
              exact key ks (fun _ h => h) l
            · exact ⟨[], by rw [List.append_nil]⟩
          obtain ⟨r, hr⟩ := hk
          exact ⟨r ++ _, by rw [hr, List.append_assoc]⟩
        obtain ⟨r, hr⟩ := hx x l
        obtain ⟨r2, hr2⟩ := ih (postT x l)
        exact ⟨r ++ r2, by rw [hr2, hr, List.append_assoc]⟩
    exact this _ _
  have e2 : A.take p.length = p := take_pre (m := m - 1) (by omega) (e1.trans hr)
  rw [hat2]
  refine ⟨by omega, rfl, ⟨by omega, by omega, e2.trans hp⟩, ⟨by omega, by omega, by rw [e1, e2]⟩, ⟨by omega, by omega, by rw [e1, postL_app2, ← hp]⟩⟩
theorem Seg.whole (f : List T) : Seg (postL f []) 0 (postL f []).length f := ⟨Nat.zero_le _, Nat.le_refl _, by rw [List.take_length, List.take_zero]⟩

theorem far_min (A B : List Nd) (ga : Good A) (gb : Good B) {f g : List T} {c : Nat} (h : Al f g c) : ∀ (i m k n : Nat), Part A i m → Part B k n → Seg A i m f → Seg B k n g → far A B i m k n ≤ c := by
  induction h with
  | nil =>
    intro i m k n _ _ sa sb
    have h1 := sa.size
    have h2 := sb.size
    rw [T.sizeL] at h1 h2
    rw [far_end A B (by omega)]
    omega
  | @del f g t c h ih =>
    intro i m k n pa pb sa sb
    have sz := (Al.del h).size
    have za := sa.size
    have zb := sb.size
    by_cases hk : k ≥ n
    · rw [far_end A B (by omega)]
      omega
    · obtain ⟨l1, l2, l3, l4, l5⟩ := sa.last
      rw [far_on ga gb pa pb l1 (by omega)]
      have := ih i (m - 1) k n (pa.less l1) pb l5 sb
      omega
  | @ins f g t c h ih =>
    intro i m k n pa pb sa sb
    have sz := (Al.ins h).size
    have za := sa.size
    have zb := sb.size
    by_cases hk : i ≥ m
    · rw [far_end A B (by omega)]
      omega
    · obtain ⟨l1, l2, l3, l4, l5⟩ := sb.last
      rw [far_on ga gb pa pb (by omega) l1]
      have := ih i m k (n - 1) pa (pb.less l1) sa l5
      omega
  | @mat f g s t c d h1 h2 ih1 ih2 =>
    intro i m k n pa pb sa sb
    obtain ⟨l1, l2, l3, l4, l5⟩ := sa.last
    obtain ⟨r1, r2, r3, r4, r5⟩ := sb.last
    rw [far_on ga gb pa pb l1 r1, l2, r2]
    obtain ⟨_, _, a3, a4⟩ := pa.first ga l1
    obtain ⟨_, _, b3, b4⟩ := pb.first gb r1
    have e1 := ih1 i (at_ A m).2 k (at_ B n).2 a3 b3 l3 r3
    have e2 := ih2 (at_ A m).2 (m - 1) (at_ B n).2 (n - 1) a4 b4 l4 r4
    omega

theorem al_left : ∀ (s : Nat) (f : List T), T.sizeL f ≤ s → Al f [] (T.sizeL f)
  | 0, f, h => by
    cases f with
    | nil => exact .nil
    | cons t l =>
      have := T.size_pos t
      rw [T.sizeL] at h
      omega
  | s + 1, f, h => by
    rcases List.eq_nil_or_concat f with rfl | ⟨f', t, rfl⟩
    · exact .nil
    · rw [List.concat_eq_append] at h ⊢
      rw [sizeL_one] at h ⊢
      have := al_left s (f' ++ kd t) (by rw [T.sizeL_append]; omega)
      rw [T.sizeL_append] at this
      exact .del this
theorem al_right (g : List T) : Al [] g (T.sizeL g) := (al_left _ g (Nat.le_refl _)).symm

theorem far_al (A B : List Nd) (ga : Good A) (gb : Good B) : ∀ (s : Nat) (f g : List T) (i m k n : Nat), T.sizeL f + T.sizeL g ≤ s → Part A i m → Part B k n → Seg A i m f → Seg B k n g → Al f g (far A B i m k n) := by
  intro s
  induction s with
  | zero =>
    intro f g i m k n hs pa pb sa sb
    have za := sa.size
    have zb := sb.size
    rw [far_end A B (by omega)]
    cases f with
    | nil =>
      have := al_right g
      rwa [show m - i + (n - k) = T.sizeL g by rw [T.sizeL] at za; omega]
    | cons t l =>
      have := T.size_pos t
      rw [T.sizeL] at hs
      omega
  | succ s ih =>
    intro f g i m k n hs pa pb sa sb
    have za := sa.size
    have zb := sb.size
    rcases List.eq_nil_or_concat f with rfl | ⟨f', t, rfl⟩
    · rw [far_end A B (by rw [T.sizeL] at za; omega)]
      have := al_right g
      rwa [show m - i + (n - k) = T.sizeL g by rw [T.sizeL] at za; omega]
    · rw [List.concat_eq_append] at *
      rcases List.eq_nil_or_concat g with rfl | ⟨g', u, rfl⟩
      · rw [far_end A B (by rw [T.sizeL] at zb; omega)]
        have := al_left _ (f' ++ [t]) (Nat.le_refl _)
        rwa [show m - i + (n - k) = T.sizeL (f' ++ [t]) by rw [T.sizeL] at zb; omega]
      · rw [List.concat_eq_append] at *
        obtain ⟨l1, l2, l3, l4, l5⟩ := sa.last
        obtain ⟨r1, r2, r3, r4, r5⟩ := sb.last
        obtain ⟨_, _, a3, a4⟩ := pa.first ga l1
        obtain ⟨_, _, b3, b4⟩ := pb.first gb r1
        rw [sizeL_one, sizeL_one] at hs
        have d1 := ih _ _ i (m - 1) k n (by rw [T.sizeL_append, sizeL_one]; omega) (pa.less l1) pb l5 sb
        have d2 := ih _ _ i m k (n - 1) (by rw [sizeL_one, T.sizeL_append]; omega) pa (pb.less r1) sa r5
        have d3 := ih _ _ i (at_ A m).2 k (at_ B n).2 (by omega) a3 b3 l3 r3
        have d4 := ih _ _ (at_ A m).2 (m - 1) (at_ B n).2 (n - 1) (by omega) a4 b4 l4 r4
        have e1 := Al.del d1
        have e2 := Al.ins d2
        have e3 := Al.mat d3 d4
        rw [far_on ga gb pa pb l1 r1, l2, r2]
        generalize far A B i (m - 1) k n = x at *
        generalize far A B i m k (n - 1) = y at *
        generalize far A B i (at_ A m).2 k (at_ B n).2 = z1 at *
        generalize far A B (at_ A m).2 (m - 1) (at_ B n).2 (n - 1) = z2 at *
        by_cases c1 : z1 + z2 + turnN t u ≤ min x y + 1
        · rw [Nat.min_eq_right c1]
          exact e3
        · rw [Nat.min_eq_left (by omega)]
          by_cases c2 : x ≤ y
          · rw [Nat.min_eq_left c2]
            exact e1
          · rw [Nat.min_eq_right (by omega)]
            exact e2

/-- The distance is the least cost. -/
theorem distN_le {f g : List T} {c : Nat} (h : Al f g c) : distN f g ≤ c :=
  far_min _ _ (postL_ext f [] Good.nil).1 (postL_ext g [] Good.nil).1 h _ _ _ _ (Part.whole _) (Part.whole _) (Seg.whole f) (Seg.whole g)
theorem distN_al (f g : List T) : Al f g (distN f g) :=
  far_al _ _ (postL_ext f [] Good.nil).1 (postL_ext g [] Good.nil).1 _ f g _ _ _ _ (Nat.le_refl _) (Part.whole _) (Part.whole _) (Seg.whole f) (Seg.whole g)
theorem distN_symm (f g : List T) : distN f g = distN g f := Nat.le_antisymm (distN_le (distN_al g f).symm) (distN_le (distN_al f g).symm)
theorem distN_tri (f g h : List T) : distN f h ≤ distN f g + distN g h := by
  obtain ⟨c, hc, h1⟩ := Al.tri _ f g h _ _ (Nat.le_refl _) (distN_al f g) (distN_al g h)
  exact Nat.le_trans (distN_le h1) hc
theorem distN_size (f g : List T) : distN f g ≤ T.sizeL f + T.sizeL g ∧ T.sizeL f ≤ T.sizeL g + distN f g ∧ T.sizeL g ≤ T.sizeL f + distN f g :=
  ⟨by have := distN_le ((al_left _ f (Nat.le_refl _)).append (al_right g)); simpa using this, (distN_al f g).size⟩
theorem distN_beside (a b c d : List T) : distN (a ++ c) (b ++ d) ≤ distN a b + distN c d := distN_le ((distN_al a b).append (distN_al c d))
/-- The same node around both changes nothing. -/
theorem distN_around (p q : T) (hp : p.kind = 1) (hq : q.kind = 1) (h : oneB p q = true) : distN [p] [q] = distN p.kids q.kids := by
  have kp : kd p = p.kids := by unfold kd; rw [if_pos hp]
  have kq : kd q = q.kids := by unfold kd; rw [if_pos hq]
  have ht : turnN p q = 0 := by unfold turnN; rw [if_pos h]
  apply Nat.le_antisymm
  · have h1 := Al.mat (s := p) (t := q) Al.nil (distN_al (kd p) (kd q))
    rw [ht, kp, kq] at h1
    have := distN_le h1
    simpa using this
  · have h1 := distN_al [p] [q]
    have refl0 : ∀ s (f : List T), T.sizeL f ≤ s → Al f f 0 := by
      intro s
      induction s with
      | zero =>
        intro f hf
        cases f with
        | nil => exact .nil
        | cons t l =>
          have := T.size_pos t
          rw [T.sizeL] at hf
          omega
      | succ s ih =>
        intro f hf
        rcases List.eq_nil_or_concat f with rfl | ⟨f', t, rfl⟩
        · exact .nil
        · rw [List.concat_eq_append] at hf ⊢
          rw [sizeL_one] at hf
          have h0 : turnN t t = 0 := by
            unfold turnN
            rw [if_pos ((oneB_iff t t).2 ⟨rfl, fun _ => ⟨rfl, rfl⟩, fun _ => rfl⟩)]
          have := Al.mat (s := t) (t := t) (ih f' (by omega)) (ih (kd t) (by omega))
          rwa [h0] at this
    rcases h1.cases' with ⟨e, _, _⟩ | ⟨f', t, n', e, hn, a1⟩ | ⟨g', t, n', e, hn, a1⟩ | ⟨f', g', s, t, n1, n2, e, e2, hn, a1, a2⟩
    · cases e
    · obtain ⟨rfl, rfl⟩ := snoc_inj (a := []) e
      rw [List.nil_append, kp] at a1
      have h2 : Al [q] q.kids 1 := by
        have := Al.del (f := []) (t := q) (g := q.kids) (n := 0) (by rw [List.nil_append, kq]; exact refl0 _ _ (Nat.le_refl _))
        exact this
      obtain ⟨c, hc, h3⟩ := Al.tri _ _ _ _ _ _ (Nat.le_refl _) a1 h2
      have := distN_le h3
      omega
    · obtain ⟨rfl, rfl⟩ := snoc_inj (a := []) e
      rw [List.nil_append, kq] at a1
      have h2 : Al p.kids [p] 1 := by
        have := Al.ins (g := []) (t := p) (f := p.kids) (n := 0) (by rw [List.nil_append, kp]; exact refl0 _ _ (Nat.le_refl _))
        exact this
      obtain ⟨c, hc, h3⟩ := Al.tri _ _ _ _ _ _ (Nat.le_refl _) h2 a1
      have := distN_le h3
      omega
    · obtain ⟨rfl, rfl⟩ := snoc_inj (a := []) e
      obtain ⟨rfl, rfl⟩ := snoc_inj (a := []) e2
      rw [kp, kq] at a2
      have := distN_le a2
      omega

theorem same4L_snoc : ∀ (f g : List T) (s t : T), same4L (f ++ [s]) (g ++ [t]) = (same4L f g && same4 s t)
  | [], [], s, t => by simp [same4L]
  | [], y :: g, s, t => by
    cases g <;> simp [same4L]
  | x :: f, [], s, t => by
    cases f <;> simp [same4L]
  | x :: f, y :: g, s, t => by
    simp only [List.cons_append, same4L, same4L_snoc f g s t, Bool.and_assoc]
theorem al_same {f g : List T} {c : Nat} (h : Al f g c) : c = 0 → same4L f g = true := by
  induction h with
  | nil => intro _; rfl
  | del _ _ => intro h; omega
  | ins _ _ => intro h; omega
  | @mat f g s t n m h1 h2 ih1 ih2 =>
    intro h
    have ho : oneB s t = true := by
      cases e : oneB s t with
      | true => rfl
      | false =>
        unfold turnN at h
        rw [e] at h
        simp at h
    rw [same4L_snoc, ih1 (by omega), Bool.true_and]
    obtain ⟨e, e1, e2⟩ := (oneB_iff s t).1 ho
    have hk := ih2 (by omega)
    by_cases k1 : s.kind = 1
    · rw [same4_elem e k1]
      unfold kd at hk
      rw [if_pos k1, if_pos (e ▸ k1)] at hk
      rw [(e1 k1).1, (e1 k1).2, hk]
      simp
    · by_cases k2 : s.kind = 2
      · rw [same4_text e k2, e2 k1]
        simp
      · exact same4_rest e k1 k2
theorem same_al : ∀ (n : Nat) (f g : List T), T.sizeL f ≤ n → KindsL f → same4L f g = true → Al f g 0 := by
  intro n
  induction n with
  | zero =>
    intro f g hs _ h
    cases f with
    | nil =>
      cases g with
      | nil => exact .nil
      | cons y g => simp [same4L] at h
    | cons t l =>
      have := T.size_pos t
      rw [T.sizeL] at hs
      omega
  | succ n ih =>
    intro f g hs hK h
    have hl := ((same4L_iff f g).1 h).1
    rcases List.eq_nil_or_concat f with rfl | ⟨f', s, rfl⟩
    · cases g with
      | nil => exact .nil
      | cons y g => simp at hl
    · rw [List.concat_eq_append] at *
      rcases List.eq_nil_or_concat g with rfl | ⟨g', t, rfl⟩
      · simp at hl
      · rw [List.concat_eq_append] at *
        rw [same4L_snoc, Bool.and_eq_true] at h
        obtain ⟨h1, h2⟩ := h
        rw [sizeL_one] at hs
        have hk := KindsL.all.1 hK
        have a1 := ih f' g' (by omega) (KindsL.all.2 (fun x hx => hk x (by simp [hx]))) h1
        have ks := hk s (by simp)
        have e : s.kind = t.kind := by
          by_cases e : s.kind = t.kind
          · exact e
          · rw [same4_kind e] at h2
            cases h2
        cases s with
        | mk k n1 al1 t1 ks1 =>
          rw [Kinds] at ks
          rcases ks with ⟨rfl, hk1⟩ | rfl
          · rw [same4_elem e rfl] at h2
            simp only [Bool.and_eq_true, beq_iff_eq] at h2
            have k0 : kd (.mk 1 n1 al1 t1 ks1) = ks1 := if_pos rfl
            have k1 : kd t = t.kids := if_pos e.symm
            have ht : turnN (.mk 1 n1 al1 t1 ks1) t = 0 := by
              unfold turnN
              rw [if_pos ((oneB_iff _ _).2 ⟨e, fun _ => h2.1, fun h => absurd rfl h⟩)]
            have a2 := ih ks1 t.kids (by rw [k0] at hs; omega) hk1 h2.2
            rw [← k0, ← k1] at a2
            have := Al.mat a1 a2
            rwa [ht] at this
          · rw [same4_text e rfl] at h2
            have h2 := beq_iff_eq.1 h2
            have k0 : kd (.mk 2 n1 al1 t1 ks1) = [] := if_neg (show ¬ (2 : Int) = 1 by decide)
            have k1 : kd t = [] := if_neg (show ¬ t.kind = 1 from fun h => absurd (e.trans h) (show ¬ (2 : Int) = 1 by decide))
            have ht : turnN (.mk 2 n1 al1 t1 ks1) t = 0 := by
              unfold turnN
              rw [if_pos ((oneB_iff _ _).2 ⟨e, fun h => absurd h (show ¬ (2 : Int) = 1 by decide), fun _ => h2⟩)]
            have := Al.mat (s := .mk 2 n1 al1 t1 ks1) (t := t) a1 (by rw [k0, k1]; exact .nil)
            rwa [ht] at this
theorem distN_zero (f g : List T) (hK : KindsL f) : (distN f g = 0) ↔ same4L f g = true :=
  ⟨fun h => al_same (distN_al f g) h, fun h => by have := distN_le (same_al _ f g (Nat.le_refl _) hK h); omega⟩

end Df
end Go.Proofs.YtemmkobgpciflaaDoor
