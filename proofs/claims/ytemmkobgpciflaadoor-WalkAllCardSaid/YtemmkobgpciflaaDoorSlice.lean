/- Slices: what a slice reads (Rd), what the call owns (ownsRow at 0), append, cuts, literals, make. -/
import Derived.Test.YtemmkobgpciflaaDoorHeap
import Derived.OwnWalk
import Derived.Maps.AppendAt
import Derived.Laws.OwnMore
namespace Go.Proofs.YtemmkobgpciflaaDoor
open Go.RowKit

/-- v is a slice of n elements, sz cells each, that read xs. -/
def Rd (w : World) (v : Value) (n sz : Nat) (xs : List Value) : Prop :=
  xs.length = n * sz ∧ ∃ a c, v = .slice a n c ∧ n ≤ c ∧ (a = none → c = 0) ∧ (n = 0 ∨ ∃ g off, a = some ⟨g, off, none⟩ ∧ ∀ j u, xs[j]? = some u → w.cell? ⟨g, off + j, none⟩ = some u)

theorem Rd.form {w : World} {v : Value} {n sz : Nat} {xs : List Value} (h : Rd w v n sz xs) : ∃ a c, v = .slice a n c ∧ n ≤ c := by
  obtain ⟨_, a, c, h1, h2, _⟩ := h
  exact ⟨a, c, h1, h2⟩
theorem Rd.nil (w : World) (sz : Nat) : Rd w (.slice none 0 0) 0 sz [] := ⟨by simp, none, 0, rfl, Nat.le_refl _, fun _ => rfl, Or.inl rfl⟩
/-- An element's cell. -/
theorem Rd.at_ {w : World} {v : Value} {n sz : Nat} {xs : List Value} (h : Rd w v n sz xs) {j : Nat} {u : Value} (hu : xs[j]? = some u) : ∃ g off c, v = .slice (some ⟨g, off, none⟩) n c ∧ n ≤ c ∧ w.cell? ⟨g, off + j, none⟩ = some u := by
  obtain ⟨hl, a, c, rfl, hc, _, h0 | ⟨g, off, rfl, hr⟩⟩ := h
  · subst h0
    have : xs = [] := List.eq_nil_of_length_eq_zero (by simpa using hl)
    subst this
    simp at hu
  · exact ⟨g, off, c, rfl, hc, hr j u hu⟩
theorem Rd.keep {w w' : World} {v : Value} {n sz : Nat} {xs : List Value} (h : Rd w v n sz xs) {F : Nat → Prop} (hU : Upd w w' F) (hF : ∀ g, v.ownBlock = some g → ¬ F g) : Rd w' v n sz xs := by
  obtain ⟨hl, a, c, rfl, hc, hn, h0 | ⟨g, off, rfl, hr⟩⟩ := h
  · exact ⟨hl, a, c, rfl, hc, hn, Or.inl h0⟩
  · refine ⟨hl, _, c, rfl, hc, hn, Or.inr ⟨g, off, rfl, fun j u hu => ?_⟩⟩
    have hc := hr j u hu
    rw [hU.cell (by exact World.block_lt_of_cell? w _ hc) (hF g rfl)]
    exact hc
theorem Rd.same {w w' : World} {v : Value} {n sz : Nat} {xs : List Value} (h : Rd w v n sz xs) (he : w'.heap = w.heap) : Rd w' v n sz xs := by
  obtain ⟨hl, a, c, rfl, hc, hn, h0 | ⟨g, off, rfl, hr⟩⟩ := h
  · exact ⟨hl, a, c, rfl, hc, hn, Or.inl h0⟩
  · refine ⟨hl, _, c, rfl, hc, hn, Or.inr ⟨g, off, rfl, fun j u hu => ?_⟩⟩
    rw [World.cell?_of_block (w := w) (by rw [he])]
    exact hr j u hu
theorem add_lit (g off k : Nat) : (⟨g, off, none⟩ : Addr).add k = ⟨g, off + k, none⟩ := by
  unfold Addr.add
  split <;> simp_all
theorem Rd.ofOwn {w : World} {b e sz : Nat} {v : Value} {n : Nat} {xs : List Value} (h : w.ownsRow b e sz v n xs) : Rd w v n sz xs := by
  have hx := h
  obtain ⟨hl, ⟨rfl, rfl⟩ | ⟨g, cap, cur, rfl, hb, hg, hn, hm, hs, ht⟩⟩ := h
  · exact ⟨hl, none, 0, rfl, Nat.le_refl _, fun _ => rfl, Or.inl rfl⟩
  · refine ⟨hl, _, cap, rfl, hn, (fun h => by cases h), Or.inr ⟨g, 0, rfl, fun j u hu => ?_⟩⟩
    have := hx.cells (g := g) rfl j u hu
    rw [add_lit] at this
    exact this
/-- A block that is known whole, as a slice over all of it. -/
theorem Rd.ofBlk {w : World} {g : Nat} {vs : List Value} {t : TypeId} (h : Blk w g vs t) (n sz : Nat) (hl : vs.length = n * sz) : Rd w (.slice (some ⟨g, 0, none⟩) n n) n sz vs :=
  ⟨hl, _, n, rfl, Nat.le_refl _, (fun h => by cases h), Or.inr ⟨g, 0, rfl, fun j u hu => by rw [Nat.zero_add, h.cell]; exact hu⟩⟩
/-- A cut. -/
theorem Rd.cut {w : World} {v : Value} {n sz : Nat} {xs : List Value} (h : Rd w v n sz xs) {l k : Nat} (hlk : l ≤ k) (hk : k ≤ n) : ∃ a c, v = .slice a n c ∧ n ≤ c ∧ Rd w (sliced a l k c sz) (k - l) sz ((xs.drop (l * sz)).take ((k - l) * sz)) ∧ (∀ g, (sliced a l k c sz).ownBlock = some g → v.ownBlock = some g) := by
  obtain ⟨hl, a, c, rfl, hc, hn, h0⟩ := h
  refine ⟨a, c, rfl, hc, ⟨?_, ?_⟩, ?_⟩
  · rw [List.length_take, List.length_drop, hl, ← Nat.sub_mul]
    exact Nat.min_eq_left (Nat.mul_le_mul_right _ (by omega))
  · unfold sliced
    refine ⟨_, _, rfl, by omega, ?_, ?_⟩
    · intro h
      split at h
      · have := hn h; omega
      · cases a with
        | none => have := hn rfl; omega
        | some a => simp at h
    · by_cases hkl : k - l = 0
      · exact Or.inl hkl
      · rcases h0 with h0 | ⟨g, off, rfl, hr⟩
        · omega
        · refine Or.inr ⟨g, off + l * sz, ?_, fun j u hu => ?_⟩
          · rw [if_neg (by omega)]
            simp [add_lit]
          · rw [List.getElem?_take] at hu
            split at hu
            · rw [List.getElem?_drop] at hu
              rw [Nat.add_assoc]
              exact hr _ u hu
            · cases hu
  · intro g hg
    unfold sliced Value.ownBlock at hg
    split at hg
    · rename_i a' n' c' heq
      simp at heq
      obtain ⟨h1, _⟩ := heq
      split at h1
      · subst h1; exact hg
      · cases a with
        | none => simp at h1
        | some a =>
          simp at h1
          subst h1
          have : (a.add (l * sz)).block = a.block := by unfold Addr.add; split <;> rfl
          rw [this] at hg
          exact hg
    · cases hg

/-- What is known of an element's type. -/
structure Elem (P : Program) (e sz bytes : Nat) (z : Value) : Prop where
  info : ∃ i, P.info? e = some i ∧ i.zero = some z ∧ i.size = sz ∧ i.bytes = bytes
  cells : z.cells.size = sz
  pos : 0 < sz
  pos2 : 0 < bytes
theorem Elem.mk' {P : Program} {e sz bytes : Nat} {z : Value} (h : (P.info? e).map (fun i => (i.zero, i.size, i.bytes)) = some (some z, sz, bytes)) (h1 : z.cells.size = sz) (h2 : 0 < sz) (h3 : 0 < bytes) : Elem P e sz bytes z := by
  obtain ⟨i, a, b, c, d⟩ := info_parts h
  exact ⟨⟨i, a, b, c, d⟩, h1, h2, h3⟩
theorem Elem.sizeOf {P : Program} {e sz bytes : Nat} {z : Value} (E : Elem P e sz bytes z) (w : World) : (sizeOf e).run P w = .ok sz w := by
  obtain ⟨i, h1, _, h3, _⟩ := E.info
  subst h3
  simp [Go.sizeOf, typeInfo, h1]

theorem own_keep {w w' : World} {b e sz : Nat} {v : Value} {n : Nat} {xs : List Value} (h : w.ownsRow b e sz v n xs) {F : Nat → Prop} (hU : Upd w w' F) (hF : ∀ g, v.ownBlock = some g → ¬ F g) : w'.ownsRow b e sz v n xs := by
  obtain ⟨hl, ⟨rfl, rfl⟩ | ⟨g, cap, cur, rfl, hb, hg, r⟩⟩ := h
  · exact ⟨hl, Or.inl ⟨rfl, rfl⟩⟩
  · exact ⟨hl, Or.inr ⟨g, cap, cur, rfl, hb, (hU.block g (heap_lt hg) (hF g rfl)).trans hg, r⟩⟩

theorem insertIdx_td {α : Type} (a : α) : ∀ (l : List α) (i : Nat), i ≤ l.length → l.insertIdx i a = l.take i ++ a :: l.drop i
  | _, 0, _ => by simp
  | [], i + 1, h => by simp at h
  | b :: l, i + 1, h => by simp [insertIdx_td a l i (by simpa using h)]
theorem eraseIdx_td {α : Type} : ∀ (l : List α) (i : Nat), l.eraseIdx i = l.take i ++ l.drop (i + 1)
  | [], _ => by simp
  | _ :: _, 0 => by simp
  | b :: l, i + 1 => by simp [eraseIdx_td l i]
theorem ob_eq {b o n c g : Nat} (e : (Value.slice (some ⟨b, o, none⟩) n c).ownBlock = some g) : b = g := by simpa [Value.ownBlock] using e
theorem ob_some {b g : Nat} (e : some b = some g) : b = g := Option.some.inj e
theorem own_lit {W : World} {b e : Nat} (h : b = W.heap.size) : (W.alloc (.cells #[] e)).ownsRow 0 e 1 (.slice (some ⟨b, 0, none⟩) 0 0) 0 [] := by
  subst h
  exact World.ownsRow_lit W #[] 0 (Nat.zero_le _) (Nat.zero_le _) rfl
theorem own_lit_sz {W : World} {b e sz : Nat} (h : b = W.heap.size) : (W.alloc (.cells #[] e)).ownsRow 0 e sz (.slice (some ⟨b, 0, none⟩) 0 0) 0 [] := by
  subst h
  exact World.ownsRow_lit W #[] 0 (Nat.zero_le _) (Nat.zero_le _) (by simp)

theorem own_same {w w' : World} {b e sz : Nat} {v : Value} {n : Nat} {xs : List Value} (h : w.ownsRow b e sz v n xs) (he : w'.heap = w.heap) : w'.ownsRow b e sz v n xs := by
  obtain ⟨hl, ⟨rfl, rfl⟩ | ⟨g, cap, cur, rfl, hb, hg, r⟩⟩ := h
  · exact ⟨hl, Or.inl ⟨rfl, rfl⟩⟩
  · exact ⟨hl, Or.inr ⟨g, cap, cur, rfl, hb, by rw [he]; exact hg, r⟩⟩

theorem own_lt {w : World} {b e sz : Nat} {v : Value} {n : Nat} {xs : List Value} (h : w.ownsRow b e sz v n xs) {g : Nat} (hg : v.ownBlock = some g) : g < w.heap.size := (h.lt g hg).2

/-- The block of what is owned holds elements of that type. -/
theorem own_ty {w : World} {b e sz : Nat} {v : Value} {n : Nat} {xs : List Value} (h : w.ownsRow b e sz v n xs) {g : Nat} (hg : v.ownBlock = some g) : ∃ vs, Blk w g vs e := by
  obtain ⟨hl, ⟨rfl, rfl⟩ | ⟨g', cap, cur, rfl, hb, hg', r⟩⟩ := h
  · cases hg
  · simp [Value.ownBlock] at hg
    subst hg
    exact ⟨cur.toList, by unfold Blk; simpa using hg'⟩

theorem upd_of_grown {w w' : World} {row : Option Nat} (h : w.grownBy w' row) : Upd w w' (fun b => row = some b) :=
  ⟨h.os, h.tape, h.output, h.size, fun k hk hn => h.block k hk (fun e => hn e.symm)⟩

def AppPost (w : World) (e sz : Nat) (v : Value) (n : Nat) (xs : List Value) (m : Nat) (news : List Value) (v' : Value) (w' : World) : Prop :=
  w'.ownsRow 0 e sz v' (n + m) (xs ++ news) ∧ Upd w w' (fun b => v.ownBlock = some b) ∧ (v'.ownBlock = v.ownBlock ∨ v'.ownBlock = some w.heap.size)

theorem run_app {P : Program} {t e ty sz bytes : Nat} {z : Value} (E : Elem P e sz bytes z) (ht : P.underlying t = some (.slice e)) {w : World} {v : Value} {n : Nat} {xs : List Value} (hown : w.ownsRow 0 e sz v n xs)
    {x : Value} {m : Nat} {news : List Value} (hs : Rd w x m sz news) (h1 : ∀ u ∈ news, u.oneCell' = true) (hb : (n + m) * bytes ≤ 140737488355328) :
    ∃ v' w', (Builtin.append_ #[t, t] ty #[v, x]).run P w = .ok v' w' ∧ AppPost w e sz v n xs m news v' w' := by
  obtain ⟨i, hi, hz, hsz, hby⟩ := E.info
  have hmax : n + m ≤ maxLen := by
    have : (n + m) * 1 ≤ (n + m) * bytes := Nat.mul_le_mul_left _ E.pos2
    unfold maxLen
    omega
  obtain ⟨hl, a, c, rfl, hc, hn, h0⟩ := hs
  have some_case : ∀ ad : Addr, (∀ j u, news[j]? = some u → w.cell? (ad.add j) = some u) → ∃ v' w', (Builtin.append_ #[t, t] ty #[v, .slice (some ad) m c]).run P w = .ok v' w' ∧ AppPost w e sz v n xs m news v' w' := by
    intro ad hr
    obtain ⟨v', w', hrun, h2, h3, _, h5⟩ := run_append_own_at (P := P) w 0 t ty e i z sz bytes ht hi hz hsz hby E.cells E.pos v n xs hown ad m c news hl hr h1 hmax hb (Nat.zero_le _)
    exact ⟨v', w', hrun, h2, upd_of_grown h3, h5⟩
  cases a with
  | none =>
    have hc0 := hn rfl
    subst hc0
    have hm : m = 0 := by omega
    subst hm
    have : news = [] := List.eq_nil_of_length_eq_zero (by simpa using hl)
    subst this
    refine ⟨v, w, run_append_owned_none w 0 t ty e i sz ht hi v n xs hown, ?_, Upd.refl _ _, Or.inl rfl⟩
    simpa using hown
  | some ad =>
    refine some_case ad ?_
    rcases h0 with h0 | ⟨g, off, e1, hr⟩
    · subst h0
      have : news = [] := List.eq_nil_of_length_eq_zero (by simpa using hl)
      subst this
      intro j u hu
      simp at hu
    · cases e1
      intro j u hu
      rw [add_lit]
      exact hr j u hu

section laws
variable {P : Program} {ops : Array Oper} {rest : List Oper} {o : Oper} {a : Act} {Q : Exit → Act → World → Prop} {K : Act → World → Prop} {w : World}

theorem wp_app {s x : Operand} {t : TypeId} (ho : o.op = .call { callee := .builtin .append, args := #[s, x], argTypes := #[t, t] }) {e sz bytes : Nat} {z : Value} (E : Elem P e sz bytes z) (ht : P.underlying t = some (.slice e))
    {v : Value} {n : Nat} {xs : List Value} (hs : a.eval s = v) (hown : w.ownsRow 0 e sz v n xs) {y : Value} {m : Nat} {news : List Value} (hx : a.eval x = y) (hR : Rd w y m sz news) (h1 : ∀ u ∈ news, u.oneCell' = true)
    (hb : (n + m) * bytes ≤ 140737488355328) (h : ∀ v' w', AppPost w e sz v n xs m news v' w' → K (a.put o.dst v') w') : o.wp P a w K Q := by
  obtain ⟨v', w', hr, hp⟩ := run_app (ty := o.type) E ht hown hR h1 hb
  unfold Oper.wp execOp
  simp only [ho, resolve, invoke, builtin, Sem.run_bind, Sem.run_pure, Result.andThen_ok, List.map_toArray, List.map_cons, List.map_nil, hs, hx, hr]
  exact h v' w' hp

theorem wpl_app (hg : o.guard = none) {s x : Operand} {t : TypeId} (ho : o.op = .call { callee := .builtin .append, args := #[s, x], argTypes := #[t, t] }) {e sz bytes : Nat} {z : Value} (E : Elem P e sz bytes z) (ht : P.underlying t = some (.slice e))
    {v : Value} {n : Nat} {xs : List Value} (hs : a.eval s = v) (hown : w.ownsRow 0 e sz v n xs) {y : Value} {m : Nat} {news : List Value} (hx : a.eval x = y) (hR : Rd w y m sz news) (h1 : ∀ u ∈ news, u.oneCell' = true)
    (hb : (n + m) * bytes ≤ 140737488355328) (h : ∀ v' w', AppPost w e sz v n xs m news v' w' → wpList P ops Q rest (a.put o.dst v') w') : wpList P ops Q (o :: rest) a w :=
  wpList_plain hg fun _ hK => wp_app ho E ht hs hown hx hR h1 hb fun v' w' hp => hK _ _ (h v' w' hp)

theorem stp_app {X : Prop} (hg : o.guard = none) {s x : Operand} {t : TypeId} (ho : o.op = .call { callee := .builtin .append, args := #[s, x], argTypes := #[t, t] }) {e sz bytes : Nat} {z : Value} (E : Elem P e sz bytes z) (ht : P.underlying t = some (.slice e))
    {v : Value} {n : Nat} {xs : List Value} (hs : a.eval s = v) (hown : w.ownsRow 0 e sz v n xs) {y : Value} {m : Nat} {news : List Value} (hx : a.eval x = y) (hR : Rd w y m sz news) (h1 : ∀ u ∈ news, u.oneCell' = true)
    (hb : (n + m) * bytes ≤ 140737488355328) (h : ∀ v' w', AppPost w e sz v n xs m news v' w' → K (a.put o.dst v') w') :
    if Region.wanted o (yielded ops a.tmps) = true then Oper.wp P o a w K Q else X := by
  have hw : Region.wanted o (yielded ops a.tmps) = true := by simp [Region.wanted, hg]
  rw [if_pos hw]
  exact wp_app ho E ht hs hown hx hR h1 hb h

end laws

/-- A cut's run, its value under a name. -/
theorem Rd.cutH {P : Program} {t e bytes : Nat} {z : Value} {w : World} {v : Value} {n sz : Nat} {xs : List Value} (h : Rd w v n sz xs) (E : Elem P e sz bytes z) (ht : P.underlying t = some (.slice e)) {k : Nat} (hk : k ≤ n) (q : IntKind) :
    ∃ s, (∀ w', (Instr.sliceAt t v none (some (.int q (k : Int))) none).run P w' = .ok s w') ∧ Rd w s k sz (xs.take (k * sz)) ∧ (∀ g, s.ownBlock = some g → v.ownBlock = some g) := by
  obtain ⟨a, c, rfl, hc, h1, h2⟩ := h.cut (Nat.zero_le k) hk
  refine ⟨sliced a 0 k c sz, fun w' => ?_, by simpa using h1, h2⟩
  have hkc : (k : Int) ≤ (c : Int) := by omega
  simp [Instr.sliceAt, Instr.slice, run_underlying ht, Instr.sliceBounds, run_sliceBound, sliced, E.sizeOf, Result.andThen, *]
theorem Rd.cutL {P : Program} {t e bytes : Nat} {z : Value} {w : World} {v : Value} {n sz : Nat} {xs : List Value} (h : Rd w v n sz xs) (E : Elem P e sz bytes z) (ht : P.underlying t = some (.slice e)) {k : Nat} (hk : k ≤ n) (q : IntKind) :
    ∃ s, (∀ w', (Instr.sliceAt t v (some (.int q (k : Int))) none none).run P w' = .ok s w') ∧ Rd w s (n - k) sz (xs.drop (k * sz)) ∧ (∀ g, s.ownBlock = some g → v.ownBlock = some g) := by
  have hl := h.1
  obtain ⟨a, c, rfl, hc, h1, h2⟩ := h.cut hk (Nat.le_refl n)
  refine ⟨sliced a k n c sz, fun w' => ?_, ?_, h2⟩
  · have hkc : (k : Int) ≤ (n : Int) := by omega
    simp [Instr.sliceAt, Instr.slice, run_underlying ht, Instr.sliceBounds, run_sliceBound, sliced, E.sizeOf, Result.andThen, *]
  · have e1 : (xs.drop (k * sz)).take ((n - k) * sz) = xs.drop (k * sz) := List.take_of_length_le (by rw [List.length_drop, hl, Nat.sub_mul]; exact Nat.le_refl _)
    rw [e1] at h1
    exact h1
theorem Rd.cutLH {P : Program} {t e bytes : Nat} {z : Value} {w : World} {v : Value} {n sz : Nat} {xs : List Value} (h : Rd w v n sz xs) (E : Elem P e sz bytes z) (ht : P.underlying t = some (.slice e)) {l k : Nat} (hl : l ≤ k) (hk : k ≤ n) (q q' : IntKind) :
    ∃ s, (∀ w', (Instr.sliceAt t v (some (.int q (l : Int))) (some (.int q' (k : Int))) none).run P w' = .ok s w') ∧ Rd w s (k - l) sz ((xs.drop (l * sz)).take ((k - l) * sz)) ∧ (∀ g, s.ownBlock = some g → v.ownBlock = some g) := by
  obtain ⟨a, c, rfl, hc, h1, h2⟩ := h.cut hl hk
  refine ⟨sliced a l k c sz, fun w' => ?_, h1, h2⟩
  have hkc : (k : Int) ≤ (c : Int) := by omega
  simp [Instr.sliceAt, Instr.slice, run_underlying ht, Instr.sliceBounds, run_sliceBound, sliced, E.sizeOf, Result.andThen, *]

theorem ints_one (k : IntKind) (l : List Nat) : ∀ u ∈ l.map (fun t : Nat => Value.int k (t : Int)), u.oneCell' = true := by
  intro u hu
  obtain ⟨_, _, rfl⟩ := List.mem_map.1 hu
  rfl

end Go.Proofs.YtemmkobgpciflaaDoor
