/- Trees that come in as arguments: they read as trees, and fit. -/
import Derived.Test.YtemmkobgpciflaaDoorTr
import Derived.Deep.Slices
import Derived.ProofKit
import Derived.SizedLaws
namespace Go.Proofs.YtemmkobgpciflaaDoor
open Go.ChangeShapes Go.WideShapes Go.ChangeAt Go.RowKit Go.Deep

section
variable {H : Type} {enc : TypeId × Value → H} {w : World} {base : Nat} {held : Bool}

theorem weightsAll_mem {P : Program} {e : TypeId} : ∀ {l : List (DataW H)} {d : DataW H}, d ∈ l → ∀ n ∈ d.weights P e, n ∈ DataW.weightsAll P e l
  | d' :: r, d, hd, n, hn => by
    simp only [DataW.weightsAll, List.mem_append]
    rcases List.mem_cons.1 hd with rfl | h
    · exact Or.inl hn
    · exact Or.inr (weightsAll_mem h n hn)

/-- All weights of a datum within reach. -/
def InReach (P : Program) (t : TypeId) (d : DataW H) : Prop := ∀ n ∈ d.weights P t, n ≤ reachBytes
theorem InReach.elem {P : Program} {t e : TypeId} {el sp : List (DataW H)} (h : InReach P t (.slice el sp)) (ht : P.underlying t = some (.slice e)) : (∀ d ∈ el, InReach P e d) ∧ el.length * P.bytesOf e ≤ reachBytes := by
  unfold InReach at h
  simp only [DataW.weights, ht, List.mem_cons, List.mem_append] at h
  refine ⟨fun d hd n hn => h n (Or.inr (Or.inl (weightsAll_mem hd n hn))), ?_⟩
  have := h _ (Or.inl rfl)
  exact Nat.le_trans (Nat.mul_le_mul_right _ (Nat.le_add_right _ _)) this
theorem InReach.part {P : Program} {t : TypeId} {fs : Array Field} {parts : List (DataW H)} (h : InReach P t (.agg parts)) (ht : P.underlying t = some (.struct fs)) {j : Nat} {f : Field} {d : DataW H} (hf : fs[j]? = some f) (hd : parts[j]? = some d) : InReach P f.type d := by
  unfold InReach at h
  simp only [DataW.weights, ht] at h
  exact fun n hn => h n (DataW.weights_mem_each (by simp [hf]) hd n hn)

/-- Cells behind an address, run by run. -/
theorem rd_cells {a : Addr} {n cap sz : Nat} (hsz : 0 < sz) (hc : n ≤ cap) (C : Nat → List Value) (hlen : ∀ i, i < n → (C i).length = sz) (h : ∀ i, i < n → ∀ j, j < sz → w.cell? ((a.add (i * sz)).add j) = (C i)[j]?) :
    RdP w (· < w.heap.size) sz (.slice (some a) n cap) n ((List.range n).flatMap C) := by
  have hl : ∀ m, m ≤ n → ((List.range m).flatMap C).length = m * sz := by
    intro m
    induction m with
    | zero => intro _; simp
    | succ m ih =>
      intro hm
      rw [List.range_succ, List.flatMap_append, List.length_append, ih (by omega)]
      simp [hlen m (by omega), Nat.succ_mul]
  have hg : ∀ m, m ≤ n → ∀ i j, i < m → j < sz → ((List.range m).flatMap C)[i * sz + j]? = (C i)[j]? := by
    intro m
    induction m with
    | zero => intro _ i j hi; omega
    | succ m ih =>
      intro hm i j hi hj
      rw [List.range_succ, List.flatMap_append]
      by_cases him : i < m
      · have : i * sz + j < m * sz := by
          have : (i + 1) * sz ≤ m * sz := Nat.mul_le_mul_right _ (by omega)
          rw [Nat.succ_mul] at this
          omega
        rw [List.getElem?_append_left (by rw [hl m (by omega)]; exact this)]
        exact ih (by omega) i j him hj
      · obtain rfl : i = m := by omega
        rw [List.getElem?_append_right (by rw [hl i (by omega)]; omega), hl i (by omega)]
        simp
  by_cases hn0 : n = 0
  · subst hn0
    exact ⟨⟨by simp, some a, cap, rfl, by omega, (fun h => nomatch h), Or.inl rfl⟩, fun h => absurd rfl h⟩
  · have h00 := h 0 (by omega) 0 hsz
    have hlen0 := hlen 0 (by omega)
    have hget : (C 0)[0]? = some ((C 0)[0]'(by omega)) := List.getElem?_eq_getElem _
    rw [hget] at h00
    have hs := World.cell?_spot h00
    obtain ⟨b, off, spot⟩ := a
    have hspot : spot = none := by simpa [Addr.add] using hs
    subst hspot
    have hb : b < w.heap.size := by
      have := World.block_lt_of_cell? w _ h00
      rw [Nat.zero_mul, add_plain, add_plain] at this
      exact this
    refine ⟨⟨by rw [hl n (Nat.le_refl _)], _, cap, rfl, hc, (fun h => by cases h), Or.inr ⟨b, off, rfl, fun k u hu => ?_⟩⟩, fun _ g hg' => ?_⟩
    · have hk := (List.getElem?_eq_some_iff.1 hu).1
      rw [hl n (Nat.le_refl _)] at hk
      have e : k = k / sz * sz + k % sz := by
        have := Nat.div_add_mod k sz
        rw [Nat.mul_comm] at this
        omega
      have hm : k % sz < sz := Nat.mod_lt _ hsz
      have hq : k / sz < n := Nat.div_lt_of_lt_mul (by rw [Nat.mul_comm]; exact hk)
      have h1 := h (k / sz) hq (k % sz) hm
      rw [add_plain, add_plain, Nat.add_assoc, ← e] at h1
      rw [h1, ← hg n (Nat.le_refl _) (k / sz) (k % sz) hq hm, ← e]
      exact hu
    · have := ob_eq hg'
      subst this
      exact hb

theorem take_n {α : Type} {cs : List α} {j n : Nat} {x : List α} (h : (cs.drop j).take n = x) {i : Nat} (hi : i < n) : cs[j + i]? = x[i]? := by
  rw [← h, List.getElem?_take, if_pos hi, List.getElem?_drop]

theorem open_attr {fuel : Nat} {cs : List Value} {d : DataW H} {ps : List MemPlace} (h : DataW.trod enc Tryd.prog w base (fun _ => true) held fuel 146 cs = some (d, ps)) :
    ∃ a : Att, cs = [.string a.1, .string a.2] ∧ a.1.size ≤ 9223372036854775807 ∧ a.2.size ≤ 9223372036854775807 := by
  obtain ⟨xs, n, _, _, hlen, hxs, hf⟩ := DataW.trod_struct Tryd.underlying146 h
  have c1 : Tryd.prog.cellsOf 9 = 1 := by kernel_rfl
  have cA : Tryd.prog.cellsOf 146 = 2 := by kernel_rfl
  rw [cA] at hlen
  have hxs : xs.length = 2 := hxs
  have g0 := hf 0 _ rfl
  have g1 := hf 1 _ rfl
  rw [List.getElem?_eq_getElem (by omega)] at g0 g1
  obtain ⟨s0, e0, _, b0⟩ := DataW.trod_string Tryd.underlying9 g0
  obtain ⟨s1, e1, _, b1⟩ := DataW.trod_string Tryd.underlying9 g1
  have e0 : (cs.drop 0).take (Tryd.prog.cellsOf 9) = [_] := e0
  have e1 : (cs.drop 1).take (Tryd.prog.cellsOf 9) = [_] := e1
  rw [c1] at e0 e1
  refine ⟨(s0, s1), ?_, b0, b1⟩
  apply List.ext_getElem?
  intro i
  match i with
  | 0 => exact take_n e0 (i := 0) (by omega)
  | 1 => exact take_n e1 (i := 0) (by omega)
  | i + 2 => rw [List.getElem?_eq_none (by omega), List.getElem?_eq_none (by simp)]

instance : Inhabited Att := ⟨⟨⟨#[]⟩, ⟨#[]⟩⟩⟩

theorem atc_range (n : Nat) (A : Nat → Att) : atc ((List.range n).map A) = (List.range n).flatMap fun i => [.string (A i).1, .string (A i).2] := by
  unfold atc
  rw [List.flatMap_map]

theorem open_attrs {fuel : Nat} {u : Value} {d : DataW H} {ps : List MemPlace} (h : DataW.trod enc Tryd.prog w base (fun _ => true) held fuel 22 [u] = some (d, ps)) (hz : InReach Tryd.prog 22 d) :
    ∃ al aa ca, u = .slice aa al.length ca ∧ RdP w (· < w.heap.size) 2 u al.length (atc al) ∧ al.length * 32 ≤ 140737488351232 ∧ ∀ a ∈ al, a.1.size ≤ 9223372036854775807 ∧ a.2.size ≤ 9223372036854775807 := by
  have cA : Tryd.prog.cellsOf 146 = 2 := by kernel_rfl
  have bA : Tryd.prog.bytesOf 146 = 32 := by kernel_rfl
  rcases DataW.trod_slice Tryd.underlying22 h with ⟨h0, hx⟩ | ⟨a, len, cap, elems, rest, n, _, hcs, hx, hb, hl, hm, hlen, hel, _, _⟩
  · simp at h0
    subst h0
    exact ⟨[], none, 0, rfl, ⟨Rd.nil w 2, fun h => absurd rfl h⟩, by simp, fun _ h => (nomatch h)⟩
  · simp at hcs
    subst hcs
    simp only [Prod.mk.injEq] at hx
    obtain ⟨rfl, _⟩ := hx
    have hr := (hz.elem Tryd.underlying22).2
    rw [bA, List.length_map, hlen] at hr
    obtain ⟨A, hA⟩ := choose_lt (α := Att) (p := fun i (b : Att) => w.cells? base (a.add (i * 2)) 2 = some [.string b.1, .string b.2] ∧ b.1.size ≤ 9223372036854775807 ∧ b.2.size ≤ 9223372036854775807) (n := len) (fun i hi => by
      have h1 := hel i hi
      rw [cA, List.getElem?_eq_getElem (by omega)] at h1
      obtain ⟨cs', h1, h2⟩ := Option.bind_eq_some_iff.1 h1
      obtain ⟨b, hb2, hb3⟩ := open_attr h2
      exact ⟨b, by rw [h1, hb2], hb3⟩)
    refine ⟨(List.range len).map A, some a, cap, by simp, ?_, by simpa [reachBytes] using hr, ?_⟩
    · rw [atc_range]
      have := rd_cells (w := w) (a := a) (n := len) (cap := cap) (sz := 2) (by omega) hl (fun i => [.string (A i).1, .string (A i).2]) (fun i _ => rfl) (fun i hi j hj => (World.cells?_some (hA i hi).1).2.2 j hj)
      simpa using this
    · intro x hx
      obtain ⟨i, hi, rfl⟩ := List.mem_map.1 hx
      exact (hA i (List.mem_range.1 hi)).2

instance : Inhabited T := ⟨.mk 0 ⟨#[]⟩ [] ⟨#[]⟩ []⟩

theorem forest_range {SA SK : Value → Nat → List Value → Prop} (n : Nat) (A : Nat → T) (C : Nat → List Value) (h : ∀ i, i < n → TreeIs SA SK (A i) (C i)) : ForestIs SA SK ((List.range n).map A) ((List.range n).flatMap C) := by
  induction n with
  | zero => simp [ForestIs]
  | succ n ih =>
    rw [List.range_succ, List.map_append, List.flatMap_append]
    have := (ih fun i hi => h i (by omega)).snoc (h n (by omega))
    simpa using this

theorem open_trees_of {m : Nat} (IH : ∀ cs d ps, DataW.trod enc Tryd.prog w base (fun _ => true) held m 25 cs = some (d, ps) → InReach Tryd.prog 25 d → ∃ t, TreeAt w (· < w.heap.size) t cs ∧ Fits t)
    {u : Value} {d : DataW H} {ps : List MemPlace} (h : DataW.trod enc Tryd.prog w base (fun _ => true) held (m + 1) 23 [u] = some (d, ps)) (hz : InReach Tryd.prog 23 d) :
    ∃ ks ak ck xs, u = .slice ak ks.length ck ∧ RdP w (· < w.heap.size) 5 u ks.length xs ∧ ForestAt w (· < w.heap.size) ks xs ∧ ks.length * 88 ≤ 140737488351232 ∧ ∀ x ∈ ks, Fits x := by
  have cA : Tryd.prog.cellsOf 25 = 5 := by kernel_rfl
  have bA : Tryd.prog.bytesOf 25 = 88 := by kernel_rfl
  rcases DataW.trod_slice Tryd.underlying23 h with ⟨h0, hx⟩ | ⟨a, len, cap, elems, rest, n, hn, hcs, hx, hb, hl, hm, hlen, hel, _, _⟩
  · simp at h0
    subst h0
    exact ⟨[], none, 0, [], rfl, ⟨Rd.nil w 5, fun h => absurd rfl h⟩, by unfold ForestAt; rw [ForestIs], by simp, fun _ h => (nomatch h)⟩
  · simp at hcs
    subst hcs
    obtain rfl : n = m := by omega
    simp only [Prod.mk.injEq] at hx
    obtain ⟨rfl, _⟩ := hx
    obtain ⟨hz1, hr⟩ := hz.elem Tryd.underlying23
    rw [bA, List.length_map, hlen] at hr
    obtain ⟨A, hA⟩ := choose_lt (α := T × List Value) (p := fun i (b : T × List Value) => w.cells? base (a.add (i * 5)) 5 = some b.2 ∧ TreeAt w (· < w.heap.size) b.1 b.2 ∧ Fits b.1) (n := len) (fun i hi => by
      have h1 := hel i hi
      rw [cA, List.getElem?_eq_getElem (by omega)] at h1
      obtain ⟨cs', h1, h2⟩ := Option.bind_eq_some_iff.1 h1
      obtain ⟨t, ht, hf⟩ := IH cs' elems[i].1 elems[i].2 h2 (hz1 _ (List.mem_map.2 ⟨elems[i], List.getElem_mem _, rfl⟩))
      exact ⟨(t, cs'), h1, ht, hf⟩)
    refine ⟨(List.range len).map fun i => (A i).1, some a, cap, (List.range len).flatMap fun i => (A i).2, by simp, ?_, forest_range len _ _ (fun i hi => (hA i hi).2.1), by simpa [reachBytes] using hr, ?_⟩
    · have := rd_cells (w := w) (a := a) (n := len) (cap := cap) (sz := 5) (by omega) hl (fun i => (A i).2) (fun i hi => (hA i hi).2.1.len) (fun i hi j hj => (World.cells?_some (hA i hi).1).2.2 j hj)
      simpa using this
    · intro x hx
      obtain ⟨i, hi, rfl⟩ := List.mem_map.1 hx
      exact (hA i (List.mem_range.1 hi)).2.2

set_option maxRecDepth 100000 in
/-- A tree that comes in. -/
theorem open_tree : ∀ (fuel : Nat) (cs : List Value) (d : DataW H) (ps : List MemPlace), DataW.trod enc Tryd.prog w base (fun _ => true) held fuel 25 cs = some (d, ps) → InReach Tryd.prog 25 d → ∃ t, TreeAt w (· < w.heap.size) t cs ∧ Fits t
  | 0, cs, d, ps, h, _ => by simp [DataW.trod] at h
  | 1, cs, d, ps, h, _ => by
    obtain ⟨xs, n, hn, _, _, hxs, hf⟩ := DataW.trod_struct Tryd.underlying25 h
    obtain rfl : n = 0 := by omega
    have hxs : xs.length = 5 := hxs
    have g0 := hf 0 _ rfl
    rw [List.getElem?_eq_getElem (by omega)] at g0
    simp [DataW.trod] at g0
  | m + 2, cs, d, ps, h, hz => by
    obtain ⟨xs, n, hn, hx, hlen, hxs, hf⟩ := DataW.trod_struct Tryd.underlying25 h
    obtain rfl : n = m + 1 := by omega
    simp only [Prod.mk.injEq] at hx
    obtain ⟨rfl, _⟩ := hx
    have cT : Tryd.prog.cellsOf 25 = 5 := by kernel_rfl
    have ci : Tryd.prog.cellsOf 3 = 1 := by kernel_rfl
    have cs1 : Tryd.prog.cellsOf 9 = 1 := by kernel_rfl
    have ca : Tryd.prog.cellsOf 22 = 1 := by kernel_rfl
    have ck : Tryd.prog.cellsOf 23 = 1 := by kernel_rfl
    rw [cT] at hlen
    have hxs : xs.length = 5 := hxs
    have part : ∀ (j : Nat) (hj : j < 5), (xs.map (·.1))[j]? = some (xs[j]'(by omega)).1 := fun j hj => by rw [List.getElem?_map, List.getElem?_eq_getElem (by omega)]; rfl
    have z2 := hz.part Tryd.underlying25 (j := 2) rfl (part 2 (by omega))
    have z4 := hz.part Tryd.underlying25 (j := 4) rfl (part 4 (by omega))
    have g0 := hf 0 _ rfl
    have g1 := hf 1 _ rfl
    have g2 := hf 2 _ rfl
    have g3 := hf 3 _ rfl
    have g4 := hf 4 _ rfl
    rw [List.getElem?_eq_getElem (by omega)] at g0 g1 g2 g3 g4
    obtain ⟨k, e0, _, _⟩ := DataW.trod_int Tryd.underlying3 g0
    obtain ⟨s1, e1, _, b1⟩ := DataW.trod_string Tryd.underlying9 g1
    obtain ⟨s3, e3, _, b3⟩ := DataW.trod_string Tryd.underlying9 g3
    have l5 : cs.length = 5 := hlen
    obtain ⟨c0, c1, c2, c3, c4, rfl⟩ : ∃ a b c d e, cs = [a, b, c, d, e] := by
      match cs, l5 with
      | [a, b, c, d, e], _ => exact ⟨a, b, c, d, e, rfl⟩
    have q0 : ([c0, c1, c2, c3, c4].drop 0).take (Tryd.prog.cellsOf 3) = [_] := e0
    have q1 : ([c0, c1, c2, c3, c4].drop 1).take (Tryd.prog.cellsOf 9) = [_] := e1
    have q3 : ([c0, c1, c2, c3, c4].drop 3).take (Tryd.prog.cellsOf 9) = [_] := e3
    clear e0 e1 e3
    rw [ci] at q0
    rw [cs1] at q1 q3
    have g2 : DataW.trod enc Tryd.prog w base (fun _ => true) held (m + 1) 22 (([c0, c1, c2, c3, c4].drop 2).take (Tryd.prog.cellsOf 22)) = some (xs[2].1, xs[2].2) := g2
    have g4 : DataW.trod enc Tryd.prog w base (fun _ => true) held (m + 1) 23 (([c0, c1, c2, c3, c4].drop 4).take (Tryd.prog.cellsOf 23)) = some (xs[4].1, xs[4].2) := g4
    rw [ca] at g2
    rw [ck] at g4
    simp at q0 q1 q3
    subst q0
    subst q1
    subst q3
    obtain ⟨al, aa, ca', rfl, ha1, ha2, ha3⟩ := open_attrs g2 z2
    obtain ⟨ks, ak, ck', xs', rfl, hk1, hk2, hk3, hk4⟩ := open_trees_of (fun cs d ps h hz => open_tree m cs d ps h hz) g4 z4
    refine ⟨.mk k s1 al s3 ks, ?_, ?_⟩
    · unfold TreeAt
      rw [TreeIs]
      exact ⟨aa, ca', ak, ck', xs', rfl, ha1, hk1, hk2⟩
    · rw [Fits, FitsL.all]
      exact ⟨⟨b1, b3, ha3, ha2, hk3⟩, hk4⟩

/-- A forest that comes in. -/
theorem open_trees {fuel : Nat} {u : Value} {d : DataW H} {ps : List MemPlace} (h : DataW.trod enc Tryd.prog w base (fun _ => true) held fuel 23 [u] = some (d, ps)) (hz : InReach Tryd.prog 23 d) :
    ∃ ks ak ck xs, u = .slice ak ks.length ck ∧ RdP w (· < w.heap.size) 5 u ks.length xs ∧ ForestAt w (· < w.heap.size) ks xs ∧ ks.length * 88 ≤ 140737488351232 ∧ ∀ x ∈ ks, Fits x := by
  cases fuel with
  | zero => simp [DataW.trod] at h
  | succ m => exact open_trees_of (fun cs d ps h hz => open_tree m cs d ps h hz) h hz

theorem reach_arg {P : Program} {ts : List TypeId} {ds : List (DataW H)} (h : (DataW.weightsEach P ts ds).all (· ≤ reachBytes) = true) {j : Nat} {t : TypeId} {d : DataW H} (ht : ts[j]? = some t) (hd : ds[j]? = some d) : InReach P t d :=
  fun n hn => by simpa using List.all_eq_true.1 h n (DataW.weights_mem_each ht hd n hn)

end
end Go.Proofs.YtemmkobgpciflaaDoor
