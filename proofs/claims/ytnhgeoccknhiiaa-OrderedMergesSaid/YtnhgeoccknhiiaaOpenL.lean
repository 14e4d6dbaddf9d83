/- Slices of slices of items that come in as arguments: they read as lists of lists. -/
import Derived.Test.YtnhgeoccknhiiaaOpenI
import Derived.Test.YtnhgeoccknhiiaaRises2
namespace Go.Proofs.Ytnhgeoccknhiiaa
open Go.ChangeShapes Go.WideShapes Go.ChangeAt Go.RowKit Go.Deep
namespace OrdI

/-- The weights go into a slice's elements. -/
theorem weightsAll_mem {H : Type} {P : Program} {e : TypeId} : ∀ {l : List (DataW H)} {d : DataW H}, d ∈ l → ∀ n ∈ d.weights P e, n ∈ DataW.weightsAll P e l
  | d' :: r, d, hd, n, hn => by
    simp only [DataW.weightsAll, List.mem_append]
    rcases List.mem_cons.1 hd with rfl | h
    · exact Or.inl hn
    · exact Or.inr (weightsAll_mem h n hn)
theorem sized_inner {H : Type} {P : Program} {ts : List TypeId} {ds : List (DataW H)} (h : (DataW.weightsEach P ts ds).all (· ≤ reachBytes) = true) {j : Nat} {t e q : TypeId} {elems spare e' sp' : List (DataW H)}
    (ht : ts[j]? = some t) (hd : ds[j]? = some (.slice elems spare)) (hu : P.underlying t = some (.slice e)) (hu2 : P.underlying e = some (.slice q)) (hx : DataW.slice e' sp' ∈ elems) : (e'.length + sp'.length) * P.bytesOf q ≤ reachBytes := by
  refine of_decide_eq_true (List.all_eq_true.1 h _ (DataW.weights_mem_each ht hd _ ?_))
  simp only [DataW.weights, hu, List.mem_cons, List.mem_append]
  exact Or.inr (Or.inl (weightsAll_mem hx _ (by simp [DataW.weights, hu2])))

section
variable {H : Type} {enc : TypeId × Value → H} {w : World} {base : Nat} {held : Bool}

theorem open_row {fuel : Nat} {u : Value} {d : DataW H} {ps : List MemPlace} (h : DataW.trod enc Try.prog w base (fun _ => true) held fuel 30 [u] = some (d, ps)) :
    ∃ l, Rd w u l.length 2 (cells l) ∧ ((l = [] ∧ d = .nil) ∨ ∃ xs ys, d = .slice xs ys ∧ xs.length = l.length) := by
  rcases open_slice Try.underlying30 h with ⟨h0, hx⟩ | ⟨a, len, cap, m, n, D, Pl, hcs, _⟩
  · have e : u = .slice none 0 0 := by simpa using h0
    subst e
    exact open_items (enc := enc) (d := d) (ps := ps) (base := base) (held := held) ⟨fuel, by simpa [Value.cells] using h⟩ ⟨_, _, _, rfl⟩
  · have e : u = .slice (some a) len cap := by simpa using hcs
    subst e
    exact open_items (enc := enc) (d := d) (ps := ps) (base := base) (held := held) ⟨fuel, by simpa [Value.cells] using h⟩ ⟨_, _, _, rfl⟩

instance : Inhabited (List It) := ⟨[]⟩
/-- The lists, in the world in which the call begins. -/
theorem open_lists {v : Value} {d : DataW H} {ps : List MemPlace} (h : DataW.Trod enc Try.prog w base (fun _ => true) held 54 v d ps) (hval : ∃ a n c, v = .slice a n c) :
    ∃ ls, RdL w v ls ∧ ((ls = [] ∧ d = .nil) ∨ ∃ xs ys, d = .slice xs ys ∧ xs.length = ls.length ∧ ∀ l ∈ ls, l = [] ∨ ∃ e' sp', DataW.slice e' sp' ∈ xs ∧ e'.length = l.length) := by
  obtain ⟨fuel, h⟩ := h
  obtain ⟨a0, n0, c0, rfl⟩ := hval
  have cA : Try.prog.cellsOf 30 = 1 := by kernel_rfl
  rcases open_slice1 Try.underlying54 cA h with ⟨h0, hx⟩ | ⟨a, len, cap, m, n, V, D, Pl, hcs, hb, hl, hm, hmm, hx, hc⟩
  · simp [Value.cells] at h0
    obtain ⟨rfl, rfl, rfl⟩ := h0
    simp only [Prod.mk.injEq] at hx
    exact ⟨[], ⟨[], Rd.nil w 1, fun i l hl => by simp at hl⟩, Or.inl ⟨rfl, hx.1⟩⟩
  · simp [Value.cells] at hcs
    obtain ⟨rfl, rfl, rfl⟩ := hcs
    simp only [if_true] at hmm
    simp only [Prod.mk.injEq] at hx
    obtain ⟨A, hA⟩ := choose_lt (α := List It) (p := fun i (l : List It) => Rd w (V i) l.length 2 (cells l) ∧ ((l = [] ∧ D i = .nil) ∨ ∃ xs ys, D i = .slice xs ys ∧ xs.length = l.length)) (n := n0) (fun i hi => open_row (hc i (by omega)).2)
    have hget : ∀ i l, ((List.range n0).map A)[i]? = some l → i < n0 ∧ A i = l := fun i l hl => by
      obtain ⟨h1, h2⟩ := List.getElem?_eq_some_iff.1 hl
      simp at h1 h2
      exact ⟨h1, h2⟩
    refine ⟨(List.range n0).map A, ⟨(List.range n0).map V, ?_, fun i l hl => ?_⟩, Or.inr ⟨_, _, hx.1, by simp, fun l hl => ?_⟩⟩
    · have hlen : ((List.range n0).map A).length = n0 := by simp
      rw [hlen]
      refine ⟨by simp, some a, c0, rfl, hl, (fun h => nomatch h), ?_⟩
      by_cases hn0 : n0 = 0
      · exact Or.inl hn0
      · right
        have hs := World.cell?_spot ((hc 0 (by omega)).1)
        obtain ⟨b, off, spot⟩ := a
        have hspot : spot = none := by simpa [Addr.add] using hs
        subst hspot
        refine ⟨b, off, rfl, fun j u hu => ?_⟩
        obtain ⟨h1, h2⟩ := List.getElem?_eq_some_iff.1 hu
        simp at h1 h2
        have := (hc j (by omega)).1
        rw [h2, add_plain] at this
        exact this
    · obtain ⟨h1, rfl⟩ := hget i l hl
      exact ⟨V i, by simp [h1], (hA i h1).1⟩
    · obtain ⟨i, hi⟩ := List.mem_iff_getElem?.1 hl
      obtain ⟨h1, rfl⟩ := hget i l hi
      rcases (hA i h1).2 with ⟨e, _⟩ | ⟨xs, ys, e, hxs⟩
      · exact Or.inl e
      · exact Or.inr ⟨xs, ys, List.mem_map.2 ⟨i, List.mem_range.2 h1, e⟩, hxs⟩
end
end OrdI
end Go.Proofs.Ytnhgeoccknhiiaa
