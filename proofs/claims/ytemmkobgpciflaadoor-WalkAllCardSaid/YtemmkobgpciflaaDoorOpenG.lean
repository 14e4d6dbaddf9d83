/- An image that comes in as an argument: it reads as rows of slots and a list of handles. -/
import Derived.Test.YtemmkobgpciflaaDoorOpenT
import Derived.Test.YtemmkobgpciflaaDoorHangR
import Derived.Test.YtemmkobgpciflaaDoorRowKit
namespace Go.Proofs.YtemmkobgpciflaaDoor
open Go.ChangeShapes Go.WideShapes Go.ChangeAt Go.RowKit Go.Deep
open Df

/-- A slot whose numbers are of their types. -/
structure FitS (s : Im.Sl) : Prop where
  g : s.g < 4294967296
  p : s.p < 18446744073709551616
  h : ∀ x ∈ s.ks, x < 18446744073709551616
  kl : s.ks.length * 8 ≤ 140737488351232
  al : s.al.length * 32 ≤ 140737488351232
/-- An image in memory. -/
structure ImIn (w : World) (P : Nat → Prop) (S : List Im.Sl) (R : List Row) (roots : List Nat) (sa : Option Addr) (sc : Nat) (ra : Option Addr) (rc : Nat) : Prop where
  s : RdP w P 8 (.slice sa S.length sc) S.length (rowsC R)
  r : RowsIs w P R S
  h : RdP w P 1 (.slice ra roots.length rc) roots.length (hcv roots)
  f : ∀ s ∈ S, FitS s
  sl : S.length * 104 ≤ 140737488351232
  rl : roots.length * 8 ≤ 140737488351232
  rf : ∀ x ∈ roots, x < 18446744073709551616

section
variable {H : Type} {enc : TypeId × Value → H} {w : World} {base : Nat} {held : Bool}

theorem wf_u64 {z : Int} (h : (Lit.int .u64 z).wf = true) : ∃ n : Nat, z = (n : Int) ∧ n < 18446744073709551616 := by
  have e1 : IntKind.u64.min = 0 := by decide
  have e2 : IntKind.u64.max = 18446744073709551615 := by decide
  simp only [Lit.wf, Bool.and_eq_true, decide_eq_true_eq] at h
  rw [e1, e2] at h
  exact ⟨z.toNat, by omega, by omega⟩
theorem wf_u32 {z : Int} (h : (Lit.int .u32 z).wf = true) : ∃ n : Nat, z = (n : Int) ∧ n < 4294967296 := by
  have e1 : IntKind.u32.min = 0 := by decide
  have e2 : IntKind.u32.max = 4294967295 := by decide
  simp only [Lit.wf, Bool.and_eq_true, decide_eq_true_eq] at h
  rw [e1, e2] at h
  exact ⟨z.toNat, by omega, by omega⟩

theorem hcv_range (n : Nat) (A : Nat → Nat) : hcv ((List.range n).map A) = (List.range n).flatMap fun i => [.int .u64 (A i : Nat)] := by
  unfold hcv
  rw [List.map_map]
  induction n with
  | zero => rfl
  | succ n ih => rw [List.range_succ, List.map_append, List.flatMap_append, ih]; rfl

set_option maxRecDepth 100000 in
theorem open_hs {fuel : Nat} {u : Value} {d : DataW H} {ps : List MemPlace} (h : DataW.trod enc Tryd.prog w base (fun _ => true) held fuel 42 [u] = some (d, ps)) (hz : InReach Tryd.prog 42 d) :
    ∃ (l : List Nat) (a : Option Addr) (c : Nat), u = .slice a l.length c ∧ RdP w (· < w.heap.size) 1 u l.length (hcv l) ∧ l.length * 8 ≤ 140737488351232 ∧ ∀ x ∈ l, x < 18446744073709551616 := by
  have cA : Tryd.prog.cellsOf 46 = 1 := by kernel_rfl
  have bA : Tryd.prog.bytesOf 46 = 8 := by kernel_rfl
  rcases DataW.trod_slice Tryd.underlying42 h with ⟨h0, hx⟩ | ⟨a, len, cap, elems, rest, n, _, hcs, hx, hb, hl, hm, hlen, hel, _, _⟩
  · simp at h0
    subst h0
    exact ⟨[], none, 0, rfl, ⟨Rd.nil w 1, fun h => absurd rfl h⟩, by simp, fun _ h => (nomatch h)⟩
  · simp at hcs
    subst hcs
    simp only [Prod.mk.injEq] at hx
    obtain ⟨rfl, _⟩ := hx
    have hr := (hz.elem Tryd.underlying42).2
    rw [bA, List.length_map, hlen] at hr
    obtain ⟨A, hA⟩ := choose_lt (α := Nat) (p := fun i (b : Nat) => w.cells? base (a.add (i * 1)) 1 = some [.int .u64 (b : Nat)] ∧ b < 18446744073709551616) (n := len) (fun i hi => by
      have h1 := hel i hi
      rw [cA, List.getElem?_eq_getElem (by omega)] at h1
      obtain ⟨cs', h1, h2⟩ := Option.bind_eq_some_iff.1 h1
      obtain ⟨z, e, _, hw⟩ := DataW.trod_int Tryd.underlying46 h2
      obtain ⟨b, rfl, hb⟩ := wf_u64 hw
      exact ⟨b, by rw [h1, e], hb⟩)
    refine ⟨(List.range len).map A, some a, cap, by simp, ?_, by simpa [reachBytes] using hr, ?_⟩
    · rw [hcv_range]
      have := rd_cells (w := w) (a := a) (n := len) (cap := cap) (sz := 1) (by omega) hl (fun i => [.int .u64 (A i : Nat)]) (fun i _ => rfl) (fun i hi j hj => (World.cells?_some (hA i hi).1).2.2 j hj)
      simpa using this
    · intro x hx
      obtain ⟨i, hi, rfl⟩ := List.mem_map.1 hx
      exact (hA i (List.mem_range.1 hi)).2

set_option maxRecDepth 100000 in
theorem open_slot {m : Nat} {cs : List Value} {d : DataW H} {ps : List MemPlace} (h : DataW.trod enc Tryd.prog w base (fun _ => true) held m 153 cs = some (d, ps)) (hz : InReach Tryd.prog 153 d) :
    ∃ (r : Row) (s : Im.Sl), cs = r.cells ∧ RowIs w (· < w.heap.size) r s ∧ FitS s := by
  obtain ⟨xs, n, hn, hx, hlen, hxs, hf⟩ := DataW.trod_struct Tryd.underlying153 h
  simp only [Prod.mk.injEq] at hx
  obtain ⟨rfl, _⟩ := hx
  have cT : Tryd.prog.cellsOf 153 = 8 := by kernel_rfl
  have c0 : Tryd.prog.cellsOf 151 = 1 := by kernel_rfl
  have c1 : Tryd.prog.cellsOf 4 = 1 := by kernel_rfl
  have c2 : Tryd.prog.cellsOf 3 = 1 := by kernel_rfl
  have c3 : Tryd.prog.cellsOf 9 = 1 := by kernel_rfl
  have c4 : Tryd.prog.cellsOf 22 = 1 := by kernel_rfl
  have c6 : Tryd.prog.cellsOf 46 = 1 := by kernel_rfl
  have c7 : Tryd.prog.cellsOf 42 = 1 := by kernel_rfl
  rw [cT] at hlen
  have hxs : xs.length = 8 := hxs
  have part : ∀ (j : Nat) (hj : j < 8), (xs.map (·.1))[j]? = some (xs[j]'(by omega)).1 := fun j hj => by rw [List.getElem?_map, List.getElem?_eq_getElem (by omega)]; rfl
  have z4 := hz.part Tryd.underlying153 (j := 4) rfl (part 4 (by omega))
  have z7 := hz.part Tryd.underlying153 (j := 7) rfl (part 7 (by omega))
  have g0 := hf 0 _ rfl
  have g1 := hf 1 _ rfl
  have g2 := hf 2 _ rfl
  have g3 := hf 3 _ rfl
  have g4 := hf 4 _ rfl
  have g5 := hf 5 _ rfl
  have g6 := hf 6 _ rfl
  have g7 := hf 7 _ rfl
  rw [List.getElem?_eq_getElem (by omega)] at g0 g1 g2 g3 g4 g5 g6 g7
  obtain ⟨k0, e0, _, w0⟩ := DataW.trod_int Tryd.underlying151 g0
  obtain ⟨k1, e1, _⟩ := DataW.trod_bool Tryd.underlying4 g1
  obtain ⟨k2, e2, _, _⟩ := DataW.trod_int Tryd.underlying3 g2
  obtain ⟨k3, e3, _, b3⟩ := DataW.trod_string Tryd.underlying9 g3
  obtain ⟨k5, e5, _, b5⟩ := DataW.trod_string Tryd.underlying9 g5
  obtain ⟨k6, e6, _, w6⟩ := DataW.trod_int Tryd.underlying46 g6
  have l8 : cs.length = 8 := hlen
  obtain ⟨x0, x1, x2, x3, x4, x5, x6, x7, rfl⟩ : ∃ a b c d e f g h, cs = [a, b, c, d, e, f, g, h] := by
    match cs, l8 with
    | [a, b, c, d, e, f, g, h], _ => exact ⟨a, b, c, d, e, f, g, h, rfl⟩
  have q0 : ([x0, x1, x2, x3, x4, x5, x6, x7].drop 0).take (Tryd.prog.cellsOf 151) = [_] := e0
  have q1 : ([x0, x1, x2, x3, x4, x5, x6, x7].drop 1).take (Tryd.prog.cellsOf 4) = [_] := e1
  have q2 : ([x0, x1, x2, x3, x4, x5, x6, x7].drop 2).take (Tryd.prog.cellsOf 3) = [_] := e2
  have q3 : ([x0, x1, x2, x3, x4, x5, x6, x7].drop 3).take (Tryd.prog.cellsOf 9) = [_] := e3
  have q5 : ([x0, x1, x2, x3, x4, x5, x6, x7].drop 5).take (Tryd.prog.cellsOf 9) = [_] := e5
  have q6 : ([x0, x1, x2, x3, x4, x5, x6, x7].drop 6).take (Tryd.prog.cellsOf 46) = [_] := e6
  clear e0 e1 e2 e3 e5 e6
  have g4 : DataW.trod enc Tryd.prog w base (fun _ => true) held n 22 (([x0, x1, x2, x3, x4, x5, x6, x7].drop 4).take (Tryd.prog.cellsOf 22)) = some (xs[4].1, xs[4].2) := g4
  have g7 : DataW.trod enc Tryd.prog w base (fun _ => true) held n 42 (([x0, x1, x2, x3, x4, x5, x6, x7].drop 7).take (Tryd.prog.cellsOf 42)) = some (xs[7].1, xs[7].2) := g7
  rw [c4] at g4
  rw [c7] at g7
  rw [c0] at q0
  rw [c1] at q1
  rw [c2] at q2
  rw [c3] at q3 q5
  rw [c6] at q6
  simp at q0 q1 q2 q3 q5 q6
  subst q0
  subst q1
  subst q2
  subst q3
  subst q5
  subst q6
  obtain ⟨al, aa, ca, rfl, ha1, ha2, ha3⟩ := open_attrs g4 z4
  obtain ⟨ks, ka, kc, rfl, hk1, hk2, hk3⟩ := open_hs g7 z7
  obtain ⟨g, rfl, hg⟩ := wf_u32 w0
  obtain ⟨p, rfl, hp⟩ := wf_u64 w6
  exact ⟨⟨g, k1, k2, k3, aa, al.length, ca, k5, p, ka, ks.length, kc⟩, ⟨g, k1, k2, k3, al, k5, p, ks⟩, rfl, ⟨rfl, rfl, rfl, rfl, rfl, rfl, ha1, hk1⟩, ⟨hg, hp, hk3, hk2, ha2⟩⟩

instance : Inhabited Row := ⟨dead 0⟩
instance : Inhabited Im.Sl := ⟨Im.dead1 0⟩
theorem rowsC_range (n : Nat) (A : Nat → Row) : rowsC ((List.range n).map A) = (List.range n).flatMap fun i => (A i).cells := by
  unfold rowsC
  rw [List.flatMap_map]

set_option maxRecDepth 100000 in
theorem open_slots {fuel : Nat} {u : Value} {d : DataW H} {ps : List MemPlace} (h : DataW.trod enc Tryd.prog w base (fun _ => true) held fuel 41 [u] = some (d, ps)) (hz : InReach Tryd.prog 41 d) :
    ∃ (S : List Im.Sl) (R : List Row) (a : Option Addr) (c : Nat), u = .slice a S.length c ∧ RdP w (· < w.heap.size) 8 u S.length (rowsC R) ∧ RowsIs w (· < w.heap.size) R S ∧ (∀ s ∈ S, FitS s) ∧ S.length * 104 ≤ 140737488351232 := by
  have cA : Tryd.prog.cellsOf 153 = 8 := by kernel_rfl
  have bA : Tryd.prog.bytesOf 153 = 104 := by kernel_rfl
  rcases DataW.trod_slice Tryd.underlying41 h with ⟨h0, hx⟩ | ⟨a, len, cap, elems, rest, n, _, hcs, hx, hb, hl, hm, hlen, hel, _, _⟩
  · simp at h0
    subst h0
    exact ⟨[], [], none, 0, rfl, ⟨Rd.nil w 8, fun h => absurd rfl h⟩, ⟨rfl, fun i r s h => by simp at h⟩, fun _ h => (nomatch h), by simp⟩
  · simp at hcs
    subst hcs
    simp only [Prod.mk.injEq] at hx
    obtain ⟨rfl, _⟩ := hx
    obtain ⟨hz1, hr⟩ := hz.elem Tryd.underlying41
    rw [bA, List.length_map, hlen] at hr
    obtain ⟨A, hA⟩ := choose_lt (α := Row × Im.Sl) (p := fun i (b : Row × Im.Sl) => w.cells? base (a.add (i * 8)) 8 = some b.1.cells ∧ RowIs w (· < w.heap.size) b.1 b.2 ∧ FitS b.2) (n := len) (fun i hi => by
      have h1 := hel i hi
      rw [cA, List.getElem?_eq_getElem (by omega)] at h1
      obtain ⟨cs', h1, h2⟩ := Option.bind_eq_some_iff.1 h1
      obtain ⟨r, s, e, hr, hf⟩ := open_slot (d := elems[i].1) (ps := elems[i].2) h2 (hz1 _ (List.mem_map.2 ⟨elems[i], List.getElem_mem _, rfl⟩))
      exact ⟨(r, s), by rw [h1, e], hr, hf⟩)
    refine ⟨(List.range len).map fun i => (A i).2, (List.range len).map fun i => (A i).1, some a, cap, by simp, ?_, ⟨by simp, fun i r s h1 h2 => ?_⟩, fun s hs => ?_, by simpa [reachBytes] using hr⟩
    · rw [rowsC_range]
      have := rd_cells (w := w) (a := a) (n := len) (cap := cap) (sz := 8) (by omega) hl (fun i => (A i).1.cells) (fun i hi => rfl) (fun i hi j hj => (World.cells?_some (hA i hi).1).2.2 j hj)
      simpa using this
    · have hi : i < len := by have := (List.getElem?_eq_some_iff.1 h1).1; simpa using this
      rw [List.getElem?_map, List.getElem?_range hi] at h1 h2
      cases h1
      cases h2
      exact (hA i hi).2.1
    · obtain ⟨i, hi, rfl⟩ := List.mem_map.1 hs
      exact (hA i (List.mem_range.1 hi)).2.2

set_option maxRecDepth 100000 in
/-- An image that comes in. -/
theorem open_image {fuel : Nat} {cs : List Value} {d : DataW H} {ps : List MemPlace} (h : DataW.trod enc Tryd.prog w base (fun _ => true) held fuel 44 cs = some (d, ps)) (hz : InReach Tryd.prog 44 d) :
    ∃ S R roots sa sc ra rc, cs = [.slice sa (List.length S) sc, .slice ra (List.length roots) rc] ∧ ImIn w (· < w.heap.size) S R roots sa sc ra rc := by
  obtain ⟨xs, n, hn, hx, hlen, hxs, hf⟩ := DataW.trod_struct Tryd.underlying44 h
  simp only [Prod.mk.injEq] at hx
  obtain ⟨rfl, _⟩ := hx
  have cT : Tryd.prog.cellsOf 44 = 2 := by kernel_rfl
  have c0 : Tryd.prog.cellsOf 41 = 1 := by kernel_rfl
  have c1 : Tryd.prog.cellsOf 42 = 1 := by kernel_rfl
  rw [cT] at hlen
  have hxs : xs.length = 2 := hxs
  have part : ∀ (j : Nat) (hj : j < 2), (xs.map (·.1))[j]? = some (xs[j]'(by omega)).1 := fun j hj => by rw [List.getElem?_map, List.getElem?_eq_getElem (by omega)]; rfl
  have z0 := hz.part Tryd.underlying44 (j := 0) rfl (part 0 (by omega))
  have z1 := hz.part Tryd.underlying44 (j := 1) rfl (part 1 (by omega))
  have g0 := hf 0 _ rfl
  have g1 := hf 1 _ rfl
  rw [List.getElem?_eq_getElem (by omega)] at g0 g1
  have l2 : cs.length = 2 := hlen
  obtain ⟨x0, x1, rfl⟩ : ∃ a b, cs = [a, b] := by
    match cs, l2 with
    | [a, b], _ => exact ⟨a, b, rfl⟩
  have g0 : DataW.trod enc Tryd.prog w base (fun _ => true) held n 41 (([x0, x1].drop 0).take (Tryd.prog.cellsOf 41)) = some (xs[0].1, xs[0].2) := g0
  have g1 : DataW.trod enc Tryd.prog w base (fun _ => true) held n 42 (([x0, x1].drop 1).take (Tryd.prog.cellsOf 42)) = some (xs[1].1, xs[1].2) := g1
  rw [c0] at g0
  rw [c1] at g1
  obtain ⟨S, R, sa, sc, rfl, a1, a2, a3, a4⟩ := open_slots g0 z0
  obtain ⟨roots, ra, rc, rfl, b1, b2, b3⟩ := open_hs g1 z1
  exact ⟨S, R, roots, sa, sc, ra, rc, rfl, ⟨a1, a2, b1, a3, a4, b2, b3⟩⟩

end
end Go.Proofs.YtemmkobgpciflaaDoor
