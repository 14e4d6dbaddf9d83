/- The program's memo of distances: a map whose keys are four ints. -/
import Derived.Test.YtemmkobgpciflaaDoorOne
import Derived.DeepKeys3
namespace Go.Proofs.YtemmkobgpciflaaDoor
open Go.RowKit
namespace Df

def key4 (i m k n : Nat) : Value := .agg #[.int .i64 (i : Int), .int .i64 (m : Int), .int .i64 (k : Int), .int .i64 (n : Int)]
theorem key4_inj {i m k n i' m' k' n' : Nat} (h : key4 i m k n = key4 i' m' k' n') : i = i' ∧ m = m' ∧ k = k' ∧ n = n' := by
  simp [key4] at h
  omega

set_option maxRecDepth 100000 in
theorem law4 : WideMaps.KeyLaw Tryd.prog 140 := Go.deep_law (m := 5) (by omega) (by kernel_rfl) (by kernel_rfl) (by kernel_rfl)

theorem wf64 {n : Nat} (h : n ≤ 9223372036854775807) : (Lit.int .i64 (n : Int)).wf = true := by
  have e : IntKind.i64.min = -9223372036854775808 := by decide
  simp [Lit.wf]
  omega

theorem types_pos : ∃ m, Tryd.prog.types.size = m + 1 := by
  have h : decide (0 < Tryd.prog.types.size) = true := by kernel_rfl
  have := of_decide_eq_true h
  exact ⟨Tryd.prog.types.size - 1, by omega⟩

theorem key4_key {i m k n : Nat} (h1 : i ≤ 9223372036854775807) (h2 : m ≤ 9223372036854775807) (h3 : k ≤ 9223372036854775807) (h4 : n ≤ 9223372036854775807) : ∃ l, keyOf Tryd.prog 140 (key4 i m k n) = some l := by
  have hu := Tryd.underlying140
  have hi := Tryd.underlying3
  have hkt : Tryd.prog.keyType 140 = true := by kernel_rfl
  have hc : Tryd.prog.cellsOf 3 = 1 := by kernel_rfl
  have hc4 : Tryd.prog.cellsOf 140 = 4 := by kernel_rfl
  obtain ⟨s, hs⟩ := types_pos
  have hf : (key4 i m k n).formed Tryd.prog 140 = true := by simp [key4, Value.formed, hu, hc4]
  refine ⟨.string (keyBytes [.int .i64 i, .int .i64 m, .int .i64 k, .int .i64 n]), ?_⟩
  unfold keyOf
  simp only [hu]
  rw [if_pos (by rw [hkt, hf]; rfl), hs]
  unfold Program.keyLits
  simp only [hu, key4, Value.cells]
  rw [if_pos (by rw [hc4]; rfl), show List.range 4 = [0, 1, 2, 3] from rfl, List.mapM_cons, List.mapM_cons, List.mapM_cons, List.mapM_cons, List.mapM_nil]
  simp [hc, Program.keyLits, hi, wf64 h1, wf64 h2, wf64 h3, wf64 h4]

/-- Every entry of the memo is right. -/
def Right (A B : List Nd) (L : List (Value × Value)) : Prop := ∀ x ∈ L, ∃ i m k n : Nat, i ≤ 32 ∧ m ≤ 32 ∧ k ≤ 32 ∧ n ≤ 32 ∧ x = (key4 i m k n, .int .i64 (far A B i m k n : Nat))
theorem Right.nil (A B : List Nd) : Right A B [] := fun x h => by cases h

theorem Right.keys {A B : List Nd} {es : Array MapEntry} (h : Right A B (es.toList.map fun e => (e.key, e.val))) : ∀ e ∈ es.toList, ∃ l, keyOf Tryd.prog 140 e.key = some l := fun e he => by
  obtain ⟨i, m, k, n, h1, h2, h3, h4, hx⟩ := h (e.key, e.val) (List.mem_map.2 ⟨e, he, rfl⟩)
  simp only [Prod.mk.injEq] at hx
  rw [hx.1]
  exact key4_key (by omega) (by omega) (by omega) (by omega)

theorem zero_int (w : World) : (zeroValue 3).run Tryd.prog w = .ok (.int .i64 0) w := by kernel_rfl

theorem memo_lookup {A B : List Nd} {L : List (Value × Value)} (hR : Right A B L) {i m k n : Nat} (h1 : i ≤ 32) (h2 : m ≤ 32) (h3 : k ≤ 32) (h4 : n ≤ 32) (M : Nat) :
    ∃ (z : Int) (b : Bool), (b = true → z = (far A B i m k n : Nat)) ∧ ∀ w : World, MapIs w M L → (Instr.lookup 95 (.map (some M)) (key4 i m k n) true).run Tryd.prog w = .ok (.tuple #[.int .i64 z, .bool b]) w := by
  obtain ⟨l, hl⟩ := key4_key (i := i) (m := m) (k := k) (n := n) (by omega) (by omega) (by omega) (by omega)
  by_cases hin : ∃ v, (key4 i m k n, v) ∈ L
  · refine ⟨far A B i m k n, true, fun _ => rfl, fun w hM => ?_⟩
    obtain ⟨es, c, hb, rfl⟩ := hM
    rcases law4.find w hl es.toList hR.keys with ⟨_, f2⟩ | ⟨j, e, f1, f2, f3⟩
    · obtain ⟨v, hv⟩ := hin
      obtain ⟨e, he, hx⟩ := List.mem_map.1 hv
      simp only [Prod.mk.injEq] at hx
      exact absurd hx.1 (f2 e he)
    · have hv : e.val = .int .i64 (far A B i m k n : Nat) := by
        obtain ⟨i', m', k', n', _, _, _, _, hx⟩ := hR (e.key, e.val) (List.mem_map.2 ⟨e, List.mem_of_getElem? f2, rfl⟩)
        simp only [Prod.mk.injEq] at hx
        obtain ⟨rfl, rfl, rfl, rfl⟩ := key4_inj (f3.symm.trans hx.1)
        exact hx.2
      simp [Instr.lookup, run_underlying Tryd.underlying95, MapKept.run_getObj_map hb, law4.check w _ hl, f1, hv, Result.andThen]
  · refine ⟨0, false, (fun h => by cases h), fun w hM => ?_⟩
    obtain ⟨es, c, hb, rfl⟩ := hM
    rcases law4.find w hl es.toList hR.keys with ⟨f1, _⟩ | ⟨j, e, f1, f2, f3⟩
    · simp [Instr.lookup, run_underlying Tryd.underlying95, MapKept.run_getObj_map hb, law4.check w _ hl, f1, zero_int, Result.andThen]
    · exact absurd ⟨e.val, List.mem_map.2 ⟨e, List.mem_of_getElem? f2, by rw [f3]⟩⟩ hin

theorem memo_update {A B : List Nd} {L : List (Value × Value)} (hR : Right A B L) {i m k n : Nat} (h1 : i ≤ 32) (h2 : m ≤ 32) (h3 : k ≤ 32) (h4 : n ≤ 32) {M : Nat} {w : World} (hM : MapIs w M L) :
    ∃ w' L', (Instr.mapUpdate 95 (.map (some M)) (key4 i m k n) (.int .i64 (far A B i m k n : Nat))).run Tryd.prog w = .ok () w' ∧ MapIs w' M L' ∧ Right A B L' ∧ Upd w w' (· = M) := by
  obtain ⟨l, hl⟩ := key4_key (i := i) (m := m) (k := k) (n := n) (by omega) (by omega) (by omega) (by omega)
  obtain ⟨es, c, hb, rfl⟩ := hM
  rcases law4.find w hl es.toList hR.keys with ⟨f1, _⟩ | ⟨j, e, f1, f2, f3⟩
  · refine ⟨_, _, by simp only [Instr.mapUpdate, Sem.run_bind, run_underlying Tryd.underlying95, MapKept.run_getObj_map hb, law4.check w false hl, f1, MapKept.run_setObj_map _ hb, Result.andThen], ⟨es.push ⟨key4 i m k n, .int .i64 (far A B i m k n : Nat), c⟩, c + 1, heap_put (heap_lt hb) _, rfl⟩, ?_, (Upd.refl w _).obj M _ (fun _ => rfl)⟩
    intro x hx
    simp only [Array.toList_push, List.map_append, List.mem_append, List.map_cons, List.map_nil, List.mem_singleton] at hx
    rcases hx with hx | rfl
    · exact hR x hx
    · exact ⟨i, m, k, n, h1, h2, h3, h4, rfl⟩
  · have hj : es[j]? = some e := by simpa using f2
    refine ⟨_, _, by simp only [Instr.mapUpdate, Sem.run_bind, run_underlying Tryd.underlying95, MapKept.run_getObj_map hb, law4.check w false hl, f1, hj, Option.map_some, Option.getD_some, f3, law4.stays w hl, MapKept.run_setObj_map _ hb, Result.andThen], ⟨es.modify j (fun e' => { e' with key := key4 i m k n, val := .int .i64 (far A B i m k n : Nat) }), c, heap_put (heap_lt hb) _, rfl⟩, ?_, (Upd.refl w _).obj M _ (fun _ => rfl)⟩
    intro x hx
    obtain ⟨y, hy, rfl⟩ := List.mem_map.1 hx
    rcases MapFrom.mem_modify hy with hy | ⟨e', _, rfl⟩
    · exact hR _ (List.mem_map.2 ⟨y, hy, rfl⟩)
    · exact ⟨i, m, k, n, h1, h2, h3, h4, rfl⟩

end Df
end Go.Proofs.YtemmkobgpciflaaDoor
