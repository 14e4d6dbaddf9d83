/- Plain words on memory: a block known whole (Blk), what may have changed (Upd), a map's block as a list of keys and values (MapIs). -/
import Derived.WalkKit
import Derived.RowKit3
import Derived.Below
import Derived.Carry
import Derived.KernelRfl
import Derived.MapKept
import Derived.StillTailTactics
import Derived.Deep.Draws
import Derived.Lib.Hide
namespace Go.Proofs.YtemmkobgpciflaaDoor
open Go.RowKit

theorem ret_int {k : IntKind} {a b : Int} (h : a = b) : Ending.returned (.int k a) = .returned (.int k b) := by rw [h]

/-- A walk stands where a goal is put behind this name. -/
def Halted (p : Prop) : Prop := p
theorem halt_mk {p : Prop} (h : Halted p) : p := h
theorem halt_go {p : Prop} (h : p) : Halted p := h

theorem ret2u {k j : IntKind} {a b c : Int} (h : a = b) : Ending.returned (.tuple #[.int k a, .int j c]) = .returned (.tuple #[.int k b, .int j c]) := by rw [h]

/-- Block b holds these cells, none of them frozen. -/
def Blk (w : World) (b : Nat) (vs : List Value) (t : TypeId) : Prop := w.heap[b]? = some (.cells vs.toArray t (0, 0))

theorem Blk.cell {w : World} {b : Nat} {vs : List Value} {t : TypeId} (h : Blk w b vs t) (i : Nat) : w.cell? ⟨b, i, none⟩ = vs[i]? := by
  unfold Blk at h
  simp [World.cell?, h]
theorem Blk.free {w : World} {b : Nat} {vs : List Value} {t : TypeId} (h : Blk w b vs t) (i : Nat) : w.frozen? ⟨b, i, none⟩ = false := by
  unfold Blk at h
  simp [World.frozen?, h]
theorem heap_lt {w : World} {b : Nat} {o : Obj} (h : w.heap[b]? = some o) : b < w.heap.size := by
  rcases Nat.lt_or_ge b w.heap.size with h' | h'
  · exact h'
  · simp [Array.getElem?_eq_none h'] at h
theorem Blk.lt {w : World} {b : Nat} {vs : List Value} {t : TypeId} (h : Blk w b vs t) : b < w.heap.size := heap_lt h
theorem Blk.at_ {w w' : World} {b : Nat} {vs : List Value} {t : TypeId} (h : Blk w b vs t) (he : w'.heap[b]? = w.heap[b]?) : Blk w' b vs t := he.trans h
theorem heap_set_ne (w : World) (a : Addr) (v : Value) (b : Nat) (h : b ≠ a.block) : (w.setCell a v).heap[b]? = w.heap[b]? := Below.heap_setCell w a v b h
theorem heap_alloc_lt (w : World) (o : Obj) (b : Nat) (h : b < w.heap.size) : (w.alloc o).heap[b]? = w.heap[b]? := Below.heap_alloc w o b h
theorem heap_new (w : World) (o : Obj) : (w.alloc o).heap[w.heap.size]? = some o := by
  show (w.heap.push o)[w.heap.size]? = _
  simp
theorem heapq_alloc (w : World) (o : Obj) (b : Nat) : (w.alloc o).heap[b]? = if b = w.heap.size then some o else w.heap[b]? := by
  show (w.heap.push o)[b]? = _
  rw [Array.getElem?_push]
theorem heapq_set (w : World) (a : Addr) (v : Value) (b : Nat) (h : b ≠ a.block) : (w.setCell a v).heap[b]? = w.heap[b]? := heap_set_ne w a v b h
theorem Blk.set {w : World} {b : Nat} {vs : List Value} {t : TypeId} (h : Blk w b vs t) (i : Nat) (v : Value) : Blk (w.setCell ⟨b, i, none⟩ v) b (vs.set i v) t := by
  unfold Blk at *
  have hlt := heap_lt h
  have h' : w.heap[b] = .cells vs.toArray t (0, 0) := by simpa [Array.getElem?_eq_getElem hlt] using h
  show (w.heap.modify b _)[b]? = _
  rw [Array.getElem?_eq_getElem (by simpa using hlt), Array.getElem_modify_self, h']
  simp
theorem Blk.far {w : World} {b : Nat} {vs : List Value} {t : TypeId} (h : Blk w b vs t) (a : Addr) (v : Value) (hne : b ≠ a.block) : Blk (w.setCell a v) b vs t := h.at_ (heap_set_ne w a v b hne)
theorem Blk.alloc {w : World} {b : Nat} {vs : List Value} {t : TypeId} (h : Blk w b vs t) (o : Obj) : Blk (w.alloc o) b vs t := h.at_ (heap_alloc_lt w o b h.lt)
theorem Blk.new (w : World) (vs : List Value) (t : TypeId) : Blk (w.alloc (.cells vs.toArray t)) w.heap.size vs t := heap_new w _
theorem Blk.drew {w : World} {b : Nat} {vs : List Value} {t : TypeId} (h : Blk w b vs t) : Blk w.drew b vs t := h
theorem Blk.ty {w : World} {b b' : Nat} {vs vs' : List Value} {t t' : TypeId} (h : Blk w b vs t) (h' : Blk w b' vs' t') (hne : t ≠ t') : b ≠ b' := by
  rintro rfl
  unfold Blk at *
  rw [h] at h'
  simp at h'
  exact hne h'.2
theorem Blk.eq {w : World} {b : Nat} {vs vs' : List Value} {t t' : TypeId} (h : Blk w b vs t) (h' : Blk w b vs' t') : vs = vs' := by
  unfold Blk at *
  rw [h] at h'
  simpa using (by simpa using h' : vs = vs' ∧ t = t').1

theorem hq_set {w : World} {a : Addr} {v : Value} {b : Nat} (h : b ≠ a.block) : (w.setCell a v).heap[b]? = w.heap[b]? := heap_set_ne w a v b h
theorem hq_alloc {w : World} {o : Obj} {b : Nat} (h : b ≠ w.heap.size) : (w.alloc o).heap[b]? = w.heap[b]? := by rw [heapq_alloc, if_neg h]
theorem hq_drew {w : World} : w.drew.heap = w.heap := rfl
theorem hq_drewN {w : World} {n : Nat} : (w.drewN n).heap = w.heap := rfl

/-- w' is w but for the blocks of F and new ones. -/
structure Upd (w w' : World) (F : Nat → Prop) : Prop where
  os : w'.os = w.os
  tape : w'.tape = w.tape
  output : w'.output = w.output
  size : w.heap.size ≤ w'.heap.size
  block : ∀ k, k < w.heap.size → ¬ F k → w'.heap[k]? = w.heap[k]?
theorem Upd.refl (w : World) (F : Nat → Prop) : Upd w w F := ⟨rfl, rfl, rfl, Nat.le_refl _, fun _ _ _ => rfl⟩
theorem Upd.trans {a b c : World} {F G : Nat → Prop} (h : Upd a b F) (k : Upd b c G) (hG : ∀ i, i < a.heap.size → G i → F i) : Upd a c F :=
  ⟨k.os.trans h.os, k.tape.trans h.tape, k.output.trans h.output, Nat.le_trans h.size k.size, fun i hi hF => (k.block i (Nat.lt_of_lt_of_le hi h.size) (fun g => hF (hG i hi g))).trans (h.block i hi hF)⟩
theorem Upd.mono {a b : World} {F G : Nat → Prop} (h : Upd a b F) (hG : ∀ i, i < a.heap.size → F i → G i) : Upd a b G :=
  ⟨h.os, h.tape, h.output, h.size, fun i hi hg => h.block i hi (fun f => hg (hG i hi f))⟩
theorem Upd.drew {a w : World} {F : Nat → Prop} (h : Upd a w F) : Upd a w.drew F := ⟨h.os, h.tape, h.output, h.size, h.block⟩
theorem Upd.drewN {a w : World} {F : Nat → Prop} (h : Upd a w F) (n : Nat) : Upd a (w.drewN n) F := ⟨h.os, h.tape, h.output, h.size, h.block⟩
theorem Upd.alloc {a w : World} {F : Nat → Prop} (h : Upd a w F) (o : Obj) : Upd a (w.alloc o) F :=
  ⟨h.os, h.tape, h.output, Nat.le_trans h.size (by simp), fun i hi hF => (heap_alloc_lt _ _ _ (Nat.lt_of_lt_of_le hi h.size)).trans (h.block i hi hF)⟩
theorem Upd.set {a w : World} {F : Nat → Prop} (h : Upd a w F) (p : Addr) (v : Value) (hp : p.block < a.heap.size → F p.block) : Upd a (w.setCell p v) F :=
  ⟨h.os, h.tape, h.output, Nat.le_trans h.size (by simp), fun i hi hF => (heap_set_ne _ _ _ _ (fun e => hF (by subst e; exact hp hi))).trans (h.block i hi hF)⟩
theorem Upd.obj {a w : World} {F : Nat → Prop} (h : Upd a w F) (b : Nat) (o : Obj) (hp : b < a.heap.size → F b) : Upd a { w with heap := w.heap.setIfInBounds b o } F :=
  ⟨h.os, h.tape, h.output, Nat.le_trans h.size (by simp), fun i hi hF => by
    show (w.heap.setIfInBounds b o)[i]? = _
    rw [Array.getElem?_setIfInBounds, if_neg (fun e => hF (by subst e; exact hp hi))]
    exact h.block i hi hF⟩
theorem Upd.below {w w' : World} {F : Nat → Prop} {B : Nat} (h : Upd w w' F) (hB : B ≤ w.heap.size) (hF : ∀ i, i < B → ¬ F i) : Below B w w' :=
  ⟨h.os, h.tape, h.output, h.size, fun i hi => h.block i (Nat.lt_of_lt_of_le hi hB) (hF i hi)⟩
theorem Upd.ofBelow {w w' : World} {F : Nat → Prop} (h : Below w.heap.size w w') : Upd w w' F := ⟨h.os, h.tape, h.output, h.size, fun k hk _ => h.block k hk⟩
theorem Upd.blk {w w' : World} {F : Nat → Prop} (h : Upd w w' F) {b : Nat} {vs : List Value} {t : TypeId} (hb : Blk w b vs t) (hF : ¬ F b) : Blk w' b vs t := hb.at_ (h.block b hb.lt hF)
theorem Upd.cell {w w' : World} {F : Nat → Prop} (h : Upd w w' F) {p : Addr} (hp : p.block < w.heap.size) (hF : ¬ F p.block) : w'.cell? p = w.cell? p := World.cell?_of_block (w := w) (h.block p.block hp hF)

theorem Upd.frozen {w w' : World} {F : Nat → Prop} (h : Upd w w' F) {p : Addr} (hp : p.block < w.heap.size) (hF : ¬ F p.block) : w'.frozen? p = w.frozen? p := World.frozen?_of_block (w := w) (h.block p.block hp hF)

/-- Block m is a map of these keys and values, in the order in which they came. -/
def MapIs (w : World) (m : Nat) (L : List (Value × Value)) : Prop := ∃ es clock, w.heap[m]? = some (.map es clock) ∧ es.toList.map (fun e => (e.key, e.val)) = L
theorem MapIs.lt {w : World} {m : Nat} {L : List (Value × Value)} (h : MapIs w m L) : m < w.heap.size := by
  obtain ⟨es, c, hb, _⟩ := h
  exact heap_lt hb
theorem MapIs.at_ {w w' : World} {m : Nat} {L : List (Value × Value)} (h : MapIs w m L) (he : w'.heap[m]? = w.heap[m]?) : MapIs w' m L := by
  obtain ⟨es, c, hb, hl⟩ := h
  exact ⟨es, c, he.trans hb, hl⟩
theorem MapIs.new (w : World) : MapIs (w.alloc (.map #[] 0)) w.heap.size [] := ⟨#[], 0, heap_new w _, rfl⟩
theorem MapIs.new' {w : World} {m : Nat} (h : m = w.heap.size) : MapIs (w.alloc (.map #[] 0)) m [] := h ▸ MapIs.new w
theorem Blk.new' {w : World} {b : Nat} {vs : List Value} {t : TypeId} (h : b = w.heap.size) : Blk (w.alloc (.cells vs.toArray t)) b vs t := h ▸ Blk.new w vs t
theorem MapIs.ne {w : World} {m b : Nat} {L : List (Value × Value)} {vs : List Value} {t : TypeId} (h : MapIs w m L) (hb : Blk w b vs t) : m ≠ b := by
  rintro rfl
  obtain ⟨es, c, h1, _⟩ := h
  unfold Blk at hb
  rw [hb] at h1
  cases h1

theorem heap_put {w : World} {b : Nat} (h : b < w.heap.size) (o : Obj) : ({ w with heap := w.heap.setIfInBounds b o } : World).heap[b]? = some o := by
  show (w.heap.setIfInBounds b o)[b]? = _
  rw [Array.getElem?_setIfInBounds, if_pos rfl, if_pos h]

/-- The value at an integer's key, with its place. -/
def findI (k : Int) : List (Value × Value) → Nat → Option (Nat × Value)
  | [], _ => none
  | (.int _ a, v) :: r, i => if k = a then some (i, v) else findI k r (i + 1)
  | _ :: r, i => findI k r (i + 1)

def IntKeys (q : IntKind) (L : List (Value × Value)) : Prop := ∀ x ∈ L, ∃ a, x.1 = .int q a

theorem findNow_int {q : IntKind} {k : Int} : ∀ (es : List MapEntry) (i : Nat), IntKeys q (es.map fun e => (e.key, e.val)) →
    Instr.findNow (.int q) (.int q k) es i = some (findI k (es.map fun e => (e.key, e.val)) i)
  | [], _, _ => rfl
  | e :: es, i, h => by
    obtain ⟨a, ha⟩ := h (e.key, e.val) (by simp)
    have ih := findNow_int (q := q) (k := k) es (i + 1) (fun x hx => h x (by simp at hx ⊢; exact Or.inr hx))
    simp only at ha
    simp only [Instr.findNow, List.map_cons, ha, findI, Instr.sameNow, if_true]
    by_cases hk : k = a
    · subst hk; simp
    · have hb : (k == a) = false := beq_eq_false_iff_ne.2 hk
      rw [hb, if_neg hk]; exact ih

theorem run_checkKey_int {P : Program} {w : World} {kt : TypeId} {q : IntKind} (hk : P.underlying kt = some (.int q)) (b : Bool) (n : Nat) (k : Int) :
    (Instr.checkKey b (n + 1) kt (.int q k)).run P w = .ok () w := by
  simp [Instr.checkKey, run_underlying hk, Result.andThen]

theorem run_findKey_int {P : Program} {w : World} {kt : TypeId} {q : IntKind} (hk : P.underlying kt = some (.int q)) {es : List MapEntry} (hi : IntKeys q (es.map fun e => (e.key, e.val))) (k : Int) :
    (Instr.findKey kt (.int q k) es).run P w = .ok (findI k (es.map fun e => (e.key, e.val)) 0) w := by
  simp [Instr.findKey, run_underlying hk, Result.andThen, findNow_int es 0 hi]

theorem run_lookup_ok {P : Program} {w : World} {t kt et : TypeId} {q : IntKind} (ht : P.underlying t = some (.map kt et)) (hk : P.underlying kt = some (.int q)) {m : Nat} {L : List (Value × Value)} (hm : MapIs w m L) (hi : IntKeys q L)
    {k : Int} {i : Nat} {v : Value} (hf : findI k L 0 = some (i, v)) : (Instr.lookup t (.map (some m)) (.int q k) true).run P w = .ok (.tuple #[v, .bool true]) w := by
  obtain ⟨es, c, hb, rfl⟩ := hm
  simp [Instr.lookup, run_underlying ht, MapKept.run_getObj_map hb, run_checkKey_int hk, run_findKey_int hk hi, hf, Result.andThen]

theorem run_lookup_none {P : Program} {w : World} {t kt et : TypeId} {q : IntKind} (ht : P.underlying t = some (.map kt et)) (hk : P.underlying kt = some (.int q)) {m : Nat} {L : List (Value × Value)} (hm : MapIs w m L) (hi : IntKeys q L)
    {z : Value} (hz : (zeroValue et).run P w = .ok z w) {k : Int} (hf : findI k L 0 = none) : (Instr.lookup t (.map (some m)) (.int q k) true).run P w = .ok (.tuple #[z, .bool false]) w := by
  obtain ⟨es, c, hb, rfl⟩ := hm
  simp [Instr.lookup, run_underlying ht, MapKept.run_getObj_map hb, run_checkKey_int hk, run_findKey_int hk hi, hf, hz, Result.andThen]

theorem run_len_mapIs {P : Program} {w : World} {t kt et ty : TypeId} (ht : P.underlying t = some (.map kt et)) {m : Nat} {L : List (Value × Value)} (hm : MapIs w m L) :
    (Builtin.len_ #[t] ty #[.map (some m)]).run P w = .ok (.int .i64 L.length) w := by
  obtain ⟨es, c, hb, rfl⟩ := hm
  simp [Builtin.len_, run_underlying ht, MapKept.run_getObj_map hb, Result.andThen, goInt]

/-- A key that is not there comes behind all. -/
theorem run_mapUpdate_push {P : Program} {w : World} {t kt et : TypeId} {q : IntKind} (ht : P.underlying t = some (.map kt et)) (hk : P.underlying kt = some (.int q)) {m : Nat} {L : List (Value × Value)} (hm : MapIs w m L) (hi : IntKeys q L)
    {k : Int} (hf : findI k L 0 = none) (v : Value) : ∃ w', (Instr.mapUpdate t (.map (some m)) (.int q k) v).run P w = .ok () w' ∧ MapIs w' m (L ++ [(.int q k, v)]) ∧ Upd w w' (· = m) := by
  obtain ⟨es, c, hb, rfl⟩ := hm
  refine ⟨_, by simp only [Instr.mapUpdate, Sem.run_bind, run_underlying ht, MapKept.run_getObj_map hb, run_checkKey_int hk, run_findKey_int hk hi, hf, MapKept.run_setObj_map _ hb, Result.andThen], ⟨es.push ⟨.int q k, v, c⟩, c + 1, heap_put (heap_lt hb) _, ?_⟩, (Upd.refl w _).obj m _ (fun _ => rfl)⟩
  simp

theorem findI_some {k : Int} : ∀ (L : List (Value × Value)) (i j : Nat) (v : Value), findI k L i = some (j, v) → ∃ q, i ≤ j ∧ L[j - i]? = some (.int q k, v)
  | [], i, j, v, h => by simp [findI] at h
  | (a, b) :: r, i, j, v, h => by
    have next : findI k r (i + 1) = some (j, v) → ∃ q, i ≤ j ∧ ((a, b) :: r)[j - i]? = some (.int q k, v) := fun h => by
      obtain ⟨q, h1, h2⟩ := findI_some r (i + 1) j v h
      refine ⟨q, by omega, ?_⟩
      rw [show j - i = (j - (i + 1)) + 1 by omega]
      simpa using h2
    cases a with
    | int q n =>
      simp only [findI] at h
      split at h
      · rename_i e
        subst e
        simp at h
        obtain ⟨rfl, rfl⟩ := h
        exact ⟨q, Nat.le_refl _, by simp⟩
      · exact next h
    | _ => exact next h

theorem map_eraseIdx' {α β : Type} (f : α → β) : ∀ (l : List α) (i : Nat), (l.eraseIdx i).map f = (l.map f).eraseIdx i
  | [], _ => rfl
  | _ :: _, 0 => rfl
  | a :: l, i + 1 => by simp [map_eraseIdx' f l i]

theorem perm_eraseIdx {α : Type} : ∀ (l : List α) (i : Nat) (h : i < l.length), (l[i] :: l.eraseIdx i).Perm l
  | [], _, h => absurd h (by simp)
  | a :: l, 0, _ => by simp
  | a :: l, i + 1, h => by
    have ih := perm_eraseIdx l i (by simpa using h)
    rw [List.getElem_cons_succ, List.eraseIdx_cons_succ]
    exact (List.Perm.swap _ _ _).trans (ih.cons a)

/-- delete of a key that is there. -/
theorem run_delete_hit {P : Program} {w : World} {t kt et ty k2 : TypeId} {q : IntKind} (ht : P.underlying t = some (.map kt et)) (hk : P.underlying kt = some (.int q)) {m : Nat} {L : List (Value × Value)} (hm : MapIs w m L) (hi : IntKeys q L)
    {k : Int} {i : Nat} {v : Value} (hf : findI k L 0 = some (i, v)) : ∃ w', (Builtin.delete_ #[t, k2] ty #[.map (some m), .int q k]).run P w = .ok (.tuple #[]) w' ∧ MapIs w' m (L.eraseIdx i) ∧ Upd w w' (· = m) := by
  obtain ⟨es, c, hb, rfl⟩ := hm
  refine ⟨_, by simp only [Builtin.delete_, List.getElem?_toArray, List.getElem?_cons_zero, List.getElem?_cons_succ, Sem.run_bind, run_underlying ht, MapKept.run_getObj_map hb, run_checkKey_int hk, run_findKey_int hk hi, hf, MapKept.run_setObj_map _ hb, Result.andThen]; rfl, ⟨es.eraseIdxIfInBounds i, c, heap_put (heap_lt hb) _, ?_⟩, (Upd.refl w _).obj m _ (fun _ => rfl)⟩
  rw [Array.toList_eraseIdxIfInBounds, map_eraseIdx']

theorem findI_none {k : Int} : ∀ (L : List (Value × Value)) (i : Nat), (∀ x ∈ L, ∀ q, x.1 ≠ .int q k) → findI k L i = none
  | [], _, _ => rfl
  | (a, b) :: r, i, h => by
    have ih := findI_none r (i + 1) (fun x hx => h x (by simp [hx]))
    cases a with
    | int q n =>
      have hne : k ≠ n := fun e => h (.int q n, b) (by simp) q (by rw [e])
      simp only [findI, if_neg hne, ih]
    | _ => exact ih

theorem findI_mem {q : IntKind} {k : Int} {v : Value} : ∀ (L : List (Value × Value)) (i : Nat), (Value.int q k, v) ∈ L → (L.map (·.1)).Nodup → IntKeys q L → ∃ j, findI k L i = some (j, v)
  | [], _, h, _, _ => by simp at h
  | (a, b) :: r, i, h, hn, hi => by
    obtain ⟨c, hc⟩ := hi (a, b) (by simp)
    simp only at hc
    subst hc
    simp only [List.map_cons, List.nodup_cons] at hn
    by_cases hk : k = c
    · subst hk
      rcases List.mem_cons.1 h with h | h
      · cases h
        exact ⟨i, by simp [findI]⟩
      · exact absurd (List.mem_map.2 ⟨_, h, rfl⟩) hn.1
    · rcases List.mem_cons.1 h with h | h
      · cases h
        exact absurd rfl hk
      · obtain ⟨j, hj⟩ := findI_mem r (i + 1) h hn.2 (fun x hx => hi x (by simp [hx]))
        exact ⟨j, by simp only [findI, if_neg hk, hj]⟩

/-- A region that reads in an open order, then goes on in one order: its world under the name of a draw. -/
theorem stillT {P : Program} {id : Nat} {Q : Exit → Act → World → Prop} {a : Act} {w : World} {l : List Oper} (n : Nat) (hm : P.follows .mixedOrders = true) (hB : Region.lexTailB .any l.toArray n = true)
    (h : wpStill P l.toArray w.drew (fun a' => wpList P l.toArray Q (l.drop n) a' w.drew) (l.take n) a) : (Code.region id l.toArray true).wp P Q a w := wp_region_still_tail n hm hB h
theorem stillA {P : Program} {id : Nat} {Q : Exit → Act → World → Prop} {a : Act} {w : World} {l : List Oper} (hm : P.follows .mixedOrders = true) (hB : Region.lexB .any l.toArray = true)
    (h : wpStill P l.toArray w.drew (fun a' => Q .normal a' w.drew) l a) : (Code.region id l.toArray true).wp P Q a w := wp_region_still_lit hm hB h

section laws
variable {P : Program} {ops : Array Oper} {rest : List Oper} {o : Oper} {a : Act} {Q : Exit → Act → World → Prop} {w : World}

theorem wpl_insert (hg : o.guard = none) {m x v : Operand} {t : TypeId} (hop : o.op = .insert t m x v ∨ o.op = .mapUpdate t m x v) {kt et : TypeId} {q : IntKind} {mb : Nat} {k : Int} {val : Value} {L : List (Value × Value)}
    (ht : P.underlying t = some (.map kt et)) (hk : P.underlying kt = some (.int q)) (hm : a.eval m = .map (some mb)) (hx : a.eval x = .int q k) (hv : a.eval v = val)
    (hM : MapIs w mb L) (hi : IntKeys q L) (hf : findI k L 0 = none) (hK : ∀ w', MapIs w' mb (L ++ [(.int q k, val)]) → Upd w w' (· = mb) → wpList P ops Q rest (a.put o.dst undef) w') :
    wpList P ops Q (o :: rest) a w := by
  refine wpList_plain hg fun K' hK' => ?_
  obtain ⟨w', hrun, r1, r2⟩ := run_mapUpdate_push ht hk hM hi hf val
  unfold Oper.wp
  rcases hop with hop | hop <;> simp [execOp, hop, hm, hx, hv, hrun, Result.andThen] <;> exact hK' _ _ (hK w' r1 r2)

theorem wpl_lookup (hg : o.guard = none) {m x : Operand} {t : TypeId} (hop : o.op = .lookup t m x true) {kt et : TypeId} {q : IntKind} {mb : Nat} {k : Int} {L : List (Value × Value)}
    (ht : P.underlying t = some (.map kt et)) (hk : P.underlying kt = some (.int q)) (hm : a.eval m = .map (some mb)) (hx : a.eval x = .int q k)
    (hM : MapIs w mb L) (hi : IntKeys q L) {z : Value} (hz : (zeroValue et).run P w = .ok z w) (v : Value) (b : Bool) (hv : (∃ i, findI k L 0 = some (i, v) ∧ b = true) ∨ (findI k L 0 = none ∧ v = z ∧ b = false))
    (hK : wpList P ops Q rest (a.put o.dst (.tuple #[v, .bool b])) w) :
    wpList P ops Q (o :: rest) a w := by
  refine wpList_plain hg fun K' hK' => ?_
  unfold Oper.wp
  rcases hv with ⟨i, hf, rfl⟩ | ⟨hf, rfl, rfl⟩
  · have hrun := run_lookup_ok ht hk hM hi hf
    simp [execOp, hop, hm, hx, hrun, Result.andThen]; exact hK' _ _ hK
  · have hrun := run_lookup_none ht hk hM hi hz hf
    simp [execOp, hop, hm, hx, hrun, Result.andThen]; exact hK' _ _ hK

theorem wpl_delete (hg : o.guard = none) {m x : Operand} {t k2 : TypeId} (hop : o.op = .call { callee := .builtin .delete, args := #[m, x], argTypes := #[t, k2] }) {kt et : TypeId} {q : IntKind} {mb : Nat} {k : Int} {L : List (Value × Value)}
    (ht : P.underlying t = some (.map kt et)) (hk : P.underlying kt = some (.int q)) (hm : a.eval m = .map (some mb)) (hx : a.eval x = .int q k)
    (hM : MapIs w mb L) (hi : IntKeys q L) {i : Nat} {v : Value} (hf : findI k L 0 = some (i, v)) (hK : ∀ w', MapIs w' mb (L.eraseIdx i) → Upd w w' (· = mb) → wpList P ops Q rest (a.put o.dst (.tuple #[])) w') :
    wpList P ops Q (o :: rest) a w := by
  refine wpList_plain hg fun K' hK' => ?_
  obtain ⟨w', hrun, r1, r2⟩ := run_delete_hit (ty := o.type) (k2 := k2) ht hk hM hi hf
  unfold Oper.wp
  simp [execOp, hop, hm, hx, hrun, resolve, invoke, builtin, Result.andThen]
  exact hK' _ _ (hK w' r1 r2)

end laws

end Go.Proofs.YtemmkobgpciflaaDoor
