/- The list of tags in memory, and the walks of its inner functions. -/
import Derived.Test.YtnhgeoccknhiiaaProg
import Derived.Test.YtnhgeoccknhiiaaHeap
import Derived.Deep.LoopGhost
import Derived.Deep.QuietTactic
import Derived.BigQuiet
import Derived.Outline
import Derived.Deep.DeepCutAuto
namespace Go.Proofs.Ytnhgeoccknhiiaa
open Go.RowKit

/-- A tag that is there: its name, its label, its block. -/
structure Nd where
  name : Nat
  label : Nat
  blk : Nat

@[reducible] def ptrTo (b : Nat) : Value := .pointer (some ⟨b, 0, none⟩)
def ptrN : Option Nd → Value
  | none => .pointer none
  | some n => ptrTo n.blk

def ndCells (n : Nd) (p x : Option Nd) : List Value := [.int .u64 n.name, .int .u64 n.label, ptrN p, ptrN x]

/-- The nodes, each between its neighbours. -/
def Nodes (w : World) (N : List Nd) : Prop :=
  ∀ i n, N[i]? = some n → Blk w n.blk (ndCells n (if i = 0 then none else N[i - 1]?) N[i + 1]?) 130

def Names (N : List Nd) : Prop := (N.map (·.name)).Nodup

/-- A list that has begun: its head stands first. -/
structure TagsAt (w : World) (p m : Nat) (hd : Nd) (N : List Nd) (given writes : Nat) : Prop where
  top : Blk w p [.map (some m), ptrTo hd.blk, .int .u64 given, .int .u64 writes] 73
  nodes : Nodes w (hd :: N)
  names : Names (hd :: N)
  map : ∃ L, MapIs w m L ∧ L.Perm ((hd :: N).map fun n => (.int .u64 n.name, ptrTo n.blk))
  zero : hd.name = 0 ∧ hd.label = 0

/-- A list on which no call was made. -/
def TagsNew (w : World) (p : Nat) : Prop := Blk w p [.map none, .pointer none, .int .u64 0, .int .u64 0] 73

theorem past_last (x : Nd) (p : Option Nd) (w : World) (hx : Blk w x.blk (ndCells x p none) 130) :
    Calls Try.prog 64 #[ptrTo x.blk] w fun e w' => e = .returned (.int .u64 4611686018427387904) ∧ w = w' := by
  have h3 : w.cell? ⟨x.blk, 3, none⟩ = some (.pointer none) := hx.cell 3
  unfold ptrTo
  go_enter Try.func64, Try.ntmps64
  go_wp2
  go_ret
  exact ⟨rfl, rfl⟩

theorem past_next (x y : Nd) (p q : Option Nd) (w : World) (hx : Blk w x.blk (ndCells x p (some y)) 130) (hy : Blk w y.blk (ndCells y (some x) q) 130) :
    Calls Try.prog 64 #[ptrTo x.blk] w fun e w' => e = .returned (.int .u64 y.label) ∧ w = w' := by
  have h3 : w.cell? ⟨x.blk, 3, none⟩ = some (.pointer (some ⟨y.blk, 0, none⟩)) := hx.cell 3
  have h1 : w.cell? ⟨y.blk, 1, none⟩ = some (.int .u64 y.label) := hy.cell 1
  unfold ptrTo
  go_enter Try.func64, Try.ntmps64
  go_wp2
  go_ret
  exact ⟨rfl, rfl⟩

theorem write_same (p : Nat) (x : Nat) (vs : List Value) (lab : Nat) (w : World) (hx : Blk w x vs 130) (h1 : vs[1]? = some (.int .u64 lab)) :
    Calls Try.prog 65 #[ptrTo p, ptrTo x, .int .u64 lab] w fun e w' => e = .returned (.tuple #[]) ∧ w = w' := by
  have h1 : w.cell? ⟨x, 1, none⟩ = some (.int .u64 lab) := (hx.cell 1).trans h1
  have hl : ((lab : Int) != lab) = false := by simp
  unfold ptrTo
  go_enter Try.func65, Try.ntmps65
  go_wp2
  go_end0
  exact ⟨rfl, rfl⟩

theorem write_other (p : Nat) (x : Nat) (vs us : List Value) (old lab wr : Nat) (w : World) (hx : Blk w x vs 130) (h1 : vs[1]? = some (.int .u64 old)) (hp : Blk w p us 73) (h3 : us[3]? = some (.int .u64 wr))
    (hne : old ≠ lab) (hwr : wr + 1 < 18446744073709551616) :
    Calls Try.prog 65 #[ptrTo p, ptrTo x, .int .u64 lab] w fun e w' => e = .returned (.tuple #[]) ∧ (w.setCell ⟨x, 1, none⟩ (.int .u64 lab)).setCell ⟨p, 3, none⟩ (.int .u64 (wr + 1 : Nat)) = w' := by
  have h1 : w.cell? ⟨x, 1, none⟩ = some (.int .u64 old) := (hx.cell 1).trans h1
  have h3 : w.cell? ⟨p, 3, none⟩ = some (.int .u64 wr) := (hp.cell 3).trans h3
  have f1 := hx.free 1
  have f3 := hp.free 3
  have ne : p ≠ x := hp.ty hx (by decide)
  have hl : ((old : Int) != lab) = true := by rw [bne_iff_ne]; omega
  clear hx hp hne
  unfold ptrTo
  go_enter Try.func65, Try.ntmps65
  go_wp2
  go_end0
  refine ⟨rfl, ?_⟩
  push_cast
  rfl

theorem TagsAt.same {w w' : World} {p m : Nat} {hd : Nd} {N : List Nd} {g wr : Nat} (h : TagsAt w p m hd N g wr) (he : w'.heap = w.heap) : TagsAt w' p m hd N g wr := by
  obtain ⟨h1, h2, h3, ⟨L, h4, h5⟩, h6⟩ := h
  exact ⟨h1.at_ (by rw [he]), fun i n hi => (h2 i n hi).at_ (by rw [he]), h3, ⟨L, h4.at_ (by rw [he]), h5⟩, h6⟩

/-- The list behind a call that begins it. -/
def Begun (p : Nat) (N : List Nd) (g wr : Nat) (w w' : World) (m : Nat) (hd : Nd) : Prop :=
  TagsAt w' p m hd N g wr ∧ Upd w w' (· = p) ∧ (w'.heap = w.heap ∨ (TagsNew w p ∧ N = [] ∧ w.heap.size ≤ m ∧ w.heap.size ≤ hd.blk))

theorem begin_new (p : Nat) (w : World) (hn : TagsNew w p) :
    Calls Try.prog 67 #[ptrTo p] w fun e w' => e = .returned (.tuple #[]) ∧ ∃ m hd, Begun p [] 0 0 w w' m hd := by
  have h1 : w.cell? ⟨p, 1, none⟩ = some (.pointer none) := hn.cell 1
  have hlt := hn.lt
  have f0 := hn.free 0
  have f1 := hn.free 1
  have h0 : w.cell? ⟨p, 0, none⟩ = some (.map none) := hn.cell 0
  have hmm := @run_makeMap Try.prog
  have HN := Lib.hid hn
  clear hn
  unfold ptrTo
  go_enter Try.func67, Try.ntmps67
  set_option maxRecDepth 10000 in
  go_wp2_with (refine wpl_insert rfl (Or.inl rfl) Try.underlying69 Try.underlying74 rfl rfl (val := .pointer (some ⟨w.heap.size, 0, none⟩)) rfl (L := []) (by first | exact MapIs.new' (by simp)) (fun _ h => nomatch h) rfl ?_; intro w1 hM1 hU1; have hc1 : w1.cell? ⟨p, 0, none⟩ = some (.map none) := (hU1.cell (by simp; omega) (by simp; omega)).trans (by go_simp); have hf1 : w1.frozen? ⟨p, 0, none⟩ = false := (hU1.frozen (by simp; omega) (by simp; omega)).trans (by go_simp))
  go_end0
  have B0 := (((HN.out.set 1 (.pointer (some ⟨w.heap.size, 0, none⟩))).alloc (.cells #[.int .u64 0, .int .u64 0, .pointer none, .pointer none] 130)).alloc (.map #[] 0))
  have B1 := (Blk.new' (w := w.setCell ⟨p, 1, none⟩ (.pointer (some ⟨w.heap.size, 0, none⟩))) (b := w.heap.size) (vs := [.int .u64 0, .int .u64 0, .pointer none, .pointer none]) (t := 130) (by simp)).alloc (.map #[] 0)
  have B0' := hU1.blk B0 (by show ¬ (p = _); omega)
  have B1' := hU1.blk B1 (by show ¬ (_ = _); omega)
  refine ⟨rfl, w.heap.size + 1, ⟨0, 0, w.heap.size⟩, ⟨B0'.set 0 _, ?_, by simp [Names], ⟨_, hM1.at_ (heap_set_ne _ _ _ _ (by show _ ≠ p; omega)), by simp [ptrTo]⟩, rfl, rfl⟩, ?_, Or.inr ⟨HN.out, rfl, Nat.le_succ _, Nat.le_refl _⟩⟩
  · intro i n hi
    cases i with
    | zero =>
      simp at hi
      subst hi
      exact B1'.far _ _ (by show _ ≠ p; omega)
    | succ i => simp at hi
  · refine Upd.set (Upd.trans (F := (· = p)) ?_ hU1 (fun i hi e => by have e' : i = w.heap.size + 1 := e; omega)) _ _ (fun _ => rfl)
    exact (((Upd.refl w (· = p)).set _ _ (fun _ => rfl)).alloc _).alloc _

theorem begin_old (p m : Nat) (hd : Nd) (N : List Nd) (g wr : Nat) (w : World) (h : TagsAt w p m hd N g wr) :
    Calls Try.prog 67 #[ptrTo p] w fun e w' => e = .returned (.tuple #[]) ∧ w = w' := by
  have h1 : w.cell? ⟨p, 1, none⟩ = some (.pointer (some ⟨hd.blk, 0, none⟩)) := h.top.cell 1
  clear h
  unfold ptrTo
  go_enter Try.func67, Try.ntmps67
  go_wp2
  go_end0
  exact ⟨rfl, rfl⟩

theorem Begun.drewN {p : Nat} {N : List Nd} {g wr : Nat} {w w' : World} {m : Nat} {hd : Nd} (h : Begun p N g wr w w' m hd) (n : Nat) : Begun p N g wr w (w'.drewN n) m hd :=
  ⟨h.1.same rfl, h.2.1.drewN n, h.2.2⟩

/-- A list, begun or not. -/
def TagsIs (w : World) (p : Nat) (N : List Nd) (g wr : Nat) : Prop := (TagsNew w p ∧ N = [] ∧ g = 0 ∧ wr = 0) ∨ ∃ m hd, TagsAt w p m hd N g wr

def BeginPost (p : Nat) (N : List Nd) (g wr : Nat) (w w' : World) : Prop := ∃ m hd, Begun p N g wr w w' m hd

theorem begin_any (p : Nat) (N : List Nd) (g wr : Nat) (w : World) (h : TagsIs w p N g wr) :
    Calls Try.prog 67 #[ptrTo p] w fun e w' => e = .returned (.tuple #[]) ∧ BeginPost p N g wr w w' := by
  rcases h with ⟨h, rfl, rfl, rfl⟩ | ⟨m, hd, h⟩
  · exact begin_new p w h
  · exact (begin_old p m hd N g wr w h).mono fun e w' ⟨he, hw⟩ => ⟨he, by subst hw; exact ⟨m, hd, h, Upd.refl _ _, Or.inl rfl⟩⟩

theorem TagsAt.keys {w : World} {p m : Nat} {hd : Nd} {N : List Nd} {g wr : Nat} (h : TagsAt w p m hd N g wr) {L : List (Value × Value)} (hL : L.Perm ((hd :: N).map fun n => (.int .u64 n.name, ptrTo n.blk))) :
    IntKeys .u64 L ∧ (L.map (·.1)).Nodup := by
  refine ⟨fun x hx => ?_, ?_⟩
  · obtain ⟨n, _, rfl⟩ := List.mem_map.1 (hL.mem_iff.1 hx)
    exact ⟨_, rfl⟩
  · refine (hL.map (·.1)).nodup_iff.2 ?_
    have := h.names
    unfold Names at this
    rw [List.map_map]
    have e : (fun n : Nd => Value.int .u64 (n.name : Int)) = (fun k : Nat => Value.int .u64 (k : Int)) ∘ (·.name) := rfl
    show ((hd :: N).map (fun n : Nd => Value.int .u64 (n.name : Int))).Nodup
    rw [e, ← List.map_map]
    exact List.Pairwise.map _ (fun a b hab hc => hab (by simp at hc; omega)) this

def FindPost (p t : Nat) (N : List Nd) (g wr : Nat) (w : World) (e : Ending) (w' : World) : Prop :=
  ∃ m hd, Begun p N g wr w w' m hd ∧
    ((∃ n ∈ hd :: N, n.name = t ∧ e = .returned (.tuple #[ptrTo n.blk, .int .i64 0])) ∨ ((∀ n ∈ hd :: N, n.name ≠ t) ∧ e = .returned (.tuple #[.pointer none, .int .i64 10])))

theorem zero_ptag (w : World) : (zeroValue 70).run Try.prog w = .ok (.pointer none) w := by kernel_rfl

theorem find_any (p t : Nat) (N : List Nd) (g wr : Nat) (w : World) (h : TagsIs w p N g wr) :
    Calls Try.prog 63 #[ptrTo p, .int .u64 t] w (FindPost p t N g wr w) := by
  have HB := Lib.hid (begin_any p N g wr w h)
  clear h
  unfold ptrTo at *
  go_enter Try.func63, Try.ntmps63
  go_wp2_with fail
  refine HB.out.mono ?_
  rintro e w1 ⟨rfl, m, hd, hB0⟩
  have HB0 := Lib.hid hB0
  obtain ⟨hT, hU, hFr⟩ := hB0
  clear hU hFr
  have h0 : w1.cell? ⟨p, 0, none⟩ = some (.map (some m)) := hT.top.cell 0
  obtain ⟨L, hM, hL⟩ := hT.map
  obtain ⟨hI, hD⟩ := hT.keys hL
  by_cases hx : ∃ n ∈ hd :: N, n.name = t
  · obtain ⟨n, hn, hnt⟩ := hx
    obtain ⟨j, hj⟩ := findI_mem L 0 (hL.mem_iff.2 (List.mem_map.2 ⟨n, hn, rfl⟩)) hD hI
    have HM := Lib.hid hM
    have HI := Lib.hid hI
    have HJ := Lib.hid hj
    subst hnt
    clear hT hM hI hD hj hL HB
    unfold ptrTo at *
    go_wp2_with (refine wpl_lookup rfl rfl Try.underlying69 Try.underlying74 rfl rfl HM.out HI.out (zero_ptag _) (.pointer (some ⟨n.blk, 0, none⟩)) true (Or.inl ⟨j, HJ.out, rfl⟩) ?_)
    go_ret2
    exact ⟨m, hd, HB0.out, Or.inl ⟨n, hn, rfl, rfl⟩⟩
  · have hx' : ∀ n ∈ hd :: N, n.name ≠ t := fun n hn e => hx ⟨n, hn, e⟩
    have hj : findI t L 0 = none := findI_none L 0 (fun x hx q e => by
      obtain ⟨n, hn, rfl⟩ := List.mem_map.1 (hL.mem_iff.1 hx)
      simp at e
      exact hx' n hn (by omega))
    have HM := Lib.hid hM
    have HI := Lib.hid hI
    have HJ := Lib.hid hj
    have HX := Lib.hid hx'
    clear hT hM hI hD hj hL HB hx hx'
    go_wp2_with (refine wpl_lookup rfl rfl Try.underlying69 Try.underlying74 rfl rfl HM.out HI.out (zero_ptag _) (.pointer none) false (Or.inr ⟨HJ.out, rfl, rfl⟩) ?_)
    go_ret2
    exact ⟨m, hd, HB0.out, Or.inr ⟨HX.out, rfl⟩⟩

end Go.Proofs.Ytnhgeoccknhiiaa
