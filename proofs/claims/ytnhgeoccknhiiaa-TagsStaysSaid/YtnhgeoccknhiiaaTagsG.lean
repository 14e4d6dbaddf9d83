/- What a list of tags promises to those that call it: answers by places, and which blocks may change. -/
import Derived.Test.YtnhgeoccknhiiaaTagsF
import Derived.Test.YtnhgeoccknhiiaaTagsD
namespace Go.Proofs.Ytnhgeoccknhiiaa
open Go.RowKit

/-- A list all of whose blocks lie from B on. -/
def TagsIn (B : Nat) (w : World) (p : Nat) (N : List Nd) (g nw : Nat) : Prop :=
  B ≤ p ∧ ((TagsNew w p ∧ N = [] ∧ g = 0 ∧ nw = 0) ∨ ∃ m hd, TagsAt w p m hd N g nw ∧ ∀ b, Foot p m (hd :: N) b → B ≤ b)
theorem TagsIn.is {B : Nat} {w : World} {p : Nat} {N : List Nd} {g nw : Nat} (h : TagsIn B w p N g nw) : TagsIs w p N g nw := by
  obtain ⟨_, h | ⟨m, hd, h, _⟩⟩ := h
  · exact Or.inl h
  · exact Or.inr ⟨m, hd, h⟩

def TagBlk (w : World) (b : Nat) : Prop := (∃ vs, Blk w b vs 73) ∨ (∃ vs, Blk w b vs 130) ∨ (∃ L, MapIs w b L)
def TF (B : Nat) (w : World) (p b : Nat) : Prop := B ≤ b ∧ TagBlk w b ∧ (TagsNew w p → b = p)

theorem TagsAt.not {w : World} {p m : Nat} {hd : Nd} {N : List Nd} {g nw : Nat} (h : TagsAt w p m hd N g nw) : ¬ TagsNew w p := fun hn => absurd (Blk.eq hn h.top) (by simp [ptrTo])

theorem TagsIs.top {w : World} {p : Nat} {N : List Nd} {g nw : Nat} (h : TagsIs w p N g nw) : ∃ vs, Blk w p vs 73 := by
  rcases h with ⟨h, _⟩ | ⟨m, hd, h⟩
  · exact ⟨_, h⟩
  · exact ⟨_, h.top⟩
theorem TagsIn.lt {B : Nat} {w : World} {p : Nat} {N : List Nd} {g nw : Nat} (h : TagsIn B w p N g nw) : B ≤ w.heap.size := by
  obtain ⟨vs, ht⟩ := h.is.top
  have := ht.lt
  have := h.1
  omega

theorem Begun.tf {B p : Nat} {N : List Nd} {g nw : Nat} {w w1 : World} {m : Nat} {hd : Nd} (h : Begun p N g nw w w1 m hd) (ht : TagsIn B w p N g nw) : Upd w w1 (TF B w p) :=
  h.2.1.mono (fun i _ e => by have e' : i = p := e; subst e'; exact ⟨ht.1, Or.inl ht.is.top, fun _ => rfl⟩)

theorem Begun.foot {B p : Nat} {N : List Nd} {g nw : Nat} {w w1 : World} {m : Nat} {hd : Nd} (h : Begun p N g nw w w1 m hd) (ht : TagsIn B w p N g nw) {b : Nat} (hf : Foot p m (hd :: N) b) : B ≤ b ∧ (b < w.heap.size → TF B w p b) := by
  have hlt := ht.lt
  obtain ⟨hT, hU, hS⟩ := h
  rcases hS with he | ⟨hn, rfl, hm, hh⟩
  · have hT' : TagsAt w p m hd N g nw := hT.same he.symm
    have hB : B ≤ b := by
      obtain ⟨_, ⟨h, _⟩ | ⟨m0, hd0, h0, hB⟩⟩ := ht
      · exact absurd h hT'.not
      · have e := Blk.eq hT'.top h0.top
        simp [ptrTo] at e
        refine hB b ?_
        rcases hf with h | h | ⟨n, hn, h⟩
        · exact Or.inl h
        · exact Or.inr (Or.inl (by omega))
        · refine Or.inr (Or.inr ?_)
          rcases List.mem_cons.1 hn with rfl | hn
          · exact ⟨hd0, List.mem_cons_self, by omega⟩
          · exact ⟨n, List.mem_cons_of_mem _ hn, h⟩
    refine ⟨hB, fun _ => ⟨hB, ?_, fun hn => absurd hn hT'.not⟩⟩
    rcases hf with rfl | rfl | ⟨n, hn, rfl⟩
    · exact Or.inl ⟨_, hT'.top⟩
    · obtain ⟨L, hM, _⟩ := hT'.map
      exact Or.inr (Or.inr ⟨L, hM⟩)
    · obtain ⟨i, hi⟩ := List.mem_iff_getElem?.1 hn
      exact Or.inr (Or.inl ⟨_, hT'.nodes i n hi⟩)
  · rcases hf with rfl | rfl | ⟨n, hn', rfl⟩
    · exact ⟨ht.1, fun _ => ⟨ht.1, Or.inl ht.is.top, fun _ => rfl⟩⟩
    · exact ⟨by omega, fun h => by omega⟩
    · simp at hn'
      subst hn'
      exact ⟨by omega, fun h => by omega⟩

theorem Begun.is {B p : Nat} {N : List Nd} {g nw : Nat} {w w1 : World} {m : Nat} {hd : Nd} (h : Begun p N g nw w w1 m hd) (ht : TagsIn B w p N g nw) : TagsIn B w1 p N g nw := ⟨ht.1, Or.inr ⟨m, hd, h.1, fun b hf => (h.foot ht hf).1⟩⟩

/-- A further tag at place k: its label lies in the middle of the gap, or all labels are spread. -/
def InsOf (N : List Nd) (k g nw : Nat) (N' : List Nd) (nw' : Nat) : Prop :=
  ∃ b, (2 ≤ gapAt N k ∧ N' = N.insertIdx k ⟨g + 1, labAt N k + gapAt N k / 2, b⟩ ∧ nw' = nw + 1) ∨
     (gapAt N k < 2 ∧ N' = relab (stepOf (N.length + 1)) (N.length + 1) (N.insertIdx k ⟨g + 1, 0, b⟩) ∧ Wrote (N.insertIdx k ⟨g + 1, 0, b⟩) (N.length + 1) nw nw')

def AfterPub (B p t : Nat) (N : List Nd) (g nw : Nat) (w : World) (e : Ending) (w' : World) : Prop :=
  Upd w w' (TF B w p) ∧
    ((Gone N t ∧ e = .returned (.tuple #[.int .u64 0, .int .i64 10]) ∧ TagsIn B w' p N g nw) ∨
     (∃ k, Stands N t k ∧
        ((8192 ≤ N.length ∧ e = .returned (.tuple #[.int .u64 0, .int .i64 11]) ∧ TagsIn B w' p N g nw) ∨
         (N.length < 8192 ∧ e = .returned (.tuple #[.int .u64 (g + 1 : Nat), .int .i64 0]) ∧ ∃ N' nw', TagsIn B w' p N' (g + 1) nw' ∧ InsOf N k g nw N' nw'))))

theorem after_pub (B p t : Nat) (N : List Nd) (g nw : Nat) (w : World) (h : TagsIn B w p N g nw) (hN : N.length ≤ 8192) (hg : g < 4611686018427387904) (hwr : nw + 8192 < 4611686018427387904) (hR : Rise N) (hf : ∀ n ∈ N, n.name ≤ g) :
    Calls Try.prog 36 #[ptrTo p, .int .u64 t] w (AfterPub B p t N g nw w) := by
  refine (after_any p t N g nw w h.is hN hg hwr hR hf).mono ?_
  rintro e w' ⟨w1, m, hd, hB, ⟨rfl, hx, rfl⟩ | ⟨k, x, hk, rfl, hcase⟩⟩
  · exact ⟨hB.tf h, Or.inl ⟨⟨fun e => hx hd List.mem_cons_self (by rw [e]; exact hB.1.zero.1), fun n hn => hx n (List.mem_cons_of_mem _ hn)⟩, rfl, hB.is h⟩⟩
  · have hS := stands_of hB.1.zero.1 hB.1.names hk
    rcases hcase with ⟨rfl, hn, rfl⟩ | ⟨hn, b, N', nw', rfl, hT, hU, hb, hI⟩
    · exact ⟨hB.tf h, Or.inr ⟨k, hS, Or.inl ⟨hn, rfl, hB.is h⟩⟩⟩
    · have hF' : ∀ b', Foot p m (hd :: N') b' → B ≤ b' := by
        intro b' hf
        have hlt := h.lt
        have hsz := hB.2.1.size
        have old : ∀ n ∈ hd :: N, B ≤ n.blk := fun n hn => (hB.foot h (Or.inr (Or.inr ⟨n, hn, rfl⟩))).1
        rcases hf with rfl | rfl | ⟨n, hn', rfl⟩
        · exact h.1
        · exact (hB.foot h (Or.inr (Or.inl rfl))).1
        · rcases List.mem_cons.1 hn' with rfl | hn'
          · exact old _ List.mem_cons_self
          · rcases hI with ⟨_, rfl, _⟩ | ⟨_, rfl, _⟩
            · rcases (List.mem_insertIdx hS.1).1 hn' with rfl | hn'
              · show B ≤ b; omega
              · exact old n (List.mem_cons_of_mem _ hn')
            · obtain ⟨j, hj⟩ := List.mem_iff_getElem?.1 hn'
              rw [relab_get, Option.map_eq_some_iff] at hj
              obtain ⟨n0, hn0, rfl⟩ := hj
              have e : (if j < N.length + 1 then n0.put (stepOf (N.length + 1) * (j + 1)) else n0).blk = n0.blk := by split <;> rfl
              rw [e]
              rcases (List.mem_insertIdx hS.1).1 (List.mem_of_getElem? hn0) with rfl | hn'
              · show B ≤ b; omega
              · exact old n0 (List.mem_cons_of_mem _ hn')
      refine ⟨?_, Or.inr ⟨k, hS, Or.inr ⟨hn, rfl, N', nw', ⟨h.1, Or.inr ⟨m, hd, hT, hF'⟩⟩, b, hI⟩⟩⟩
      exact (hB.tf h).trans hU (fun i hi hf => (hB.foot h hf).2 hi)

def AskedPub (B p t : Nat) (N : List Nd) (g nw : Nat) (w : World) (v : Nat → Int) (e : Ending) (w' : World) : Prop :=
  Upd w w' (TF B w p) ∧ TagsIn B w' p N g nw ∧
    ((∃ k, Stands N t k ∧ e = .returned (.tuple #[.int .u64 (v k), .int .i64 0])) ∨ (Gone N t ∧ e = .returned (.tuple #[.int .u64 0, .int .i64 10])))

theorem asked_pub {B p t : Nat} {N : List Nd} {g nw : Nat} {w : World} {v : Nat → Int} {f : Nat} {args : Array Value} (h : TagsIn B w p N g nw) (hc : Calls Try.prog f args w (Asked p t N g nw w v)) :
    Calls Try.prog f args w (AskedPub B p t N g nw w v) :=
  hc.mono fun e w' ⟨⟨m, hd, hB⟩, hx⟩ => ⟨hB.tf h, hB.is h, hx⟩

theorem label_pub (B p t : Nat) (N : List Nd) (g nw : Nat) (w : World) (h : TagsIn B w p N g nw) : Calls Try.prog 38 #[ptrTo p, .int .u64 t] w (AskedPub B p t N g nw w fun k => labAt N k) := asked_pub h (label_any p t N g nw w h.is)
theorem next_pub (B p t : Nat) (N : List Nd) (g nw : Nat) (w : World) (h : TagsIn B w p N g nw) : Calls Try.prog 37 #[ptrTo p, .int .u64 t] w (AskedPub B p t N g nw w fun k => nameAt N (k + 1)) := asked_pub h (next_any p t N g nw w h.is)
theorem prev_pub (B p t : Nat) (N : List Nd) (g nw : Nat) (w : World) (h : TagsIn B w p N g nw) : Calls Try.prog 71 #[ptrTo p, .int .u64 t] w (AskedPub B p t N g nw w fun k => nameAt N (k - 1)) := asked_pub h (prev_any p t N g nw w h.is)

def OrderPub (B p t u : Nat) (N : List Nd) (g nw : Nat) (w : World) (e : Ending) (w' : World) : Prop :=
  Upd w w' (TF B w p) ∧ TagsIn B w' p N g nw ∧
    ((∃ i j, Stands N t i ∧ Stands N u j ∧ e = .returned (.tuple #[.int .i64 (orderOf (labAt N i) (labAt N j)), .int .i64 0])) ∨ ((Gone N t ∨ Gone N u) ∧ e = .returned (.tuple #[.int .i64 0, .int .i64 10])))

theorem order_pub (B p t u : Nat) (N : List Nd) (g nw : Nat) (w : World) (h : TagsIn B w p N g nw) : Calls Try.prog 45 #[ptrTo p, .int .u64 t, .int .u64 u] w (OrderPub B p t u N g nw w) :=
  (order_any p t u N g nw w h.is).mono fun e w' ⟨⟨w1, m1, hd1, hB1, m, hd, hB⟩, hx⟩ =>
    ⟨by
      rcases hB.2.2 with he | ⟨hn', _⟩
      · have hU : Upd w1 w' (fun _ => False) := ⟨hB.2.1.os, hB.2.1.tape, hB.2.1.output, hB.2.1.size, fun k _ _ => by rw [he]⟩
        exact (hB1.tf h).trans hU (fun i hi hf => hf.elim)
      · exact absurd hn' hB1.1.not, hB.is (hB1.is h), hx⟩

def DropPub (B p t : Nat) (N : List Nd) (g nw : Nat) (w : World) (e : Ending) (w' : World) : Prop :=
  Upd w w' (TF B w p) ∧
    (((t = 0 ∨ Gone N t) ∧ e = .returned (.int .i64 10) ∧ TagsIn B w' p N g nw) ∨ (∃ k, Stands N t (k + 1) ∧ e = .returned (.int .i64 0) ∧ TagsIn B w' p (N.eraseIdx k) g nw))

theorem drop_pub (B p t : Nat) (N : List Nd) (g nw : Nat) (w : World) (h : TagsIn B w p N g nw) : Calls Try.prog 39 #[ptrTo p, .int .u64 t] w (DropPub B p t N g nw w) := by
  refine (drop_any p t N g nw w h.is).mono ?_
  rintro e w' ⟨w1, m, hd, hB, ⟨rfl, hx, rfl⟩ | ⟨k, hS, rfl, hT, hU⟩⟩
  · exact ⟨hB.tf h, Or.inl ⟨hx, rfl, hB.is h⟩⟩
  · exact ⟨(hB.tf h).trans hU (fun i hi hf => (hB.foot h hf).2 hi), Or.inr ⟨k, hS, rfl, h.1, Or.inr ⟨m, hd, hT, fun b hf => (hB.foot h (by rcases hf with hf | hf | ⟨n, hn, hf⟩; exact Or.inl hf; exact Or.inr (Or.inl hf); exact Or.inr (Or.inr ⟨n, by rcases List.mem_cons.1 hn with rfl | hn; exact List.mem_cons_self; exact List.mem_cons_of_mem _ (List.mem_of_mem_eraseIdx hn), hf⟩))).1⟩⟩⟩

theorem len_pub (B p : Nat) (N : List Nd) (g nw : Nat) (w : World) (h : TagsIn B w p N g nw) (hN : N.length ≤ 8192) :
    Calls Try.prog 40 #[ptrTo p] w fun e w' => e = .returned (.int .i64 N.length) ∧ TagsIn B w' p N g nw ∧ Upd w w' (TF B w p) :=
  (len_any p N g nw w h.is hN).mono fun e w' ⟨he, m, hd, hB⟩ => ⟨he, hB.is h, hB.tf h⟩

end Go.Proofs.Ytnhgeoccknhiiaa
