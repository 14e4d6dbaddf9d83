/- Label, Order, Next, Prev, Len, Given, Writes: what a list answers. -/
import Derived.Test.YtnhgeoccknhiiaaTagsC
namespace Go.Proofs.Ytnhgeoccknhiiaa
open Go.RowKit

/-- The label at place k (0: the head's), 2^62 behind all; the name at place k, 0 behind all. -/
def labAt (N : List Nd) : Nat → Nat
  | 0 => 0
  | k + 1 => ((N[k]?).map (·.label)).getD 4611686018427387904
def nameAt (N : List Nd) : Nat → Nat
  | 0 => 0
  | k + 1 => ((N[k]?).map (·.name)).getD 0
/-- t stands at place k (0: the head); t is not there. -/
def Stands (N : List Nd) (t k : Nat) : Prop := k ≤ N.length ∧ nameAt N k = t ∧ (k = 0 ↔ t = 0)
def Gone (N : List Nd) (t : Nat) : Prop := t ≠ 0 ∧ ∀ n ∈ N, n.name ≠ t

theorem labAt_of {hd : Nd} {N : List Nd} {k : Nat} {x : Nd} (h0 : hd.label = 0) (hk : (hd :: N)[k]? = some x) : labAt N k = x.label := by
  cases k with
  | zero => simp at hk; subst hk; exact h0.symm
  | succ k => rw [List.getElem?_cons_succ] at hk; simp [labAt, hk]
theorem nameAt_of {hd : Nd} {N : List Nd} {k : Nat} {x : Nd} (h0 : hd.name = 0) (hk : (hd :: N)[k]? = some x) : nameAt N k = x.name := by
  cases k with
  | zero => simp at hk; subst hk; exact h0.symm
  | succ k => rw [List.getElem?_cons_succ] at hk; simp [nameAt, hk]

def FindStd (p t : Nat) (N : List Nd) (g nw : Nat) (w : World) (e : Ending) (w' : World) : Prop :=
  ∃ m hd, Begun p N g nw w w' m hd ∧
    ((∃ k x, (hd :: N)[k]? = some x ∧ Stands N t k ∧ e = .returned (.tuple #[ptrTo x.blk, .int .i64 0])) ∨ (Gone N t ∧ e = .returned (.tuple #[.pointer none, .int .i64 10])))

theorem stands_of {hd : Nd} {N : List Nd} (h0 : hd.name = 0) (hn : Names (hd :: N)) {k : Nat} {x : Nd} (hk : (hd :: N)[k]? = some x) : Stands N x.name k := by
  refine ⟨by have := (List.getElem?_eq_some_iff.1 hk).1; simp at this; omega, nameAt_of h0 hk, fun e => ?_, fun e => ?_⟩
  · subst e; simp at hk; subst hk; exact h0
  · cases k with
    | zero => rfl
    | succ k =>
      rw [List.getElem?_cons_succ] at hk
      unfold Names at hn
      rw [List.map_cons, List.nodup_cons] at hn
      exact absurd (List.mem_map.2 ⟨x, List.mem_of_getElem? hk, by rw [e, h0]⟩) hn.1

theorem find_std (p t : Nat) (N : List Nd) (g nw : Nat) (w : World) (h : TagsIs w p N g nw) :
    Calls Try.prog 63 #[ptrTo p, .int .u64 t] w (FindStd p t N g nw w) := by
  refine (find_any p t N g nw w h).mono ?_
  rintro e w' ⟨m, hd, hB, ⟨x, hx, rfl, rfl⟩ | ⟨hx, rfl⟩⟩
  · obtain ⟨k, hk⟩ := List.mem_iff_getElem?.1 hx
    exact ⟨m, hd, hB, Or.inl ⟨k, x, hk, stands_of hB.1.zero.1 hB.1.names hk, rfl⟩⟩
  · exact ⟨m, hd, hB, Or.inr ⟨⟨fun e => hx hd List.mem_cons_self (by rw [e]; exact hB.1.zero.1), fun n hn => hx n (List.mem_cons_of_mem _ hn)⟩, rfl⟩⟩

/-- The answer (a number, an error) of a question at a tag: the list is as it was. -/
def Asked (p t : Nat) (N : List Nd) (g nw : Nat) (w : World) (v : Nat → Int) (e : Ending) (w' : World) : Prop :=
  (∃ m hd, Begun p N g nw w w' m hd) ∧
    ((∃ k, Stands N t k ∧ e = .returned (.tuple #[.int .u64 (v k), .int .i64 0])) ∨ (Gone N t ∧ e = .returned (.tuple #[.int .u64 0, .int .i64 10])))

theorem label_any (p t : Nat) (N : List Nd) (g nw : Nat) (w : World) (h : TagsIs w p N g nw) :
    Calls Try.prog 38 #[ptrTo p, .int .u64 t] w (Asked p t N g nw w fun k => labAt N k) := by
  have HF := Lib.hid (find_std p t N g nw w h)
  clear h
  unfold ptrTo at *
  go_enter Try.func38, Try.ntmps38
  go_wp2_with fail
  refine HF.out.mono ?_
  rintro e w1 ⟨m, hd, hB, ⟨k, x, hk, hS, rfl⟩ | ⟨hG, rfl⟩⟩
  · have h1 : w1.cell? ⟨x.blk, 1, none⟩ = some (.int .u64 x.label) := (hB.1.nodes k x hk).cell 1
    have HB := Lib.hid hB
    have HS := Lib.hid hS
    have HK := Lib.hid hk
    clear hB hS hk HF
    unfold ptrTo
    go_wp2
    go_ret2
    exact ⟨⟨m, hd, HB.out⟩, Or.inl ⟨k, HS.out, ret2u (by show ((x.label : Nat) : Int) = ((labAt N k : Nat) : Int); rw [labAt_of HB.out.1.zero.2 HK.out])⟩⟩
  · have HB := Lib.hid hB
    have HG := Lib.hid hG
    clear hB hG HF
    go_wp2
    go_ret2
    exact ⟨⟨m, hd, HB.out⟩, Or.inr ⟨HG.out, rfl⟩⟩

theorem next_any (p t : Nat) (N : List Nd) (g nw : Nat) (w : World) (h : TagsIs w p N g nw) :
    Calls Try.prog 37 #[ptrTo p, .int .u64 t] w (Asked p t N g nw w fun k => nameAt N (k + 1)) := by
  have HF := Lib.hid (find_std p t N g nw w h)
  clear h
  unfold ptrTo at *
  go_enter Try.func37, Try.ntmps37
  go_wp2_with fail
  refine HF.out.mono ?_
  rintro e w1 ⟨m, hd, hB, ⟨k, x, hk, hS, rfl⟩ | ⟨hG, rfl⟩⟩
  · have h3 : w1.cell? ⟨x.blk, 3, none⟩ = some (ptrN (hd :: N)[k + 1]?) := (hB.1.nodes k x hk).cell 3
    rw [List.getElem?_cons_succ] at h3
    cases hy : N[k]? with
    | none =>
      rw [hy, show ptrN none = Value.pointer none from rfl] at h3
      have HB := Lib.hid hB
      have HS := Lib.hid hS
      have HY := Lib.hid hy
      clear hB hS hk HF hy
      unfold ptrTo
      go_wp2
      go_ret2
      exact ⟨⟨m, hd, HB.out⟩, Or.inl ⟨k, HS.out, by simp [nameAt, HY.out]⟩⟩
    | some y =>
      rw [hy, show ptrN (some y) = Value.pointer (some ⟨y.blk, 0, none⟩) from rfl] at h3
      have h0 : w1.cell? ⟨y.blk, 0, none⟩ = some (.int .u64 y.name) := (hB.1.nodes (k + 1) y (by rw [List.getElem?_cons_succ]; exact hy)).cell 0
      have HB := Lib.hid hB
      have HS := Lib.hid hS
      have HY := Lib.hid hy
      clear hB hS hk HF hy
      unfold ptrTo
      go_wp2
      go_ret2
      exact ⟨⟨m, hd, HB.out⟩, Or.inl ⟨k, HS.out, by simp [nameAt, HY.out]⟩⟩
  · have HB := Lib.hid hB
    have HG := Lib.hid hG
    clear hB hG HF
    go_wp2
    go_ret2
    exact ⟨⟨m, hd, HB.out⟩, Or.inr ⟨HG.out, rfl⟩⟩

theorem prev_any (p t : Nat) (N : List Nd) (g nw : Nat) (w : World) (h : TagsIs w p N g nw) :
    Calls Try.prog 71 #[ptrTo p, .int .u64 t] w (Asked p t N g nw w fun k => nameAt N (k - 1)) := by
  have HF := Lib.hid (find_std p t N g nw w h)
  clear h
  unfold ptrTo at *
  go_enter Try.func71, Try.ntmps71
  go_wp2_with fail
  refine HF.out.mono ?_
  rintro e w1 ⟨m, hd, hB, ⟨k, x, hk, hS, rfl⟩ | ⟨hG, rfl⟩⟩
  · have h2 : w1.cell? ⟨x.blk, 2, none⟩ = some (ptrN (if k = 0 then none else (hd :: N)[k - 1]?)) := (hB.1.nodes k x hk).cell 2
    cases k with
    | zero =>
      rw [if_pos rfl, show ptrN none = Value.pointer none from rfl] at h2
      have HB := Lib.hid hB
      have HS := Lib.hid hS
      clear hB hS hk HF
      unfold ptrTo
      go_wp2
      go_ret2
      exact ⟨⟨m, hd, HB.out⟩, Or.inl ⟨0, HS.out, rfl⟩⟩
    | succ k =>
      rw [if_neg (by omega), show k + 1 - 1 = k by omega] at h2
      obtain ⟨y, hy⟩ : ∃ y, (hd :: N)[k]? = some y := ⟨(hd :: N)[k]'(by have := hS.1; simp; omega), by rw [List.getElem?_eq_getElem]⟩
      rw [hy, show ptrN (some y) = Value.pointer (some ⟨y.blk, 0, none⟩) from rfl] at h2
      have h0 : w1.cell? ⟨y.blk, 0, none⟩ = some (.int .u64 y.name) := (hB.1.nodes k y hy).cell 0
      have HB := Lib.hid hB
      have HS := Lib.hid hS
      have HY := Lib.hid hy
      clear hB hS hk HF hy
      unfold ptrTo
      go_wp2
      go_ret2
      exact ⟨⟨m, hd, HB.out⟩, Or.inl ⟨k + 1, HS.out, ret2u (by show ((y.name : Nat) : Int) = ((nameAt N (k + 1 - 1) : Nat) : Int); rw [show k + 1 - 1 = k by omega, nameAt_of HB.out.1.zero.1 HY.out])⟩⟩
  · have HB := Lib.hid hB
    have HG := Lib.hid hG
    clear hB hG HF
    go_wp2
    go_ret2
    exact ⟨⟨m, hd, HB.out⟩, Or.inr ⟨HG.out, rfl⟩⟩

theorem given_any (p : Nat) (N : List Nd) (g nw : Nat) (w : World) (h : TagsIs w p N g nw) :
    Calls Try.prog 42 #[ptrTo p] w fun e w' => e = .returned (.int .u64 g) ∧ w = w' := by
  have h2 : w.cell? ⟨p, 2, none⟩ = some (.int .u64 g) := by
    rcases h with ⟨h, rfl, rfl, rfl⟩ | ⟨m, hd, h⟩
    · exact h.cell 2
    · exact h.top.cell 2
  clear h
  unfold ptrTo
  go_enter Try.func42, Try.ntmps42
  go_wp2
  go_ret
  exact ⟨rfl, rfl⟩

theorem writes_any (p : Nat) (N : List Nd) (g nw : Nat) (w : World) (h : TagsIs w p N g nw) :
    Calls Try.prog 41 #[ptrTo p] w fun e w' => e = .returned (.int .u64 nw) ∧ w = w' := by
  have h3 : w.cell? ⟨p, 3, none⟩ = some (.int .u64 nw) := by
    rcases h with ⟨h, rfl, rfl, rfl⟩ | ⟨m, hd, h⟩
    · exact h.cell 3
    · exact h.top.cell 3
  clear h
  unfold ptrTo
  go_enter Try.func41, Try.ntmps41
  go_wp2
  go_ret
  exact ⟨rfl, rfl⟩

def LenPost (p : Nat) (N : List Nd) (g nw : Nat) (w : World) (e : Ending) (w' : World) : Prop :=
  e = .returned (.int .i64 N.length) ∧ ∃ m hd, Begun p N g nw w w' m hd

theorem len_any (p : Nat) (N : List Nd) (g nw : Nat) (w : World) (h : TagsIs w p N g nw) (hN : N.length ≤ 8192) :
    Calls Try.prog 40 #[ptrTo p] w (LenPost p N g nw w) := by
  have HB := Lib.hid (begin_any p N g nw w h)
  clear h
  unfold ptrTo at *
  go_enter Try.func40, Try.ntmps40
  go_wp2_with fail
  refine HB.out.mono ?_
  rintro e w1 ⟨rfl, m, hd, hB⟩
  have h0 : w1.cell? ⟨p, 0, none⟩ = some (.map (some m)) := hB.1.top.cell 0
  obtain ⟨L, hM, hL⟩ := hB.1.map
  have hlen : L.length = N.length + 1 := by simpa using hL.length_eq
  have hrun := fun ty => run_len_mapIs (P := Try.prog) (ty := ty) Try.underlying69 hM
  rw [hlen] at hrun
  have HB1 := Lib.hid hB
  clear hM hL hlen hB HB
  go_wp2
  go_ret
  exact ⟨ret_int (by omega), m, hd, HB1.out⟩

def orderOf (a b : Nat) : Int := if a < b then -1 else if b < a then 1 else 0

def OrderPost (p t u : Nat) (N : List Nd) (g nw : Nat) (w : World) (e : Ending) (w' : World) : Prop :=
  (∃ w1 m1 hd1, Begun p N g nw w w1 m1 hd1 ∧ ∃ m hd, Begun p N g nw w1 w' m hd) ∧
    ((∃ i j, Stands N t i ∧ Stands N u j ∧ e = .returned (.tuple #[.int .i64 (orderOf (labAt N i) (labAt N j)), .int .i64 0])) ∨ ((Gone N t ∨ Gone N u) ∧ e = .returned (.tuple #[.int .i64 0, .int .i64 10])))

theorem order_any (p t u : Nat) (N : List Nd) (g nw : Nat) (w : World) (h : TagsIs w p N g nw) :
    Calls Try.prog 45 #[ptrTo p, .int .u64 t, .int .u64 u] w (OrderPost p t u N g nw w) := by
  have HF := Lib.hid (find_std p t N g nw w h)
  clear h
  unfold ptrTo at *
  go_enter Try.func45, Try.ntmps45
  go_wp2_with fail
  refine HF.out.mono ?_
  rintro e w1 ⟨m1, hd1, hB1, h1⟩
  have HF2 := Lib.hid (find_std p u N g nw w1 (Or.inr ⟨m1, hd1, hB1.1⟩))
  have HB1 := Lib.hid hB1
  clear hB1 HF
  unfold ptrTo at *
  rcases h1 with ⟨i, x, hi, hS1, rfl⟩ | ⟨hG1, rfl⟩
  · have HI := Lib.hid (And.intro hi hS1)
    clear hi hS1
    go_wp2_with fail
    refine HF2.out.mono ?_
    rintro e w2 ⟨m2, hd2, hB2, ⟨j, y, hj, hS2, rfl⟩ | ⟨hG2, rfl⟩⟩
    · have hx : w2.cell? ⟨x.blk, 1, none⟩ = some (.int .u64 x.label) := by
        have b := HB1.out.1.nodes i x HI.out.1
        rcases hB2.2.2 with he | ⟨hn, _⟩
        · exact (b.at_ (by rw [he])).cell 1
        · exact absurd (Blk.eq hn HB1.out.1.top) (by simp [ptrTo])
      have hy : w2.cell? ⟨y.blk, 1, none⟩ = some (.int .u64 y.label) := (hB2.1.nodes j y hj).cell 1
      have HL : Hid (labAt N i = x.label ∧ labAt N j = y.label) := Lib.hid ⟨labAt_of HB1.out.1.zero.2 HI.out.1, labAt_of hB2.1.zero.2 hj⟩
      have HB2 := Lib.hid hB2
      have HJ := Lib.hid hS2
      clear hB2 hS2 hj HF2
      have HFIN : Hid (∀ v : Int, v = orderOf x.label y.label → ∀ n, OrderPost p t u N g nw w (.returned (.tuple #[.int .i64 v, .int .i64 0])) (w2.drewN n)) := by
        rintro v rfl n
        exact ⟨⟨w1, m1, hd1, HB1.out, m2, hd2, HB2.out.drewN n⟩, Or.inl ⟨i, j, HI.out.2, HJ.out, by rw [HL.out.1, HL.out.2]⟩⟩
      go_wp2
      go_quiet (fail)
      by_cases c1 : x.label < y.label
      · have d1 : decide ((x.label : Int) < (y.label : Int)) = true := decide_eq_true (by omega)
        go_wp2
        go_ret2
        exact HFIN.out (-1) (by unfold orderOf; rw [if_pos c1]) _
      · have d1 : decide ((x.label : Int) < (y.label : Int)) = false := decide_eq_false (by omega)
        go_wp2
        go_quiet (fail)
        by_cases c2 : y.label < x.label
        · have d2 : decide ((x.label : Int) > (y.label : Int)) = true := decide_eq_true (by omega)
          go_wp2
          go_ret2
          rw [World.drewN_drewN]
          exact HFIN.out 1 (by unfold orderOf; rw [if_neg c1, if_pos c2]) _
        · have d2 : decide ((x.label : Int) > (y.label : Int)) = false := decide_eq_false (by omega)
          go_wp2
          go_ret2
          rw [World.drewN_drewN]
          exact HFIN.out 0 (by unfold orderOf; rw [if_neg c1, if_neg c2]) _
    · have HB2 := Lib.hid hB2
      have HG := Lib.hid hG2
      clear hB2 hG2
      go_wp2
      go_ret2
      exact ⟨⟨w1, m1, hd1, HB1.out, m2, hd2, HB2.out⟩, Or.inr ⟨Or.inr HG.out, rfl⟩⟩
  · have HG := Lib.hid hG1
    clear hG1
    go_wp2_with fail
    refine HF2.out.mono ?_
    rintro e w2 ⟨m2, hd2, hB2, h2⟩
    have HB2 := Lib.hid hB2
    clear hB2
    rcases h2 with ⟨j, y, hj, hS2, rfl⟩ | ⟨hG2, rfl⟩
    · clear hj hS2
      go_wp2
      go_ret2
      exact ⟨⟨w1, m1, hd1, HB1.out, m2, hd2, HB2.out⟩, Or.inr ⟨Or.inl HG.out, rfl⟩⟩
    · clear hG2
      go_wp2
      go_ret2
      exact ⟨⟨w1, m1, hd1, HB1.out, m2, hd2, HB2.out⟩, Or.inr ⟨Or.inl HG.out, rfl⟩⟩

end Go.Proofs.Ytnhgeoccknhiiaa
