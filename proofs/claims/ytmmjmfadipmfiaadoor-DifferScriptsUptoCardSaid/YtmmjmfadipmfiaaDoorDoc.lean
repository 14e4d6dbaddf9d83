/- The document's Doc in memory: rows of slots; its handles, walked. -/
import Derived.Test.YtmmjmfadipmfiaaDoorOwnD
import Derived.Laws.Bits64b
namespace Go.Proofs.YtmmjmfadipmfiaaDoor
open Go.RowKit
open Ch
namespace Df

/-- A slot as it lies in memory. -/
structure Row where
  g : Nat
  lv : Bool
  k : Int
  n : ByteArray
  aa : Option Addr
  al : Nat
  ac : Nat
  t : ByteArray
  p : Nat
  ka : Option Addr
  kl : Nat
  kc : Nat
def Row.cells (r : Row) : List Value := [.int .u32 (r.g : Nat), .bool r.lv, .int .i64 r.k, .string r.n, .slice r.aa r.al r.ac, .string r.t, .int .u64 (r.p : Nat), .slice r.ka r.kl r.kc]
def dead (g : Nat) : Row := ⟨g, false, 0, ⟨#[]⟩, none, 0, 0, ⟨#[]⟩, 0, none, 0, 0⟩
def rowsC (R : List Row) : List Value := R.flatMap Row.cells
theorem rowsC_app (A B : List Row) : rowsC (A ++ B) = rowsC A ++ rowsC B := List.flatMap_append
theorem rowsC_len : ∀ R : List Row, (rowsC R).length = R.length * 8
  | [] => rfl
  | r :: R => by
    show (r.cells ++ rowsC R).length = _
    rw [List.length_append, rowsC_len R, List.length_cons]
    simp [Row.cells]
    omega
theorem rowsC_at : ∀ {R : List Row} {i : Nat} {r : Row}, R[i]? = some r → ∀ j, j < 8 → (rowsC R)[i * 8 + j]? = r.cells[j]?
  | [], _, _, h, _, _ => by simp at h
  | s :: R, 0, r, h, j, hj => by
    simp at h
    subst h
    show (s.cells ++ rowsC R)[0 * 8 + j]? = _
    rw [List.getElem?_append_left (by simp [Row.cells]; omega)]
    simp
  | s :: R, i + 1, r, h, j, hj => by
    show (s.cells ++ rowsC R)[(i + 1) * 8 + j]? = _
    have : s.cells.length = 8 := rfl
    rw [List.getElem?_append_right (by omega), this, show (i + 1) * 8 + j - 8 = i * 8 + j by omega]
    exact rowsC_at (by simpa using h) j hj
theorem rowsC_one (R : List Row) : ∀ u ∈ rowsC R, u.oneCell' = true := by
  intro u hu
  obtain ⟨r, _, h⟩ := List.mem_flatMap.1 hu
  exact List.all_eq_true.1 (rfl : (Row.cells r).all Value.oneCell' = true) u h

/-- The handle of an index. -/
def hand (g i : Nat) : Nat := g * 4294967296 + (i + 1)

/-- A document: its slots' slice, its roots' slice, its rows. -/
structure DocIs (w : World) (d : Nat) (Sv Rv : Value) (R : List Row) : Prop where
  blk : Blk w d [Sv, Rv] 86
  own : w.ownsRow 0 112 8 Sv R.length (rowsC R)
theorem DocIs.keep {w w' : World} {d : Nat} {Sv Rv : Value} {R : List Row} (h : DocIs w d Sv Rv R) {F : Nat → Prop} (hU : Upd w w' F) (hd : ¬ F d) (hS : ∀ g, Sv.ownBlock = some g → ¬ F g) : DocIs w' d Sv Rv R := ⟨hU.blk h.blk hd, own_keep h.own hU hS⟩
theorem DocIs.below {w w' : World} {d : Nat} {Sv Rv : Value} {R : List Row} (h : DocIs w d Sv Rv R) (hB : Below w.heap.size w w') : DocIs w' d Sv Rv R := h.keep (Upd.ofBelow (F := fun _ => False) hB) (fun h => h) (fun _ _ h => h)
theorem DocIs.ne {w : World} {d : Nat} {Sv Rv : Value} {R : List Row} (h : DocIs w d Sv Rv R) : Sv.ownBlock ≠ some d := fun e => by
  obtain ⟨_, hv⟩ := own_ty h.own e
  exact h.blk.ty hv (by decide) rfl
theorem DocIs.form {w : World} {d : Nat} {Sv Rv : Value} {R : List Row} (h : DocIs w d Sv Rv R) : ∃ a c, Sv = .slice a R.length c ∧ R.length ≤ c := (Rd.ofOwn h.own).form
/-- A row's cells. -/
theorem DocIs.row {w : World} {d : Nat} {Sv Rv : Value} {R : List Row} (h : DocIs w d Sv Rv R) {i : Nat} {r : Row} (hr : R[i]? = some r) : ∃ g c, Sv = .slice (some ⟨g, 0, none⟩) R.length c ∧ R.length ≤ c ∧
    w.cell? ⟨g, i * 8, none⟩ = some (.int .u32 (r.g : Nat)) ∧ w.cell? ⟨g, i * 8 + 1, none⟩ = some (.bool r.lv) ∧ w.cell? ⟨g, i * 8 + 2, none⟩ = some (.int .i64 r.k) ∧ w.cell? ⟨g, i * 8 + 3, none⟩ = some (.string r.n) ∧ w.cell? ⟨g, i * 8 + 4, none⟩ = some (.slice r.aa r.al r.ac) ∧
    w.cell? ⟨g, i * 8 + 5, none⟩ = some (.string r.t) ∧ w.cell? ⟨g, i * 8 + 6, none⟩ = some (.int .u64 (r.p : Nat)) ∧ w.cell? ⟨g, i * 8 + 7, none⟩ = some (.slice r.ka r.kl r.kc) ∧ (∀ j, w.frozen? ⟨g, j, none⟩ = false) := by
  have hi := (List.getElem?_eq_some_iff.1 hr).1
  have own := h.own
  obtain ⟨hl, ⟨e, h0⟩ | ⟨g, cap, cur, rfl, hb, hg, hn, hm, hs, ht⟩⟩ := own
  · rw [rowsC_len] at hl
    have hz : R.length = 0 := by
      have h1 := h.own.1
      rw [h0] at h1
      simp at h1
      omega
    omega
  · have c := fun j (hj : j < 8) => (h.own.cellAt (i * 8 + j) (by omega)).trans (rowsC_at hr j hj)
    exact ⟨g, cap, rfl, hn, c 0 (by omega), c 1 (by omega), c 2 (by omega), c 3 (by omega), c 4 (by omega), c 5 (by omega), c 6 (by omega), c 7 (by omega), fun j => h.own.frozenAt j⟩

theorem orHand (g i : Nat) (hg : g < 4294967296) (hi : i + 1 < 4294967296) : bits .or .u64 ((g : Int) * 4294967296) ((i : Int) + 1) = (hand g i : Nat) := by
  have h1 := bits_or_u64_nat (g * 4294967296) (i + 1) (by omega) (by omega)
  have h2 : (g * 4294967296) ||| (i + 1) = hand g i := by
    have := Nat.shiftLeft_add_eq_or_of_lt (a := g) (b := i + 1) (i := 32) (by simpa using hi)
    rw [Nat.shiftLeft_eq] at this
    simpa [hand] using this.symm
  rw [h2] at h1
  simpa using h1

theorem handQ (g i : Nat) (hg : g < 4294967296) (hi : i < 1048576) : bits .or .u64 ((g : Int) * 4294967296) ((i : Int) + 1) = (hand g i : Nat) ∧ IntKind.u64.wrap (g : Int) = (g : Int) ∧ IntKind.u64.wrap ((g : Int) * 4294967296) = (g : Int) * 4294967296 ∧
    IntKind.u64.wrap ((i : Int) + 1) = (i : Int) + 1 ∧ wrap64 ((i : Int) + 1) = (i : Int) + 1 ∧ (0 : Int) ≤ (i : Int) := by
  refine ⟨orHand g i hg (by omega), ?_, ?_, ?_, ?_, by omega⟩
  · rw [IntKind.wrap_u64]; omega
  · rw [IntKind.wrap_u64]; omega
  · rw [IntKind.wrap_u64]; omega
  · rw [Go.IntWalk.wrap64_in _ (by omega)]

set_option maxRecDepth 100000 in
set_option maxHeartbeats 4000000 in
theorem handle_any (d : Nat) (Sv Rv : Value) (R : List Row) (i : Nat) (r : Row) (w : World) (hD : DocIs w d Sv Rv R) (hr : R[i]? = some r) (hg : r.g < 4294967296) (hi : i < 1048576) :
    Calls Tryd.prog 78 #[.pointer (some ⟨d, 0, none⟩), .int .i64 (i : Nat)] w (fun e w' => e = .returned (.int .u64 (hand r.g i : Nat)) ∧ Below w.heap.size w w') := by
  have hil := (List.getElem?_eq_some_iff.1 hr).1
  have hi1 : (i : Int) < (R.length : Int) := Int.ofNat_lt.2 hil
  have d0 := hD.blk.cell 0
  obtain ⟨g, c, rfl, hc, c0, c1, c2, c3, c4, c5, c6, c7, fz⟩ := hD.row hr
  simp only [List.getElem?_cons_zero] at d0
  obtain ⟨q1, q2, q3, q4, q5, hi0⟩ := handQ r.g i hg hi
  obtain ⟨X, hX⟩ : ∃ X, X = hand r.g i := ⟨_, rfl⟩
  rw [← hX] at q1 ⊢
  obtain ⟨G, hG⟩ : ∃ G : Nat, G = r.g := ⟨_, rfl⟩
  rw [← hG] at q1 q2 q3 c0
  clear hD hr hG hX c1 c2 c3 c4 c5 c6 c7 fz hg hi
  go_enter Tryd.func78, Tryd.ntmps78
  go_wp2
  go_ret
  exact ⟨rfl, Below.refl _ _⟩

theorem handM (g i : Nat) (hi : i < 1048576) : ((hand g i : Nat) : Int) % 4294967296 = (i : Int) + 1 ∧ Int.tmod ((hand g i : Nat) : Int) 4294967296 = (i : Int) + 1 ∧ hand g i % 4294967296 = i + 1 ∧ IntKind.i64.wrap ((i : Int) + 1) = (i : Int) + 1 ∧ wrap64 ((i : Int) + 1 - 1) = (i : Int) ∧ wrap64 ((i : Int) + 1) = (i : Int) + 1 := by
  have h1 : hand g i % 4294967296 = i + 1 := by
    unfold hand
    omega
  have h2 : ((hand g i : Nat) : Int) % 4294967296 = (i : Int) + 1 := by
    have := congrArg (fun n : Nat => (n : Int)) h1
    simpa using this
  refine ⟨h2, ?_, h1, ?_, ?_, ?_⟩
  · rw [Int.tmod_eq_emod_of_nonneg (Int.natCast_nonneg _)]
    exact h2
  · rw [Go.IntWalk.i64_left, Go.IntWalk.wrap64_in _ (by omega)]
  · rw [Go.IntWalk.wrap64_in _ (by omega)]; omega
  · rw [Go.IntWalk.wrap64_in _ (by omega)]

set_option maxRecDepth 100000 in
set_option maxHeartbeats 4000000 in
theorem at_any (d : Nat) (Sv Rv : Value) (R : List Row) (i : Nat) (r : Row) (w : World) (hD : DocIs w d Sv Rv R) (hr : R[i]? = some r) (hl : r.lv = true) (hg : r.g < 4294967296) (hi : i < 1048576) :
    Calls Tryd.prog 68 #[.pointer (some ⟨d, 0, none⟩), .int .u64 (hand r.g i : Nat)] w (fun e w' => e = .returned (.int .i64 (i : Nat)) ∧ Below w.heap.size w w') := by
  have HC := Lib.hid (handle_any d Sv Rv R i r w hD hr hg hi)
  have hil := (List.getElem?_eq_some_iff.1 hr).1
  have hi1 : (i : Int) < (R.length : Int) := Int.ofNat_lt.2 hil
  have hi2 : ¬ ((R.length : Int) ≤ (i : Int)) := Int.not_le.2 hi1
  have d0 := hD.blk.cell 0
  obtain ⟨g, c, rfl, hc, c0, c1, c2, c3, c4, c5, c6, c7, fz⟩ := hD.row hr
  simp only [List.getElem?_cons_zero] at d0
  obtain ⟨q1, q2, q3, q4, q5, q6⟩ := handM r.g i hi
  rw [hl] at c1
  obtain ⟨X, hX⟩ : ∃ X, X = hand r.g i := ⟨_, rfl⟩
  rw [← hX] at q1 q2 q3 HC ⊢
  have hi0 : (0 : Int) ≤ (i : Int) := Int.natCast_nonneg _
  have hi3 : ¬ ((i : Int) < 0) := Int.not_lt.2 hi0
  have hi4 : decide (R.length ≤ i) = false := decide_eq_false (Nat.not_le.2 hil)
  clear hD hr hX c0 c2 c3 c4 c5 c6 c7 fz hg hi
  go_enter Tryd.func68, Tryd.ntmps68
  go_wp2_with fail
  refine HC.out.mono ?_
  rintro e w2 ⟨rfl, B2⟩
  have H2 := Lib.hid B2
  clear B2
  go_wp2
  go_ret
  exact ⟨rfl, H2.out⟩

set_option maxRecDepth 100000 in
set_option maxHeartbeats 4000000 in
theorem live_any (d : Nat) (Sv Rv : Value) (R : List Row) (i : Nat) (r : Row) (w : World) (hD : DocIs w d Sv Rv R) (hr : R[i]? = some r) (hl : r.lv = true) (hg : r.g < 4294967296) (hi : i < 1048576) :
    Calls Tryd.prog 64 #[.pointer (some ⟨d, 0, none⟩), .int .u64 (hand r.g i : Nat)] w (fun e w' => e = .returned (.bool true) ∧ Below w.heap.size w w') := by
  have HC := Lib.hid (at_any d Sv Rv R i r w hD hr hl hg hi)
  have hi0 : (0 : Int) ≤ (i : Int) := Int.natCast_nonneg _
  obtain ⟨X, hX⟩ : ∃ X, X = hand r.g i := ⟨_, rfl⟩
  rw [← hX] at HC ⊢
  clear hD hr hl hg hi hX
  go_enter Tryd.func64, Tryd.ntmps64
  go_wp2_with fail
  refine HC.out.mono ?_
  rintro e w2 ⟨rfl, B2⟩
  have H2 := Lib.hid B2
  clear B2
  go_wp2
  go_ret
  exact ⟨rfl, H2.out⟩

theorem hand_ne (g i : Nat) : hand g i ≠ 0 := by unfold hand; omega

set_option maxRecDepth 100000 in
set_option maxHeartbeats 4000000 in
theorem list0_any (d : Nat) (Sv Rv : Value) (R : List Row) (w : World) (hD : DocIs w d Sv Rv R) :
    Calls Tryd.prog 71 #[.pointer (some ⟨d, 0, none⟩), .int .u64 0] w (fun e w' => e = .returned Rv ∧ w' = w) := by
  have d1 := hD.blk.cell 1
  simp only [List.getElem?_cons_zero, List.getElem?_cons_succ] at d1
  clear hD
  go_enter Tryd.func71, Tryd.ntmps71
  go_wp2
  go_ret
  exact ⟨rfl, rfl⟩

set_option maxRecDepth 100000 in
set_option maxHeartbeats 4000000 in
theorem list_any (d : Nat) (Sv Rv : Value) (R : List Row) (i : Nat) (r : Row) (w : World) (hD : DocIs w d Sv Rv R) (hr : R[i]? = some r) (hl : r.lv = true) (hg : r.g < 4294967296) (hi : i < 1048576) :
    Calls Tryd.prog 71 #[.pointer (some ⟨d, 0, none⟩), .int .u64 (hand r.g i : Nat)] w (fun e w' => e = .returned (.slice r.ka r.kl r.kc) ∧ Below w.heap.size w w') := by
  have hil := (List.getElem?_eq_some_iff.1 hr).1
  have hi1 : (i : Int) < (R.length : Int) := Int.ofNat_lt.2 hil
  have hi0 : (0 : Int) ≤ (i : Int) := Int.natCast_nonneg _
  have hX0 := hand_ne r.g i
  have C := fun w' (hB : Below w.heap.size w w') => at_any d Sv Rv R i r w' (hD.below hB) hr hl hg hi
  obtain ⟨X, hX⟩ : ∃ X, X = hand r.g i := ⟨_, rfl⟩
  rw [← hX] at C hX0 ⊢
  have hX1 : ((X : Int) == 0) = false := beq_eq_false_iff_ne.2 (by omega)
  obtain ⟨g, c, rfl, hc, _⟩ := hD.row hr
  have HC := Lib.hid (And.intro C (And.intro hD hr))
  have row : ∀ w' : World, Below w.heap.size w w' → w'.cell? ⟨d, 0, none⟩ = some (.slice (some ⟨g, 0, none⟩) R.length c) ∧ w'.cell? ⟨g, i * 8 + 7, none⟩ = some (.slice r.ka r.kl r.kc) := by
    intro w' hB
    have h := hD.below hB
    obtain ⟨g', c', e, _, _, _, _, _, _, _, _, h7, _⟩ := h.row hr
    simp only [Value.slice.injEq, Option.some.injEq, Addr.mk.injEq] at e
    obtain ⟨⟨rfl, _⟩, _, rfl⟩ := e
    exact ⟨h.blk.cell 0, h7⟩
  have hB0 : Below w.heap.size w w.drew := (Below.refl _ _).drew
  have hc0 := (row _ hB0).1
  have hc1 := (row _ hB0).2
  obtain ⟨ka, hka⟩ : ∃ ka, ka = r.ka := ⟨_, rfl⟩
  obtain ⟨kl, hkl⟩ : ∃ kl, kl = r.kl := ⟨_, rfl⟩
  obtain ⟨kc, hkc⟩ : ∃ kc, kc = r.kc := ⟨_, rfl⟩
  rw [← hka, ← hkl, ← hkc] at row hc1 ⊢
  have HR := Lib.hid row
  clear hD hr hl hg hi hX C row hc hX0 hka hkl hkc
  go_enter Tryd.func71, Tryd.ntmps71
  go_wp2
  apply wp_reg (fun w' : World => w'.cell? ⟨d, 0, none⟩ = some (.slice (some ⟨g, 0, none⟩) R.length c) ∧ w'.cell? ⟨g, i * 8 + 7, none⟩ = some (.slice ka kl kc)) [0, 1, 2, 3, 4, 5] [6, 7, 8, 9] [10] (by kernel_rfl) (by kernel_rfl) (fun _ _ d _ _ h => by cases d <;> exact h) ⟨hc0, hc1⟩
  · iterate 6 (apply reads_consL rfl rfl; (· intro w0 hS; obtain ⟨hS1, hS2⟩ := hS; go_simp; try rfl); simp only [Act.put, List.setIfInBounds_toArray, List.set_cons_zero, List.set_cons_succ])
    exact rfl
  have HB0 := Lib.hid hB0
  have HC1 := Lib.hid (HC.out.1 _ hB0)
  clear hc0 hc1 hB0
  refine tail_consL rfl ?_
  go_wp2_with fail
  refine HC1.out.mono ?_
  rintro e w2 ⟨rfl, B2⟩
  have BB : Below w.heap.size w w2 := below_tr HB0.out B2
  have S2 := HR.out w2 BB
  have H2 := Lib.hid BB
  have s1 := S2.1
  have s2 := S2.2
  clear B2 BB
  go_wp2_with fail
  refine ⟨S2, tail_consL rfl ?_⟩
  go_wp2_with fail
  refine ⟨S2, tail_consL rfl ?_⟩
  go_wp2_with fail
  refine ⟨S2, tail_consL rfl ?_⟩
  go_wp2_with fail
  refine ⟨S2, tail_oneL rfl ?_⟩
  clear S2
  go_wp2
  go_ret
  exact ⟨rfl, H2.out⟩

set_option maxRecDepth 100000 in
set_option maxHeartbeats 4000000 in
theorem place0_any (d : Nat) (w : World) : Calls Tryd.prog 58 #[.pointer (some ⟨d, 0, none⟩), .int .i64 2, .int .u64 0] w (fun e w' => e = .returned (.tuple #[.int .u64 0, .int .i64 0]) ∧ Below w.heap.size w w') := by
  go_enter Tryd.func58, Tryd.ntmps58
  go_wp2
  apply wp_reg (fun w' : World => Below w.heap.size w w') [0, 1, 2, 3, 4, 5, 6, 7, 8, 9, 10, 11, 12, 13, 14] [] [] (by kernel_rfl) (by kernel_rfl) (fun _ _ d _ _ h => by cases d <;> exact h) (Below.refl _ _).drew
  · iterate 3 (apply reads_consL rfl rfl; (· intro w0 hS; go_simp; try rfl); simp only [Act.put, List.setIfInBounds_toArray, List.set_cons_zero, List.set_cons_succ])
    iterate 11 (apply reads_skipL rfl rfl; simp only [Act.put, List.setIfInBounds_toArray, List.set_cons_zero, List.set_cons_succ])
    iterate 1 (apply reads_consL rfl rfl; (· intro w0 hS; go_simp; try rfl); simp only [Act.put, List.setIfInBounds_toArray, List.set_cons_zero, List.set_cons_succ])
    exact rfl
  refine tail_zero ?_
  go_wp2
  go_ret2
  exact ⟨rfl, (Below.refl _ _).drew⟩

set_option maxRecDepth 100000 in
set_option maxHeartbeats 4000000 in
theorem level0_any (d : Nat) (w : World) : Calls Tryd.prog 60 #[.pointer (some ⟨d, 0, none⟩), .int .u64 0] w (fun e w' => e = .returned (.int .i64 (-1)) ∧ w' = w) := by
  go_enter Tryd.func60, Tryd.ntmps60
  go_wp2
  go_loopg [1, 5] 0 (fun kq v1 v5 w' => v1 = .int .u64 0 ∧ v5 = .int .i64 (-1) ∧ w' = w)
  case atStart => exact ⟨rfl, rfl, rfl⟩
  case round =>
    obtain ⟨rfl, rfl, rfl⟩ := hrel
    go_wp2
    go_ret
    exact ⟨rfl, rfl⟩

theorem rows_len {A Z : List Row} {i : Nat} (h : i < A.length) : (A ++ Z)[i]? = A[i]? := List.getElem?_append_left h

set_option maxRecDepth 100000 in
set_option maxHeartbeats 4000000 in
/-- How many live slots: none of the dead ones is worn. -/
theorem taken_any (d : Nat) (Sv Rv : Value) (A Z : List Row) (w : World) (hD : DocIs w d Sv Rv (A ++ Z)) (hA : ∀ r ∈ A, r.lv = true) (hZ : ∀ r ∈ Z, r.lv = false ∧ r.g < 4294967295) (hn : (A ++ Z).length ≤ 1048576) :
    Calls Tryd.prog 61 #[.pointer (some ⟨d, 0, none⟩)] w (fun e w' => e = .returned (.int .i64 (A.length : Nat)) ∧ Below w.heap.size w w') := by
  obtain ⟨m, hm⟩ : ∃ m, m = (A ++ Z).length := ⟨_, rfl⟩
  have hmA : m = A.length + Z.length := by rw [hm, List.length_append]
  have d0 := hD.blk.cell 0
  simp only [List.getElem?_cons_zero] at d0
  obtain ⟨a, c, rfl, hc⟩ := hD.form
  have HH := Lib.hid (And.intro hD (And.intro hA (And.intro hZ (And.intro hn (And.intro hm hmA)))))
  rw [← hm] at d0 hc
  clear hD hA hZ hn hm hmA
  go_enter Tryd.func61, Tryd.ntmps61
  go_wp2
  go_loopg [3, 4] m (fun kq v3 v4 w' => ∃ i : Nat, v3 = .int .i64 ((min i A.length : Nat) : Int) ∧ v4 = .int .i64 i ∧ Hid (kq = m - i ∧ i ≤ m) ∧ w' = w)
  case atStart => exact ⟨0, by simp, rfl, Lib.hid ⟨rfl, Nat.zero_le _⟩, rfl⟩
  case round =>
    obtain ⟨i, rfl, rfl, HI, rfl⟩ := hrel
    have hi0 : (0 : Int) ≤ (i : Int) := by omega
    by_cases hi : i < m
    · have hi1 : (i : Int) < (m : Int) := by omega
      have hi2 : decide (i < m) = true := decide_eq_true hi
      obtain ⟨r, hr⟩ : ∃ r, (A ++ Z)[i]? = some r := ⟨(A ++ Z)[i]'(by have := HH.out; omega), List.getElem?_eq_getElem _⟩
      obtain ⟨g, c', e, _, c0, c1, _⟩ := HH.out.1.row hr
      simp only [Value.slice.injEq] at e
      obtain ⟨rfl, _, rfl⟩ := e
      by_cases hiA : i < A.length
      · have hl : r.lv = true := by
          rw [List.getElem?_append_left hiA] at hr
          exact HH.out.2.1 r (List.mem_of_getElem? hr)
        rw [hl] at c1
        have HX := Lib.hid (And.intro hi hiA)
        obtain ⟨t, ht⟩ : ∃ t, t = min i A.length := ⟨_, rfl⟩
        rw [← ht]
        have HT := Lib.hid ht
        have htl : (t : Int) ≤ 1048576 := by have := HH.out; omega
        have ht0 : (0 : Int) ≤ (t : Int) := by omega
        clear hi hr hl hiA ht
        go_wp2
        go_roundg (m - (i + 1))
        case measure => have := HI.out; have := HX.out; omega
        case rel =>
          refine ⟨i + 1, ?_, v64s HX.out.1 (by have := HH.out; omega), Lib.hid ⟨rfl, HX.out.1⟩, rfl⟩
          congr 1
          have h1 := HX.out.2
          have h2 := HT.out
          first | omega | (rw [Go.IntWalk.wrap64_in _ (by omega)]; omega)
      · have hz : r ∈ Z := by
          rw [List.getElem?_append_right (by omega)] at hr
          exact List.mem_of_getElem? hr
        obtain ⟨hl, hgw⟩ := HH.out.2.2.1 r hz
        rw [hl] at c1
        obtain ⟨G, hG⟩ : ∃ G : Nat, G = r.g := ⟨_, rfl⟩
        rw [← hG] at c0 hgw
        have hg1 : ((G : Int) == 4294967295) = false := beq_eq_false_iff_ne.2 (by omega)
        have HX := Lib.hid (And.intro hi hiA)
        clear hi hr hl hiA hz hgw hG
        go_wp2
        go_roundg (m - (i + 1))
        case measure => have := HI.out; have := HX.out; omega
        case rel =>
          refine ⟨i + 1, ?_, v64s HX.out.1 (by have := HH.out; omega), Lib.hid ⟨rfl, HX.out.1⟩, rfl⟩
          congr 1
          have h1 := HX.out.2
          omega
    · have hi1 : ¬ (i : Int) < (m : Int) := by omega
      have hi2 : decide (i < m) = false := decide_eq_false hi
      have ei : i = m := by have := HI.out; omega
      have HE := Lib.hid ei
      clear hi ei
      go_wp2
      go_ret
      refine ⟨ret_int ?_, Below.refl _ _⟩
      have h1 := HE.out
      have h2 := HH.out.2.2.2.2.2
      omega

set_option maxRecDepth 100000 in
set_option maxHeartbeats 4000000 in
/-- The least free index, where one is dead. -/
theorem free_dead (d : Nat) (Sv Rv : Value) (A : List Row) (z : Row) (Z : List Row) (w : World) (hD : DocIs w d Sv Rv (A ++ z :: Z)) (hA : ∀ r ∈ A, r.lv = true) (hZ : z.lv = false ∧ z.g < 4294967295) (hn : (A ++ z :: Z).length ≤ 1048576) :
    Calls Tryd.prog 77 #[.pointer (some ⟨d, 0, none⟩)] w (fun e w' => e = .returned (.int .i64 (A.length : Nat)) ∧ Below w.heap.size w w') := by
  obtain ⟨m, hm⟩ : ∃ m, m = (A ++ z :: Z).length := ⟨_, rfl⟩
  have hmA : m = A.length + Z.length + 1 := by rw [hm, List.length_append, List.length_cons]; omega
  have d0 := hD.blk.cell 0
  simp only [List.getElem?_cons_zero] at d0
  obtain ⟨a, c, rfl, hc⟩ := hD.form
  have HH := Lib.hid (And.intro hD (And.intro hA (And.intro hZ (And.intro hn (And.intro hm hmA)))))
  rw [← hm] at d0 hc
  clear hD hA hZ hn hm hmA
  go_enter Tryd.func77, Tryd.ntmps77
  go_wp2
  go_loopg [3] m (fun kq v4 w' => ∃ i : Nat, v4 = .int .i64 i ∧ Hid (kq = m - i ∧ i ≤ A.length) ∧ w' = w)
  case atStart => exact ⟨0, rfl, Lib.hid ⟨rfl, Nat.zero_le _⟩, rfl⟩
  case round =>
    obtain ⟨i, rfl, HI, rfl⟩ := hrel
    have hi0 : (0 : Int) ≤ (i : Int) := by omega
    have hi : i < m := by have := HI.out; have := HH.out; omega
    have hi1 : (i : Int) < (m : Int) := by omega
    have hi2 : decide (i < m) = true := decide_eq_true hi
    obtain ⟨r, hr⟩ : ∃ r, (A ++ z :: Z)[i]? = some r := ⟨(A ++ z :: Z)[i]'(by have := HH.out; omega), List.getElem?_eq_getElem _⟩
    obtain ⟨g, c', e, _, c0, c1, _⟩ := HH.out.1.row hr
    simp only [Value.slice.injEq] at e
    obtain ⟨rfl, _, rfl⟩ := e
    by_cases hiA : i < A.length
    · have hl : r.lv = true := by
        rw [List.getElem?_append_left hiA] at hr
        exact HH.out.2.1 r (List.mem_of_getElem? hr)
      rw [hl] at c1
      have HX := Lib.hid (And.intro hi hiA)
      clear hi hr hl hiA
      go_wp2
      go_roundg (m - (i + 1))
      case measure => have := HI.out; have := HX.out; omega
      case rel => exact ⟨i + 1, v64s HX.out.1 (by have := HH.out; omega), Lib.hid ⟨rfl, HX.out.2⟩, rfl⟩
    · have ei : i = A.length := by have := HI.out; omega
      have hz : r = z := by
        rw [List.getElem?_append_right (by omega), ei] at hr
        simpa using hr.symm
      subst hz
      obtain ⟨hl, hgw⟩ := HH.out.2.2.1
      rw [hl] at c1
      obtain ⟨G, hG⟩ : ∃ G : Nat, G = r.g := ⟨_, rfl⟩
      rw [← hG] at c0 hgw
      have hg1 : (G : Int) < 4294967295 := by omega
      have HX := Lib.hid ei
      clear hi hr hl hiA hgw hG ei
      go_wp2
      go_ret
      exact ⟨ret_int (by rw [HX.out]), Below.refl _ _⟩

end Df
end Go.Proofs.YtmmjmfadipmfiaaDoor

namespace Go.Proofs.YtmmjmfadipmfiaaDoor
open Go.RowKit
open Ch
namespace Df

theorem set_at {X Y : List Value} (j : Nat) (v : Value) : (X ++ Y).set (X.length + j) v = X ++ Y.set j v := by
  rw [List.set_append_right _ _ (by omega), Nat.add_sub_cancel_left]
theorem set_at0 {X Y : List Value} (v : Value) : (X ++ Y).set X.length v = X ++ Y.set 0 v := set_at 0 v
theorem rows_split {R : List Row} {i : Nat} {s : Row} (h : R[i]? = some s) (r : Row) : ∃ P Q, P.length = i * 8 ∧ rowsC R = P ++ (s.cells ++ Q) ∧ rowsC (R.set i r) = P ++ (r.cells ++ Q) := by
  have hi := (List.getElem?_eq_some_iff.1 h).1
  refine ⟨rowsC (R.take i), rowsC (R.drop (i + 1)), ?_, ?_, ?_⟩
  · rw [rowsC_len, List.length_take, Nat.min_eq_left (by omega)]
  · have e : R = R.take i ++ s :: R.drop (i + 1) := by
      rw [← drop_at h, List.take_append_drop]
    calc rowsC R = rowsC (R.take i ++ s :: R.drop (i + 1)) := by rw [← e]
      _ = _ := by rw [rowsC_app]; rfl
  · rw [List.set_eq_take_append_cons_drop, if_pos hi, rowsC_app]
    rfl
theorem rowsC_set8 (R : List Row) (i : Nat) (r : Row) (hi : i < R.length) : ((((((((rowsC R).set (i * 8) (.int .u32 (r.g : Nat))).set (i * 8 + 1) (.bool r.lv)).set (i * 8 + 2) (.int .i64 r.k)).set (i * 8 + 3) (.string r.n)).set (i * 8 + 4) (.slice r.aa r.al r.ac)).set (i * 8 + 5) (.string r.t)).set (i * 8 + 6) (.int .u64 (r.p : Nat))).set (i * 8 + 7) (.slice r.ka r.kl r.kc) = rowsC (R.set i r) := by
  obtain ⟨P, Q, hP, h1, h2⟩ := rows_split (List.getElem?_eq_getElem hi) r
  rw [h1, h2, ← hP]
  simp only [set_at, set_at0]
  rfl

def Row.withKids (r : Row) (a : Option Addr) (n c : Nat) : Row := { r with ka := a, kl := n, kc := c }
def Row.withPar (r : Row) (p : Nat) : Row := { r with p := p }
theorem rowsC_set1 (F : Row → Row) (j : Nat) (v : Row → Value) (hj : j < 8) (hF : ∀ r : Row, (F r).cells = r.cells.set j (v r)) (R : List Row) (i : Nat) (r : Row) (h : R[i]? = some r) : (rowsC R).set (i * 8 + j) (v r) = rowsC (R.set i (F r)) := by
  obtain ⟨P, Q, hP, h1, h2⟩ := rows_split h (F r)
  rw [h1, h2, ← hP, set_at, hF, List.set_append_left _ _ (by show j < 8; exact hj)]

theorem DocIs.setRow {w : World} {d : Nat} {g c : Nat} {Rv : Value} {R : List Row} (h : DocIs w d (.slice (some ⟨g, 0, none⟩) R.length c) Rv R) {i : Nat} (hi : i < R.length) (r : Row) :
    DocIs ((((((((w.setCell ⟨g, i * 8, none⟩ (.int .u32 (r.g : Nat))).setCell ⟨g, i * 8 + 1, none⟩ (.bool r.lv)).setCell ⟨g, i * 8 + 2, none⟩ (.int .i64 r.k)).setCell ⟨g, i * 8 + 3, none⟩ (.string r.n)).setCell ⟨g, i * 8 + 4, none⟩ (.slice r.aa r.al r.ac)).setCell ⟨g, i * 8 + 5, none⟩ (.string r.t)).setCell ⟨g, i * 8 + 6, none⟩ (.int .u64 (r.p : Nat))).setCell ⟨g, i * 8 + 7, none⟩ (.slice r.ka r.kl r.kc)) d (.slice (some ⟨g, 0, none⟩) R.length c) Rv (R.set i r) := by
  have hne : d ≠ g := fun e => h.ne (by rw [e]; rfl)
  refine ⟨?_, ?_⟩
  · exact (((((((h.blk.far ⟨g, _, none⟩ _ hne).far ⟨g, _, none⟩ _ hne).far ⟨g, _, none⟩ _ hne).far ⟨g, _, none⟩ _ hne).far ⟨g, _, none⟩ _ hne).far ⟨g, _, none⟩ _ hne).far ⟨g, _, none⟩ _ hne).far ⟨g, _, none⟩ _ hne
  · rw [List.length_set, ← rowsC_set8 R i r hi]
    exact ((((((((h.own.stored _ _).1.stored _ _).1.stored _ _).1.stored _ _).1.stored _ _).1.stored _ _).1.stored _ _).1.stored _ _).1
theorem DocIs.setKids {w : World} {d : Nat} {g c : Nat} {Rv : Value} {R : List Row} (h : DocIs w d (.slice (some ⟨g, 0, none⟩) R.length c) Rv R) {i : Nat} {r : Row} (hr : R[i]? = some r) (a : Option Addr) (n k : Nat) :
    DocIs (w.setCell ⟨g, i * 8 + 7, none⟩ (.slice a n k)) d (.slice (some ⟨g, 0, none⟩) R.length c) Rv (R.set i (r.withKids a n k)) := by
  have hne : d ≠ g := fun e => h.ne (by rw [e]; rfl)
  refine ⟨h.blk.far ⟨g, _, none⟩ _ hne, ?_⟩
  rw [List.length_set, ← rowsC_set1 (fun r => r.withKids a n k) 7 (fun _ => .slice a n k) (by omega) (fun r => rfl) R i r hr]
  exact (h.own.stored _ _).1
theorem DocIs.setPar {w : World} {d : Nat} {g c : Nat} {Rv : Value} {R : List Row} (h : DocIs w d (.slice (some ⟨g, 0, none⟩) R.length c) Rv R) {i : Nat} {r : Row} (hr : R[i]? = some r) (p : Nat) :
    DocIs (w.setCell ⟨g, i * 8 + 6, none⟩ (.int .u64 (p : Nat))) d (.slice (some ⟨g, 0, none⟩) R.length c) Rv (R.set i (r.withPar p)) := by
  have hne : d ≠ g := fun e => h.ne (by rw [e]; rfl)
  refine ⟨h.blk.far ⟨g, _, none⟩ _ hne, ?_⟩
  rw [List.length_set, ← rowsC_set1 (fun r => r.withPar p) 6 (fun _ => .int .u64 (p : Nat)) (by omega) (fun r => rfl) R i r hr]
  exact (h.own.stored _ _).1

theorem elemSlot : Elem Tryd.prog 112 8 104 (.agg #[.int .u32 0, .bool false, .int .i64 0, .string ⟨#[]⟩, .slice none 0 0, .string ⟨#[]⟩, .int .u64 0, .slice none 0 0]) := Elem.mk' (by kernel_rfl) rfl (by omega) (by omega)
theorem elemHd : Elem Tryd.prog 62 1 8 (.int .u64 0) := Elem.mk' (by kernel_rfl) rfl (by omega) (by omega)

def FreePost (w : World) (d : Nat) (Sv Rv : Value) (A Z Z' : List Row) (e : Ending) (w' : World) : Prop := ∃ Sv', e = .returned (.int .i64 (A.length : Nat)) ∧ DocIs w' d Sv' Rv (A ++ Z') ∧ Upd w w' (· = d) ∧ (∀ g, Sv'.ownBlock = some g → Sv.ownBlock = some g ∨ w.heap.size ≤ g)

set_option maxRecDepth 100000 in
set_option maxHeartbeats 4000000 in
/-- No free index: one more. -/
theorem free_grow (d : Nat) (Sv Rv : Value) (A : List Row) (w : World) (hD : DocIs w d Sv Rv A) (hA : ∀ r ∈ A, r.lv = true) (hn : A.length ≤ 1048576) :
    Calls Tryd.prog 77 #[.pointer (some ⟨d, 0, none⟩)] w (FreePost w d Sv Rv A [] [dead 0]) := by
  obtain ⟨m, hm⟩ : ∃ m, m = A.length := ⟨_, rfl⟩
  have d0 := hD.blk.cell 0
  simp only [List.getElem?_cons_zero] at d0
  obtain ⟨a, c, rfl, hc⟩ := hD.form
  have HH := Lib.hid (And.intro hD (And.intro hA (And.intro hn hm)))
  rw [← hm] at d0 hc
  clear hD hA hn hm
  go_enter Tryd.func77, Tryd.ntmps77
  go_wp2
  go_loopg [3] m (fun kq v4 w' => ∃ i : Nat, v4 = .int .i64 i ∧ Hid (kq = m - i ∧ i ≤ m) ∧ w' = w)
  case atStart => exact ⟨0, rfl, Lib.hid ⟨rfl, Nat.zero_le _⟩, rfl⟩
  case round =>
    obtain ⟨i, rfl, HI, rfl⟩ := hrel
    have hi0 : (0 : Int) ≤ (i : Int) := by omega
    by_cases hi : i < m
    · have hi1 : (i : Int) < (m : Int) := by omega
      have hi2 : decide (i < m) = true := decide_eq_true hi
      obtain ⟨r, hr⟩ : ∃ r, A[i]? = some r := ⟨A[i]'(by have := HH.out; omega), List.getElem?_eq_getElem _⟩
      obtain ⟨g, c', e, _, c0, c1, _⟩ := HH.out.1.row hr
      simp only [Value.slice.injEq] at e
      obtain ⟨rfl, _, rfl⟩ := e
      have hl : r.lv = true := HH.out.2.1 r (List.mem_of_getElem? hr)
      rw [hl] at c1
      have HX := Lib.hid hi
      clear hi hr hl
      go_wp2
      go_roundg (m - (i + 1))
      case measure => have := HI.out; have := HX.out; omega
      case rel => exact ⟨i + 1, v64s HX.out (by have := HH.out; omega), Lib.hid ⟨rfl, HX.out⟩, rfl⟩
    · have hi1 : ¬ (i : Int) < (m : Int) := by omega
      have hi2 : decide (i < m) = false := decide_eq_false hi
      have hdlt := HH.out.1.blk.lt
      have hdne : d ≠ wr.heap.size := Nat.ne_of_lt hdlt
      clear hi
      go_wp2_with (at_builtin; refine halt_mk ?_)
      refine halt_go ?_
      obtain ⟨N, hN⟩ : ∃ N, N = wr.heap.size := ⟨_, rfl⟩
      have HN := Lib.hid hN
      rw [← hN]
      clear hN
      generalize hW : World.alloc _ _ = W
      have T1 : Upd wr W (fun _ => False) := by rw [← hW]; exact (Upd.refl wr _).alloc _
      have O1 : W.ownsRow 0 112 8 (.slice (some ⟨N, 0, none⟩) 0 0) 0 [] := by rw [← hW]; exact own_lit_sz HN.out
      clear hW
      have D1 := HH.out.1.keep T1 (fun h => h) (fun _ _ h => h)
      have hRd := Rd.ofOwn D1.own
      rw [← HH.out.2.2.2] at hRd
      refine wpl_app (n := 0) (m := m) rfl rfl elemSlot Tryd.underlying83 rfl O1 rfl hRd (rowsC_one A) (by have := HH.out; omega) ?_
      rintro v1 w4 ⟨O2, U2, b2⟩
      rw [Nat.zero_add, List.nil_append] at O2
      have hv : ∀ g, v1.ownBlock = some g → N ≤ g := fun g hg => by
        rcases b2 with e | e
        · have := ob_eq (e.symm.trans hg); omega
        · have := ob_some (e.symm.trans hg); have := T1.size; have := HN.out; omega
      have U4 : Upd wr w4 (fun _ => False) := T1.trans U2 (fun i hi e => by have := ob_eq e; have := HN.out; omega)
      have H4 := Lib.hid (And.intro O2 (And.intro U4 hv))
      clear O1 D1 hRd O2 U2 b2 hv T1 U4
      obtain ⟨a1, c1, rfl, _⟩ := (Rd.ofOwn H4.out.1).form
      go_wp2_with (at_builtin; refine halt_mk ?_)
      refine halt_go ?_
      obtain ⟨q, hq⟩ : ∃ q, q = w4.heap.size := ⟨_, rfl⟩
      have HQ := Lib.hid hq
      rw [← hq]
      clear hq
      generalize hW : World.alloc _ _ = W5
      have T5 : Upd w4 W5 (fun _ => False) := by rw [← hW]; exact (Upd.refl w4 _).alloc _
      have X5 : Blk W5 q (Row.cells (dead 0)) 112 := by rw [← hW]; exact Blk.new' HQ.out
      clear hW
      have O5 := own_keep H4.out.1 T5 (fun _ _ h => h)
      refine wpl_app rfl rfl elemSlot Tryd.underlying83 rfl O5 rfl (Rd.ofBlk X5 1 8 rfl) (fun u hu => List.all_eq_true.1 (rfl : (Row.cells (dead 0)).all Value.oneCell' = true) u hu) (by have := HH.out; omega) ?_
      rintro v6 w6 ⟨O6, U6, b6⟩
      have hv : ∀ g, v6.ownBlock = some g → N ≤ g := fun g hg => by
        rcases b6 with e | e
        · exact H4.out.2.2 g (e ▸ hg)
        · have := ob_some (e.symm.trans hg); have := T5.size; have := H4.out.2.1.size; have := HN.out; omega
      have U6 : Upd wr w6 (fun _ => False) := (H4.out.2.1.trans T5 (fun _ _ h => h)).trans U6 (fun i hi e => by have := H4.out.2.2 i e; have := HN.out; omega)
      have D6 := U6.blk HH.out.1.blk (fun h => h)
      have e0 := D6.cell 0
      have f0 := D6.free 0
      simp only [List.getElem?_cons_zero] at e0
      obtain ⟨a6, c6, rfl, _⟩ := (Rd.ofOwn O6).form
      have H6 := Lib.hid (And.intro O6 (And.intro U6 (And.intro hv D6)))
      clear T5 X5 O5 O6 b6 hv U6 D6
      have hm1 : wrap64 ((m : Int) + 1 - 1) = (m : Int) := by rw [Go.IntWalk.wrap64_in _ (by have := HH.out; omega)]; omega
      have hm2 : wrap64 (m : Int) = (m : Int) := by rw [Go.IntWalk.wrap64_in _ (by have := HH.out; omega)]
      go_wp2
      go_ret
      have hdN := HH.out.1.blk.lt
      refine ⟨.slice a6 (m + 1) c6, ret_int ?_, ⟨?_, ?_⟩, H6.out.2.1.mono (fun _ _ h => h.elim) |>.set _ _ (fun _ => rfl), fun g hg => Or.inr (by have := H6.out.2.2.1 g hg; have := HN.out; omega)⟩
      · first | exact (congrArg (fun n : Nat => (n : Int)) HH.out.2.2.2) | (rw [hm2]; have := HH.out.2.2.2; omega) | (have := HH.out.2.2.2; omega)
      · exact H6.out.2.2.2.set 0 _
      · have h := own_keep H6.out.1 ((Upd.refl w6 (· = d)).set ⟨d, 0, none⟩ (.slice a6 (m + 1) c6) (fun _ => rfl)) (fun g hg e => by have := H6.out.2.2.1 g hg; have := HN.out; omega)
        rw [List.length_append, rowsC_app]
        have em := HH.out.2.2.2
        simpa [em, rowsC] using h

end Df
end Go.Proofs.YtmmjmfadipmfiaaDoor
