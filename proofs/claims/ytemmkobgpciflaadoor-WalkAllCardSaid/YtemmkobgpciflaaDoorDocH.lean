/- The document's Doc in memory: rows of slots; Handle, at, Live, List: walked. -/
import Derived.Test.YtemmkobgpciflaaDoorTr
import Derived.Test.YtemmkobgpciflaaDoorReg4
import Derived.Laws.Bits64b
namespace Go.Proofs.YtemmkobgpciflaaDoor
open Go.RowKit
open Ch
namespace Df

/-- A slot as it lies in memory. -/
structure Row where
  g : Nat
  lv : Bool
  k : Int
  n : ByteArray
  aa : Option Addr
  al : Nat
  ac : Nat
  t : ByteArray
  p : Nat
  ka : Option Addr
  kl : Nat
  kc : Nat
def Row.cells (r : Row) : List Value := [.int .u32 (r.g : Nat), .bool r.lv, .int .i64 r.k, .string r.n, .slice r.aa r.al r.ac, .string r.t, .int .u64 (r.p : Nat), .slice r.ka r.kl r.kc]
def dead (g : Nat) : Row := ⟨g, false, 0, ⟨#[]⟩, none, 0, 0, ⟨#[]⟩, 0, none, 0, 0⟩
def rowsC (R : List Row) : List Value := R.flatMap Row.cells
theorem rowsC_app (A B : List Row) : rowsC (A ++ B) = rowsC A ++ rowsC B := List.flatMap_append
theorem rowsC_len : ∀ R : List Row, (rowsC R).length = R.length * 8
  | [] => rfl
  | r :: R => by
    show (r.cells ++ rowsC R).length = _
    rw [List.length_append, rowsC_len R, List.length_cons]
    simp [Row.cells]
    omega
theorem rowsC_at : ∀ {R : List Row} {i : Nat} {r : Row}, R[i]? = some r → ∀ j, j < 8 → (rowsC R)[i * 8 + j]? = r.cells[j]?
  | [], _, _, h, _, _ => by simp at h
  | s :: R, 0, r, h, j, hj => by
    simp at h
    subst h
    show (s.cells ++ rowsC R)[0 * 8 + j]? = _
    rw [List.getElem?_append_left (by simp [Row.cells]; omega)]
    simp
  | s :: R, i + 1, r, h, j, hj => by
    show (s.cells ++ rowsC R)[(i + 1) * 8 + j]? = _
    have : s.cells.length = 8 := rfl
    rw [List.getElem?_append_right (by omega), this, show (i + 1) * 8 + j - 8 = i * 8 + j by omega]
    exact rowsC_at (by simpa using h) j hj
theorem rowsC_one (R : List Row) : ∀ u ∈ rowsC R, u.oneCell' = true := by
  intro u hu
  obtain ⟨r, _, h⟩ := List.mem_flatMap.1 hu
  exact List.all_eq_true.1 (rfl : (Row.cells r).all Value.oneCell' = true) u h

/-- The handle of an index. -/
def hand (g i : Nat) : Nat := g * 4294967296 + (i + 1)

/-- A document: its slots' slice, its roots' slice, its rows. -/
structure DocIs (w : World) (d : Nat) (Sv Rv : Value) (R : List Row) : Prop where
  blk : Blk w d [Sv, Rv] 122
  own : w.ownsRow 0 153 8 Sv R.length (rowsC R)
theorem DocIs.keep {w w' : World} {d : Nat} {Sv Rv : Value} {R : List Row} (h : DocIs w d Sv Rv R) {F : Nat → Prop} (hU : Upd w w' F) (hd : ¬ F d) (hS : ∀ g, Sv.ownBlock = some g → ¬ F g) : DocIs w' d Sv Rv R := ⟨hU.blk h.blk hd, own_keep h.own hU hS⟩
theorem DocIs.below {w w' : World} {d : Nat} {Sv Rv : Value} {R : List Row} (h : DocIs w d Sv Rv R) (hB : Below w.heap.size w w') : DocIs w' d Sv Rv R := h.keep (Upd.ofBelow (F := fun _ => False) hB) (fun h => h) (fun _ _ h => h)
theorem DocIs.ne {w : World} {d : Nat} {Sv Rv : Value} {R : List Row} (h : DocIs w d Sv Rv R) : Sv.ownBlock ≠ some d := fun e => by
  obtain ⟨_, hv⟩ := own_ty h.own e
  exact h.blk.ty hv (by decide) rfl
theorem DocIs.form {w : World} {d : Nat} {Sv Rv : Value} {R : List Row} (h : DocIs w d Sv Rv R) : ∃ a c, Sv = .slice a R.length c ∧ R.length ≤ c := (Rd.ofOwn h.own).form
/-- A row's cells. -/
theorem DocIs.row {w : World} {d : Nat} {Sv Rv : Value} {R : List Row} (h : DocIs w d Sv Rv R) {i : Nat} {r : Row} (hr : R[i]? = some r) : ∃ g c, Sv = .slice (some ⟨g, 0, none⟩) R.length c ∧ R.length ≤ c ∧
    w.cell? ⟨g, i * 8, none⟩ = some (.int .u32 (r.g : Nat)) ∧ w.cell? ⟨g, i * 8 + 1, none⟩ = some (.bool r.lv) ∧ w.cell? ⟨g, i * 8 + 2, none⟩ = some (.int .i64 r.k) ∧ w.cell? ⟨g, i * 8 + 3, none⟩ = some (.string r.n) ∧ w.cell? ⟨g, i * 8 + 4, none⟩ = some (.slice r.aa r.al r.ac) ∧
    w.cell? ⟨g, i * 8 + 5, none⟩ = some (.string r.t) ∧ w.cell? ⟨g, i * 8 + 6, none⟩ = some (.int .u64 (r.p : Nat)) ∧ w.cell? ⟨g, i * 8 + 7, none⟩ = some (.slice r.ka r.kl r.kc) ∧ (∀ j, w.frozen? ⟨g, j, none⟩ = false) := by
  have hi := (List.getElem?_eq_some_iff.1 hr).1
  have own := h.own
  obtain ⟨hl, ⟨e, h0⟩ | ⟨g, cap, cur, rfl, hb, hg, hn, hm, hs, ht⟩⟩ := own
  · rw [rowsC_len] at hl
    have hz : R.length = 0 := by
      have h1 := h.own.1
      rw [h0] at h1
      simp at h1
      omega
    omega
  · have c := fun j (hj : j < 8) => (h.own.cellAt (i * 8 + j) (by omega)).trans (rowsC_at hr j hj)
    exact ⟨g, cap, rfl, hn, c 0 (by omega), c 1 (by omega), c 2 (by omega), c 3 (by omega), c 4 (by omega), c 5 (by omega), c 6 (by omega), c 7 (by omega), fun j => h.own.frozenAt j⟩

theorem orHand (g i : Nat) (hg : g < 4294967296) (hi : i + 1 < 4294967296) : bits .or .u64 ((g : Int) * 4294967296) ((i : Int) + 1) = (hand g i : Nat) := by
  have h1 := bits_or_u64_nat (g * 4294967296) (i + 1) (by omega) (by omega)
  have h2 : (g * 4294967296) ||| (i + 1) = hand g i := by
    have := Nat.shiftLeft_add_eq_or_of_lt (a := g) (b := i + 1) (i := 32) (by simpa using hi)
    rw [Nat.shiftLeft_eq] at this
    simpa [hand] using this.symm
  rw [h2] at h1
  simpa using h1

theorem handQ (g i : Nat) (hg : g < 4294967296) (hi : i < 1048576) : bits .or .u64 ((g : Int) * 4294967296) ((i : Int) + 1) = (hand g i : Nat) ∧ IntKind.u64.wrap (g : Int) = (g : Int) ∧ IntKind.u64.wrap ((g : Int) * 4294967296) = (g : Int) * 4294967296 ∧
    IntKind.u64.wrap ((i : Int) + 1) = (i : Int) + 1 ∧ wrap64 ((i : Int) + 1) = (i : Int) + 1 ∧ (0 : Int) ≤ (i : Int) := by
  refine ⟨orHand g i hg (by omega), ?_, ?_, ?_, ?_, by omega⟩
  · rw [IntKind.wrap_u64]; omega
  · rw [IntKind.wrap_u64]; omega
  · rw [IntKind.wrap_u64]; omega
  · rw [Go.IntWalk.wrap64_in _ (by omega)]

set_option maxRecDepth 100000 in
set_option maxHeartbeats 4000000 in
theorem handle_any (d : Nat) (Sv Rv : Value) (R : List Row) (i : Nat) (r : Row) (w : World) (hD : DocIs w d Sv Rv R) (hr : R[i]? = some r) (hg : r.g < 4294967296) (hi : i < 1048576) :
    Calls Tryd.prog 156 #[.pointer (some ⟨d, 0, none⟩), .int .i64 (i : Nat)] w (fun e w' => e = .returned (.int .u64 (hand r.g i : Nat)) ∧ Below w.heap.size w w') := by
  have hil := (List.getElem?_eq_some_iff.1 hr).1
  have hi1 : (i : Int) < (R.length : Int) := Int.ofNat_lt.2 hil
  have d0 := hD.blk.cell 0
  obtain ⟨g, c, rfl, hc, c0, c1, c2, c3, c4, c5, c6, c7, fz⟩ := hD.row hr
  simp only [List.getElem?_cons_zero] at d0
  obtain ⟨q1, q2, q3, q4, q5, hi0⟩ := handQ r.g i hg hi
  obtain ⟨X, hX⟩ : ∃ X, X = hand r.g i := ⟨_, rfl⟩
  rw [← hX] at q1 ⊢
  obtain ⟨G, hG⟩ : ∃ G : Nat, G = r.g := ⟨_, rfl⟩
  rw [← hG] at q1 q2 q3 c0
  clear hD hr hG hX c1 c2 c3 c4 c5 c6 c7 fz hg hi
  go_enter Tryd.func156, Tryd.ntmps156
  go_wp2
  go_ret
  exact ⟨rfl, Below.refl _ _⟩

theorem handM (g i : Nat) (hi : i < 1048576) : ((hand g i : Nat) : Int) % 4294967296 = (i : Int) + 1 ∧ Int.tmod ((hand g i : Nat) : Int) 4294967296 = (i : Int) + 1 ∧ hand g i % 4294967296 = i + 1 ∧ IntKind.i64.wrap ((i : Int) + 1) = (i : Int) + 1 ∧ wrap64 ((i : Int) + 1 - 1) = (i : Int) ∧ wrap64 ((i : Int) + 1) = (i : Int) + 1 := by
  have h1 : hand g i % 4294967296 = i + 1 := by
    unfold hand
    omega
  have h2 : ((hand g i : Nat) : Int) % 4294967296 = (i : Int) + 1 := by
    have := congrArg (fun n : Nat => (n : Int)) h1
    simpa using this
  refine ⟨h2, ?_, h1, ?_, ?_, ?_⟩
  · rw [Int.tmod_eq_emod_of_nonneg (Int.natCast_nonneg _)]
    exact h2
  · rw [Go.IntWalk.i64_left, Go.IntWalk.wrap64_in _ (by omega)]
  · rw [Go.IntWalk.wrap64_in _ (by omega)]; omega
  · rw [Go.IntWalk.wrap64_in _ (by omega)]

set_option maxRecDepth 100000 in
set_option maxHeartbeats 4000000 in
theorem at_any (d : Nat) (Sv Rv : Value) (R : List Row) (i : Nat) (r : Row) (w : World) (hD : DocIs w d Sv Rv R) (hr : R[i]? = some r) (hl : r.lv = true) (hg : r.g < 4294967296) (hi : i < 1048576) :
    Calls Tryd.prog 114 #[.pointer (some ⟨d, 0, none⟩), .int .u64 (hand r.g i : Nat)] w (fun e w' => e = .returned (.int .i64 (i : Nat)) ∧ Below w.heap.size w w') := by
  have HC := Lib.hid (handle_any d Sv Rv R i r w hD hr hg hi)
  have hil := (List.getElem?_eq_some_iff.1 hr).1
  have hi1 : (i : Int) < (R.length : Int) := Int.ofNat_lt.2 hil
  have hi2 : ¬ ((R.length : Int) ≤ (i : Int)) := Int.not_le.2 hi1
  have d0 := hD.blk.cell 0
  obtain ⟨g, c, rfl, hc, c0, c1, c2, c3, c4, c5, c6, c7, fz⟩ := hD.row hr
  simp only [List.getElem?_cons_zero] at d0
  obtain ⟨q1, q2, q3, q4, q5, q6⟩ := handM r.g i hi
  rw [hl] at c1
  obtain ⟨X, hX⟩ : ∃ X, X = hand r.g i := ⟨_, rfl⟩
  rw [← hX] at q1 q2 q3 HC ⊢
  have hi0 : (0 : Int) ≤ (i : Int) := Int.natCast_nonneg _
  have hi3 : ¬ ((i : Int) < 0) := Int.not_lt.2 hi0
  have hi4 : decide (R.length ≤ i) = false := decide_eq_false (Nat.not_le.2 hil)
  clear hD hr hX c0 c2 c3 c4 c5 c6 c7 fz hg hi
  go_enter Tryd.func114, Tryd.ntmps114
  go_wp2_with fail
  refine HC.out.mono ?_
  rintro e w2 ⟨rfl, B2⟩
  have H2 := Lib.hid B2
  clear B2
  go_wp2
  go_ret
  exact ⟨rfl, H2.out⟩

set_option maxRecDepth 100000 in
set_option maxHeartbeats 4000000 in
theorem live_any (d : Nat) (Sv Rv : Value) (R : List Row) (i : Nat) (r : Row) (w : World) (hD : DocIs w d Sv Rv R) (hr : R[i]? = some r) (hl : r.lv = true) (hg : r.g < 4294967296) (hi : i < 1048576) :
    Calls Tryd.prog 70 #[.pointer (some ⟨d, 0, none⟩), .int .u64 (hand r.g i : Nat)] w (fun e w' => e = .returned (.bool true) ∧ Below w.heap.size w w') := by
  have HC := Lib.hid (at_any d Sv Rv R i r w hD hr hl hg hi)
  have hi0 : (0 : Int) ≤ (i : Int) := Int.natCast_nonneg _
  obtain ⟨X, hX⟩ : ∃ X, X = hand r.g i := ⟨_, rfl⟩
  rw [← hX] at HC ⊢
  clear hD hr hl hg hi hX
  go_enter Tryd.func70, Tryd.ntmps70
  go_wp2_with fail
  refine HC.out.mono ?_
  rintro e w2 ⟨rfl, B2⟩
  have H2 := Lib.hid B2
  clear B2
  go_wp2
  go_ret
  exact ⟨rfl, H2.out⟩

theorem hand_ne (g i : Nat) : hand g i ≠ 0 := by unfold hand; omega

set_option maxRecDepth 100000 in
set_option maxHeartbeats 4000000 in
theorem list0_any (d : Nat) (Sv Rv : Value) (R : List Row) (w : World) (hD : DocIs w d Sv Rv R) :
    Calls Tryd.prog 115 #[.pointer (some ⟨d, 0, none⟩), .int .u64 0] w (fun e w' => e = .returned Rv ∧ w' = w) := by
  have d1 := hD.blk.cell 1
  simp only [List.getElem?_cons_zero, List.getElem?_cons_succ] at d1
  clear hD
  go_enter Tryd.func115, Tryd.ntmps115
  go_wp2
  go_ret
  exact ⟨rfl, rfl⟩

set_option maxRecDepth 100000 in
set_option maxHeartbeats 4000000 in
theorem list_any (d : Nat) (Sv Rv : Value) (R : List Row) (i : Nat) (r : Row) (w : World) (hD : DocIs w d Sv Rv R) (hr : R[i]? = some r) (hl : r.lv = true) (hg : r.g < 4294967296) (hi : i < 1048576) :
    Calls Tryd.prog 115 #[.pointer (some ⟨d, 0, none⟩), .int .u64 (hand r.g i : Nat)] w (fun e w' => e = .returned (.slice r.ka r.kl r.kc) ∧ Below w.heap.size w w') := by
  have hil := (List.getElem?_eq_some_iff.1 hr).1
  have hi1 : (i : Int) < (R.length : Int) := Int.ofNat_lt.2 hil
  have hi0 : (0 : Int) ≤ (i : Int) := Int.natCast_nonneg _
  have hX0 := hand_ne r.g i
  have C := fun w' (hB : Below w.heap.size w w') => at_any d Sv Rv R i r w' (hD.below hB) hr hl hg hi
  obtain ⟨X, hX⟩ : ∃ X, X = hand r.g i := ⟨_, rfl⟩
  rw [← hX] at C hX0 ⊢
  have hX1 : ((X : Int) == 0) = false := beq_eq_false_iff_ne.2 (by omega)
  obtain ⟨g, c, rfl, hc, _⟩ := hD.row hr
  have HC := Lib.hid (And.intro C (And.intro hD hr))
  have row : ∀ w' : World, Below w.heap.size w w' → w'.cell? ⟨d, 0, none⟩ = some (.slice (some ⟨g, 0, none⟩) R.length c) ∧ w'.cell? ⟨g, i * 8 + 7, none⟩ = some (.slice r.ka r.kl r.kc) := by
    intro w' hB
    have h := hD.below hB
    obtain ⟨g', c', e, _, _, _, _, _, _, _, _, h7, _⟩ := h.row hr
    simp only [Value.slice.injEq, Option.some.injEq, Addr.mk.injEq] at e
    obtain ⟨⟨rfl, _⟩, _, rfl⟩ := e
    exact ⟨h.blk.cell 0, h7⟩
  have hB0 : Below w.heap.size w w.drew := (Below.refl _ _).drew
  have hc0 := (row _ hB0).1
  have hc1 := (row _ hB0).2
  obtain ⟨ka, hka⟩ : ∃ ka, ka = r.ka := ⟨_, rfl⟩
  obtain ⟨kl, hkl⟩ : ∃ kl, kl = r.kl := ⟨_, rfl⟩
  obtain ⟨kc, hkc⟩ : ∃ kc, kc = r.kc := ⟨_, rfl⟩
  rw [← hka, ← hkl, ← hkc] at row hc1 ⊢
  have HR := Lib.hid row
  clear hD hr hl hg hi hX C row hc hX0 hka hkl hkc
  go_enter Tryd.func115, Tryd.ntmps115
  go_wp2
  apply wp_reg (fun w' : World => w'.cell? ⟨d, 0, none⟩ = some (.slice (some ⟨g, 0, none⟩) R.length c) ∧ w'.cell? ⟨g, i * 8 + 7, none⟩ = some (.slice ka kl kc)) [0, 1, 2, 3, 4, 5] [6, 7, 8, 9] [10] (by kernel_rfl) (by kernel_rfl) (fun _ _ d _ _ h => by cases d <;> exact h) ⟨hc0, hc1⟩
  · iterate 6 (apply reads_consL rfl rfl; (· intro w0 hS; obtain ⟨hS1, hS2⟩ := hS; go_simp; try rfl); simp only [Act.put, List.setIfInBounds_toArray, List.set_cons_zero, List.set_cons_succ])
    exact rfl
  have HB0 := Lib.hid hB0
  have HC1 := Lib.hid (HC.out.1 _ hB0)
  clear hc0 hc1 hB0
  refine tail_consL rfl ?_
  go_wp2_with fail
  refine HC1.out.mono ?_
  rintro e w2 ⟨rfl, B2⟩
  have BB : Below w.heap.size w w2 := below_tr HB0.out B2
  have S2 := HR.out w2 BB
  have H2 := Lib.hid BB
  have s1 := S2.1
  have s2 := S2.2
  clear B2 BB
  go_wp2_with fail
  refine ⟨S2, tail_consL rfl ?_⟩
  go_wp2_with fail
  refine ⟨S2, tail_consL rfl ?_⟩
  go_wp2_with fail
  refine ⟨S2, tail_consL rfl ?_⟩
  go_wp2_with fail
  refine ⟨S2, tail_oneL rfl ?_⟩
  clear S2
  go_wp2
  go_ret
  exact ⟨rfl, H2.out⟩

end Df
end Go.Proofs.YtemmkobgpciflaaDoor
