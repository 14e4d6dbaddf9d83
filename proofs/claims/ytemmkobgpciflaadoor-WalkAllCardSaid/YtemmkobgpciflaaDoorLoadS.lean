/- A document of an image: the document's Load, walked. -/
import Derived.Test.YtemmkobgpciflaaDoorLoadR
import Derived.Test.YtemmkobgpciflaaDoorDoc
import Derived.Test.YtemmkobgpciflaaDoorOTree
namespace Go.Proofs.YtemmkobgpciflaaDoor
open Go.RowKit
open Ch
namespace Df

/-- A row in what its kind uses. -/
def rowTidy (r : Row) : Row := if r.lv = true then (if r.k = 2 then { r with n := ⟨#[]⟩, aa := none, al := 0, ac := 0, ka := none, kl := 0, kc := 0 } else { r with t := ⟨#[]⟩ }) else dead r.g
theorem RowIs.tidy {w : World} {Q : Nat → Prop} {r : Row} {s : Im.Sl} (h : RowIs w Q r s) : RowIs w Q (rowTidy r) (Im.tidy s) := by
  unfold rowTidy Im.tidy
  rw [h.lv, h.k]
  have z2 : RdP w Q 2 (.slice none 0 0) 0 [] := ⟨Rd.nil _ _, fun h => absurd rfl h⟩
  have z1 : RdP w Q 1 (.slice none 0 0) 0 [] := ⟨Rd.nil _ _, fun h => absurd rfl h⟩
  split
  · split
    · exact ⟨h.g, rfl, rfl, rfl, h.t, h.p, z2, z1⟩
    · exact ⟨h.g, rfl, rfl, h.n, rfl, h.p, h.al, h.ks⟩
  · rw [h.g]
    exact ⟨rfl, rfl, rfl, rfl, rfl, rfl, z2, z1⟩
theorem RowsIs.tidy {w : World} {Q : Nat → Prop} {R : List Row} {S : List Im.Sl} (h : RowsIs w Q R S) : RowsIs w Q (R.map rowTidy) (S.map Im.tidy) := by
  refine ⟨by rw [List.length_map, List.length_map, h.1], fun i r s h1 h2 => ?_⟩
  rw [List.getElem?_map] at h1 h2
  cases hr : R[i]? with
  | none => rw [hr] at h1; cases h1
  | some r' =>
    cases hs : S[i]? with
    | none => rw [hs] at h2; cases h2
    | some s' =>
      rw [hr] at h1
      rw [hs] at h2
      cases h1
      cases h2
      exact (h.2 i r' s' hr hs).tidy
theorem RowIs.kl {w : World} {Q : Nat → Prop} {r : Row} {s : Im.Sl} (h : RowIs w Q r s) : r.kl = s.ks.length ∧ r.al = s.al.length := by
  obtain ⟨a, c, e, _⟩ := h.ks.1.form
  obtain ⟨a', c', e', _⟩ := h.al.1.form
  simp only [Value.slice.injEq] at e e'
  exact ⟨e.2.1, e'.2.1⟩
theorem row_at {w : World} {Q : Nat → Prop} {sa : Option Addr} {n sc : Nat} {R : List Row} (h : RdP w Q 8 (.slice sa n sc) n (rowsC R)) {i : Nat} {r : Row} (hr : R[i]? = some r) :
    ∃ g off, sa = some ⟨g, off, none⟩ ∧ n ≤ sc ∧ w.cell? ⟨g, off + i * 8, none⟩ = some (.int .u32 (r.g : Nat)) ∧ w.cell? ⟨g, off + i * 8 + 1, none⟩ = some (.bool r.lv) ∧ w.cell? ⟨g, off + i * 8 + 2, none⟩ = some (.int .i64 r.k) ∧ w.cell? ⟨g, off + i * 8 + 3, none⟩ = some (.string r.n) ∧ w.cell? ⟨g, off + i * 8 + 4, none⟩ = some (.slice r.aa r.al r.ac) ∧
    w.cell? ⟨g, off + i * 8 + 5, none⟩ = some (.string r.t) ∧ w.cell? ⟨g, off + i * 8 + 6, none⟩ = some (.int .u64 (r.p : Nat)) ∧ w.cell? ⟨g, off + i * 8 + 7, none⟩ = some (.slice r.ka r.kl r.kc) := by
  have c := rowsC_at hr
  have at0 := h.1.at_ ((c 0 (by omega)).trans rfl)
  obtain ⟨g, off, c', e, hc, r0⟩ := at0
  simp only [Value.slice.injEq] at e
  obtain ⟨rfl, _, rfl⟩ := e
  have key : ∀ j (hj : j < 8) v, r.cells[j]? = some v → w.cell? ⟨g, off + i * 8 + j, none⟩ = some v := fun j hj v hv => by
    obtain ⟨g', o', c'', e, _, rj⟩ := h.1.at_ ((c j hj).trans hv)
    simp only [Value.slice.injEq, Option.some.injEq, Addr.mk.injEq] at e
    obtain ⟨⟨rfl, rfl, _⟩, _, _⟩ := e
    rw [Nat.add_assoc]
    exact rj
  exact ⟨g, off, rfl, hc, key 0 (by omega) _ rfl, key 1 (by omega) _ rfl, key 2 (by omega) _ rfl, key 3 (by omega) _ rfl, key 4 (by omega) _ rfl, key 5 (by omega) _ rfl, key 6 (by omega) _ rfl, key 7 (by omega) _ rfl⟩

theorem load_none {S : List Im.Sl} {roots : List Nat} {i : Nat} {s : Im.Sl} (hs : S[i]? = some s) (hb : Im.slotB s = false) : Im.load S roots = none := by
  unfold Im.load
  split
  · rfl
  · rw [if_pos (List.all_eq_false.2 ⟨s, List.mem_of_getElem? hs, by rw [hb]; simp⟩)]
theorem slotB_zero {s : Im.Sl} (h : s.g = 0) : Im.slotB s = false := by
  unfold Im.slotB
  rw [h]
  rfl
theorem slotB_dead {s : Im.Sl} (h : 1 ≤ s.g) (hl : s.lv = false) : Im.slotB s = true := by
  unfold Im.slotB
  rw [decide_eq_true h, hl]
  rfl
theorem slotB_live {s : Im.Sl} (h : 1 ≤ s.g) (hl : s.lv = true) : Im.slotB s = slotOk s.k s.n s.al s.t s.ks.length := by
  unfold Im.slotB slotOk
  rw [decide_eq_true h, hl]
  have e : s.ks.isEmpty = decide (s.ks.length = 0) := by
    cases s.ks with
    | nil => rfl
    | cons x l => simp
  rw [e]
  rfl
theorem all_take {S : List Im.Sl} {i : Nat} {s : Im.Sl} (hs : S[i]? = some s) (h : (S.take i).all Im.slotB = true) (hb : Im.slotB s = true) : (S.take (i + 1)).all Im.slotB = true := by
  rw [take_at hs, List.all_append, h, List.all_cons, hb]
  rfl
theorem tidy_take {R : List Row} {i : Nat} {r : Row} (h : R[i]? = some r) : (R.take (i + 1)).map rowTidy = (R.take i).map rowTidy ++ [rowTidy r] := by
  rw [take_at h, List.map_append]
  rfl

theorem tidy_lv (r : Row) : (rowTidy r).lv = r.lv ∧ (rowTidy r).g = r.g := by
  unfold rowTidy
  cases h : r.lv with
  | true =>
    rw [if_pos rfl]
    split
    · exact ⟨rfl, rfl⟩
    · exact ⟨rfl, rfl⟩
  | false =>
    rw [if_neg (by simp)]
    exact ⟨rfl, rfl⟩
theorem itidy (s : Im.Sl) : (Im.tidy s).ks.length ≤ s.ks.length ∧ (Im.tidy s).lv = s.lv := by
  unfold Im.tidy Im.dead1
  cases h : s.lv with
  | true =>
    rw [if_pos rfl]
    split
    · exact ⟨Nat.zero_le _, rfl⟩
    · exact ⟨Nat.le_refl _, rfl⟩
  | false =>
    rw [if_neg (by simp)]
    exact ⟨Nat.zero_le _, rfl⟩
theorem liveN_tidy {w : World} {Q : Nat → Prop} : ∀ {R : List Row} {S : List Im.Sl}, RowsIs w Q R S → liveN (R.map rowTidy) = Im.lives S := by
  have key : ∀ (R : List Row) (S : List Im.Sl), R.map (·.lv) = S.map (·.lv) → (R.filter (·.lv)).length = (S.filter (·.lv)).length := by
    intro R
    induction R with
    | nil =>
      intro S h
      cases S with
      | nil => rfl
      | cons s S => cases h
    | cons r R ih =>
      intro S h
      cases S with
      | nil => cases h
      | cons s S =>
        simp only [List.map_cons, List.cons.injEq] at h
        rw [List.filter_cons, List.filter_cons, h.1]
        split
        · rw [List.length_cons, List.length_cons, ih S h.2]
        · exact ih S h.2
  intro R S h
  unfold liveN Im.lives
  refine key _ _ ?_
  rw [List.map_map]
  apply List.ext_getElem?
  intro i
  rw [List.getElem?_map, List.getElem?_map]
  by_cases hi : i < S.length
  · obtain ⟨r, hr, hrs⟩ := h.get (List.getElem?_eq_getElem hi)
    rw [hr, List.getElem?_eq_getElem hi]
    show some (rowTidy r).lv = some S[i].lv
    rw [(tidy_lv r).1, hrs.lv]
  · rw [List.getElem?_eq_none (by rw [h.1]; omega), List.getElem?_eq_none (by omega)]
    rfl
theorem RowsIs.mono {w : World} {Q Q' : Nat → Prop} {R : List Row} {S : List Im.Sl} (h : RowsIs w Q R S) (hQ : ∀ g, Q g → Q' g) : RowsIs w Q' R S :=
  ⟨h.1, fun i r s h1 h2 => by
    have h3 := h.2 i r s h1 h2
    exact ⟨h3.g, h3.lv, h3.k, h3.n, h3.t, h3.p, h3.al.mono hQ, h3.ks.mono hQ⟩⟩
theorem elemBool : Elem Tryd.prog 4 1 1 (.bool false) := Elem.mk' (by kernel_rfl) rfl (by omega) (by omega)
theorem made_bools (n : Nat) : (madeCells (Value.bool false).cells (n * 1)).toList = boolsV n [] := by
  unfold madeCells boolsV
  rw [Nat.mul_one]
  simp only [Array.toList_map, Array.toList_range]
  apply List.map_congr_left
  intro i _
  have : (Value.bool false).cells = #[Value.bool false] := rfl
  rw [this]
  have h : i % (#[Value.bool false] : Array Value).size = 0 := Nat.mod_one i
  rw [h]
  simp

def LoadPost (S : List Im.Sl) (roots : List Nat) (Q : Nat → Prop) (w : World) (e : Ending) (w' : World) : Prop := Below w.heap.size w w' ∧
  ((Im.load S roots = none ∧ e = .returned (.tuple #[.pointer none, .int .i64 36])) ∨
   ∃ S' ts d Sv Rv R, Im.load S roots = some (S', ts) ∧ e = .returned (.tuple #[.pointer (some ⟨d, 0, none⟩), .int .i64 0]) ∧ w.heap.size ≤ d ∧ (∀ g, Sv.ownBlock = some g → w.heap.size ≤ g) ∧ (∀ g, Rv.ownBlock = some g → w.heap.size ≤ g) ∧ DocIs w' d Sv Rv R ∧ RowsIs w' Q R S' ∧ w'.ownsRow 0 46 1 Rv roots.length (hcv roots))

set_option maxRecDepth 100000 in
set_option maxHeartbeats 1600000 in
theorem loadR_any (Q : Nat → Prop) (S : List Im.Sl) (R0 : List Row) (roots : List Nat) (sa ra : Option Addr) (sc rc : Nat) (w : World) (hS : RdP w Q 8 (.slice sa S.length sc) S.length (rowsC R0)) (hR0 : RowsIs w Q R0 S) (hro : RdP w Q 1 (.slice ra roots.length rc) roots.length (hcv roots)) (hQ : ∀ g, Q g → g < w.heap.size)
    (hgS : ∀ r ∈ R0, r.g < 4294967296) (hks : ∀ s ∈ S, s.ks.length ≤ 17592186043904) (hrl : roots.length ≤ 17592186043904) :
    Calls Tryd.prog 69 #[.agg #[.slice sa S.length sc, .slice ra roots.length rc]] w (LoadPost S roots Q w) := by
  obtain ⟨X, hX⟩ : ∃ X, X = w.heap.size := ⟨_, rfl⟩
  obtain ⟨n, hn⟩ : ∃ n, n = S.length := ⟨_, rfl⟩
  obtain ⟨rn, hrn⟩ : ∃ rn, rn = roots.length := ⟨_, rfl⟩
  have HH := Lib.hid (And.intro hS (And.intro hR0 (And.intro hro (And.intro hQ (And.intro hgS (And.intro hks (And.intro hrl (And.intro hX (And.intro hn hrn)))))))))
  rw [← hn, ← hrn]
  clear hS hR0 hro hQ hgS hks hrl hX hn hrn
  go_enter Tryd.func69, Tryd.ntmps69
  go_upto_region 1 with fail
  rw [← HH.out.2.2.2.2.2.2.2.1]
  generalize hW : World.alloc _ _ = W1
  have U1 : Upd w W1 (fun _ => False) := by rw [← hW]; exact (Upd.refl w _).alloc _
  have X1 : Blk W1 X [.slice sa n sc, .slice ra rn rc] 44 := by rw [← hW]; exact Blk.new' HH.out.2.2.2.2.2.2.2.1
  have x0 := X1.cell 0
  have x1 : ∀ o, (W1.alloc o).cell? ⟨X, 1, none⟩ = _ := fun o => (X1.alloc o).cell 1
  simp only [List.getElem?_cons_zero, List.getElem?_cons_succ] at x0 x1
  obtain ⟨q, hq⟩ : ∃ q, q = W1.heap.size := ⟨_, rfl⟩
  have HQ := Lib.hid hq
  clear hq
  have H1 := Lib.hid (And.intro U1 X1)
  clear hW U1 X1
  by_cases hlong : 4096 < n
  · have hl1 : (4096 : Int) < (n : Int) := by omega
    have hnone : Im.load S roots = none := by
      unfold Im.load
      rw [if_pos (by have := HH.out.2.2.2.2.2.2.2.2.1; omega)]
    have HN := Lib.hid hnone
    clear hlong hnone
    go_wp2
    go_ret2
    exact ⟨H1.out.1.below (F := fun _ => False) (Nat.le_refl _) (fun _ _ h => h), Or.inl ⟨HN.out, rfl⟩⟩
  have hl1 : ¬ (4096 : Int) < (n : Int) := by omega
  have HL := Lib.hid hlong
  clear hlong
  go_upto_region 3 with fail
  go_wp2_with (at_builtin; refine halt_mk ?_)
  refine halt_go ?_
  rw [← HQ.out]
  generalize hW : World.alloc _ _ = W2
  have U2 : Upd W1 W2 (fun _ => False) := by rw [← hW]; exact (Upd.refl W1 _).alloc _
  have O2 : W2.ownsRow 0 46 1 (.slice (some ⟨q, 0, none⟩) 0 0) 0 [] := by rw [← hW]; exact own_lit_sz HQ.out
  have hq0 : w.heap.size ≤ q := by rw [HQ.out]; exact H1.out.1.size
  have V2 := H1.out.1.trans U2 (fun _ _ h => h)
  have hro2 := HH.out.2.2.1.keep V2 (fun _ _ h => h)
  rw [← HH.out.2.2.2.2.2.2.2.2.2] at hro2
  refine wpl_app (n := 0) (m := rn) rfl rfl elemHd Tryd.underlying42 rfl O2 rfl hro2.1 (by intro u hu; unfold hcv at hu; obtain ⟨y, _, rfl⟩ := List.mem_map.1 hu; rfl) (by have := HH.out; omega) ?_
  rintro v3 w3 ⟨O3, U3, b3⟩
  rw [Nat.zero_add, List.nil_append] at O3
  obtain ⟨a3, c3, rfl, _⟩ := (Rd.ofOwn O3).form
  have hv3 : ∀ g, (Value.slice a3 rn c3).ownBlock = some g → w.heap.size ≤ g := fun g hg => by
    rcases b3 with e | e
    · have := ob_eq (e.symm.trans hg); omega
    · have := ob_some (e.symm.trans hg); have := V2.size; omega
  have U23 : Upd w w3 (fun _ => False) := V2.trans U3 (fun i hi e => by have := ob_eq e; omega)
  have X3 := U3.blk (U2.blk H1.out.2 (fun h => h)) (fun e => by have := ob_eq e; have := H1.out.2.lt; have := HQ.out; omega)
  have H3 := Lib.hid (And.intro O3 (And.intro hv3 (And.intro U23 X3)))
  obtain ⟨d, hd⟩ : ∃ d, d = w3.heap.size := ⟨_, rfl⟩
  have HD := Lib.hid hd
  clear hW U2 O2 hq0 V2 hro2 O3 U3 b3 hv3 U23 X3 hd H1 HQ x0 x1
  go_upto_region 4 with fail
  rw [← HD.out]
  generalize hW : World.alloc _ _ = W4
  have U4 : Upd w3 W4 (fun _ => False) := by rw [← hW]; exact (Upd.refl w3 _).alloc _
  have D4 : Blk W4 d [.slice none 0 0, .slice a3 rn c3] 122 := by rw [← hW]; exact Blk.new' HD.out
  have O4 := own_keep H3.out.1 U4 (fun _ _ h => h)
  have X4 := U4.blk H3.out.2.2.2 (fun h => h)
  have V4 := H3.out.2.2.1.trans U4 (fun _ _ h => h)
  have hdw : w.heap.size ≤ d := by rw [HD.out]; exact H3.out.2.2.1.size
  have Dd : DocIs W4 d (.slice none 0 0) (.slice a3 rn c3) [] := ⟨D4, own_none⟩
  have H4 := Lib.hid (And.intro H3.out.2.1 (And.intro hdw trivial))
  have I1 := Lib.hid Dd
  have I2 := Lib.hid O4
  have I3 := Lib.hid V4
  have I4 := Lib.hid X4
  clear hW U4 D4 O4 X4 V4 hdw Dd H3 HD
  go_wp2
  go_loopg [5, 6] n (fun kq v5 v6 w' => ∃ (i : Nat) (Sv : Value), v5 = .int .i64 i ∧ Hid (kq = n - i ∧ i ≤ n) ∧ Hid ((S.take i).all Im.slotB = true) ∧ Hid (DocIs w' d Sv (.slice a3 rn c3) ((R0.take i).map rowTidy)) ∧ Hid (w'.ownsRow 0 46 1 (.slice a3 rn c3) rn (hcv roots)) ∧ Hid (Upd w w' (fun _ => False)) ∧ Hid (∀ g, Sv.ownBlock = some g → w.heap.size ≤ g) ∧ Hid (Blk w' X [.slice sa n sc, .slice ra rn rc] 44))
  case atStart => exact ⟨0, .slice none 0 0, rfl, Lib.hid ⟨rfl, Nat.zero_le _⟩, Lib.hid rfl, I1, I2, I3, Lib.hid (fun g hg => by cases hg), I4⟩
  case round =>
    obtain ⟨i, Sv, rfl, HI, HS, HDc, HO, HU, HV, HX⟩ := hrel
    have hi0 : (0 : Int) ≤ (i : Int) := by omega
    have x0 := HX.out.cell 0
    simp only [List.getElem?_cons_zero] at x0
    by_cases hi : i < n
    · have hi1 : (i : Int) < (n : Int) := by omega
      have hi2 : decide (i < n) = true := decide_eq_true hi
      obtain ⟨hS, hR0, hro, hQ, hgS, hks, hrl, hX, hn, hrn⟩ := HH.out
      obtain ⟨s, hs⟩ : ∃ s, S[i]? = some s := ⟨S[i]'(by omega), List.getElem?_eq_getElem _⟩
      obtain ⟨r, hr, hrs⟩ := hR0.get hs
      have hSr := hS.keep HU.out (fun _ _ h => h)
      obtain ⟨g, off, rfl, hsc, r0, r1, r2, r3, r4, r5, r6, r7⟩ := row_at hSr hr
      obtain ⟨Y, hY⟩ : ∃ Y, Y = wr.heap.size := ⟨_, rfl⟩
      rw [← hn] at hsc
      have HY := Lib.hid (And.intro hs (And.intro hr (And.intro hrs (And.intro hY hi))))
      clear hS hR0 hro hQ hgS hks hrl hX hn hrn hs hr hSr hY hrs hi
      go_upto_region 8 with fail
      rw [← HY.out.2.2.2.1]
      generalize hW : World.alloc _ _ = W5
      have U5 : Upd wr W5 (fun _ => False) := by rw [← hW]; exact (Upd.refl wr _).alloc _
      have Y5 : Blk W5 Y r.cells 153 := by rw [← hW]; exact Blk.new' HY.out.2.2.2.1
      have H5 := Lib.hid (And.intro U5 Y5)
      have y0 := Y5.cell 0
      have y1 := Y5.cell 1
      have y2 := Y5.cell 2
      have y3 := Y5.cell 3
      have y4 := Y5.cell 4
      have y5 := Y5.cell 5
      have y6 := Y5.cell 6
      have y7 := Y5.cell 7
      unfold Row.cells at y0 y1 y2 y3 y4 y5 y6 y7
      simp only [List.getElem?_cons_zero, List.getElem?_cons_succ] at y0 y1 y2 y3 y4 y5 y6 y7
      have z0 := Y5.free 0
      have z1 := Y5.free 1
      have z2 := Y5.free 2
      have z3 := Y5.free 3
      have z4 := Y5.free 4
      have z5 := Y5.free 5
      have z6 := Y5.free 6
      have z7 := Y5.free 7
      clear hW U5 Y5 r0 r1 r2 r3 r4 r5 r6 r7 x0
      have hg0 : (0 : Int) ≤ (r.g : Int) := Int.natCast_nonneg _
      by_cases hg : r.g = 0
      · have hnone : Im.load S roots = none := load_none HY.out.1 (slotB_zero (by rw [← HY.out.2.2.1.g]; exact hg))
        have HN := Lib.hid hnone
        rw [hg] at y0
        clear hg hnone hg0
        go_wp2
        go_ret2
        exact ⟨(HU.out.trans H5.out.1 (fun _ _ h => h)).below (F := fun _ => False) (Nat.le_refl _) (fun _ _ h => h), Or.inl ⟨HN.out, rfl⟩⟩
      · have hg1 : ¬ ((r.g : Int) < 1) := by omega
        have hg2 : 1 ≤ s.g := by rw [← HY.out.2.2.1.g]; omega
        have HG := Lib.hid hg2
        clear hg hg0 hg2
        have hcase : r.lv = false ∨ r.lv = true := by cases r.lv <;> simp
        rcases hcase with hlv | hlv
        case' inl =>
          rw [hlv] at y1
          have HLv := Lib.hid hlv
          clear hlv
          go_upto_region 15 with fail
          generalize hW : World.setCell _ _ _ = W6
          have P6 : Blk W6 Y (rowTidy r).cells 153 := by
            have e : rowTidy r = dead r.g := by unfold rowTidy; rw [if_neg (by rw [HLv.out]; simp)]
            rw [e, ← hW]
            exact (((((((H5.out.2.set 0 _).set 1 _).set 2 _).set 3 _).set 4 _).set 5 _).set 6 _).set 7 _
          have U6 : Upd W5 W6 (· = Y) := by
            rw [← hW]
            exact ((((((((Upd.refl W5 (· = Y)).set ⟨Y, 0, none⟩ _ (fun _ => rfl)).set ⟨Y, 1, none⟩ _ (fun _ => rfl)).set ⟨Y, 2, none⟩ _ (fun _ => rfl)).set ⟨Y, 3, none⟩ _ (fun _ => rfl)).set ⟨Y, 4, none⟩ _ (fun _ => rfl)).set ⟨Y, 5, none⟩ _ (fun _ => rfl)).set ⟨Y, 6, none⟩ _ (fun _ => rfl)).set ⟨Y, 7, none⟩ _ (fun _ => rfl)
          have hok : Im.slotB s = true := slotB_dead HG.out (by rw [← HY.out.2.2.1.lv]; exact HLv.out)
          have H6 := Lib.hid (And.intro P6 (And.intro (H5.out.1.trans (G := fun g => g = Y) U6 (fun g hg e => by have := HY.out.2.2.2.1; omega)) hok))
          clear hW P6 U6 hok y0 y1 y2 y3 y4 y5 y6 y7 z0 z1 z2 z3 z4 z5 z6 z7 hg1 HLv
        case' inr =>
          rw [hlv] at y1
          have HLv := Lib.hid hlv
          clear hlv
          have hal := HY.out.2.2.1.kl.2
          have C := slot_any (r.g : Int) true r.k r.n s.al r.aa r.ac r.t (r.p : Int) r.ka r.kl r.kc W5 (by
            have h1 := (HY.out.2.2.1.al.keep (HU.out.trans H5.out.1 (fun _ _ h => h)) (fun _ _ h => h)).1
            rwa [hal] at h1)
          rw [← hal] at C
          obtain ⟨b, hb⟩ : ∃ b, b = slotOk r.k r.n s.al r.t r.kl := ⟨_, rfl⟩
          rw [← hb] at C
          have hbs : Im.slotB s = b := by
            have h := HY.out.2.2.1
            rw [slotB_live HG.out (by rw [← h.lv]; exact HLv.out), hb, h.k, h.n, h.t, h.kl.1]
          have HB := Lib.hid hbs
          have HC := Lib.hid C
          clear hb C hal hbs
          go_wp2_with fail
          refine HC.out.mono ?_
          rintro e w5 ⟨rfl, B5⟩
          have P5 := (Upd.ofBelow (F := fun _ => False) B5).blk H5.out.2 (fun h => h)
          have U5 := H5.out.1.trans (Upd.ofBelow (F := fun _ => False) B5) (fun _ _ h => h)
          have y1 := P5.cell 1
          have y2 := P5.cell 2
          have y3 := P5.cell 3
          have y4 := P5.cell 4
          have y5 := P5.cell 5
          have y7 := P5.cell 7
          have z3 := P5.free 3
          have z4 := P5.free 4
          have z5 := P5.free 5
          have z7 := P5.free 7
          unfold Row.cells at y1 y2 y3 y4 y5 y7
          simp only [List.getElem?_cons_zero, List.getElem?_cons_succ] at y1 y2 y3 y4 y5 y7
          rw [HLv.out] at y1
          have H55 := Lib.hid (And.intro U5 P5)
          clear B5 P5 U5 HC hg1
          by_cases hb : b = true
          case neg =>
            have hb0 : b = false := by simpa using hb
            subst hb0
            clear hb
            have HN := Lib.hid (load_none (roots := roots) HY.out.1 HB.out)
            go_wp2
            go_ret2
            exact ⟨(HU.out.trans H55.out.1 (fun _ _ h => h)).below (F := fun _ => False) (Nat.le_refl _) (fun _ _ h => h), Or.inl ⟨HN.out, rfl⟩⟩
          subst hb
          by_cases hk : r.k = 2
          case' pos =>
            have e : rowTidy r = { r with n := ⟨#[]⟩, aa := none, al := 0, ac := 0, ka := none, kl := 0, kc := 0 } := by unfold rowTidy; rw [if_pos HLv.out, if_pos hk]
            rw [hk] at y2
            have HE := Lib.hid e
            clear hk e
            go_upto_region 15 with fail
            generalize hW : World.setCell _ _ _ = W6
            have P6 : Blk W6 Y (rowTidy r).cells 153 := by
              rw [HE.out, ← hW]
              exact ((H55.out.2.set 3 _).set 4 _).set 7 _
            have U6 : Upd w5 W6 (· = Y) := by
              rw [← hW]
              exact (((Upd.refl w5 (· = Y)).set ⟨Y, 3, none⟩ _ (fun _ => rfl)).set ⟨Y, 4, none⟩ _ (fun _ => rfl)).set ⟨Y, 7, none⟩ _ (fun _ => rfl)
            have H6 := Lib.hid (And.intro P6 (And.intro (H55.out.1.trans (G := fun g => g = Y) U6 (fun g hg e => by have := HY.out.2.2.2.1; omega)) HB.out))
            clear hW P6 U6 y1 y2 y3 y4 y5 y7 z3 z4 z5 z7 HE H55 HB HLv
          case' neg =>
            have e : rowTidy r = { r with t := ⟨#[]⟩ } := by unfold rowTidy; rw [if_pos HLv.out, if_neg hk]
            have hk1 : (r.k == 2) = false := beq_eq_false_iff_ne.2 hk
            have HE := Lib.hid e
            clear hk e
            go_upto_region 15 with fail
            generalize hW : World.setCell _ _ _ = W6
            have P6 : Blk W6 Y (rowTidy r).cells 153 := by
              rw [HE.out, ← hW]
              exact H55.out.2.set 5 _
            have U6 : Upd w5 W6 (· = Y) := by
              rw [← hW]
              exact (Upd.refl w5 (· = Y)).set ⟨Y, 5, none⟩ _ (fun _ => rfl)
            have H6 := Lib.hid (And.intro P6 (And.intro (H55.out.1.trans (G := fun g => g = Y) U6 (fun g hg e => by have := HY.out.2.2.2.1; omega)) HB.out))
            clear hW P6 U6 y1 y2 y3 y4 y5 y7 z3 z4 z5 z7 HE H55 HB HLv hk1
        all_goals
          clear H5
          obtain ⟨r', hr'⟩ : ∃ r', r' = rowTidy r := ⟨_, rfl⟩
          obtain ⟨P6, U6, hok⟩ := H6.out
          rw [← hr'] at P6
          obtain ⟨Rl, hRl⟩ : ∃ Rl, Rl = (R0.take i).map rowTidy := ⟨_, rfl⟩
          have hDc := HDc.out
          rw [← hRl] at hDc
          have hsv : ∀ g, Sv.ownBlock = some g → g ≠ Y ∧ g ≠ d := fun g hg => by
            have h1 := own_lt hDc.own hg
            refine ⟨by have := HY.out.2.2.2.1; omega, fun e => hDc.ne (by rw [hg, e])⟩
          have D6 := hDc.keep U6 (fun h => h) (fun _ _ h => h)
          obtain ⟨sa', sc', eSv, hsc'⟩ := D6.form
          have d0 := D6.blk.cell 0
          have p0 := P6.cell 0
          have p1 := P6.cell 1
          have p2 := P6.cell 2
          have p3 := P6.cell 3
          have p4 := P6.cell 4
          have p5 := P6.cell 5
          have p6 := P6.cell 6
          have p7 := P6.cell 7
          unfold Row.cells at p0 p1 p2 p3 p4 p5 p6 p7
          simp only [List.getElem?_cons_zero, List.getElem?_cons_succ] at d0 p0 p1 p2 p3 p4 p5 p6 p7
          obtain ⟨SP, hSP⟩ : ∃ SP : World → Prop, ∀ w' : World, SP w' ↔ (w'.cell? ⟨d, 0, none⟩ = some Sv ∧ w'.cell? ⟨Y, 0, none⟩ = some (.int .u32 (r'.g : Nat)) ∧ w'.cell? ⟨Y, 1, none⟩ = some (.bool r'.lv) ∧ w'.cell? ⟨Y, 2, none⟩ = some (.int .i64 r'.k) ∧ w'.cell? ⟨Y, 3, none⟩ = some (.string r'.n) ∧ w'.cell? ⟨Y, 4, none⟩ = some (.slice r'.aa r'.al r'.ac) ∧ w'.cell? ⟨Y, 5, none⟩ = some (.string r'.t) ∧ w'.cell? ⟨Y, 6, none⟩ = some (.int .u64 (r'.p : Nat)) ∧ w'.cell? ⟨Y, 7, none⟩ = some (.slice r'.ka r'.kl r'.kc)) := ⟨fun w' => (w'.cell? ⟨d, 0, none⟩ = some Sv ∧ w'.cell? ⟨Y, 0, none⟩ = some (.int .u32 (r'.g : Nat)) ∧ w'.cell? ⟨Y, 1, none⟩ = some (.bool r'.lv) ∧ w'.cell? ⟨Y, 2, none⟩ = some (.int .i64 r'.k) ∧ w'.cell? ⟨Y, 3, none⟩ = some (.string r'.n) ∧ w'.cell? ⟨Y, 4, none⟩ = some (.slice r'.aa r'.al r'.ac) ∧ w'.cell? ⟨Y, 5, none⟩ = some (.string r'.t) ∧ w'.cell? ⟨Y, 6, none⟩ = some (.int .u64 (r'.p : Nat)) ∧ w'.cell? ⟨Y, 7, none⟩ = some (.slice r'.ka r'.kl r'.kc)), fun _ => Iff.rfl⟩
          have HSk : Hid (∀ w' : World, Upd W6 w' (fun g => Sv.ownBlock = some g) → SP w') := Lib.hid (fun w' hU => by
            have hh : ∀ g o v, W6.cell? ⟨g, o, none⟩ = some v → Sv.ownBlock ≠ some g → w'.cell? ⟨g, o, none⟩ = some v := fun g o v h1 hg => (hU.cell (p := ⟨g, o, none⟩) (World.block_lt_of_cell? W6 ⟨g, o, none⟩ h1) (fun e => hg e)).trans h1
            have nd : Sv.ownBlock ≠ some d := fun e => (hsv d e).2 rfl
            have nY : Sv.ownBlock ≠ some Y := fun e => (hsv Y e).1 rfl
            exact (hSP w').2 ⟨hh _ _ _ d0 nd, hh _ _ _ p0 nY, hh _ _ _ p1 nY, hh _ _ _ p2 nY, hh _ _ _ p3 nY, hh _ _ _ p4 nY, hh _ _ _ p5 nY, hh _ _ _ p6 nY, hh _ _ _ p7 nY⟩)
          have S0 := HSk.out W6.drew (Upd.refl W6 _).drew
          have HSP := Lib.hid hSP
          have H66 := Lib.hid (And.intro hr' (And.intro hRl (And.intro hsv (And.intro D6 (And.intro (HO.out) (And.intro U6 hok))))))
          subst eSv
          clear hr' P6 U6 hok hsv D6 hsc' hDc hRl d0 p0 p1 p2 p3 p4 p5 p6 p7 hSP
          apply wp_reg (w := W6) SP [0, 1, 2, 3, 4, 5] [6, 7] [8, 9, 10] (by kernel_rfl) (by kernel_rfl) (fun _ _ d _ _ h => by cases d <;> exact h) S0
          · iterate 6 (apply reads_consL rfl rfl; (· intro w0 hS; obtain ⟨hS0, hS1, hS2, hS3, hS4, hS5, hS6, hS7, hS8⟩ := (HSP.out w0).1 hS; go_simp; try rfl); simp only [Act.put, List.setIfInBounds_toArray, List.set_cons_zero, List.set_cons_succ])
            exact rfl
          have V0 : Upd W6 W6.drew (fun _ => False) := (Upd.refl W6 _).drew
          generalize W6.drew = W7 at V0 ⊢
          obtain ⟨q', hq'⟩ : ∃ q, q = W7.heap.size := ⟨_, rfl⟩
          have HVV := Lib.hid (And.intro V0 hq')
          clear V0 hq' S0
          refine tail_consL rfl ?_
          go_wp2_with fail
          rw [← HVV.out.2]
          generalize hW : World.alloc _ _ = W8
          have V8 : Upd W6 W8 (fun _ => False) := HVV.out.1.trans (by rw [← hW]; exact (Upd.refl W7 _).alloc _) (fun _ _ h => h)
          have Q8 : Blk W8 q' r'.cells 153 := by rw [← hW]; exact Blk.new' HVV.out.2
          have S8 := HSk.out W8 (V8.mono (fun _ _ h => h.elim))
          have D8 := H66.out.2.2.2.1.keep V8 (fun h => h) (fun _ _ h => h)
          have HQ8 := Lib.hid (And.intro V8 D8)
          clear hW HVV
          refine ⟨S8, tail_consL rfl ?_⟩
          refine wpl_app (n := Rl.length) (m := 1) rfl rfl elemSlot Tryd.underlying41 rfl D8.own rfl (Rd.ofBlk Q8 1 8 rfl) (by intro u hu; exact rowsC_one [r'] u (by unfold rowsC; simpa using hu)) (by have h1 := H66.out.2.1; have h2 := HI.out; have h3 := HL.out; have : Rl.length ≤ n := (by rw [h1, List.length_map, List.length_take]; omega); omega) ?_
          rintro v9 w9 ⟨O9, U9, b9⟩
          clear V8 Q8 D8 S8
          have S9 := HSk.out w9 ((HQ8.out.1.mono (G := fun g => (Value.slice sa' Rl.length sc').ownBlock = some g) (fun _ _ h => h.elim)).trans U9 (fun _ _ h => h))
          obtain ⟨hr', hRl, hsv, D6, hO, U6, hok⟩ := H66.out
          have D9 : Blk w9 d _ 122 := U9.blk HQ8.out.2.blk (fun e => (hsv d e).2 rfl)
          have d0 := D9.cell 0
          have z0 := D9.free 0
          simp only [List.getElem?_cons_zero] at d0
          obtain ⟨a9, c9, rfl, _⟩ := (Rd.ofOwn O9).form
          obtain ⟨W10, hW10⟩ : ∃ W10, W10 = w9.setCell ⟨d, 0, none⟩ (.slice a9 (Rl.length + 1) c9) := ⟨_, rfl⟩
          have hv9 : ∀ g, (Value.slice a9 (Rl.length + 1) c9).ownBlock = some g → g ≠ d ∧ w.heap.size ≤ g := fun g hg => by
            refine ⟨fun e => ?_, ?_⟩
            · obtain ⟨_, hv⟩ := own_ty O9 hg
              exact D9.ty (e ▸ hv) (by decide) rfl
            · rcases b9 with e | e
              · exact HV.out g (e ▸ hg)
              · have h1 := ob_some (e.symm.trans hg)
                have h2 := (HU.out.trans (U6.trans HQ8.out.1 (fun _ _ h => h)) (fun _ _ h => h)).size
                omega
          have U10 : Upd w9 W10 (· = d) := by rw [hW10]; exact (Upd.refl w9 (· = d)).set ⟨d, 0, none⟩ _ (fun _ => rfl)
          have hd0 := H4.out.2.1
          have U8 := HU.out.trans (U6.trans HQ8.out.1 (fun _ _ h => h)) (fun _ _ h => h)
          have U89 : Upd w w9 (fun _ => False) := U8.trans U9 (fun g hg e => by have := HV.out g e; omega)
          have E1 : DocIs W10 d (.slice a9 (Rl.length + 1) c9) (.slice a3 rn c3) (Rl ++ [r']) := by
            refine ⟨by rw [hW10]; exact D9.set 0 _, ?_⟩
            have h1 := own_keep O9 U10 (fun g hg e => (hv9 g hg).1 e)
            rw [rowsC_app, List.length_append]
            have e : rowsC [r'] = r'.cells := by unfold rowsC; simp
            rw [e]
            exact h1
          have hO9 : W10.ownsRow 0 46 1 (.slice a3 rn c3) rn (hcv roots) := by
            have h1 := own_keep (own_keep hO (U6.trans HQ8.out.1 (fun _ _ h => h)) (fun _ _ h => h)) U9 (fun g hg e => by
              obtain ⟨_, hv⟩ := own_ty HQ8.out.2.own e
              obtain ⟨_, hv2⟩ := own_ty (own_keep hO (U6.trans HQ8.out.1 (fun _ _ h => h)) (fun _ _ h => h)) hg
              exact hv.ty hv2 (by decide) rfl)
            exact own_keep h1 U10 (fun g hg e => by
              obtain ⟨_, hv⟩ := own_ty h1 hg
              exact D9.ty (e ▸ hv) (by decide) rfl)
          have hX9 : Blk W10 X [.slice (some ⟨g, off, none⟩) n sc, .slice ra rn rc] 44 := by
            have h1 := (U6.trans HQ8.out.1 (fun _ _ h => h)).blk HX.out (fun h => h)
            have h2 := U9.blk h1 (fun e => by
              obtain ⟨_, hv⟩ := own_ty HQ8.out.2.own e
              exact hv.ty h1 (by decide) rfl)
            exact U10.blk h2 (fun e => D9.ty (e ▸ h2) (by decide) rfl)
          have E9 := Lib.hid (And.intro hW10 (And.intro E1 (And.intro hO9 (And.intro hX9 (And.intro (U89.trans U10 (fun g hg e => by omega)) (fun g hg => (hv9 g hg).2))))))
          clear O9 U9 b9 hr' hRl hsv D6 hO U6 hok D9 hW10 hv9 U10 hd0 U8 U89 E1 hO9 hX9 HQ8
          go_wp2_with fail
          refine ⟨S9, tail_threeL rfl rfl rfl ?_⟩
          clear S9
          go_wp2
          obtain ⟨hW10, E1, hO9, hX9, hU, hv⟩ := E9.out
          rw [← hW10]
          go_roundg (n - (i + 1))
          case measure => have := HI.out; have := HY.out; omega
          case rel =>
            obtain ⟨hr', hRl, _, _, _, _, hok⟩ := H66.out
            have hT := tidy_take HY.out.2.1
            rw [← hRl, ← hr'] at hT
            exact ⟨i + 1, _, rfl, Lib.hid ⟨rfl, HY.out.2.2.2.2⟩, Lib.hid (all_take HY.out.1 HS.out hok), Lib.hid (by rw [hT]; exact E1), Lib.hid hO9, Lib.hid hU, Lib.hid hv, Lib.hid hX9⟩
    · have hi1 : ¬ (i : Int) < (n : Int) := by omega
      have hi2 : decide (i < n) = false := decide_eq_false hi
      have ei : i = n := by have := HI.out; omega
      obtain ⟨hS, hR0, hro, hQ, hgS, hks, hrl, hX, hn, hrn⟩ := HH.out
      obtain ⟨R, hR⟩ : ∃ R, R = R0.map rowTidy := ⟨_, rfl⟩
      obtain ⟨S', hS'⟩ : ∃ S', S' = S.map Im.tidy := ⟨_, rfl⟩
      have hD := HDc.out
      have hall := HS.out
      rw [ei, hn, ← hR0.1, List.take_length, ← hR] at hD
      rw [ei, hn, List.take_length] at hall
      have hRS : RowsIs wr Q R S' := by rw [hR, hS']; exact (hR0.keep HU.out (fun _ _ h => h)).tidy
      have hRl : R.length = n := by rw [hR, List.length_map, hR0.1, hn]
      have hSl : S'.length = n := by rw [hS', List.length_map, hn]
      have hlv : liveN R = Im.lives S := by rw [hR]; exact liveN_tidy hR0
      have hgR : ∀ r ∈ R, r.g < 4294967296 := fun r hr => by
        rw [hR] at hr
        obtain ⟨r', h1, rfl⟩ := List.mem_map.1 hr
        rw [(tidy_lv r').2]
        exact hgS r' h1
      have hks' : ∀ s ∈ S', s.ks.length ≤ 17592186043904 := fun s hs => by
        rw [hS'] at hs
        obtain ⟨s', h1, rfl⟩ := List.mem_map.1 hs
        have := (itidy s').1
        have := hks s' h1
        omega
      have hload : ∀ (x : Option (List Nat × List Im.LT)), Im.hang S' 64 roots 0 [] = x → Im.load S roots = match x with
          | none => none
          | some (seen, l) => if seen.length = Im.lives S then some (S', l) else none := fun x hx => by
        unfold Im.load
        rw [if_neg (by omega), if_neg (by rw [hall]; simp), ← hS', hx]
        rcases x with _ | ⟨a, b⟩ <;> rfl
      obtain ⟨sa', sc', eSv, hsc'⟩ := hD.form
      rw [hRl] at eSv hsc'
      subst eSv
      have d0 := hD.blk.cell 0
      have d1 := hD.blk.cell 1
      simp only [List.getElem?_cons_zero, List.getElem?_cons_succ] at d0 d1
      have hnR : ∀ g, (Value.slice a3 rn c3).ownBlock = some g → w.heap.size ≤ g := H4.out.1
      obtain ⟨iB, bi, bz, bsz, bby⟩ := elemBool.info
      have HB := Lib.hid (And.intro bi (And.intro bz (And.intro bsz bby)))
      have HE := Lib.hid (And.intro hD (And.intro hRS (And.intro hRl (And.intro hSl (And.intro hlv (And.intro hgR (And.intro hks' (And.intro hload (And.intro hQ (And.intro hnR (And.intro hrn hrl)))))))))))
      clear hS hR0 hro hQ hgS hks hrl hX hn hrn hR hS' hD hall hRS hRl hSl hlv hgR hks' hload hnR hsc' hi ei bi bz bsz bby
      go_wp2
      apply wp_reg2 (w := wr) (fun w' : World => w'.cell? ⟨d, 0, none⟩ = some (.slice sa' n sc') ∧ w'.cell? ⟨d, 1, none⟩ = some (.slice a3 rn c3)) [0, 1, 2, 3, 4, 5, 6, 7, 8, 9] [10, 11] [12, 13, 14] [15, 16] [] (by kernel_rfl) (by kernel_rfl) (fun _ _ d _ _ h => by cases d <;> exact h) ⟨d0, d1⟩
      · iterate 10 (apply reads_consL rfl rfl; (· intro w0 hS; obtain ⟨hS0, hS1⟩ := hS; go_simp; try rfl); simp only [Act.put, List.setIfInBounds_toArray, List.set_cons_zero, List.set_cons_succ])
        exact rfl
      have V0 : Upd wr wr.drew (fun _ => False) := (Upd.refl wr _).drew
      generalize wr.drew = W7 at V0 ⊢
      obtain ⟨sb, hsb⟩ : ∃ sb, sb = W7.heap.size := ⟨_, rfl⟩
      have HVV := Lib.hid (And.intro V0 hsb)
      clear V0 hsb
      refine pre_consL rfl ?_
      refine wpList_make_full _ rfl _ _ 167 rfl 0 4 iB _ 1 Tryd.underlying167 HB.out.1 HB.out.2.1 HB.out.2.2.1 _ _ _ _ n rfl rfl rfl rfl (by rw [HB.out.2.2.2]; omega) (by unfold maxLen; omega) (Nat.zero_le _) ?_
      intro W8 hown hgrow
      rw [made_bools] at hown
      rw [← HVV.out.2] at hown ⊢
      have B8 : Below W7.heap.size W7 W8 := Below.grown (Below.refl _ _) hgrow (Nat.le_refl _) (fun k hk => by cases hk)
      obtain ⟨hD, hRS, hRl, hSl, hlv, hgR, hks', hload, hQ, hnR, hrn, hrl⟩ := HE.out
      have V8 : Upd wr W8 (fun _ => False) := HVV.out.1.trans (Upd.ofBelow (F := fun _ => False) B8) (fun _ _ h => h)
      have D8 := hD.keep V8 (fun h => h) (fun _ _ h => h)
      have O8 := own_keep HO.out V8 (fun _ _ h => h)
      have hsb1 : wr.heap.size ≤ sb := by rw [HVV.out.2]; exact HVV.out.1.size
      have hsbw : w.heap.size ≤ sb := Nat.le_trans HU.out.size hsb1
      have hsbR : (Value.slice a3 rn c3).ownBlock ≠ some sb := fun e => by have := own_lt HO.out e; omega
      have C : Calls Tryd.prog 112 #[.pointer (some ⟨d, 0, none⟩), .slice a3 roots.length c3, .int .u64 0, .int .i64 1, .slice (some ⟨sb, 0, none⟩) S'.length n] W8 (HangPost S' 64 roots 0 [] (.slice (some ⟨sb, 0, none⟩) S'.length n) S'.length W8) := hangR_any (fun g => Q g ∨ (Value.slice a3 rn c3).ownBlock = some g) d _ _ R S' hgR (by rw [hSl]; have := HL.out; omega) hks' 64 (Nat.le_refl _) roots 0 [] a3 c3 (some ⟨sb, 0, none⟩) n W8 D8 ((hRS.keep V8 (fun _ _ h => h)).mono (fun g h => Or.inl h))
        (by rw [← hrn]; exact ⟨Rd.ofOwn O8, fun _ g hg => Or.inr hg⟩) (by rw [hSl]; exact hown) (fun g hg e => by
          have hg' : sb = g := ob_some hg
          subst hg'
          rcases e with e | e
          · have := hQ sb e; omega
          · exact hsbR e) ⟨List.nodup_nil, fun i hi => by cases hi⟩ hrl
      rw [hSl, ← hrn] at C
      have d0 := D8.blk.cell 0
      have d1 := D8.blk.cell 1
      simp only [List.getElem?_cons_zero, List.getElem?_cons_succ] at d0 d1
      have HC := Lib.hid C
      have HK := Lib.hid (And.intro V8 (And.intro hsbw (And.intro hsbR (And.intro D8 hsb1))))
      clear hown hgrow B8 hD hRS hRl hSl hlv hgR hks' hload hQ hnR hrn hrl V8 D8 O8 hsb1 hsbw hsbR C
      go_wp2_with fail
      refine ⟨⟨d0, d1⟩, pre_consL rfl ?_⟩
      go_wp2_with fail
      refine HC.out.mono ?_
      rintro e w9 ⟨U9, hc⟩
      obtain ⟨V8, hsbw, hsbR, D8, hsb1⟩ := HK.out
      have D9 := D8.keep U9 (fun e => by have := ob_eq e; have := HE.out.1.blk.lt; omega) (fun g hg e => by have := ob_eq e; have := own_lt HE.out.1.own hg; omega)
      have S9 : w9.cell? ⟨d, 0, none⟩ = some (.slice sa' n sc') ∧ w9.cell? ⟨d, 1, none⟩ = some (.slice a3 rn c3) := ⟨D9.blk.cell 0, D9.blk.cell 1⟩
      have U89 := V8.trans U9 (G := fun b => (Value.slice (some ⟨sb, 0, none⟩) n n).ownBlock = some b) (F := fun _ => False) (fun g hg e => by have := ob_eq e; omega)
      have UW := HU.out.trans U89 (fun _ _ h => h)
      have O9 := own_keep HO.out U89 (fun _ _ h => h)
      have HF := Lib.hid (And.intro UW (And.intro O9 (And.intro U89 D9)))
      clear V8 hsbw hsbR D8 hsb1 U9 D9 U89 UW O9 HC HK d0 d1
      rcases hc with ⟨hn, n', rfl⟩ | ⟨s', ts, hs, rfl, _⟩
      · have HN := Lib.hid (HE.out.2.2.2.2.2.2.2.1 _ hn)
        clear hn
        go_wp2_with fail
        refine ⟨S9, ?_⟩
        apply pre_last
        · iterate 3 (apply reads_consL rfl rfl; (· intro w0 hS; go_simp; try rfl); simp only [Act.put, List.setIfInBounds_toArray, List.set_cons_zero, List.set_cons_succ])
          exact rfl
        refine tail_consL rfl ?_
        go_wp2_with fail
        refine ⟨S9, tail_consL rfl ?_⟩
        go_wp2_with fail
        refine ⟨S9, tail_zero ?_⟩
        go_wp2
        go_ret2
        exact ⟨HF.out.1.below (F := fun _ => False) (Nat.le_refl _) (fun _ _ h => h), Or.inl ⟨HN.out, rfl⟩⟩
      · have hl := HE.out.2.2.2.2.2.2.2.1 _ hs
        have hinv := ((Im.hang_inv S' 64).1 _ _ _ _ _ (show Im.Sound S' [] from ⟨List.nodup_nil, fun i hi => by cases hi⟩) hs).2
        obtain ⟨c, hc⟩ : ∃ c, c = (Im.preL ts).length := ⟨_, rfl⟩
        obtain ⟨z, hz⟩ : ∃ z, z = liveN R := ⟨_, rfl⟩
        rw [← hc] at hinv
        simp only [List.length_nil, Nat.zero_add] at hinv
        dsimp only at hl
        rw [hinv, ← HE.out.2.2.2.2.1, ← hz] at hl
        have C := len_any d _ _ R w9 HF.out.2.2.2 (by have := HE.out.2.2.1; have := HL.out; omega)
        rw [← hz] at C
        rw [← hc]
        have HC := Lib.hid C
        have HLd := Lib.hid hl
        clear hl hinv hc hz hs C
        go_wp2_with fail
        refine ⟨S9, ?_⟩
        apply pre_last
        · iterate 3 (apply reads_consL rfl rfl; (· intro w0 hS; go_simp; try rfl); simp only [Act.put, List.setIfInBounds_toArray, List.set_cons_zero, List.set_cons_succ])
          exact rfl
        refine tail_consL rfl ?_
        go_wp2_with fail
        refine ⟨S9, tail_consL rfl ?_⟩
        go_wp2_with fail
        refine ⟨S9, tail_zero ?_⟩
        clear S9
        go_wp2_with fail
        refine HC.out.mono ?_
        rintro e w10 ⟨rfl, B10⟩
        have U10 := Upd.ofBelow (F := fun _ => False) B10
        obtain ⟨UW, O9, U89, D9⟩ := HF.out
        have HB10 := Lib.hid ((UW.trans U10 (fun _ _ h => h)).below (F := fun _ => False) (Nat.le_refl _) (fun _ _ h => h))
        by_cases hcz : c = z
        · have q1 : ((c : Int) != (z : Int)) = false := by rw [hcz]; exact bne_self_eq_false _
          have q2 : (c == z) = true := beq_iff_eq.2 hcz
          have hl := HLd.out
          rw [if_pos hcz] at hl
          have HR := Lib.hid (And.intro hl (And.intro (D9.keep U10 (fun h => h) (fun _ _ h => h)) (And.intro ((HE.out.2.1.keep U89 (fun _ _ h => h)).keep U10 (fun _ _ h => h)) (own_keep O9 U10 (fun _ _ h => h)))))
          clear hcz hl B10 U10 UW O9 U89 D9 HC
          go_wp2
          go_ret2
          obtain ⟨hl, h1, h2, h3⟩ := HR.out
          have hrn := HE.out.2.2.2.2.2.2.2.2.2.2.1
          refine ⟨HB10.out, Or.inr ⟨S', ts, d, _, _, R, hl, rfl, H4.out.2.1, HV.out, H4.out.1, h1, h2, ?_⟩⟩
          rw [← hrn]
          exact h3
        · have q1 : ((c : Int) != (z : Int)) = true := bne_iff_ne.2 (by omega)
          have q2 : (c == z) = false := beq_eq_false_iff_ne.2 hcz
          have hl := HLd.out
          rw [if_neg hcz] at hl
          have HR := Lib.hid hl
          clear hcz hl B10 U10 UW O9 U89 D9 HC
          go_wp2
          go_ret2
          exact ⟨HB10.out, Or.inl ⟨HR.out, rfl⟩⟩

end Df
end Go.Proofs.YtemmkobgpciflaaDoor
