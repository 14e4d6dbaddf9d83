/- Whether a list rises, by the program and by the document; lists of lists, and their copies. -/
import Derived.Test.YtnhgeoccknhiiaaDrop
import Derived.Test.YtnhgeoccknhiiaaOrdH
import Derived.Test.YtnhgeoccknhiiaaAllI
import Derived.Test.YtnhgeoccknhiiaaMergeP
import Derived.Deep.Cut
namespace Go.Proofs.Ytnhgeoccknhiiaa
open Go.RowKit
namespace OrdI

/-- What is known when i is reached. -/
def RiseTo (L : List It) (i : Nat) : Prop := ∀ (t : Nat) (x y : It), t + 1 < i → L[t]? = some x → L[t + 1]? = some y → ¬ y.k < x.k
theorem RiseTo.all {L : List It} {i : Nat} (h : RiseTo L i) (hi : L.length ≤ i) : Rises L := fun t x y hx hy => h t x y (by have := (List.getElem?_eq_some_iff.1 hy).1; omega) hx hy
theorem RiseTo.next {L : List It} {j : Nat} {x y : It} (h : RiseTo L (j + 1)) (hx : L[j]? = some x) (hy : L[j + 1]? = some y) (hn : ¬ y.k < x.k) : RiseTo L (j + 1 + 1) := by
  intro t x' y' ht h1 h2
  by_cases e : t = j
  · subst e
    rw [hx] at h1
    rw [hy] at h2
    cases h1
    cases h2
    exact hn
  · exact h t x' y' (by omega) h1 h2
theorem riseTo_one (L : List It) : RiseTo L 1 := fun t x y ht => by omega

def RisesPost (L : List It) (w : World) (e : Ending) (w' : World) : Prop := (∃ b : Bool, e = .returned (.bool b) ∧ (b = true ↔ Rises L)) ∧ Below w.heap.size w w'

set_option maxRecDepth 20000 in
set_option maxHeartbeats 1000000 in
theorem rises_any (v : Value) (L : List It) (w : World) (h : Rd w v L.length 2 (cells L)) (hl : L.length ≤ 8192) :
    Calls Try.prog 59 #[.func (.func 29) #[] #[], v] w (RisesPost L w) := by
  obtain ⟨a, c, rfl, _⟩ := h.form
  have HR := Lib.hid h
  clear h
  go_enter Try.func59, Try.ntmps59
  go_wp2_with fail
  go_loopg [5] (L.length + 1) (fun kq v5 w' => ∃ j : Nat, v5 = .int .i64 ((j : Int) + 1) ∧ Hid (kq = L.length + 1 - j) ∧ Hid (RiseTo L (j + 1)) ∧ Hid (Below w.heap.size w w'))
  case atStart => exact ⟨0, rfl, Lib.hid rfl, Lib.hid (riseTo_one L), Lib.hid (Below.refl _ _)⟩
  case round =>
    obtain ⟨j, rfl, HI, HK, HB⟩ := hrel
    have hj0 : (0 : Int) ≤ (j : Int) := by omega
    by_cases hi : j + 1 < L.length
    · obtain ⟨x, hx⟩ : ∃ x, L[j]? = some x := ⟨L[j]'(by omega), List.getElem?_eq_getElem _⟩
      obtain ⟨y, hy⟩ : ∃ y, L[j + 1]? = some y := ⟨L[j + 1], List.getElem?_eq_getElem hi⟩
      have hRr := HR.out.keep (Upd.ofBelow (F := fun _ => False) HB.out) (fun _ _ h => h)
      obtain ⟨g, off, c', e1, _, x0, x1⟩ := it_at hRr hx
      cases e1
      obtain ⟨g', off', c', e1, _, y0, y1⟩ := it_at hRr hy
      cases e1
      have hi1 : (j : Int) + 1 < (L.length : Int) := by omega
      have hi2 : decide ((j : Int) + 1 < (L.length : Int)) = true := decide_eq_true hi1
      have hi3 : (j : Int) < (L.length : Int) := by omega
      have hi4 : (0 : Int) ≤ (j : Int) + 1 := by omega
      have hi5 : ((j : Int) + 1).toNat = j + 1 := by omega
      have hw : IntKind.i64.wrap (j : Int) = (j : Int) := by rw [IntKind.wrap_i64]; omega
      have hw2 : IntKind.i64.wrap ((j : Int) + 1 + 1) = (j : Int) + 1 + 1 := by rw [IntKind.wrap_i64]; omega
      have HXY := Lib.hid (And.intro hx hy)
      have HC := Lib.hid (asks_any askI y x wr.drew trivial)
      have keep : Hid (∀ w', Below wr.drew.heap.size wr.drew w' → w'.cell? ⟨g, off + j * 2, none⟩ = some (.int .i64 x.k) ∧ w'.cell? ⟨g, off + j * 2 + 1, none⟩ = some (.int .i64 x.m) ∧ w'.cell? ⟨g, off + (j + 1) * 2, none⟩ = some (.int .i64 y.k) ∧ w'.cell? ⟨g, off + (j + 1) * 2 + 1, none⟩ = some (.int .i64 y.m)) := Lib.hid (fun w' hb => by
        have l2 : g < wr.heap.size := World.block_lt_of_cell? wr _ x0
        exact ⟨(hb.cell l2).trans x0, (hb.cell l2).trans x1, (hb.cell l2).trans y0, (hb.cell l2).trans y1⟩)
      clear hx hy hRr
      go_wp2_with fail
      apply wp_reg (fun w' : World => w'.cell? ⟨g, off + j * 2, none⟩ = some (.int .i64 x.k) ∧ w'.cell? ⟨g, off + j * 2 + 1, none⟩ = some (.int .i64 x.m) ∧ w'.cell? ⟨g, off + (j + 1) * 2, none⟩ = some (.int .i64 y.k) ∧ w'.cell? ⟨g, off + (j + 1) * 2 + 1, none⟩ = some (.int .i64 y.m)) [0, 1, 2, 3, 4, 5, 6, 7, 8, 9] [10] [] (by kernel_rfl) (by kernel_rfl) (fun _ _ d _ _ h => by cases d <;> exact h) ⟨x0, x1, y0, y1⟩
      · iterate 10 (apply reads_consL rfl rfl; (· intro w0 hS; obtain ⟨hS1, hS2, hS3, hS4⟩ := hS; go_simp; try rfl); simp only [Act.put, List.setIfInBounds_toArray, List.set_cons_zero, List.set_cons_succ])
        exact rfl
      refine tail_consL rfl ?_
      go_wp2_with fail
      refine HC.out.mono ?_
      rintro e w4 ⟨rfl, hb4⟩
      have hS4 := keep.out w4 hb4
      have HB4 := Lib.hid (below_trans HB.out.drew hb4)
      clear hb4 HC x0 x1 y0 y1 keep HB
      go_wp2_with fail
      refine ⟨hS4, tail_zero ?_⟩
      by_cases hlt : y.k < x.k
      · have hd : decide (y.k < x.k) = true := decide_eq_true hlt
        have HL := Lib.hid hlt
        clear hS4
        go_wp2
        go_ret
        exact ⟨⟨false, rfl, fun h => (by cases h), fun h => absurd HL.out (h j x y HXY.out.1 HXY.out.2)⟩, HB4.out⟩
      · have hd : decide (y.k < x.k) = false := decide_eq_false hlt
        have HL := Lib.hid hlt
        clear hS4
        go_wp2
        go_roundg (L.length - j)
        case rel => exact ⟨j + 1, by go_num, Lib.hid (by omega), Lib.hid (HK.out.next HXY.out.1 HXY.out.2 (by have := HL.out; omega)), HB4⟩
        case measure => have := HI.out; omega
    · have hi1 : ¬ (j : Int) + 1 < (L.length : Int) := by omega
      have hi2 : decide ((j : Int) + 1 < (L.length : Int)) = false := decide_eq_false hi1
      go_wp2
      go_ret
      exact ⟨⟨true, rfl, fun _ => HK.out.all (by omega), fun _ => rfl⟩, HB.out⟩

set_option maxRecDepth 20000 in
set_option maxHeartbeats 1000000 in
theorem rrises_any (v : Value) (L : List It) (w : World) (h : Rd w v L.length 2 (cells L)) (hl : L.length ≤ 8192) :
    Calls Try.prog 61 #[v] w (RisesPost L w) := by
  obtain ⟨a, c, rfl, _⟩ := h.form
  have HR := Lib.hid h
  clear h
  go_enter Try.func61, Try.ntmps61
  go_wp2_with fail
  go_loopg [3] (L.length + 1) (fun kq v3 w' => ∃ j : Nat, v3 = .int .i64 ((j : Int) + 1) ∧ Hid (kq = L.length + 1 - j) ∧ Hid (RiseTo L (j + 1)) ∧ Hid (Below w.heap.size w w'))
  case atStart => exact ⟨0, rfl, Lib.hid rfl, Lib.hid (riseTo_one L), Lib.hid (Below.refl _ _)⟩
  case round =>
    obtain ⟨j, rfl, HI, HK, HB⟩ := hrel
    have hj0 : (0 : Int) ≤ (j : Int) := by omega
    by_cases hi : j + 1 < L.length
    · obtain ⟨x, hx⟩ : ∃ x, L[j]? = some x := ⟨L[j]'(by omega), List.getElem?_eq_getElem _⟩
      obtain ⟨y, hy⟩ : ∃ y, L[j + 1]? = some y := ⟨L[j + 1], List.getElem?_eq_getElem hi⟩
      have hRr := HR.out.keep (Upd.ofBelow (F := fun _ => False) HB.out) (fun _ _ h => h)
      obtain ⟨g, off, c', e1, _, x0, x1⟩ := it_at hRr hx
      cases e1
      obtain ⟨g', off', c', e1, _, y0, y1⟩ := it_at hRr hy
      cases e1
      have hi1 : (j : Int) + 1 < (L.length : Int) := by omega
      have hi2 : decide ((j : Int) + 1 < (L.length : Int)) = true := decide_eq_true hi1
      have hi3 : (j : Int) < (L.length : Int) := by omega
      have hi4 : (0 : Int) ≤ (j : Int) + 1 := by omega
      have hi5 : ((j : Int) + 1).toNat = j + 1 := by omega
      have hw : IntKind.i64.wrap (j : Int) = (j : Int) := by rw [IntKind.wrap_i64]; omega
      have hw2 : IntKind.i64.wrap ((j : Int) + 1 + 1) = (j : Int) + 1 + 1 := by rw [IntKind.wrap_i64]; omega
      have HXY := Lib.hid (And.intro hx hy)
      have HBd : Hid (∀ n, Below w.heap.size w (wr.drewN n)) := Lib.hid (fun n => HB.out.trans (((Upd.refl wr (fun _ => False)).drewN n).below HB.out.size (fun _ _ h => h)))
      clear hx hy hRr HB x1 y1
      by_cases hlt : y.k < x.k
      · have hd : decide (y.k < x.k) = true := decide_eq_true hlt
        have HL := Lib.hid hlt
        go_wp2_with fail
        go_quiet (fail)
        go_wp2
        go_ret
        exact ⟨⟨false, rfl, fun h => (by cases h), fun h => absurd HL.out (h j x y HXY.out.1 HXY.out.2)⟩, HBd.out _⟩
      · have hd : decide (y.k < x.k) = false := decide_eq_false hlt
        have HL := Lib.hid hlt
        go_wp2_with fail
        go_quiet (fail)
        go_wp2
        go_roundg (L.length - j)
        case rel => exact ⟨j + 1, by go_num, Lib.hid (by omega), Lib.hid (HK.out.next HXY.out.1 HXY.out.2 (by have := HL.out; omega)), Lib.hid (HBd.out _)⟩
        case measure => have := HI.out; omega
    · have hi1 : ¬ (j : Int) + 1 < (L.length : Int) := by omega
      have hi2 : decide ((j : Int) + 1 < (L.length : Int)) = false := decide_eq_false hi1
      go_wp2
      go_ret
      exact ⟨⟨true, rfl, fun _ => HK.out.all (by omega), fun _ => rfl⟩, HB.out⟩

/-! ### Lists of lists -/
theorem elemS : Elem Try.prog 30 1 24 (.slice none 0 0) := Elem.mk' (by kernel_rfl) rfl (by omega) (by omega)
def RdL (w : World) (v : Value) (ls : List (List It)) : Prop := ∃ vs : List Value, Rd w v ls.length 1 vs ∧ ∀ (i : Nat) (l : List It), ls[i]? = some l → ∃ u, vs[i]? = some u ∧ Rd w u l.length 2 (cells l)
theorem RdL.form {w : World} {v : Value} {ls : List (List It)} (h : RdL w v ls) : ∃ a c, v = .slice a ls.length c ∧ ls.length ≤ c := by
  obtain ⟨vs, h, _⟩ := h
  exact h.form
theorem RdL.below {w w' : World} {v : Value} {ls : List (List It)} (h : RdL w v ls) (hb : Below w.heap.size w w') : RdL w' v ls := by
  obtain ⟨vs, h, k⟩ := h
  have U : Upd w w' (fun _ => False) := Upd.ofBelow hb
  refine ⟨vs, h.keep U (fun _ _ h => h), fun i l hl => ?_⟩
  obtain ⟨u, hu, hr⟩ := k i l hl
  exact ⟨u, hu, hr.keep U (fun _ _ h => h)⟩
theorem rdl_at {w : World} {v : Value} {ls : List (List It)} (h : RdL w v ls) {i : Nat} {l : List It} (hl : ls[i]? = some l) : ∃ g off c a c2, v = .slice (some ⟨g, off, none⟩) ls.length c ∧ w.cell? ⟨g, off + i, none⟩ = some (.slice a l.length c2) ∧ Rd w (.slice a l.length c2) l.length 2 (cells l) := by
  obtain ⟨vs, h, k⟩ := h
  obtain ⟨u, hu, hr⟩ := k i l hl
  obtain ⟨a, c2, rfl, _⟩ := hr.form
  obtain ⟨g, off, c, e, _, hc⟩ := h.at_ hu
  exact ⟨g, off, c, a, c2, e, hc, hr⟩

structure Cp (w : World) (ls : List (List It)) (i : Nat) (v : Value) (vs : List Value) (W : World) : Prop where
  own : W.ownsRow 0 30 1 v i vs
  new : ∀ g, v.ownBlock = some g → w.heap.size ≤ g
  each : ∀ (j : Nat) (l : List It), j < i → ls[j]? = some l → ∃ u, vs[j]? = some u ∧ W.ownsRow 0 36 2 u l.length (cells l)
  upd : Upd w W (fun _ => False)
theorem own_lists {w w' : World} {v u : Value} {n m : Nat} {xs ys : List Value} (h : w.ownsRow 0 36 2 u n xs) (hv : w.ownsRow 0 30 1 v m ys) (U : Upd w w' (fun b => v.ownBlock = some b)) : w'.ownsRow 0 36 2 u n xs :=
  own_keep h U (fun g hg hm => by
    obtain ⟨a, ha⟩ := own_ty h hg
    obtain ⟨b, hb⟩ := own_ty hv hm
    exact ha.ty hb (by decide) rfl)
theorem Cp.snoc {w W W1 w4 w5 w6 : World} {ls : List (List It)} {i g1 : Nat} {v v1 v' : Value} {vs : List Value} {l : List It} (h : Cp w ls i v vs W) (hl : ls[i]? = some l) (U1 : Upd W W1 (fun _ => False)) (hg1 : g1 = W.heap.size)
    (hA1 : AppPost W1 36 2 (.slice (some ⟨g1, 0, none⟩) 0 0) 0 [] l.length (cells l) v1 w4) (U5 : Upd w4 w5 (fun _ => False)) (hA2 : AppPost w5 30 1 v i vs 1 [v1] v' w6) : Cp w ls (i + 1) v' (vs ++ [v1]) w6 := by
  obtain ⟨O4, U4, _⟩ := hA1
  obtain ⟨O6, U6, b6⟩ := hA2
  have U04 : Upd W w4 (fun _ => False) := U1.trans U4 (fun k hk e => by have := ob_eq e; omega)
  have U05 := U04.trans U5 (fun _ _ h => h)
  have hv5 : w5.ownsRow 0 30 1 v i vs := own_keep h.own U05 (fun _ _ h => h)
  have hs := h.upd.size
  have hs5 := U05.size
  have hlen : vs.length = i := by have := h.own.1; omega
  rw [Nat.zero_add, List.nil_append] at O4
  refine ⟨O6, fun g hg => ?_, fun j l' hj hl' => ?_, (h.upd.trans U05 (fun _ _ h => h)).trans U6 (fun k hk e => by have := h.new k e; omega)⟩
  · rcases b6 with e | e
    · exact h.new g (e ▸ hg)
    · have := ob_some (e.symm.trans hg)
      omega
  · by_cases e : j = i
    · subst e
      rw [hl] at hl'
      cases hl'
      exact ⟨v1, by rw [List.getElem?_append_right (by omega), hlen, Nat.sub_self]; rfl, own_lists (own_keep O4 U5 (fun _ _ h => h)) hv5 U6⟩
    · obtain ⟨u, hu, ho⟩ := h.each j l' (by omega) hl'
      exact ⟨u, by rw [List.getElem?_append_left (by omega)]; exact hu, own_lists (own_keep ho U05 (fun _ _ h => h)) hv5 U6⟩

def CopiedPost (w : World) (ls : List (List It)) (e : Ending) (w' : World) : Prop := ∃ v', e = .returned v' ∧ RdL w' v' ls ∧ Below w.heap.size w w'

set_option maxRecDepth 20000 in
set_option maxHeartbeats 1000000 in
theorem copied_any (v : Value) (ls : List (List It)) (w : World) (h : RdL w v ls) (hl : ls.length * 24 ≤ 140737488351232) (hle : ∀ l ∈ ls, l.length * 16 ≤ 140737488351232) :
    Calls Try.prog 27 #[v] w (CopiedPost w ls) := by
  obtain ⟨a, c, rfl, _⟩ := h.form
  have HR := Lib.hid h
  have HLE := Lib.hid hle
  clear h hle
  go_enter Try.func27, Try.ntmps27
  obtain ⟨g0, hg0⟩ : ∃ g0, g0 = w.heap.size := ⟨_, rfl⟩
  go_wp2_with fail
  rw [← hg0]
  have S0 : Hid (Cp w ls 0 (.slice (some ⟨g0, 0, none⟩) 0 0) [] (w.alloc (.cells #[] 30))) := Lib.hid ⟨own_lit_sz hg0, fun g hg => by have := ob_eq hg; omega, fun j l hj => by omega, (Upd.refl w _).alloc _⟩
  clear hg0
  generalize World.alloc _ _ = W0 at S0 ⊢
  go_loopg [3, 4] ls.length (fun kq v3 v4 w' => ∃ i : Nat, v4 = .int .i64 i ∧ Hid (kq = ls.length - i ∧ i ≤ ls.length) ∧ Hid (∃ vs, Cp w ls i v3 vs w'))
  case atStart => exact ⟨0, rfl, Lib.hid ⟨rfl, Nat.zero_le _⟩, Lib.hid ⟨_, S0.out⟩⟩
  case round =>
    obtain ⟨i, rfl, HI, HO⟩ := hrel
    have hi0 : (0 : Int) ≤ (i : Int) := by omega
    by_cases hi : i < ls.length
    · obtain ⟨l, hll⟩ : ∃ l, ls[i]? = some l := ⟨ls[i], List.getElem?_eq_getElem hi⟩
      obtain ⟨vs, hC⟩ := HO.out
      have hbl : Below w.heap.size w wr := hC.upd.below (Nat.le_refl _) (fun _ _ h => h)
      obtain ⟨g, off, c', a2, c2, e1, hcell, hrd⟩ := rdl_at (HR.out.below hbl) hll
      cases e1
      obtain ⟨a3, c3, rfl, _⟩ := (Rd.ofOwn hC.own).form
      obtain ⟨g1, hg1⟩ : ∃ g1, g1 = wr.heap.size := ⟨_, rfl⟩
      have hi1 : (i : Int) < (ls.length : Int) := by omega
      have hi2 : decide ((i : Int) < (ls.length : Int)) = true := decide_eq_true hi1
      have hlen := HLE.out l (List.mem_of_getElem? hll)
      have p1 : (wr.alloc (.cells #[] 36)).cell? ⟨g, off + i, none⟩ = some (.slice a2 l.length c2) := by
        rw [((Upd.refl wr (fun _ => False)).alloc (.cells #[] 36)).cell (World.block_lt_of_cell? wr _ hcell) (fun h => h)]
        exact hcell
      have HC := Lib.hid (And.intro hC (And.intro hrd (And.intro hg1 hll)))
      clear hC hrd hcell hll
      go_upto_region 5 with fail
      go_wp2_with (at_builtin; refine halt_mk ?_)
      refine halt_go ?_
      rw [← hg1]
      generalize hW : World.alloc _ _ = W1
      have T1 : Upd wr W1 (fun _ => False) := by rw [← hW]; exact (Upd.refl wr _).alloc _
      have O1 : W1.ownsRow 0 36 2 (.slice (some ⟨g1, 0, none⟩) 0 0) 0 [] := by rw [← hW]; exact own_lit_sz hg1
      clear hW hg1 p1
      refine wpl_app rfl rfl elem Try.underlying30 rfl O1 rfl (HC.out.2.1.keep T1 (fun _ _ h => h)) (cells_one l) (by omega) ?_
      intro v1 w4 hA1
      obtain ⟨a4, c4, hv4, _⟩ := (Rd.ofOwn hA1.1).form
      rw [Nat.zero_add] at hv4
      subst hv4
      have H4 := Lib.hid (And.intro T1 hA1)
      clear T1 O1 hA1
      go_wp2_with (at_builtin; refine halt_mk ?_)
      refine halt_go ?_
      generalize hW : World.alloc _ _ = W5
      have T5 : Upd w4 W5 (fun _ => False) := by rw [← hW]; exact (Upd.refl w4 _).alloc _
      have X5 : Blk W5 w4.heap.size [.slice a4 l.length c4] 30 := by rw [← hW]; exact Blk.new' rfl
      clear hW
      have hg1 := HC.out.2.2.1
      have U04 : Upd wr w4 (fun _ => False) := H4.out.1.trans H4.out.2.2.1 (fun k hk e => by have := ob_eq e; omega)
      refine wpl_app rfl rfl elemS Try.underlying54 rfl (own_keep HC.out.1.own (U04.trans T5 (fun _ _ h => h)) (fun _ _ h => h)) rfl (Rd.ofBlk X5 1 1 rfl) (by simp [Value.oneCell']) (by omega) ?_
      intro v6 w6 hA2
      have HS : Hid (Cp w ls (i + 1) v6 (vs ++ [.slice a4 l.length c4]) w6) := Lib.hid (HC.out.1.snoc HC.out.2.2.2 H4.out.1 hg1 H4.out.2 T5 hA2)
      clear hA2 T5 X5 H4 HC hg1 U04 HO
      go_wp2
      go_roundg (ls.length - (i + 1))
      case rel => exact ⟨i + 1, by go_num, Lib.hid ⟨rfl, by omega⟩, Lib.hid ⟨_, HS.out⟩⟩
      case measure => have := HI.out; omega
    · obtain rfl : i = ls.length := by have := HI.out; omega
      have hi1 : ¬ (ls.length : Int) < (ls.length : Int) := by omega
      have hi2 : decide ((ls.length : Int) < (ls.length : Int)) = false := decide_eq_false hi1
      go_wp2
      go_ret
      obtain ⟨vs, hC⟩ := HO.out
      refine ⟨_, rfl, ⟨vs, Rd.ofOwn hC.own, fun i l hl => ?_⟩, hC.upd.below (Nat.le_refl _) (fun _ _ h => h)⟩
      obtain ⟨u, hu, ho⟩ := hC.each i l (List.getElem?_eq_some_iff.1 hl).1 hl
      exact ⟨u, hu, Rd.ofOwn ho⟩

end OrdI
end Go.Proofs.Ytnhgeoccknhiiaa
