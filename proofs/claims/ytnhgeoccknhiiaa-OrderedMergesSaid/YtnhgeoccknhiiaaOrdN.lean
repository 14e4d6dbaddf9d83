/- Lists in an order, of numbers of a table: asks. -/
import Derived.Test.YtnhgeoccknhiiaaReg2
import Derived.Test.YtnhgeoccknhiiaaSlice
import Derived.Test.YtnhgeoccknhiiaaProg
import Derived.Deep.LoopGhost
import Derived.Deep.QuietTactic
import Derived.BigQuiet
import Derived.Outline
import Derived.Deep.DeepCutAuto
import Derived.OwnWalk
import Derived.Defers
import Derived.Recover
import Derived.Laws.Pointers
namespace Go.Proofs.Ytnhgeoccknhiiaa
open Go.RowKit

namespace OrdN

theorem catch_idle (p : Addr) (w : World) :
    CallsD Try.prog 86 #[.pointer (some p)] .returning w fun e u' w' => e = .returned (.tuple #[]) ∧ u' = .returning ∧ w' = w := by
  refine callsD_of_wpS Try.func86 rfl fun c₀ cs hu => ?_
  apply wpS_seq
  apply wpS_region
  simp [wpOpsS, go_sem, recoverD, hu, Try.ntmps86, Exit.thenS]
  refine wpS_cond (t := false) (by simp [Act.eval, Array.replicate]) ?_
  simp only [Bool.false_eq_true, if_false]
  refine wpS_of_wp (wp_skip ?_)
  cases c₀
  simp_all [bodyPostS, results, Try.results86]

variable {N tv : Nat}
@[reducible] def num (x : Fin N) : Value := .int .i64 (x.val : Int)

/-- An order whose answers go by a key, for as long as S holds. -/
structure Ask (tv : Nat) (S : World → Prop) (key : Fin N → Int) : Prop where
  stays : ∀ w w', S w → Below w.heap.size w w' → S w'
  less : ∀ w a b, S w → Calls Try.prog 13 #[.int .i64 (a.val : Int), .int .i64 (b.val : Int), .pointer (some ⟨tv, 0, none⟩)] w fun e w' => e = .returned (.bool (decide (key a < key b))) ∧ Below w.heap.size w w'

theorem asks_any {S : World → Prop} {key : Fin N → Int} (A : Ask tv S key) (a b : Fin N) (w : World) (hS : S w) : Calls Try.prog 55 #[.func (.func 13) #[] #[.pointer (some ⟨tv, 0, none⟩)], .int .i64 (a.val : Int), .int .i64 (b.val : Int)] w fun e w' => e = .returned (.bool (decide (key a < key b))) ∧ Below w.heap.size w w' := by
  have hmf : ∀ (fn : Fn) (first cap : Array Value) (w : World), (Instr.makeFunc fn first cap).run Try.prog w = .ok (.func fn first cap) w := fun _ _ _ _ => rfl
  go_enter_defers Try.func55, Try.ntmps55
  go_wp2_with fail
  generalize hW : World.alloc _ _ = W
  have hU : Upd w W (fun _ => False) := by rw [← hW]; exact (Upd.refl w _).alloc _
  have hB : Blk W w.heap.size [.bool false] 4 := by rw [← hW]; exact Blk.new' rfl
  have HX := Lib.hid (And.intro hU hB)
  clear hW hU hB
  obtain ⟨n, hn⟩ : ∃ n, n = w.heap.size := ⟨_, rfl⟩
  rw [← hn]
  refine (A.less W a b (A.stays w W hS (HX.out.1.below (Nat.le_refl _) (fun _ _ h => h)))).mono ?_
  rintro e w2 ⟨rfl, h2⟩
  have hc : w2.cell? ⟨n, 0, none⟩ = some (.bool false) := by
    rw [h2.cell (by rw [hn]; exact HX.out.2.lt), hn]
    exact HX.out.2.cell 0
  have hlt : n < w2.heap.size := by
    have := HX.out.2.lt
    have := h2.size
    omega
  have hf : w2.frozen? ⟨n, 0, none⟩ = false := by
    rw [h2.frozen (by rw [hn]; exact HX.out.2.lt), hn]
    exact HX.out.2.free 0
  have HB : Hid (Below w.heap.size w w2) := Lib.hid ((HX.out.1.below (Nat.le_refl _) (fun _ _ h => h)).trans (Upd.below (Upd.ofBelow (F := fun _ => False) h2) HX.out.1.size (fun _ _ h => h)))
  have HN := Lib.hid hn
  clear h2 HX hn hS A
  go_wp2
  refine leaves_cons (f := 86) (args := #[.pointer (some ⟨n, 0, none⟩)]) (by simp) (by simp [go_sem]) ?_
  refine (catch_idle ⟨n, 0, none⟩ _).mono ?_
  rintro e u' w'' ⟨rfl, rfl, rfl⟩
  have hr : (w2.setCell ⟨n, 0, none⟩ (.bool (decide (key a < key b)))).cell? ⟨n, 0, none⟩ = some (.bool (decide (key a < key b))) := by go_simp
  simp [Leaves, settle, results, Try.results55, go_sem, hr]
  exact HB.out.setCell (by rw [HN.out]; exact Nat.le_refl _) _

/-! ### The list -/
def cells (L : List (Fin N)) : List Value := L.map num
theorem cells_get (L : List (Fin N)) (i : Nat) : (cells L)[i]? = L[i]?.map num := List.getElem?_map ..
theorem elem : Elem Try.prog 3 1 8 (.int .i64 0) := Elem.mk' (by kernel_rfl) rfl (by omega) (by omega)
theorem cells_one (L : List (Fin N)) : ∀ u ∈ cells L, u.oneCell' = true := by
  intro u hu
  obtain ⟨x, _, rfl⟩ := List.mem_map.1 hu
  rfl

@[reducible] def lessV (tv : Nat) : Value := .func (.func 13) #[] #[.pointer (some ⟨tv, 0, none⟩)]
def OrdIs (tv : Nat) (w : World) (p : Nat) (L : List (Fin N)) : Prop := ∃ v, Blk w p [lessV tv, v] 112 ∧ w.ownsRow 0 3 1 v L.length (cells L)
def Sorted (key : Fin N → Int) (L : List (Fin N)) : Prop := ∀ (i j : Nat) (x y : Fin N), L[i]? = some x → L[j]? = some y → i < j → key x < key y
structure RankOf (key : Fin N → Int) (L : List (Fin N)) (kx : Int) (r : Nat) : Prop where
  le : r ≤ L.length
  left : ∀ (i : Nat) (x : Fin N), L[i]? = some x → i < r → key x < kx
  right : ∀ (i : Nat) (x : Fin N), L[i]? = some x → r ≤ i → kx ≤ key x

theorem OrdIs.below {w w' : World} {p : Nat} {L : List (Fin N)} (h : OrdIs tv w p L) (hB : Below w.heap.size w w') : OrdIs tv w' p L := by
  obtain ⟨v, h1, h2⟩ := h
  have U : Upd w w' (fun _ => False) := Upd.ofBelow hB
  exact ⟨v, U.blk h1 (fun h => h), own_keep h2 U (fun _ _ h => h)⟩
theorem below_trans {a b c : World} (h : Below a.heap.size a b) (k : Below b.heap.size b c) : Below a.heap.size a c :=
  h.trans (Upd.below (Upd.ofBelow (F := fun _ => False) k) h.size (fun _ _ h => h))

set_option maxRecDepth 10000 in
theorem rank_any {S : World → Prop} {key : Fin N → Int} (A : Ask tv S key) (p : Nat) (L : List (Fin N)) (x : Fin N) (w : World) (hS : S w) (h : OrdIs tv w p L) (hs : Sorted key L) (hl : L.length ≤ 8192) :
    Calls Try.prog 16 #[.pointer (some ⟨p, 0, none⟩), .int .i64 (x.val : Int)] w fun e w' => (∃ r : Nat, RankOf key L (key x) r ∧ e = .returned (.int .i64 r)) ∧ Below w.heap.size w w' := by
  have HA := Lib.hid (And.intro A (And.intro hS (And.intro h hs)))
  obtain ⟨v, hB, hO⟩ := h
  obtain ⟨a, c, rfl, hc⟩ := (Rd.ofOwn hO).form
  have h0 : w.cell? ⟨p, 0, none⟩ = some (.func (.func 13) #[] #[.pointer (some ⟨tv, 0, none⟩)]) := hB.cell 0
  have h1 : w.cell? ⟨p, 1, none⟩ = some (.slice a L.length c) := hB.cell 1
  clear hB hO hs A hS
  have qn : ∀ (w : World) (f : Fn) (a b : Array Value), (binOp .eql 28 (.func f a b) .nilFunc).run Try.prog w = .ok (.bool false) w := fun _ _ _ _ => by kernel_rfl
  go_enter Try.func16, Try.ntmps16
  go_wp2
  go_quiet (fail)
  go_wp2
  have HV := Lib.hid h1
  clear h0 h1
  go_loopg [5, 6] L.length (fun kq v5 v6 w' => ∃ i j : Nat, v5 = .int .i64 i ∧ v6 = .int .i64 j ∧ Hid (kq = j - i ∧ i ≤ j ∧ j ≤ L.length) ∧ Hid ((∀ (t : Nat) (y : Fin N), L[t]? = some y → t < i → key y < key x) ∧ (∀ (t : Nat) (y : Fin N), L[t]? = some y → j ≤ t → key x ≤ key y)) ∧ Hid (Below w.heap.size w w'))
  case atStart => exact ⟨0, L.length, rfl, rfl, Lib.hid ⟨rfl, Nat.zero_le _, Nat.le_refl _⟩, Lib.hid ⟨fun t y _ h => by omega, fun t y h h2 => by rw [List.getElem?_eq_none h2] at h; cases h⟩, Lib.hid (Upd.below ((Upd.refl w (fun _ => False)).drewN _) (Nat.le_refl _) (fun _ _ h => h))⟩
  case round =>
    obtain ⟨i, j, rfl, rfl, HI, HK, HB⟩ := hrel
    have hi0 : (0 : Int) ≤ (i : Int) := by omega
    have hj0 : (0 : Int) ≤ (j : Int) := by omega
    have hj8 : (j : Int) ≤ 8192 := by have := HI.out; omega
    have hi8 : (i : Int) ≤ 8192 := by have := HI.out; omega
    by_cases hij : i < j
    · have hij1 : (i : Int) < (j : Int) := by omega
      have hij2 : decide (i < j) = true := decide_eq_true hij
      obtain ⟨k, hk⟩ : ∃ k : Nat, k = (i + j) / 2 := ⟨_, rfl⟩
      have hki : i ≤ k := by omega
      have hkj : k < j := by omega
      have hke : ((i : Int) + (j : Int)) / 2 = (k : Int) := by omega
      clear hk
      have hkL : k < L.length := by have := HI.out; omega
      obtain ⟨y, hy⟩ : ∃ y, L[k]? = some y := ⟨L[k], List.getElem?_eq_getElem hkL⟩
      obtain ⟨A, hS, hO, hs⟩ := HA.out
      have hO2 := hO.below HB.out
      obtain ⟨v2, hB2, hR2⟩ := hO2
      have he2 : v2 = .slice a L.length c := by
        have e1 : wr.cell? ⟨p, 1, none⟩ = some v2 := hB2.cell 1
        obtain ⟨v, hBB, _⟩ := hO
        have e2 : wr.cell? ⟨p, 1, none⟩ = w.cell? ⟨p, 1, none⟩ := HB.out.cell hBB.lt
        rw [e1, HV.out] at e2
        exact Option.some.inj e2
      subst he2
      obtain ⟨g, off, c', e1, _, hcell⟩ := (Rd.ofOwn hR2).at_ (j := k) (u := .int .i64 (y.val : Int)) (by rw [cells_get, hy]; rfl)
      cases e1
      have h0 : wr.cell? ⟨p, 0, none⟩ = some (.func (.func 13) #[] #[.pointer (some ⟨tv, 0, none⟩)]) := hB2.cell 0
      have h1 : wr.cell? ⟨p, 1, none⟩ = some (.slice (some ⟨g, off, none⟩) L.length c) := hB2.cell 1
      have hk1 : (k : Int) < (L.length : Int) := by omega
      have hk0 : (0 : Int) ≤ (k : Int) := by omega
      have HY := Lib.hid hy
      have HC := Lib.hid (asks_any A y x wr.drew (A.stays _ _ hS HB.out.drew))
      have HW : Hid (∀ w', Below wr.drew.heap.size wr.drew w' → w'.cell? ⟨p, 0, none⟩ = some (.func (.func 13) #[] #[.pointer (some ⟨tv, 0, none⟩)]) ∧ w'.cell? ⟨p, 1, none⟩ = some (.slice (some ⟨g, off, none⟩) L.length c) ∧ w'.cell? ⟨g, off + k, none⟩ = some (.int .i64 (y.val : Int))) := Lib.hid (fun w' hb => by
        have l1 : p < wr.heap.size := hB2.lt
        have l2 : g < wr.heap.size := World.block_lt_of_cell? wr _ hcell
        exact ⟨(hb.cell l1).trans h0, (hb.cell l1).trans h1, (hb.cell l2).trans hcell⟩)
      clear hO hs A hS hB2 hR2 hy
      go_wp2
      apply wp_reg (fun w' : World => w'.cell? ⟨p, 0, none⟩ = some (.func (.func 13) #[] #[.pointer (some ⟨tv, 0, none⟩)]) ∧ w'.cell? ⟨p, 1, none⟩ = some (.slice (some ⟨g, off, none⟩) L.length c) ∧ w'.cell? ⟨g, off + k, none⟩ = some (.int .i64 (y.val : Int))) [0, 1, 2, 3, 4, 5, 6, 7, 8, 9, 10, 11] [12] [] (by kernel_rfl) (by kernel_rfl) (fun _ _ d _ _ h => by cases d <;> exact h) ⟨h0, h1, hcell⟩
      · iterate 12 (apply reads_cons rfl rfl; (· intro w0 hS; obtain ⟨hS1, hS2, hS3⟩ := hS; go_simp; rfl); simp only [Act.put, List.setIfInBounds_toArray, List.set_cons_zero, List.set_cons_succ])
        exact rfl
      refine tail_cons rfl ?_
      go_wp2_with fail
      refine HC.out.mono ?_
      rintro e w3 ⟨rfl, h3⟩
      have HW3 := Lib.hid (HW.out w3 h3)
      have HB3 := Lib.hid (below_trans HB.out.drew (c := w3) (by exact h3))
      clear h3 HC HW h0 h1 hcell
      go_wp2_with fail
      refine ⟨HW3.out, tail_zero ?_⟩
      by_cases hlt : key y < key x
      · have hd : decide (key y < key x) = true := decide_eq_true hlt
        have HKK := Lib.hid (And.intro hki (And.intro hkj hlt))
        clear hki
        go_wp2
        go_roundg (j - (k + 1))
        case rel =>
          refine ⟨k + 1, j, by go_num, rfl, Lib.hid ⟨rfl, by omega, HI.out.2.2⟩, Lib.hid ⟨fun t z hz ht => ?_, HK.out.2⟩, HB3⟩
          by_cases htk : t = k
          · subst htk
            rw [HY.out] at hz
            cases hz
            exact HKK.out.2.2
          · have := HA.out.2.2.2 t k z y hz HY.out (by omega)
            have := HKK.out.2.2
            omega
        case measure =>
          have := HI.out
          have := HKK.out
          omega
      · have hd : decide (key y < key x) = false := decide_eq_false hlt
        have HKK := Lib.hid (And.intro hki (And.intro hkj hlt))
        clear hki
        go_wp2
        go_roundg (k - i)
        case rel =>
          refine ⟨i, k, rfl, rfl, Lib.hid ⟨rfl, HKK.out.1, by have := HI.out; omega⟩, Lib.hid ⟨HK.out.1, fun t z hz ht => ?_⟩, HB3⟩
          have hny := HKK.out.2.2
          by_cases htk : t = k
          · subst htk
            rw [HY.out] at hz
            cases hz
            omega
          · have := HA.out.2.2.2 k t y z HY.out hz (by omega)
            omega
        case measure =>
          have := HI.out
          have := HKK.out
          omega
    · have hij1 : ¬ (i : Int) < (j : Int) := by omega
      have hij2 : decide (i < j) = false := decide_eq_false hij
      go_wp2
      go_ret
      have e : i = j := by have := HI.out; omega
      subst e
      exact ⟨⟨i, ⟨HI.out.2.2, HK.out.1, HK.out.2⟩, rfl⟩, HB.out⟩

def FindPost (key : Fin N → Int) (L : List (Fin N)) (kx : Int) (w : World) (e : Ending) (w' : World) : Prop :=
  (∃ r : Nat, RankOf key L kx r ∧ ((∃ y, L[r]? = some y ∧ key y = kx ∧ e = .returned (.tuple #[.int .i64 r, .bool true])) ∨ ((∀ y, L[r]? = some y → kx < key y) ∧ e = .returned (.tuple #[.int .i64 r, .bool false])))) ∧ Below w.heap.size w w'

set_option maxRecDepth 10000 in
set_option maxHeartbeats 1000000 in
theorem find_any {S : World → Prop} {key : Fin N → Int} (A : Ask tv S key) (p : Nat) (L : List (Fin N)) (x : Fin N) (w : World) (hS : S w) (h : OrdIs tv w p L) (hs : Sorted key L) (hl : L.length ≤ 8192) :
    Calls Try.prog 53 #[.pointer (some ⟨p, 0, none⟩), .int .i64 (x.val : Int)] w (FindPost key L (key x) w) := by
  have HA := Lib.hid (And.intro A (And.intro hS (And.intro h hs)))
  have HC := Lib.hid (rank_any A p L x w hS h hs hl)
  clear A hS h hs
  go_enter Try.func53, Try.ntmps53
  go_wp2_with fail
  refine HC.out.mono ?_
  rintro e w2 ⟨⟨r, hR, rfl⟩, hb⟩
  have HB := Lib.hid hb
  have HR := Lib.hid hR
  obtain ⟨v, hB, hO⟩ := HA.out.2.2.1.below hb
  obtain ⟨a, c, rfl, hc⟩ := (Rd.ofOwn hO).form
  have h0 : w2.cell? ⟨p, 0, none⟩ = some (.func (.func 13) #[] #[.pointer (some ⟨tv, 0, none⟩)]) := hB.cell 0
  have h1 : w2.cell? ⟨p, 1, none⟩ = some (.slice a L.length c) := hB.cell 1
  have hr0 : (0 : Int) ≤ (r : Int) := by omega
  have HPL := Lib.hid hB.lt
  by_cases hr : r < L.length
  · have hr1 : (r : Int) < (L.length : Int) := by omega
    have hr2 : decide ((r : Int) < (L.length : Int)) = true := decide_eq_true hr1
    obtain ⟨y, hy⟩ : ∃ y, L[r]? = some y := ⟨L[r], List.getElem?_eq_getElem hr⟩
    obtain ⟨g, off, c', e1, _, hcell⟩ := (Rd.ofOwn hO).at_ (j := r) (u := .int .i64 (y.val : Int)) (by rw [cells_get, hy]; rfl)
    cases e1
    have HY := Lib.hid hy
    have HC := Lib.hid (asks_any HA.out.1 x y w2.drew (HA.out.1.stays _ _ HA.out.2.1 hb.drew))
    have HW : Hid (∀ w', Below w2.drew.heap.size w2.drew w' → w'.cell? ⟨p, 0, none⟩ = some (.func (.func 13) #[] #[.pointer (some ⟨tv, 0, none⟩)]) ∧ w'.cell? ⟨p, 1, none⟩ = some (.slice (some ⟨g, off, none⟩) L.length c) ∧ w'.cell? ⟨g, off + r, none⟩ = some (.int .i64 (y.val : Int))) := Lib.hid (fun w' hb => by
      have l2 : g < w2.heap.size := World.block_lt_of_cell? w2 _ hcell
      exact ⟨(hb.cell HPL.out).trans h0, (hb.cell HPL.out).trans h1, (hb.cell l2).trans hcell⟩)
    clear hb hR hB hO hy
    go_wp2
    apply wp_reg2 (fun w' : World => w'.cell? ⟨p, 0, none⟩ = some (.func (.func 13) #[] #[.pointer (some ⟨tv, 0, none⟩)]) ∧ w'.cell? ⟨p, 1, none⟩ = some (.slice (some ⟨g, off, none⟩) L.length c) ∧ w'.cell? ⟨g, off + r, none⟩ = some (.int .i64 (y.val : Int))) [0, 1, 2, 3, 4, 5, 6, 7, 8, 9, 10, 11, 12, 13, 14, 15, 16, 17, 18, 19, 20] [21] [22, 23] [24] [25] (by kernel_rfl) (by kernel_rfl) (fun _ _ d _ _ h => by cases d <;> exact h) ⟨h0, h1, hcell⟩
    · iterate 21 (apply reads_consL rfl rfl; (· intro w0 hS; obtain ⟨hS1, hS2, hS3⟩ := hS; go_simp; try rfl); simp only [Act.put, List.setIfInBounds_toArray, List.set_cons_zero, List.set_cons_succ])
      exact rfl
    refine pre_consL rfl ?_
    go_wp2_with fail
    refine HC.out.mono ?_
    rintro e w3 ⟨rfl, h3⟩
    have HW3 := Lib.hid (HW.out w3 h3)
    have HB3 := Lib.hid (below_trans HB.out.drew (c := w3) (by exact h3))
    clear h3 HC HW h0 h1 hcell
    go_wp2_with fail
    refine ⟨HW3.out, ?_⟩
    apply pre_last
    · iterate 2 (apply reads_consL rfl rfl; (· intro w0 hS; obtain ⟨hS1, hS2, hS3⟩ := hS; go_simp; try rfl); simp only [Act.put, List.setIfInBounds_toArray, List.set_cons_zero, List.set_cons_succ])
      exact rfl
    refine tail_consL rfl ?_
    go_wp2_with fail
    refine ⟨HW3.out, tail_oneL rfl ?_⟩
    go_wp2
    go_ret2
    refine ⟨⟨r, HR.out, ?_⟩, HB3.out⟩
    have hle := HR.out.right r y HY.out (Nat.le_refl _)
    by_cases hx : key x < key y
    · refine Or.inr ⟨fun z hz => ?_, ?_⟩
      · rw [HY.out] at hz
        cases hz
        exact hx
      · show Ending.returned (.tuple #[.int .i64 r, .bool (!decide (key x < key y))]) = _
        rw [decide_eq_true hx]
        rfl
    · refine Or.inl ⟨y, HY.out, by omega, ?_⟩
      show Ending.returned (.tuple #[.int .i64 r, .bool (!decide (key x < key y))]) = _
      rw [decide_eq_false hx]
      rfl
  · have hr1 : ¬ (r : Int) < (L.length : Int) := by omega
    have hr2 : decide ((r : Int) < (L.length : Int)) = false := decide_eq_false hr1
    clear hb hR hB hO
    go_wp2
    apply wp_reg2 (fun w' : World => w'.cell? ⟨p, 0, none⟩ = some (.func (.func 13) #[] #[.pointer (some ⟨tv, 0, none⟩)]) ∧ w'.cell? ⟨p, 1, none⟩ = some (.slice a L.length c)) [0, 1, 2, 3, 4, 5, 6, 7, 8, 9, 10, 11, 12, 13, 14, 15, 16, 17, 18, 19, 20] [21] [22, 23] [24] [25] (by kernel_rfl) (by kernel_rfl) (fun _ _ d _ _ h => by cases d <;> exact h) ⟨h0, h1⟩
    · iterate 9 (apply reads_consL rfl rfl; (· intro w0 hS; obtain ⟨hS1, hS2⟩ := hS; go_simp; try rfl); simp only [Act.put, List.setIfInBounds_toArray, List.set_cons_zero, List.set_cons_succ])
      iterate 12 (apply reads_skipL rfl rfl; simp only [Act.put, List.setIfInBounds_toArray, List.set_cons_zero, List.set_cons_succ])
      exact rfl
    refine pre_consL rfl ?_
    go_wp2_with fail
    refine ⟨⟨h0, h1⟩, ?_⟩
    apply pre_last
    · iterate 1 (apply reads_skipL rfl rfl; simp only [Act.put, List.setIfInBounds_toArray, List.set_cons_zero, List.set_cons_succ])
      iterate 1 (apply reads_consL rfl rfl; (· intro w0 hS; obtain ⟨hS1, hS2⟩ := hS; go_simp; try rfl); simp only [Act.put, List.setIfInBounds_toArray, List.set_cons_zero, List.set_cons_succ])
      exact rfl
    refine tail_consL rfl ?_
    go_wp2_with fail
    refine ⟨⟨h0, h1⟩, tail_oneL rfl ?_⟩
    go_wp2
    go_ret2
    refine ⟨⟨r, HR.out, Or.inr ⟨fun z hz => ?_, rfl⟩⟩, HB.out.drew⟩
    rw [List.getElem?_eq_none (by omega)] at hz
    cases hz

theorem Upd.ofB {w w' : World} (h : Below w.heap.size w w') : Upd w w' (fun _ => False) := Upd.ofBelow h

/-- .. and its row lies in memory from B on. -/
def OrdFresh (tv : Nat) (B : Nat) (w : World) (p : Nat) (L : List (Fin N)) : Prop := ∃ v, Blk w p [lessV tv, v] 112 ∧ w.ownsRow 0 3 1 v L.length (cells L) ∧ ∀ g, v.ownBlock = some g → B ≤ g
theorem OrdFresh.is {B : Nat} {w : World} {p : Nat} {L : List (Fin N)} (h : OrdFresh tv B w p L) : OrdIs tv w p L := by
  obtain ⟨v, h1, h2, _⟩ := h
  exact ⟨v, h1, h2⟩

def PutPost (tv : Nat) (key : Fin N → Int) (p : Nat) (L : List (Fin N)) (x : Fin N) (w : World) (e : Ending) (w' : World) : Prop :=
  ∃ r : Nat, RankOf key L (key x) r ∧
    (((∃ y, L[r]? = some y ∧ key y = key x) ∧ e = .returned (.int .i64 70) ∧ Below w.heap.size w w') ∨
     ((∀ y, L[r]? = some y → key x < key y) ∧ 8192 ≤ L.length ∧ e = .returned (.int .i64 2) ∧ Below w.heap.size w w') ∨
     ((∀ y, L[r]? = some y → key x < key y) ∧ L.length < 8192 ∧ e = .returned (.int .i64 0) ∧ OrdFresh tv w.heap.size w' p (L.insertIdx r x) ∧ Upd w w' (· = p)))

set_option maxRecDepth 10000 in
set_option maxHeartbeats 1000000 in
theorem put_any {S : World → Prop} {key : Fin N → Int} (A : Ask tv S key) (p : Nat) (L : List (Fin N)) (x : Fin N) (w : World) (hS : S w) (h : OrdIs tv w p L) (hs : Sorted key L) (hl : L.length ≤ 8192) :
    Calls Try.prog 14 #[.pointer (some ⟨p, 0, none⟩), .int .i64 (x.val : Int)] w (PutPost tv key p L x w) := by
  have qn : ∀ (w : World) (f : Fn) (a b : Array Value), (binOp .eql 28 (.func f a b) .nilFunc).run Try.prog w = .ok (.bool false) w := fun _ _ _ _ => by kernel_rfl
  have HO := Lib.hid h
  have HC := Lib.hid (find_any A p L x w hS h hs hl)
  clear A hS h hs
  go_enter Try.func14, Try.ntmps14
  go_wp2_with fail
  refine HC.out.mono ?_
  rintro e w2 ⟨⟨r, hR, hcase⟩, hb⟩
  have HB := Lib.hid hb
  have HR := Lib.hid hR
  obtain ⟨v, hB, hO⟩ := HO.out.below hb
  have hRd := Rd.ofOwn hO
  obtain ⟨a, c, rfl, hc⟩ := hRd.form
  have h0 : w2.cell? ⟨p, 0, none⟩ = some (.func (.func 13) #[] #[.pointer (some ⟨tv, 0, none⟩)]) := hB.cell 0
  have h1 : w2.cell? ⟨p, 1, none⟩ = some (.slice a L.length c) := hB.cell 1
  have hr0 : (0 : Int) ≤ (r : Int) := by omega
  have hrL := hR.le
  have HX := Lib.hid (And.intro hB (And.intro hO hRd))
  clear hb hR hB hO hRd HC
  rcases hcase with ⟨y, hy, hk, rfl⟩ | ⟨hno, rfl⟩
  · have HY := Lib.hid (And.intro hy hk)
    clear hy hk
    go_wp2
    go_ret
    exact ⟨r, HR.out, Or.inl ⟨⟨y, HY.out⟩, rfl, HB.out⟩⟩
  · have HN := Lib.hid hno
    clear hno
    by_cases hn : 8192 ≤ L.length
    · have hn1 : decide ((L.length : Int) ≥ 8192) = true := decide_eq_true (by omega)
      go_wp2
      go_ret
      exact ⟨r, HR.out, Or.inr (Or.inl ⟨HN.out, hn, rfl, HB.out⟩)⟩
    · have hn1 : decide ((L.length : Int) ≥ 8192) = false := decide_eq_false (by omega)
      obtain ⟨s1, r1, R1, b1⟩ := HX.out.2.2.cutH elem Try.underlying23 hrL .i64
      obtain ⟨s2, r2, R2, b2⟩ := HX.out.2.2.cutL elem Try.underlying23 hrL .i64
      have HR12 := Lib.hid (And.intro R1 R2)
      have hpl : p < w2.heap.size := HX.out.1.lt
      clear R1 R2 b1 b2
      obtain ⟨i, hi, hz, hsz, hby⟩ := elem.info
      have HI := Lib.hid (And.intro hi (And.intro hz (And.intro hsz hby)))
      clear hi hz hsz hby
      go_wp2_with (at_make; refine halt_mk ?_)
      refine halt_go ?_
      refine wpList_make_own _ rfl _ _ 23 rfl 0 3 i _ 1 Try.underlying23 HI.out.1 HI.out.2.1 HI.out.2.2.1 _ _ _ (L.length + 1) rfl rfl (by simp) (by rw [HI.out.2.2.2]; omega) (by unfold maxLen; omega) (Nat.zero_le _) ?_
      intro w3 hown hgrow
      have V3 : Upd w2 w3 (fun _ => False) := Upd.ofB (Below.grown (Below.refl _ _) hgrow (Nat.le_refl _) (fun k hk => by cases hk))
      have B3 := V3.blk HX.out.1 (fun h => h)
      have d0 : w3.cell? ⟨p, 1, none⟩ = some (.slice a L.length c) := B3.cell 1
      have S3 := Lib.hid (And.intro hown V3)
      clear hown hgrow V3 B3 HI h0 h1
      go_wp2_with (at_builtin; refine halt_mk ?_)
      refine halt_go ?_
      obtain ⟨O3, V3⟩ := S3.out
      refine wpl_app rfl rfl elem Try.underlying23 rfl O3 rfl (HR12.out.1.keep V3 (fun _ _ h => h)) (fun u hu => cells_one L u (List.mem_of_mem_take hu)) (by omega) ?_
      rintro v1 w4 ⟨O1, U1, b1⟩
      rw [Nat.zero_add, List.nil_append] at O1
      have V4 : Upd w2 w4 (fun _ => False) := V3.trans U1 (fun i hi e => by have := ob_eq e; omega)
      have hv1 : ∀ g, v1.ownBlock = some g → w2.heap.size ≤ g := by
        intro g hg
        rcases b1 with e | e
        · have := ob_eq (e.symm.trans hg)
          omega
        · have := ob_some (e.symm.trans hg)
          have := V3.size
          omega
      have S4 := Lib.hid (And.intro O1 (And.intro V4 hv1))
      clear O1 U1 b1 V4 hv1 O3 V3 S3 d0
      go_wp2_with (at_builtin; refine halt_mk ?_)
      refine halt_go ?_
      generalize hW : World.alloc _ _ = W
      have T1 : Upd w4 W (fun _ => False) := by rw [← hW]; exact (Upd.refl w4 _).alloc _
      have X1 : Blk W w4.heap.size [.int .i64 (x.val : Int)] 3 := by rw [← hW]; exact Blk.new' rfl
      clear hW
      obtain ⟨O1, V4, hv1⟩ := S4.out
      refine wpl_app rfl rfl elem Try.underlying23 rfl (own_keep O1 T1 (fun _ _ h => h)) rfl (Rd.ofBlk X1 1 1 rfl) (by simp [Value.oneCell']) (by omega) ?_
      rintro v2 w5 ⟨O2, U2, b2⟩
      have hv2 : ∀ g, v2.ownBlock = some g → w2.heap.size ≤ g := by
        intro g hg
        rcases b2 with e | e
        · exact hv1 g (e ▸ hg)
        · have := ob_some (e.symm.trans hg)
          have := V4.size
          have := T1.size
          omega
      have V5 : Upd w2 w5 (fun _ => False) := (V4.trans T1 (fun _ _ h => h)).trans U2 (fun i hi e => by have := hv1 i e; omega)
      have B5 := V5.blk HX.out.1 (fun h => h)
      have d0 : w5.cell? ⟨p, 1, none⟩ = some (.slice a L.length c) := B5.cell 1
      have S5 := Lib.hid (And.intro O2 (And.intro V5 hv2))
      clear O2 U2 b2 V5 hv2 B5 O1 V4 hv1 T1 X1 S4
      go_wp2_with (at_builtin; refine halt_mk ?_)
      refine halt_go ?_
      obtain ⟨O2, V5, hv2⟩ := S5.out
      refine wpl_app rfl rfl elem Try.underlying23 rfl O2 rfl (HR12.out.2.keep V5 (fun _ _ h => h)) (fun u hu => cells_one L u (List.mem_of_mem_drop hu)) (by omega) ?_
      rintro v3 w6 ⟨O3, U3, b3⟩
      have V6 : Upd w2 w6 (fun _ => False) := V5.trans U3 (fun i hi e => by have := hv2 i e; omega)
      have B6 := V6.blk HX.out.1 (fun h => h)
      have f1 := B6.free 1
      have d1 : w6.cell? ⟨p, 1, none⟩ = some (.slice a L.length c) := B6.cell 1
      have hv3 : v3.ownBlock ≠ some p := fun e => by
        obtain ⟨vs, hv⟩ := own_ty O3 e
        exact absurd rfl (B6.ty hv (by decide))
      have hv4 : ∀ g, v3.ownBlock = some g → w.heap.size ≤ g := by
        intro g hg
        have := HB.out.size
        rcases b3 with e | e
        · have := hv2 g (e ▸ hg)
          omega
        · have := ob_some (e.symm.trans hg)
          have := V5.size
          omega
      obtain ⟨a3, c3, e3, _⟩ := (Rd.ofOwn O3).form
      have S6 := Lib.hid (And.intro O3 (And.intro hv3 (And.intro V6 B6)))
      have H4 := Lib.hid hv4
      clear O3 U3 b3 V6 B6 O2 V5 hv2 S5 hv3 d0 hv4
      subst e3
      go_wp2
      go_ret
      obtain ⟨O3, hv3, V6, B6⟩ := S6.out
      have V0 : Upd w w6 (fun _ => False) := (Upd.ofB HB.out).trans V6 (fun _ _ h => h)
      refine ⟨r, HR.out, Or.inr (Or.inr ⟨HN.out, by omega, rfl, ⟨_, B6.set 1 _, ?_, H4.out⟩, (V0.mono (fun _ _ h => h.elim)).set _ _ (fun _ => rfl)⟩)⟩
      have O4 := own_keep O3 ((Upd.refl w6 (· = p)).set ⟨p, 1, none⟩ (.slice a3 (r + 1 + (L.length - r)) c3) (fun _ => rfl)) (fun g hg e => by
        have e' : g = p := e
        subst e'
        exact hv3 hg)
      have e1 : cells (L.insertIdx r x) = (cells L).take (r * 1) ++ [Value.int .i64 (x.val : Int)] ++ (cells L).drop (r * 1) := by
        rw [insertIdx_td _ _ _ hrL]
        simp [cells, List.map_take, List.map_drop]
      have e2 : (L.insertIdx r x).length = r + 1 + (L.length - r) := by rw [List.length_insertIdx, if_pos hrL]; omega
      rw [e1, e2]
      exact O4

end OrdN
end Go.Proofs.Ytnhgeoccknhiiaa
