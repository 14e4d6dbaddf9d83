/- Lists in an order, of items: asks. -/
import Derived.Test.YtnhgeoccknhiiaaIt
import Derived.Test.YtnhgeoccknhiiaaReg3
import Derived.Deep.LoopGhost
import Derived.Deep.QuietTactic
import Derived.BigQuiet
import Derived.Outline
import Derived.Deep.DeepCutAuto
import Derived.OwnWalk
import Derived.Defers
import Derived.Recover
import Derived.Laws.Pointers
namespace Go.Proofs.Ytnhgeoccknhiiaa
open Go.RowKit

namespace OrdI

theorem catch_idle (p : Addr) (w : World) :
    CallsD Try.prog 88 #[.pointer (some p)] .returning w fun e u' w' => e = .returned (.tuple #[]) ∧ u' = .returning ∧ w' = w := by
  refine callsD_of_wpS Try.func88 rfl fun c₀ cs hu => ?_
  apply wpS_seq
  apply wpS_region
  simp [wpOpsS, go_sem, recoverD, hu, Try.ntmps88, Exit.thenS]
  refine wpS_cond (t := false) (by simp [Act.eval, Array.replicate]) ?_
  simp only [Bool.false_eq_true, if_false]
  refine wpS_of_wp (wp_skip ?_)
  cases c₀
  simp_all [bodyPostS, results, Try.results88]

theorem less_any (a b : It) (w : World) : Calls Try.prog 29 #[itv a, itv b] w fun e w' => e = .returned (.bool (decide (a.k < b.k))) ∧ Below w.heap.size w w' := by
  go_enter Try.func29, Try.ntmps29
  go_wp2
  go_ret
  exact ⟨rfl, (((Upd.refl w (fun _ => False)).alloc _).alloc _).below (Nat.le_refl _) (fun _ _ h => h)⟩

/-- An order whose answers go by a key, for as long as S holds. -/
structure Ask (S : World → Prop) (key : It → Int) : Prop where
  stays : ∀ w w', S w → Below w.heap.size w w' → S w'
  less : ∀ w a b, S w → Calls Try.prog 29 #[itv a, itv b] w fun e w' => e = .returned (.bool (decide (key a < key b))) ∧ Below w.heap.size w w'

theorem asks_any {S : World → Prop} {key : It → Int} (A : Ask S key) (a b : It) (w : World) (hS : S w) : Calls Try.prog 60 #[.func (.func 29) #[] #[], itv a, itv b] w fun e w' => e = .returned (.bool (decide (key a < key b))) ∧ Below w.heap.size w w' := by
  have hmf : ∀ (fn : Fn) (first cap : Array Value) (w : World), (Instr.makeFunc fn first cap).run Try.prog w = .ok (.func fn first cap) w := fun _ _ _ _ => rfl
  go_enter_defers Try.func60, Try.ntmps60
  go_wp2_with fail
  generalize hW : World.alloc _ _ = W
  have hU : Upd w W (fun _ => False) := by rw [← hW]; exact (((Upd.refl w _).alloc _).alloc _).alloc _
  have hB : Blk W (w.heap.size + 1 + 1) [.bool false] 4 := by rw [← hW]; exact Blk.new' (by simp)
  have HX := Lib.hid (And.intro hU hB)
  clear hW hU hB
  obtain ⟨n, hn⟩ : ∃ n, n = w.heap.size + 1 + 1 := ⟨_, rfl⟩
  rw [← hn]
  refine (A.less W a b (A.stays w W hS (HX.out.1.below (Nat.le_refl _) (fun _ _ h => h)))).mono ?_
  rintro e w2 ⟨rfl, h2⟩
  have hc : w2.cell? ⟨n, 0, none⟩ = some (.bool false) := by
    rw [h2.cell (by rw [hn]; exact HX.out.2.lt), hn]
    exact HX.out.2.cell 0
  have hlt : n < w2.heap.size := by
    have := HX.out.2.lt
    have := h2.size
    omega
  have hf : w2.frozen? ⟨n, 0, none⟩ = false := by
    rw [h2.frozen (by rw [hn]; exact HX.out.2.lt), hn]
    exact HX.out.2.free 0
  have HB : Hid (Below w.heap.size w w2) := Lib.hid ((HX.out.1.below (Nat.le_refl _) (fun _ _ h => h)).trans (Upd.below (Upd.ofBelow (F := fun _ => False) h2) HX.out.1.size (fun _ _ h => h)))
  have HN := Lib.hid hn
  clear h2 HX hn hS A
  go_wp2
  refine leaves_cons (f := 88) (args := #[.pointer (some ⟨n, 0, none⟩)]) (by simp) (by simp [go_sem]) ?_
  refine (catch_idle ⟨n, 0, none⟩ _).mono ?_
  rintro e u' w'' ⟨rfl, rfl, rfl⟩
  have hr : (w2.setCell ⟨n, 0, none⟩ (.bool (decide (key a < key b)))).cell? ⟨n, 0, none⟩ = some (.bool (decide (key a < key b))) := by go_simp
  simp [Leaves, settle, results, Try.results60, go_sem, hr]
  exact HB.out.setCell (by rw [HN.out]; show w.heap.size ≤ w.heap.size + 1 + 1; omega) _


/-! ### The list -/
theorem elem : Elem Try.prog 36 2 16 (.agg #[.int .i64 0, .int .i64 0]) := Elem.mk' (by kernel_rfl) rfl (by omega) (by omega)

@[reducible] def lessV : Value := .func (.func 29) #[] #[]
def OrdIs (w : World) (p : Nat) (L : List It) : Prop := ∃ v, Blk w p [lessV, v] 136 ∧ w.ownsRow 0 36 2 v L.length (cells L)
def Sorted (key : It → Int) (L : List It) : Prop := ∀ (i j : Nat) (x y : It), L[i]? = some x → L[j]? = some y → i < j → key x < key y
structure RankOf (key : It → Int) (L : List It) (kx : Int) (r : Nat) : Prop where
  le : r ≤ L.length
  left : ∀ (i : Nat) (x : It), L[i]? = some x → i < r → key x < kx
  right : ∀ (i : Nat) (x : It), L[i]? = some x → r ≤ i → kx ≤ key x

theorem OrdIs.below {w w' : World} {p : Nat} {L : List It} (h : OrdIs w p L) (hB : Below w.heap.size w w') : OrdIs w' p L := by
  obtain ⟨v, h1, h2⟩ := h
  have U : Upd w w' (fun _ => False) := Upd.ofBelow hB
  exact ⟨v, U.blk h1 (fun h => h), own_keep h2 U (fun _ _ h => h)⟩
theorem below_trans {a b c : World} (h : Below a.heap.size a b) (k : Below b.heap.size b c) : Below a.heap.size a c :=
  h.trans (Upd.below (Upd.ofBelow (F := fun _ => False) k) h.size (fun _ _ h => h))

set_option maxRecDepth 10000 in
theorem rank_any {S : World → Prop} {key : It → Int} (A : Ask S key) (p : Nat) (L : List It) (x : It) (w : World) (hS : S w) (h : OrdIs w p L) (hs : Sorted key L) (hl : L.length ≤ 8192) :
    Calls Try.prog 78 #[.pointer (some ⟨p, 0, none⟩), itv x] w fun e w' => (∃ r : Nat, RankOf key L (key x) r ∧ e = .returned (.int .i64 r)) ∧ Below w.heap.size w w' := by
  have HA := Lib.hid (And.intro A (And.intro hS (And.intro h hs)))
  obtain ⟨v, hB, hO⟩ := h
  obtain ⟨a, c, rfl, hc⟩ := (Rd.ofOwn hO).form
  have h0 : w.cell? ⟨p, 0, none⟩ = some (.func (.func 29) #[] #[]) := hB.cell 0
  have h1 : w.cell? ⟨p, 1, none⟩ = some (.slice a L.length c) := hB.cell 1
  have hpl : p < w.heap.size := hB.lt
  have al := ((Upd.refl w (fun _ => False)).alloc (.cells #[.int .i64 x.k, .int .i64 x.m] 36)).blk hB (fun h => h)
  have g0 := al.cell 0
  have g1 := al.cell 1
  dsimp only [List.getElem?_cons_zero, List.getElem?_cons_succ] at g0 g1
  clear hB hO hs A hS al
  have qn : ∀ (w : World) (f : Fn) (a b : Array Value), (binOp .eql 58 (.func f a b) .nilFunc).run Try.prog w = .ok (.bool false) w := fun _ _ _ _ => by kernel_rfl
  go_enter Try.func78, Try.ntmps78
  go_wp2
  go_quiet (fail)
  go_wp2
  have S0 : Hid (Blk ((w.alloc (.cells #[.int .i64 x.k, .int .i64 x.m] 36)).drewN nq) w.heap.size (icells x) 36 ∧ Below w.heap.size w ((w.alloc (.cells #[.int .i64 x.k, .int .i64 x.m] 36)).drewN nq)) := Lib.hid ⟨((Upd.refl _ (fun _ => False)).drewN _).blk (Blk.new w (icells x) _) (fun h => h), (((Upd.refl w (fun _ => False)).alloc _).drewN _).below (Nat.le_refl _) (fun _ _ h => h)⟩
  generalize World.drewN _ _ = W0 at *
  obtain ⟨n, hn⟩ : ∃ n, n = w.heap.size := ⟨_, rfl⟩
  have HN := Lib.hid hn
  rw [← hn] at S0
  rw [← hn]
  clear hn
  have HV := Lib.hid h1
  clear h0 h1 g0 g1
  go_loopg [5, 6] L.length (fun kq v5 v6 w' => ∃ i j : Nat, v5 = .int .i64 i ∧ v6 = .int .i64 j ∧ Hid (kq = j - i ∧ i ≤ j ∧ j ≤ L.length) ∧ Hid ((∀ (t : Nat) (y : It), L[t]? = some y → t < i → key y < key x) ∧ (∀ (t : Nat) (y : It), L[t]? = some y → j ≤ t → key x ≤ key y)) ∧ Hid (Blk w' n (icells x) 36 ∧ Below w.heap.size w w'))
  case atStart => exact ⟨0, L.length, rfl, rfl, Lib.hid ⟨rfl, Nat.zero_le _, Nat.le_refl _⟩, Lib.hid ⟨fun t y _ h => by omega, fun t y h h2 => by rw [List.getElem?_eq_none h2] at h; cases h⟩, Lib.hid (by have := S0.out; rw [HN.out] at this ⊢; exact this)⟩
  case round =>
    obtain ⟨i, j, rfl, rfl, HI, HK, HB0⟩ := hrel
    have HB := Lib.hid HB0.out.2
    have HX := Lib.hid HB0.out.1
    clear HB0
    have hi0 : (0 : Int) ≤ (i : Int) := by omega
    have hj0 : (0 : Int) ≤ (j : Int) := by omega
    have hj8 : (j : Int) ≤ 8192 := by have := HI.out; omega
    have hi8 : (i : Int) ≤ 8192 := by have := HI.out; omega
    by_cases hij : i < j
    · have hij1 : (i : Int) < (j : Int) := by omega
      have hij2 : decide (i < j) = true := decide_eq_true hij
      obtain ⟨k, hk⟩ : ∃ k : Nat, k = (i + j) / 2 := ⟨_, rfl⟩
      have hki : i ≤ k := by omega
      have hkj : k < j := by omega
      have hke : ((i : Int) + (j : Int)) / 2 = (k : Int) := by omega
      clear hk
      have hkL : k < L.length := by have := HI.out; omega
      obtain ⟨y, hy⟩ : ∃ y, L[k]? = some y := ⟨L[k], List.getElem?_eq_getElem hkL⟩
      obtain ⟨A, hS, hO, hs⟩ := HA.out
      have hO2 := hO.below HB.out
      obtain ⟨v2, hB2, hR2⟩ := hO2
      have he2 : v2 = .slice a L.length c := by
        have e1 : wr.cell? ⟨p, 1, none⟩ = some v2 := hB2.cell 1
        obtain ⟨v, hBB, _⟩ := hO
        have e2 : wr.cell? ⟨p, 1, none⟩ = w.cell? ⟨p, 1, none⟩ := HB.out.cell hBB.lt
        rw [e1, HV.out] at e2
        exact Option.some.inj e2
      subst he2
      obtain ⟨g, off, c', e1, _, hcell, hcel1⟩ := it_at (Rd.ofOwn hR2) hy
      cases e1
      have h0 : wr.cell? ⟨p, 0, none⟩ = some (.func (.func 29) #[] #[]) := hB2.cell 0
      have h1 : wr.cell? ⟨p, 1, none⟩ = some (.slice (some ⟨g, off, none⟩) L.length c) := hB2.cell 1
      have k0 : wr.cell? ⟨n, 0, none⟩ = some (.int .i64 x.k) := HX.out.cell 0
      have k1 : wr.cell? ⟨n, 1, none⟩ = some (.int .i64 x.m) := HX.out.cell 1
      have hk1 : (k : Int) < (L.length : Int) := by omega
      have hk0 : (0 : Int) ≤ (k : Int) := by omega
      have HY := Lib.hid hy
      have HC := Lib.hid (asks_any A y x wr.drew (A.stays _ _ hS HB.out.drew))
      have HW : Hid (∀ w', Below wr.drew.heap.size wr.drew w' → w'.cell? ⟨p, 0, none⟩ = some (.func (.func 29) #[] #[]) ∧ w'.cell? ⟨p, 1, none⟩ = some (.slice (some ⟨g, off, none⟩) L.length c) ∧ w'.cell? ⟨g, off + k * 2, none⟩ = some (.int .i64 y.k) ∧ w'.cell? ⟨g, off + k * 2 + 1, none⟩ = some (.int .i64 y.m) ∧ w'.cell? ⟨n, 0, none⟩ = some (.int .i64 x.k) ∧ w'.cell? ⟨n, 1, none⟩ = some (.int .i64 x.m)) := Lib.hid (fun w' hb => by
        have l1 : p < wr.heap.size := hB2.lt
        have l2 : g < wr.heap.size := World.block_lt_of_cell? wr _ hcell
        exact ⟨(hb.cell l1).trans h0, (hb.cell l1).trans h1, (hb.cell l2).trans hcell, (hb.cell l2).trans hcel1, (hb.cell HX.out.lt).trans k0, (hb.cell HX.out.lt).trans k1⟩)
      clear hO hs A hS hB2 hR2 hy
      go_wp2
      apply wp_reg (fun w' : World => w'.cell? ⟨p, 0, none⟩ = some (.func (.func 29) #[] #[]) ∧ w'.cell? ⟨p, 1, none⟩ = some (.slice (some ⟨g, off, none⟩) L.length c) ∧ w'.cell? ⟨g, off + k * 2, none⟩ = some (.int .i64 y.k) ∧ w'.cell? ⟨g, off + k * 2 + 1, none⟩ = some (.int .i64 y.m) ∧ w'.cell? ⟨n, 0, none⟩ = some (.int .i64 x.k) ∧ w'.cell? ⟨n, 1, none⟩ = some (.int .i64 x.m)) [0, 1, 2, 3, 4, 5, 6, 7, 8, 9, 10, 11] [12] [] (by kernel_rfl) (by kernel_rfl) (fun _ _ d _ _ h => by cases d <;> exact h) ⟨h0, h1, hcell, hcel1, k0, k1⟩
      · iterate 12 (apply reads_cons rfl rfl; (· intro w0 hS; obtain ⟨hS1, hS2, hS3, hS4, hS5, hS6⟩ := hS; go_simp; rfl); simp only [Act.put, List.setIfInBounds_toArray, List.set_cons_zero, List.set_cons_succ])
        exact rfl
      refine tail_cons rfl ?_
      go_wp2_with fail
      refine HC.out.mono ?_
      rintro e w3 ⟨rfl, h3⟩
      have HW3 := Lib.hid (HW.out w3 h3)
      have HB3 := Lib.hid (And.intro ((Upd.ofBelow (F := fun _ => False) h3).blk (((Upd.refl wr (fun _ => False)).drewN 1).blk HX.out (fun h => h)) (fun h => h)) (below_trans HB.out.drew (c := w3) (by exact h3)))
      clear h3 HC HW h0 h1 hcell hcel1 k0 k1
      go_wp2_with fail
      refine ⟨HW3.out, tail_zero ?_⟩
      by_cases hlt : key y < key x
      · have hd : decide (key y < key x) = true := decide_eq_true hlt
        have HKK := Lib.hid (And.intro hki (And.intro hkj hlt))
        clear hki
        go_wp2
        go_roundg (j - (k + 1))
        case rel =>
          refine ⟨k + 1, j, by go_num, rfl, Lib.hid ⟨rfl, by omega, HI.out.2.2⟩, Lib.hid ⟨fun t z hz ht => ?_, HK.out.2⟩, HB3⟩
          by_cases htk : t = k
          · subst htk
            rw [HY.out] at hz
            cases hz
            exact HKK.out.2.2
          · have := HA.out.2.2.2 t k z y hz HY.out (by omega)
            have := HKK.out.2.2
            omega
        case measure =>
          have := HI.out
          have := HKK.out
          omega
      · have hd : decide (key y < key x) = false := decide_eq_false hlt
        have HKK := Lib.hid (And.intro hki (And.intro hkj hlt))
        clear hki
        go_wp2
        go_roundg (k - i)
        case rel =>
          refine ⟨i, k, rfl, rfl, Lib.hid ⟨rfl, HKK.out.1, by have := HI.out; omega⟩, Lib.hid ⟨HK.out.1, fun t z hz ht => ?_⟩, HB3⟩
          have hny := HKK.out.2.2
          by_cases htk : t = k
          · subst htk
            rw [HY.out] at hz
            cases hz
            omega
          · have := HA.out.2.2.2 k t y z HY.out hz (by omega)
            omega
        case measure =>
          have := HI.out
          have := HKK.out
          omega
    · have hij1 : ¬ (i : Int) < (j : Int) := by omega
      have hij2 : decide (i < j) = false := decide_eq_false hij
      go_wp2
      go_ret
      have e : i = j := by have := HI.out; omega
      subst e
      exact ⟨⟨i, ⟨HI.out.2.2, HK.out.1, HK.out.2⟩, rfl⟩, HB.out⟩


def FindPost (key : It → Int) (L : List It) (kx : Int) (w : World) (e : Ending) (w' : World) : Prop :=
  (∃ r : Nat, RankOf key L kx r ∧ ((∃ y, L[r]? = some y ∧ key y = kx ∧ e = .returned (.tuple #[.int .i64 r, .bool true])) ∨ ((∀ y, L[r]? = some y → kx < key y) ∧ e = .returned (.tuple #[.int .i64 r, .bool false])))) ∧ Below w.heap.size w w'

set_option maxRecDepth 10000 in
set_option maxHeartbeats 1000000 in
theorem find_any {S : World → Prop} {key : It → Int} (A : Ask S key) (p : Nat) (L : List It) (x : It) (w : World) (hS : S w) (h : OrdIs w p L) (hs : Sorted key L) (hl : L.length ≤ 8192) :
    Calls Try.prog 85 #[.pointer (some ⟨p, 0, none⟩), itv x] w (FindPost key L (key x) w) := by
  obtain ⟨w1, hw1⟩ : ∃ w1, w1 = w.alloc (.cells #[.int .i64 x.k, .int .i64 x.m] 36) := ⟨_, rfl⟩
  have U1 : Upd w w1 (fun _ => False) := by rw [hw1]; exact (Upd.refl w _).alloc _
  have X1 : Blk w1 w.heap.size (icells x) 36 := by rw [hw1]; exact Blk.new w _ _
  have B1 : Below w.heap.size w w1 := U1.below (Nat.le_refl _) (fun _ _ h => h)
  have hS := A.stays _ _ hS B1
  have h := h.below B1
  have HA := Lib.hid (And.intro A (And.intro hS (And.intro h hs)))
  have HC := Lib.hid (rank_any A p L x w1 hS h hs hl)
  have HU := Lib.hid (And.intro U1 X1)
  have HW1 := Lib.hid hw1
  clear A hS h hs U1 X1 B1 hw1
  go_enter Try.func85, Try.ntmps85
  go_wp2_with fail
  rw [← HW1.out]
  refine HC.out.mono ?_
  rintro e w2 ⟨⟨r, hR, rfl⟩, hb⟩
  obtain ⟨n, hn⟩ : ∃ n, n = w.heap.size := ⟨_, rfl⟩
  have X2 : Blk w2 n (icells x) 36 := by rw [hn]; exact (Upd.ofBelow (F := fun _ => False) hb).blk HU.out.2 (fun h => h)
  have HB : Hid (Below w.heap.size w w2) := Lib.hid ((HU.out.1.below (Nat.le_refl _) (fun _ _ h => h)).trans (Upd.below (Upd.ofBelow (F := fun _ => False) hb) HU.out.1.size (fun _ _ h => h)))
  rw [← hn]
  have HN := Lib.hid hn
  clear hn
  have HR := Lib.hid hR
  obtain ⟨v, hB, hO⟩ := HA.out.2.2.1.below hb
  have k0 : w2.cell? ⟨n, 0, none⟩ = some (.int .i64 x.k) := X2.cell 0
  have k1 : w2.cell? ⟨n, 1, none⟩ = some (.int .i64 x.m) := X2.cell 1
  have HNL := Lib.hid X2.lt
  clear X2
  obtain ⟨a, c, rfl, hc⟩ := (Rd.ofOwn hO).form
  have h0 : w2.cell? ⟨p, 0, none⟩ = some (.func (.func 29) #[] #[]) := hB.cell 0
  have h1 : w2.cell? ⟨p, 1, none⟩ = some (.slice a L.length c) := hB.cell 1
  have hr0 : (0 : Int) ≤ (r : Int) := by omega
  have HPL := Lib.hid hB.lt
  by_cases hr : r < L.length
  · have hr1 : (r : Int) < (L.length : Int) := by omega
    have hr2 : decide ((r : Int) < (L.length : Int)) = true := decide_eq_true hr1
    obtain ⟨y, hy⟩ : ∃ y, L[r]? = some y := ⟨L[r], List.getElem?_eq_getElem hr⟩
    obtain ⟨g, off, c', e1, _, hcell, hcel1⟩ := it_at (Rd.ofOwn hO) hy
    cases e1
    have HY := Lib.hid hy
    have HC := Lib.hid (asks_any HA.out.1 x y w2.drew (HA.out.1.stays _ _ HA.out.2.1 hb.drew))
    have HW : Hid (∀ w', Below w2.drew.heap.size w2.drew w' → w'.cell? ⟨p, 0, none⟩ = some (.func (.func 29) #[] #[]) ∧ w'.cell? ⟨p, 1, none⟩ = some (.slice (some ⟨g, off, none⟩) L.length c) ∧ w'.cell? ⟨g, off + r * 2, none⟩ = some (.int .i64 y.k) ∧ w'.cell? ⟨g, off + r * 2 + 1, none⟩ = some (.int .i64 y.m) ∧ w'.cell? ⟨n, 0, none⟩ = some (.int .i64 x.k) ∧ w'.cell? ⟨n, 1, none⟩ = some (.int .i64 x.m)) := Lib.hid (fun w' hb => by
      have l2 : g < w2.heap.size := World.block_lt_of_cell? w2 _ hcell
      exact ⟨(hb.cell HPL.out).trans h0, (hb.cell HPL.out).trans h1, (hb.cell l2).trans hcell, (hb.cell l2).trans hcel1, (hb.cell HNL.out).trans k0, (hb.cell HNL.out).trans k1⟩)
    clear hb hR hB hO hy
    go_wp2
    apply wp_reg2 (fun w' : World => w'.cell? ⟨p, 0, none⟩ = some (.func (.func 29) #[] #[]) ∧ w'.cell? ⟨p, 1, none⟩ = some (.slice (some ⟨g, off, none⟩) L.length c) ∧ w'.cell? ⟨g, off + r * 2, none⟩ = some (.int .i64 y.k) ∧ w'.cell? ⟨g, off + r * 2 + 1, none⟩ = some (.int .i64 y.m) ∧ w'.cell? ⟨n, 0, none⟩ = some (.int .i64 x.k) ∧ w'.cell? ⟨n, 1, none⟩ = some (.int .i64 x.m)) [0, 1, 2, 3, 4, 5, 6, 7, 8, 9, 10, 11, 12, 13, 14, 15, 16, 17, 18, 19, 20] [21] [22, 23] [24] [25] (by kernel_rfl) (by kernel_rfl) (fun _ _ d _ _ h => by cases d <;> exact h) ⟨h0, h1, hcell, hcel1, k0, k1⟩
    · iterate 21 (apply reads_consL rfl rfl; (· intro w0 hS; obtain ⟨hS1, hS2, hS3, hS4, hS5, hS6⟩ := hS; go_simp; try rfl); simp only [Act.put, List.setIfInBounds_toArray, List.set_cons_zero, List.set_cons_succ])
      exact rfl
    refine pre_consL rfl ?_
    go_wp2_with fail
    refine HC.out.mono ?_
    rintro e w3 ⟨rfl, h3⟩
    have HW3 := Lib.hid (HW.out w3 h3)
    have HB3 := Lib.hid (below_trans HB.out.drew (c := w3) (by exact h3))
    clear h3 HC HW h0 h1 hcell hcel1 k0 k1
    go_wp2_with fail
    refine ⟨HW3.out, ?_⟩
    apply pre_last
    · iterate 2 (apply reads_consL rfl rfl; (· intro w0 hS; obtain ⟨hS1, hS2, hS3, hS4, hS5, hS6⟩ := hS; go_simp; try rfl); simp only [Act.put, List.setIfInBounds_toArray, List.set_cons_zero, List.set_cons_succ])
      exact rfl
    refine tail_consL rfl ?_
    go_wp2_with fail
    refine ⟨HW3.out, tail_oneL rfl ?_⟩
    go_wp2
    go_ret2
    refine ⟨⟨r, HR.out, ?_⟩, HB3.out⟩
    have hle := HR.out.right r y HY.out (Nat.le_refl _)
    by_cases hx : key x < key y
    · refine Or.inr ⟨fun z hz => ?_, ?_⟩
      · rw [HY.out] at hz
        cases hz
        exact hx
      · show Ending.returned (.tuple #[.int .i64 r, .bool (!decide (key x < key y))]) = _
        rw [decide_eq_true hx]
        rfl
    · refine Or.inl ⟨y, HY.out, by omega, ?_⟩
      show Ending.returned (.tuple #[.int .i64 r, .bool (!decide (key x < key y))]) = _
      rw [decide_eq_false hx]
      rfl
  · have hr1 : ¬ (r : Int) < (L.length : Int) := by omega
    have hr2 : decide ((r : Int) < (L.length : Int)) = false := decide_eq_false hr1
    clear hb hR hB hO
    go_wp2
    apply wp_reg2 (fun w' : World => w'.cell? ⟨p, 0, none⟩ = some (.func (.func 29) #[] #[]) ∧ w'.cell? ⟨p, 1, none⟩ = some (.slice a L.length c) ∧ w'.cell? ⟨n, 0, none⟩ = some (.int .i64 x.k) ∧ w'.cell? ⟨n, 1, none⟩ = some (.int .i64 x.m)) [0, 1, 2, 3, 4, 5, 6, 7, 8, 9, 10, 11, 12, 13, 14, 15, 16, 17, 18, 19, 20] [21] [22, 23] [24] [25] (by kernel_rfl) (by kernel_rfl) (fun _ _ d _ _ h => by cases d <;> exact h) ⟨h0, h1, k0, k1⟩
    · iterate 9 (apply reads_consL rfl rfl; (· intro w0 hS; obtain ⟨hS1, hS2, hS3, hS4⟩ := hS; go_simp; try rfl); simp only [Act.put, List.setIfInBounds_toArray, List.set_cons_zero, List.set_cons_succ])
      iterate 12 (apply reads_skipL rfl rfl; simp only [Act.put, List.setIfInBounds_toArray, List.set_cons_zero, List.set_cons_succ])
      exact rfl
    refine pre_consL rfl ?_
    go_wp2_with fail
    refine ⟨⟨h0, h1, k0, k1⟩, ?_⟩
    apply pre_last
    · iterate 1 (apply reads_skipL rfl rfl; simp only [Act.put, List.setIfInBounds_toArray, List.set_cons_zero, List.set_cons_succ])
      iterate 1 (apply reads_consL rfl rfl; (· intro w0 hS; obtain ⟨hS1, hS2, hS3, hS4⟩ := hS; go_simp; try rfl); simp only [Act.put, List.setIfInBounds_toArray, List.set_cons_zero, List.set_cons_succ])
      exact rfl
    refine tail_consL rfl ?_
    go_wp2_with fail
    refine ⟨⟨h0, h1, k0, k1⟩, tail_oneL rfl ?_⟩
    go_wp2
    go_ret2
    refine ⟨⟨r, HR.out, Or.inr ⟨fun z hz => ?_, rfl⟩⟩, HB.out.drew⟩
    rw [List.getElem?_eq_none (by omega)] at hz
    cases hz


theorem Upd.ofB {w w' : World} (h : Below w.heap.size w w') : Upd w w' (fun _ => False) := Upd.ofBelow h

/-- .. and its row lies in memory from B on. -/
def OrdFresh (B : Nat) (w : World) (p : Nat) (L : List It) : Prop := ∃ v, Blk w p [lessV, v] 136 ∧ w.ownsRow 0 36 2 v L.length (cells L) ∧ ∀ g, v.ownBlock = some g → B ≤ g
theorem OrdFresh.is {B : Nat} {w : World} {p : Nat} {L : List It} (h : OrdFresh B w p L) : OrdIs w p L := by
  obtain ⟨v, h1, h2, _⟩ := h
  exact ⟨v, h1, h2⟩

def PutPost (key : It → Int) (p : Nat) (L : List It) (x : It) (w : World) (e : Ending) (w' : World) : Prop :=
  ∃ r : Nat, RankOf key L (key x) r ∧
    (((∃ y, L[r]? = some y ∧ key y = key x) ∧ e = .returned (.int .i64 70) ∧ Below w.heap.size w w') ∨
     ((∀ y, L[r]? = some y → key x < key y) ∧ 8192 ≤ L.length ∧ e = .returned (.int .i64 2) ∧ Below w.heap.size w w') ∨
     ((∀ y, L[r]? = some y → key x < key y) ∧ L.length < 8192 ∧ e = .returned (.int .i64 0) ∧ OrdFresh w.heap.size w' p (L.insertIdx r x) ∧ Upd w w' (· = p)))

set_option maxRecDepth 10000 in
set_option maxHeartbeats 1000000 in
theorem put_any {S : World → Prop} {key : It → Int} (A : Ask S key) (p : Nat) (L : List It) (x : It) (w : World) (hS : S w) (h : OrdIs w p L) (hs : Sorted key L) (hl : L.length ≤ 8192) :
    Calls Try.prog 52 #[.pointer (some ⟨p, 0, none⟩), itv x] w (PutPost key p L x w) := by
  obtain ⟨w1, hw1⟩ : ∃ w1, w1 = w.alloc (.cells #[.int .i64 x.k, .int .i64 x.m] 36) := ⟨_, rfl⟩
  have U1 : Upd w w1 (fun _ => False) := by rw [hw1]; exact (Upd.refl w _).alloc _
  have X1 : Blk w1 w.heap.size (icells x) 36 := by rw [hw1]; exact Blk.new w _ _
  have B1 : Below w.heap.size w w1 := U1.below (Nat.le_refl _) (fun _ _ h => h)
  have hS := A.stays _ _ hS B1
  have h := h.below B1
  have qn : ∀ (w : World) (f : Fn) (a b : Array Value), (binOp .eql 58 (.func f a b) .nilFunc).run Try.prog w = .ok (.bool false) w := fun _ _ _ _ => by kernel_rfl
  have HO := Lib.hid h
  have HC := Lib.hid (find_any A p L x w1 hS h hs hl)
  have HU := Lib.hid (And.intro U1 X1)
  have HW1 := Lib.hid hw1
  clear A hS h hs U1 X1 B1 hw1
  go_enter Try.func52, Try.ntmps52
  go_wp2_with fail
  rw [← HW1.out]
  refine HC.out.mono ?_
  rintro e w2 ⟨⟨r, hR, hcase⟩, hb⟩
  obtain ⟨n, hn⟩ : ∃ n, n = w.heap.size := ⟨_, rfl⟩
  have X2 : Blk w2 n (icells x) 36 := by rw [hn]; exact (Upd.ofBelow (F := fun _ => False) hb).blk HU.out.2 (fun h => h)
  have HB : Hid (Below w.heap.size w w2) := Lib.hid ((HU.out.1.below (Nat.le_refl _) (fun _ _ h => h)).trans (Upd.below (Upd.ofBelow (F := fun _ => False) hb) HU.out.1.size (fun _ _ h => h)))
  rw [← hn]
  have HN0 := Lib.hid hn
  clear hn
  have HR := Lib.hid hR
  obtain ⟨v, hB, hO⟩ := HO.out.below hb
  have hRd := Rd.ofOwn hO
  obtain ⟨a, c, rfl, hc⟩ := hRd.form
  have h0 : w2.cell? ⟨p, 0, none⟩ = some (.func (.func 29) #[] #[]) := hB.cell 0
  have h1 : w2.cell? ⟨p, 1, none⟩ = some (.slice a L.length c) := hB.cell 1
  have hr0 : (0 : Int) ≤ (r : Int) := by omega
  have hrL := hR.le
  have HX := Lib.hid (And.intro hB (And.intro hO hRd))
  have HK := Lib.hid X2
  clear hb hR hB hO hRd HC X2
  rcases hcase with ⟨y, hy, hk, rfl⟩ | ⟨hno, rfl⟩
  · have HY := Lib.hid (And.intro hy hk)
    clear hy hk
    go_wp2
    go_ret
    exact ⟨r, HR.out, Or.inl ⟨⟨y, HY.out⟩, rfl, HB.out⟩⟩
  · have HN := Lib.hid hno
    clear hno
    by_cases hn : 8192 ≤ L.length
    · have hn1 : decide ((L.length : Int) ≥ 8192) = true := decide_eq_true (by omega)
      go_wp2
      go_ret
      exact ⟨r, HR.out, Or.inr (Or.inl ⟨HN.out, hn, rfl, HB.out⟩)⟩
    · have hn1 : decide ((L.length : Int) ≥ 8192) = false := decide_eq_false (by omega)
      obtain ⟨s1, r1, R1, b1⟩ := HX.out.2.2.cutH elem Try.underlying30 hrL .i64
      obtain ⟨s2, r2, R2, b2⟩ := HX.out.2.2.cutL elem Try.underlying30 hrL .i64
      have HR12 := Lib.hid (And.intro R1 R2)
      have hpl : p < w2.heap.size := HX.out.1.lt
      clear R1 R2 b1 b2
      obtain ⟨i, hi, hz, hsz, hby⟩ := elem.info
      have HI := Lib.hid (And.intro hi (And.intro hz (And.intro hsz hby)))
      clear hi hz hsz hby
      go_wp2_with (at_make; refine halt_mk ?_)
      refine halt_go ?_
      refine wpList_make_own _ rfl _ _ 30 rfl 0 36 i _ 2 Try.underlying30 HI.out.1 HI.out.2.1 HI.out.2.2.1 _ _ _ (L.length + 1) rfl rfl (by simp) (by rw [HI.out.2.2.2]; omega) (by unfold maxLen; omega) (Nat.zero_le _) ?_
      intro w3 hown hgrow
      have V3 : Upd w2 w3 (fun _ => False) := Upd.ofB (Below.grown (Below.refl _ _) hgrow (Nat.le_refl _) (fun k hk => by cases hk))
      have B3 := V3.blk HX.out.1 (fun h => h)
      have d0 : w3.cell? ⟨p, 1, none⟩ = some (.slice a L.length c) := B3.cell 1
      have K3 := V3.blk HK.out (fun h => h)
      have k0 : w3.cell? ⟨n, 0, none⟩ = some (.int .i64 x.k) := K3.cell 0
      have k1 : w3.cell? ⟨n, 1, none⟩ = some (.int .i64 x.m) := K3.cell 1
      clear K3
      have S3 := Lib.hid (And.intro hown V3)
      clear hown hgrow V3 B3 HI h0 h1
      go_wp2
      apply wp_regG (fun w' : World => w'.cell? ⟨p, 1, none⟩ = some (.slice a L.length c) ∧ w'.cell? ⟨n, 0, none⟩ = some (.int .i64 x.k) ∧ w'.cell? ⟨n, 1, none⟩ = some (.int .i64 x.m)) [0, 1, 2, 3, 4, 5, 6, 8] [] 7 9 [10] [11] rfl rfl (by kernel_rfl) (by kernel_rfl) (fun _ _ d _ _ h => by cases d <;> exact h)
        (fun (v : Value) (b : Nat) (w' : World) => Hid (w'.ownsRow 0 36 2 v r (cells (L.take r)) ∧ Blk w' b (icells x) 36 ∧ Upd w2 w' (fun _ => False) ∧ w2.heap.size ≤ b ∧ v.ownBlock ≠ some b ∧ ∀ g, v.ownBlock = some g → w2.heap.size ≤ g)) _ _ ⟨d0, k0, k1⟩
      · iterate 8 (apply reads_consL rfl rfl; (· intro w0 hS; obtain ⟨hS1, hS2, hS3⟩ := hS; go_simp; try rfl); simp only [Act.put, List.setIfInBounds_toArray, List.set_cons_zero, List.set_cons_succ])
        exact rfl
      · have S3d : Hid (w3.drew.ownsRow 0 36 2 (.slice (some ⟨w2.heap.size, 0, none⟩) 0 (L.length + 1)) 0 [] ∧ Upd w2 w3.drew (fun _ => False)) := Lib.hid ⟨own_same S3.out.1 rfl, S3.out.2.drew⟩
        generalize w3.drew = w3d at S3d ⊢
        constructor
        · obtain ⟨O3, V3⟩ := S3d.out
          have RR := HR12.out.1.keep V3 (fun _ _ h => h)
          have r1c : ∀ u ∈ (cells L).take (r * 2), u.oneCell' = true := fun u hu => cells_one L u (List.mem_of_mem_take hu)
          refine wpl_app rfl rfl elem Try.underlying30 rfl O3 rfl RR r1c (by omega) ?_
          rintro v1 w4 ⟨O1, U1, b1⟩
          rw [Nat.zero_add, List.nil_append, cells_take] at O1
          have V4 : Upd w2 w4 (fun _ => False) := V3.trans U1 (fun i hi e => by have := ob_eq e; omega)
          have hv1 : ∀ g, v1.ownBlock = some g → w2.heap.size ≤ g := by
            intro g hg
            rcases b1 with e | e
            · have := ob_eq (e.symm.trans hg)
              omega
            · have := ob_some (e.symm.trans hg)
              have := V3.size
              omega
          have e0 : w4.cell? ⟨p, 1, none⟩ = some (.slice a L.length c) := (V4.blk HX.out.1 (fun h => h)).cell 1
          have k4 : w4.cell? ⟨n, 0, none⟩ = some (.int .i64 x.k) := (V4.blk HK.out (fun h => h)).cell 0
          have k5 : w4.cell? ⟨n, 1, none⟩ = some (.int .i64 x.m) := (V4.blk HK.out (fun h => h)).cell 1
          obtain ⟨b, hb⟩ : ∃ b, b = w4.heap.size := ⟨_, rfl⟩
          have S4 := Lib.hid (And.intro O1 (And.intro V4 (And.intro hv1 hb)))
          clear O1 U1 b1 V4 hv1 O3 V3 RR r1c
          go_wp2_with fail
          refine ⟨⟨e0, k4, k5⟩, ?_⟩
          go_wp2_with fail
          obtain ⟨O1, V4, hv1, hb⟩ := S4.out
          rw [← hb]
          generalize hW : World.alloc _ _ = W
          have T1 : Upd w4 W (fun _ => False) := by rw [← hW]; exact (Upd.refl w4 _).alloc _
          have X1 : Blk W b (icells x) 36 := by rw [← hW, hb]; exact Blk.new' rfl
          have V5 : Upd w2 W (fun _ => False) := V4.trans T1 (fun _ _ h => h)
          refine ⟨⟨(V5.blk HX.out.1 (fun h => h)).cell 1, (V5.blk HK.out (fun h => h)).cell 0, (V5.blk HK.out (fun h => h)).cell 1⟩, v1, b, rfl, Lib.hid ⟨own_keep O1 T1 (fun _ _ h => h), X1, V5, ?_, ?_, hv1⟩⟩
          · rw [hb]; exact V4.size
          · intro e
            have := own_lt O1 e
            omega
        · obtain ⟨b, hb⟩ : ∃ b, b = w3d.heap.size := ⟨_, rfl⟩
          have Hb := Lib.hid hb
          clear hb
          go_wp2_with fail
          rw [← Hb.out]
          generalize hW : World.alloc _ _ = W
          obtain ⟨O3, V3⟩ := S3d.out
          have hWs : W.heap.size = b + 1 := by rw [← hW, Hb.out]; simp
          have T1 : Upd w3d W (fun _ => False) := by rw [← hW]; exact (Upd.refl w3d _).alloc _
          have X1 : Blk W b (icells x) 36 := by rw [← hW, Hb.out]; exact Blk.new' rfl
          have V4 : Upd w2 W (fun _ => False) := V3.trans T1 (fun _ _ h => h)
          clear hW
          refine ⟨⟨(V4.blk HX.out.1 (fun h => h)).cell 1, (V4.blk HK.out (fun h => h)).cell 0, (V4.blk HK.out (fun h => h)).cell 1⟩, ?_⟩
          have RR := HR12.out.1.keep V4 (fun _ _ h => h)
          have r1c : ∀ u ∈ (cells L).take (r * 2), u.oneCell' = true := fun u hu => cells_one L u (List.mem_of_mem_take hu)
          have O3' := own_keep O3 T1 (fun _ _ h => h)
          refine wpl_app rfl rfl elem Try.underlying30 rfl O3' rfl RR r1c (by omega) ?_
          rintro v1 w4 ⟨O1, U1, b1⟩
          rw [Nat.zero_add, List.nil_append, cells_take] at O1
          have hown : w2.heap.size < w3d.heap.size := own_lt O3 (g := w2.heap.size) rfl
          have hbv : v1.ownBlock ≠ some b := by
            intro e0
            have hbw := Hb.out
            rcases b1 with e | e
            · have := ob_eq (e.symm.trans e0)
              omega
            · have := ob_some (e.symm.trans e0)
              omega
          have V5 : Upd w2 w4 (fun _ => False) := V4.trans U1 (fun i hi e => by have := ob_eq e; omega)
          have hv1 : ∀ g, v1.ownBlock = some g → w2.heap.size ≤ g := by
            intro g hg
            rcases b1 with e | e
            · have := ob_eq (e.symm.trans hg)
              omega
            · have := ob_some (e.symm.trans hg)
              have := V4.size
              omega
          have X2 : Blk w4 b (icells x) 36 := U1.blk X1 (fun e => by have := ob_eq e; have := Hb.out; omega)
          have F := Lib.hid (And.intro O1 (And.intro X2 (And.intro V5 (And.intro hv1 hbv))))
          have e0 : w4.cell? ⟨p, 1, none⟩ = some (.slice a L.length c) := (V5.blk HX.out.1 (fun h => h)).cell 1
          have k4 : w4.cell? ⟨n, 0, none⟩ = some (.int .i64 x.k) := (V5.blk HK.out (fun h => h)).cell 0
          have k5 : w4.cell? ⟨n, 1, none⟩ = some (.int .i64 x.m) := (V5.blk HK.out (fun h => h)).cell 1
          clear O1 X2 V5 hv1 hbv U1 b1 O3' RR r1c V4 X1 T1 O3 V3
          go_wp2_with fail
          obtain ⟨O1, X2, V5, hv1, hbv⟩ := F.out
          refine ⟨⟨e0, k4, k5⟩, v1, b, rfl, Lib.hid ⟨O1, X2, V5, ?_, hbv, hv1⟩⟩
          rw [Hb.out]
          exact S3d.out.2.size
      rintro v1 b w4 - HM
      obtain ⟨O1, X1, V4, hbw, hvb, hv1⟩ := HM.out
      refine tail_consL rfl ?_
      refine wpl_app rfl rfl elem Try.underlying30 rfl O1 rfl (Rd.ofBlk X1 1 2 rfl) (by simp [icells, Value.oneCell']) (by omega) ?_
      rintro v2 w5 ⟨O2, U2, b2⟩
      have hv2 : ∀ g, v2.ownBlock = some g → w2.heap.size ≤ g := by
        intro g hg
        rcases b2 with e | e
        · exact hv1 g (e ▸ hg)
        · have := ob_some (e.symm.trans hg)
          have := V4.size
          omega
      have V5 : Upd w2 w5 (fun _ => False) := V4.trans U2 (fun i hi e => by have := hv1 i e; omega)
      have B5 := V5.blk HX.out.1 (fun h => h)
      have d5 : w5.cell? ⟨p, 1, none⟩ = some (.slice a L.length c) := B5.cell 1
      have S5 := Lib.hid (And.intro O2 (And.intro V5 hv2))
      clear O2 U2 b2 V5 hv2 B5 O1 V4 hv1 X1 HM S3 d0 k0 k1
      try clear e0 k4 k5
      go_wp2_with fail
      refine ⟨⟨d5, (S5.out.2.1.blk HK.out (fun h => h)).cell 0, (S5.out.2.1.blk HK.out (fun h => h)).cell 1⟩, tail_oneL rfl ?_⟩
      go_wp2_with (at_builtin; refine halt_mk ?_)
      refine halt_go ?_
      obtain ⟨O2, V5, hv2⟩ := S5.out
      refine wpl_app rfl rfl elem Try.underlying30 rfl O2 rfl (HR12.out.2.keep V5 (fun _ _ h => h)) (fun u hu => cells_one L u (List.mem_of_mem_drop hu)) (by omega) ?_
      rintro v3 w6 ⟨O3, U3, b3⟩
      have V6 : Upd w2 w6 (fun _ => False) := V5.trans U3 (fun i hi e => by have := hv2 i e; omega)
      have B6 := V6.blk HX.out.1 (fun h => h)
      have f1 := B6.free 1
      have d1 : w6.cell? ⟨p, 1, none⟩ = some (.slice a L.length c) := B6.cell 1
      have hv3 : v3.ownBlock ≠ some p := fun e => by
        obtain ⟨vs, hv⟩ := own_ty O3 e
        exact absurd rfl (B6.ty hv (by decide))
      have hv4 : ∀ g, v3.ownBlock = some g → w.heap.size ≤ g := by
        intro g hg
        have := HB.out.size
        rcases b3 with e | e
        · have := hv2 g (e ▸ hg)
          omega
        · have := ob_some (e.symm.trans hg)
          have := V5.size
          omega
      obtain ⟨a3, c3, e3, _⟩ := (Rd.ofOwn O3).form
      have S6 := Lib.hid (And.intro O3 (And.intro hv3 (And.intro V6 B6)))
      have H4 := Lib.hid hv4
      clear O3 U3 b3 V6 B6 O2 V5 hv2 S5 hv3 d5 hv4
      subst e3
      go_wp2
      go_ret
      obtain ⟨O3, hv3, V6, B6⟩ := S6.out
      have V0 : Upd w w6 (fun _ => False) := (Upd.ofB HB.out).trans V6 (fun _ _ h => h)
      refine ⟨r, HR.out, Or.inr (Or.inr ⟨HN.out, by omega, rfl, ⟨_, B6.set 1 _, ?_, H4.out⟩, (V0.mono (fun _ _ h => h.elim)).set _ _ (fun _ => rfl)⟩)⟩
      have O4 := own_keep O3 ((Upd.refl w6 (· = p)).set ⟨p, 1, none⟩ (.slice a3 (r + 1 + (L.length - r)) c3) (fun _ => rfl)) (fun g hg e => by
        have e' : g = p := e
        subst e'
        exact hv3 hg)
      have e1 : cells (L.insertIdx r x) = cells (L.take r) ++ icells x ++ (cells L).drop (r * 2) := by
        rw [insertIdx_td _ _ _ hrL, cells_append, cells_cons, cells_drop, List.append_assoc]
      have e2 : (L.insertIdx r x).length = r + 1 + (L.length - r) := by rw [List.length_insertIdx, if_pos hrL]; omega
      rw [e1, e2]
      exact O4
