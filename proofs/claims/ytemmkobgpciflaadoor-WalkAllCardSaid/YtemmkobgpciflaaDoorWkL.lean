/- walk.All, its iterator, ranged over; Axis and Nearest of no document: walked. -/
import Derived.Test.YtemmkobgpciflaaDoorPDs
import Derived.Test.YtemmkobgpciflaaDoorRange
import Derived.Sort.CutIn
import Derived.Test.YtemmkobgpciflaaDoorBegin
import Derived.Test.YtemmkobgpciflaaDoorPNr
import Derived.Test.YtemmkobgpciflaaDoorNearS
namespace Go.Proofs.YtemmkobgpciflaaDoor
open Go.RowKit Go.Shelf
open Ch
open Df (hcv hcv_at MList AllIs)
open Pd (ptr PD allP_any)
namespace Wk

theorem wall_any (p : Nat) (w : World) : Calls Tryd.prog 25 #[ptr p] w fun e w' => e = .returned (.func (.func 72) #[] #[.pointer (some ⟨w.heap.size, 0, none⟩)]) ∧ w' = w.alloc (.cells #[ptr p] 47) := by
  unfold ptr
  go_enter Tryd.func25, Tryd.ntmps25
  go_wp2
  go_ret
  exact ⟨rfl, rfl⟩
theorem wall_nil (w : World) : Calls Tryd.prog 25 #[.pointer none] w fun e w' => e = .returned (.func (.func 72) #[] #[.pointer (some ⟨w.heap.size, 0, none⟩)]) ∧ w' = w.alloc (.cells #[.pointer none] 47) := by
  go_enter Tryd.func25, Tryd.ntmps25
  go_wp2
  go_ret
  exact ⟨rfl, rfl⟩
theorem axis_nil (n : Nat) (w : World) : Calls Tryd.prog 29 #[.pointer none, .int .i64 11, .int .u64 (n : Nat)] w fun e w' => e = .returned (.tuple #[.nilFunc, .int .i64 1]) ∧ Below w.heap.size w w' := by
  obtain ⟨P, hP⟩ : ∃ P : Ending → World → Prop, P = fun e w' => e = .returned (.tuple #[.nilFunc, .int .i64 1]) ∧ Below w.heap.size w w' := ⟨_, rfl⟩
  have HP := Lib.hid hP
  rw [← hP]
  clear hP
  go_enter Tryd.func29, Tryd.ntmps29
  go_wp2
  rw [HP.out]
  exact ⟨rfl, (((Below.refl w.heap.size w).alloc (Nat.le_refl _) _).alloc (by simp) _).alloc (by simp; omega) _⟩
theorem near_nil (a b : Nat) (w : World) : Calls Tryd.prog 27 #[.pointer none, .int .u64 (a : Nat), .int .u64 (b : Nat)] w fun e w' => e = .returned (.tuple #[.int .u64 0, .bool false, .int .i64 1]) ∧ w' = w := by
  go_enter Tryd.func27, Tryd.ntmps27
  go_wp2
  go_ret3
  exact ⟨rfl, rfl⟩

@[reducible] def encH (x : Nat × Nat) : Array Value := #[.int .i64 (x.1 : Int), .int .u64 (x.2 : Nat)]

section
attribute [local go_sem] Oper.semAt_some
set_option maxRecDepth 100000 in
set_option maxHeartbeats 2000000 in
theorem all1N_in (l Bx : Nat) (W : World) (hB : W.cell? ⟨Bx, 0, none⟩ = some (.pointer none)) :
    CallsIn Fence.wide 8 Tryd.prog 72 #[.func (.yield l) #[] #[], .pointer (some ⟨Bx, 0, none⟩)] W fun e W' => (∃ v, e = .returned v) ∧ W' = W := by
  refine callsIn_of_wp Tryd.func72 rfl trivial ?_ rfl
  simp only [Tryd.ntmps72, List.size_toArray, List.length_cons, List.length_nil, Nat.reduceAdd, Nat.reduceSub, Array.replicate_succ, Array.replicate_zero, List.push_toArray, List.append_toArray, List.nil_append, List.cons_append]
  gi_wp2
  refine bodyPost_ret (results_none rfl _ _ _) rfl ?_
  exact ⟨⟨_, rfl⟩, rfl⟩

set_option maxRecDepth 100000 in
set_option maxHeartbeats 2000000 in
theorem all1P_in (l Bx Bd d : Nat) (B : List Nat) (S : List Im.Sl) (roots : List Nat) (ts : List Im.LT) (L : List Nat) (hl : L.length ≤ 65536) (F0 : Nat → Prop)
    (J Jx : Nat → List (Nat × Nat) → World → Prop) (W : World) (hJ : ∀ n, OwnFrom W.heap.size (J n)) (hF0 : ∀ g, F0 g → g < W.heap.size)
    (hY : ∀ n pre x W1, W.heap.size ≤ n → J n pre W1 → pre.length < L.length → YieldAt Fence.wide 7 Tryd.prog l (encH x) W1 fun e W' => (e = .returned (.bool true) ∧ J n (pre ++ [x]) W' ∧ Upd W1 W' (Mine F0 n)) ∨ (e = .returned (.bool false) ∧ Jx n (pre ++ [x]) W' ∧ Upd W1 W' (fun b => b < W.heap.size ∨ n ≤ b)))
    (hB : W.cell? ⟨Bx, 0, none⟩ = some (ptr d)) (hD : PD W Bd d B S roots ts) (hL : AllIs S ts 0 L) (h0 : ∀ W1, Below W.heap.size W W1 → J W1.heap.size [] W1) :
    CallsIn Fence.wide 8 Tryd.prog 72 #[.func (.yield l) #[] #[], .pointer (some ⟨Bx, 0, none⟩)] W fun e W' => (∃ v, e = .returned v) ∧ ((∃ n ys, W.heap.size ≤ n ∧ ys = en L ∧ J n ys W') ∨ (∃ n pre, W.heap.size ≤ n ∧ pre <+: en L ∧ Jx n pre W')) := by
  have C := allP_any Bd d B S roots ts 0 L W hD hL
  unfold ptr at C hB
  have HC := Lib.hid C
  have HH := Lib.hid (And.intro hF0 hl)
  clear C hD hL hF0 hl
  refine callsIn_of_wp Tryd.func72 rfl trivial ?_ rfl
  simp only [Tryd.ntmps72, List.size_toArray, List.length_cons, List.length_nil, Nat.reduceAdd, Nat.reduceSub, Array.replicate_succ, Array.replicate_zero, List.push_toArray, List.append_toArray, List.nil_append, List.cons_append]
  gi_upto_region 1 with fail
  refine (wpIn_wide (n := 8)).2 ?_
  go_wp2_with fail
  refine HC.out.mono ?_
  rintro e w2 ⟨v, rfl, ⟨a, c, rfl, O, G⟩, B2⟩
  obtain ⟨m, hm⟩ : ∃ m, m = L.length := ⟨_, rfl⟩
  obtain ⟨n, hn⟩ : ∃ n, n = w2.heap.size := ⟨_, rfl⟩
  have hJ0 : J n [] w2 := by rw [hn]; exact h0 w2 B2
  have hnW : W.heap.size ≤ n := by rw [hn]; exact B2.size
  have HR2 : Hid (Rd w2 (.slice a L.length c) L.length 1 (hcv L)) := Lib.hid (Rd.ofOwn O)
  have hg2 : ∀ g, (Value.slice a L.length c).ownBlock = some g → ¬ Mine F0 n g := by
    intro g hgg hm
    have h1 := G g hgg
    have h2 := own_lt O hgg
    rcases hm with hm | hm
    · have := HH.out.1 g hm; omega
    · omega
  rw [← hm] at HR2 hg2 hY ⊢
  have HM := Lib.hid hm
  clear hB O G B2 hn hm h0 HC
  go_wp2_with fail
  gi_wp2
  gi_loopw [5, 6, 16] (fun v5 v6 i wr => ∃ k : Nat, k ≤ m ∧ i = .int .i64 k ∧ J n ((en L).take k) wr ∧ Hid (Rd wr (.slice a m c) m 1 (hcv L)))
    (fun v5 v6 i _ => m - (intOf i).toNat)
  case atStart => exact ⟨0, Nat.zero_le _, rfl, hJ0, HR2⟩
  case round =>
    obtain ⟨k, hk, rfl, hJs, hR⟩ := hrel
    by_cases hlt : k < m
    · obtain ⟨y, hy⟩ : ∃ y, L[k]? = some y := ⟨L[k]'(by have := HM.out; omega), List.getElem?_eq_getElem _⟩
      obtain ⟨g, off, c', e1, hcc, hc0⟩ := hR.out.at_ (hcv_at hy)
      simp only [Value.slice.injEq] at e1
      obtain ⟨rfl, _, rfl⟩ := e1
      have HY := Lib.hid hy
      clear hy
      obtain ⟨fn, tmps, assign, body, hyy, hR2⟩ := hY n _ (k, y) _ hnW hJs (by rw [List.length_take, en_len, ← HM.out]; omega)
      dsimp only [encH] at hyy
      gi_wp2
      refine hR2.mono ?_
      rintro e W3 (⟨rfl, hJ3, hk3⟩ | ⟨rfl, hJx3, _⟩)
      · have HR3 := Lib.hid (hR.out.keep hk3 hg2)
        gi_wp2
        go_roundw
        case rel => exact ⟨k + 1, by omega, v64s hlt (by have := HH.out.2; have := HM.out; omega), by rw [← en_take HY.out]; exact hJ3, HR3⟩
        case measure =>
          have e := v64s hlt (by have := HH.out.2; have := HM.out; omega)
          rw [e]
          simp [intOf]
          omega
      · gi_wp2
        refine bodyPost_ret (results_none rfl _ _ _) rfl ?_
        exact ⟨⟨_, rfl⟩, .inr ⟨n, _, hnW, by rw [en_take HY.out]; exact List.take_prefix _ _, hJx3⟩⟩
    · obtain rfl : k = m := by omega
      gi_wp2
      go_end0
      exact ⟨⟨_, rfl⟩, .inl ⟨n, _, hnW, rfl, by rw [List.take_of_length_le (by rw [en_len, ← HM.out]; exact Nat.le_refl _)] at hJs; exact hJs⟩⟩
end

theorem all_gives (Bx Bd d : Nat) (B : List Nat) (S : List Im.Sl) (roots : List Nat) (ts : List Im.LT) (L : List Nat) (hl : L.length ≤ 65536) (w : World) (hB : w.cell? ⟨Bx, 0, none⟩ = some (ptr d)) (hD : PD w Bd d B S roots ts) (hL : AllIs S ts 0 L)
    (F0 : Nat → Prop) (hF : ∀ g, F0 g → g < w.heap.size) : Gives Tryd.prog 72 #[.pointer (some ⟨Bx, 0, none⟩)] encH F0 (fun ys => ys = en L) (fun pre => pre <+: en L) L.length w := fun l J Jx W hW hJ _ hY h0 => by
  have hB' := (hW.cell (p := ⟨Bx, 0, none⟩) (World.block_lt_of_cell? w _ hB)).trans hB
  exact all1P_in l Bx Bd d B S roots ts L hl F0 J Jx W hJ (fun g hg => Nat.lt_of_lt_of_le (hF g hg) hW.size) hY hB' (hD.below (hW.mono hD.le)) hL h0
theorem nil_gives (Bx : Nat) (w : World) (hB : w.cell? ⟨Bx, 0, none⟩ = some (.pointer none)) (F0 : Nat → Prop) : Gives Tryd.prog 72 #[.pointer (some ⟨Bx, 0, none⟩)] encH F0 (fun ys => ys = []) (fun _ => False) 0 w := fun l J Jx W hW hJ _ hY h0 => by
  have hB' := (hW.cell (p := ⟨Bx, 0, none⟩) (World.block_lt_of_cell? w _ hB)).trans hB
  refine (all1N_in l Bx W hB').mono ?_
  rintro e W' ⟨hv, rfl⟩
  exact ⟨hv, Or.inl ⟨_, [], Nat.le_refl _, rfl, h0 _ (Below.refl _ _)⟩⟩

end Wk
end Go.Proofs.YtemmkobgpciflaaDoor

namespace Go.Proofs.YtemmkobgpciflaaDoor
open Go.RowKit Go.Shelf
open Ch
open Df (hcv hcv_at MList AllIs elemHd RDoc allR_any meantN meant_any nearR_any nearR_none nearL)
open Pd (ptr PD nearP_any)
namespace Wk

section
variable {P : Program} {α : Type} {g : Operand} {ps : Array Tmp} {assign body : Code} {Q : Exit → Act → World → Prop} {a : Act} {w : World}
theorem range_lawB {gf : Nat} {lb : Array Value} (hg : a.eval g = .func (.func gf) #[] lb) (eg : ∀ args w, (callFunc gf args).run P w = .ok (.enter gf args) w)
    {encs : α → Array Value} {F0 : Nat → Prop} {S Sp : List α → Prop} {N : Nat} {w0 : World} (hseq : Gives P gf lb encs F0 S Sp N w0) (hF0 : ∀ b, F0 b → b < w.heap.size) (hb0 : Below w0.heap.size w0 w) (hps : ∀ x, (encs x).size = ps.size)
    (I : Nat → List α → World → Prop) (Ix : Nat → Code → List α → World → Prop) (hI : ∀ n, OwnFrom w.heap.size (I n)) (hIx : ∀ n c, OwnFrom w.heap.size (Ix n c)) (h0 : ∀ W, Below w.heap.size w W → w.heap.size + 2 ≤ W.heap.size → I W.heap.size [] W)
    (FA : α → Act)
    (hassign : ∀ (l : Nat) (x : α) (W : World) (K : Act → World → Prop), K (FA x) W → assign.wpIn (Fence.wide.inRound l) 7 P (Exit.then K (fun _ _ _ => False)) { tmps := (ps.zip (encs x)).foldl (fun t (p, v) => t.setIfInBounds p v) a.tmps, defers := [] } W)
    (hbody : ∀ (l n : Nat) (pre : List α) (x : α) (W : World), w.heap.size + 2 ≤ n → I n pre W → pre.length < N → body.wpIn (Fence.wide.inRound l) 7 P (roundU w.heap.size F0 n I Ix (pre ++ [x]) W) (FA x) W)
    (hdone : ∀ (D n : Nat) (xs : List α) (W : World), w.heap.size ≤ D → w.heap.size + 2 ≤ n → S xs → I n xs W → W.heap[D]? = some (.deferred (some [])) → Q .normal { a with defers := { target := .collected D, args := #[] } :: a.defers } W)
    (hstop : ∀ (D n : Nat) (c : Code) (pre : List α) (W : World), w.heap.size ≤ D → w.heap.size + 2 ≤ n → Sp pre → Ix n c pre W → W.heap[D]? = some (.deferred (some [])) → c.wp P Q { a with defers := { target := .collected D, args := #[] } :: a.defers } W) :
    (Code.rangeFunc g ps assign body).wp P Q a w := by
  refine range_law hg eg hseq hF0 hb0 hps I Ix hI hIx h0 (fun n pre x a' W => a' = FA x ∧ I n pre W) ?_ ?_ ?_ hdone hstop
  · rintro n pre x a' W l o o' ⟨rfl, hi⟩ hB hl ho
    exact ⟨rfl, (hI n).putObj _ hi hB hl ho⟩
  · intro l n pre x W _ hi _
    exact hassign l x W _ ⟨Below.refl _ _, rfl, hi⟩
  · rintro l n pre x a' W hn ⟨rfl, hi⟩ hlt
    exact hbody l n pre x W hn hi hlt
end

theorem leave_two {P : Program} {n : Nat} {fn : Func} {R : Ending → World → Prop} {tmps : Array Value} {D1 D2 : Nat} {W : World} (h2 : W.heap[D2]? = some (.deferred (some []))) (h1 : W.heap[D1]? = some (.deferred (some []))) (hne : D1 ≠ D2)
    (h : LeavesIn Fence.wide n P fn tmps R [] .returning ((W.putObj D2 (.deferred none)).putObj D1 (.deferred none))) : LeavesInM Fence.wide n P fn tmps R [{ target := .collected D2, args := #[] }, { target := .collected D1, args := #[] }] .returning W :=
  ⟨by simp, .inl ⟨_, _, rfl, run_takeDeferred h2, by simp, .inl ⟨_, _, rfl, run_takeDeferred ((World.putObj_heap_other hne).trans h1), h⟩⟩⟩

/-- What a round finds. -/
structure Rk (w2 : World) (L : List Nat) (iB wB fn : Nat) (va : Value) (pre : List (Nat × Nat)) (W : World) : Prop where
  num : Blk W iB [.int .i64 (pre.length : Int)] 3
  want : Blk W wB [va] 42
  list : W.ownsRow 0 46 1 va L.length (hcv L)
  below : Below w2.heap.size w2 W
  nl : Blk W fn [.pointer none] 47
theorem rk_turn {w2 : World} {L : List Nat} {iB wB fn : Nat} {va : Value} {B : Nat} (hB : w2.heap.size ≤ B) {pre : List (Nat × Nat)} {W W' : World} {row : Option Nat} (h : Rk w2 L iB wB fn va pre W) (hg : W.grownBy W' row) (hr : ∀ r, row = some r → B ≤ r ∧ ∃ o : Obj, W.heap[r]? = some o ∧ o.isCells = false) : Rk w2 L iB wB fn va pre W' := by
  have U := upd_turn hg (fun r e => (hr r e).2)
  refine ⟨U.blk h.num (blk_cells h.num), U.blk h.want (blk_cells h.want), own_keep h.list U (fun g hg hm => ?_), h.below.grown hg h.below.size (fun k e => Nat.le_trans hB (hr k e).1), U.blk h.nl (blk_cells h.nl)⟩
  obtain ⟨vs, hv⟩ := own_ty h.list hg
  exact blk_cells hv hm
theorem rk_own {w2 : World} {L : List Nat} {iB wB fn : Nat} {va : Value} {B : Nat} (hB : w2.heap.size ≤ B) (C : Nat → List (Nat × Nat) → Prop) (n : Nat) : OwnFrom B (fun pre W => Rk w2 L iB wB fn va pre W ∧ C n pre) :=
  fun pre W W' row h hg hr => ⟨rk_turn hB h.1 hg hr, h.2⟩
theorem pre_nextH {L : List Nat} {pre : List (Nat × Nat)} {x : Nat × Nat} (h : pre <+: en L) : (pre ++ [x] <+: en L) ↔ (x.1 = pre.length ∧ L[pre.length]? = some x.2) := by
  have he : pre = (en L).take pre.length := List.prefix_iff_eq_take.1 h
  constructor
  · rintro ⟨t, ht⟩
    have h1 : (en L)[pre.length]? = some x := by
      rw [← ht, List.append_assoc, List.getElem?_append_right (Nat.le_refl _)]
      simp
    rw [en_get] at h1
    obtain ⟨y, hy, e⟩ := Option.map_eq_some_iff.1 h1
    rw [← e]
    exact ⟨rfl, hy⟩
  · rintro ⟨h1, h2⟩
    have hx : x = (pre.length, x.2) := by rw [← h1]
    rw [hx, he]
    have hl : ((en L).take pre.length).length = pre.length := by rw [← he]
    rw [hl, en_take h2]
    exact List.take_prefix _ _
theorem deferred_below {B D : Nat} {w w' : World} {o : Obj} (h : Below B w w') (hD : D < B) (hK : w.heap[D]? = some o) : w'.heap[D]? = some o := (h.block D hD).trans hK

theorem meantN_lt {w : World} {B d : Nat} {Bl : List Nat} {S : List Im.Sl} {roots : List Nat} {ts : List Im.LT} (h : PD w B d Bl S roots ts) {n : Nat} (hn : n < 18446744073709551616) (how : Bool) : meantN S ts n how < 18446744073709551616 := by
  unfold meantN
  split
  · rename_i hc
    have hlt : n % (Im.preL ts).length < ((Im.preL ts).map (Im.hdl S)).length := by rw [List.length_map]; exact Nat.mod_lt _ hc.2
    rw [List.getD_eq_getElem?_getD, List.getElem?_eq_getElem hlt]
    obtain ⟨i, hi, e⟩ := List.mem_map.1 (List.getElem_mem hlt)
    obtain ⟨s, hs, _⟩ := Im.sdL_live ts 0 h.val.sd i hi
    have := (List.getElem?_eq_some_iff.1 hs).1
    have := h.val.len
    show ((Im.preL ts).map (Im.hdl S))[n % (Im.preL ts).length] < _
    rw [← e]
    exact Pd.hdl_lt h.gens hs (by omega)
  · exact hn

section
attribute [local go_sem] Oper.semAt_some
set_option maxRecDepth 100000 in
set_option maxHeartbeats 4000000 in
theorem walk_any (S : List Im.Sl) (R0 : List Df.Row) (roots : List Nat) (sa ra : Option Addr) (sc rc : Nat) (a b : Nat) (how : Bool) (most : Int) (w : World) (hI : ImIn w (· < w.heap.size) S R0 roots sa sc ra rc) (ha : a < 18446744073709551616) (hb : b < 18446744073709551616) (hT : Tabs w) :
    Calls Tryd.prog 6 #[.agg #[.slice sa S.length sc, .slice ra roots.length rc], .int .u64 (a : Nat), .int .u64 (b : Nat), .bool how, .int .i64 most] w fun e w' => e = .returned (.bool true) ∧ Below w.heap.size w w' := by
  have qn : ∀ (w : World) (f : Fn) (a b : Array Value), (binOp .eql 54 (.func f a b) .nilFunc).run Tryd.prog w = .ok (.bool false) w := fun _ _ _ _ => by kernel_rfl
  obtain ⟨X, hX⟩ : ∃ X, X = w.heap.size := ⟨_, rfl⟩
  obtain ⟨sn, hsn⟩ : ∃ n, n = S.length := ⟨_, rfl⟩
  obtain ⟨rn, hrn⟩ : ∃ rn, rn = roots.length := ⟨_, rfl⟩
  obtain ⟨W1, hW1⟩ : ∃ W1, W1 = ((w.alloc (.cells #[Value.slice sa sn sc, .slice ra rn rc] 44)).alloc (.cells #[.int .i64 most] 3)).alloc (.cells #[.bool false] 4) := ⟨_, rfl⟩
  have U1 : Upd w W1 (fun _ => False) := by rw [hW1]; exact (((Upd.refl w _).alloc _).alloc _).alloc _
  have X1 : Blk W1 X [.slice sa sn sc, .slice ra rn rc] 44 := by rw [hW1]; exact ((Blk.new' hX).alloc _).alloc _
  obtain ⟨Mb, hMb⟩ : ∃ Mb, Mb = X + 1 := ⟨_, rfl⟩
  obtain ⟨Rb, hRb⟩ : ∃ Rb, Rb = X + 1 + 1 := ⟨_, rfl⟩
  have M1 : Blk W1 Mb [.int .i64 most] 3 := by
    rw [hW1]
    have : Blk ((w.alloc (.cells #[Value.slice sa sn sc, .slice ra rn rc] 44)).alloc (.cells #[.int .i64 most] 3)) Mb [.int .i64 most] 3 := Blk.new' (by rw [hMb, hX]; simp)
    exact this.alloc _
  have R1 : Blk W1 Rb [.bool false] 4 := by rw [hW1]; exact Blk.new' (by rw [hRb, hX]; simp)
  have B1 : Below w.heap.size w W1 := U1.below (Nat.le_refl _) (fun _ _ h => h)
  have x0 := X1.cell 0
  have x1 := X1.cell 1
  simp only [List.getElem?_cons_zero, List.getElem?_cons_succ] at x0 x1
  have hI1 : ImIn W1 (· < W1.heap.size) S R0 roots sa sc ra rc := by
    have h := hI.keep U1
    have hle := U1.size
    exact ⟨h.s.mono (fun g hg => Nat.lt_of_lt_of_le hg hle), h.r.mono (fun g hg => Nat.lt_of_lt_of_le hg hle), h.h.mono (fun g hg => Nat.lt_of_lt_of_le hg hle), h.f, h.sl, h.rl, h.rf⟩
  have C := begins_any S R0 roots sa ra sc rc W1 hI1 (hT.below B1)
  rw [← hsn, ← hrn] at C
  have HC := Lib.hid C
  have HH := Lib.hid (And.intro B1 (And.intro M1 (And.intro R1 (And.intro ha (And.intro hb (And.intro hX (And.intro hMb (And.intro hRb hW1))))))))
  rw [← hsn, ← hrn]
  clear hI hT U1 X1 M1 R1 B1 hI1 C ha hb hsn hrn hX hMb hRb hW1
  refine calls_of_marks Tryd.func6 rfl ?_
  simp only [Tryd.ntmps6, List.size_toArray, List.length_cons, List.length_nil, Nat.reduceAdd, Nat.reduceSub, Array.replicate_succ, Array.replicate_zero, List.push_toArray, List.append_toArray, List.nil_append, List.cons_append]
  go_upto_region 1 with fail
  have e1 := HH.out.2.2.2.2.2.2.2.2
  have e2 := HH.out.2.2.2.2.2.1
  have e3 := HH.out.2.2.2.2.2.2.1
  have e4 := HH.out.2.2.2.2.2.2.2.1
  rw [← e1, ← e2, ← e4, ← e3]
  clear e1 e2 e3 e4
  go_wp2_with fail
  refine HC.out.mono ?_
  rintro e w2 ⟨B2, p, d, Bl, S', roots', ts, rfl, hPD, hRD⟩
  have U2 := Upd.ofBelow (F := fun _ => False) B2
  obtain ⟨L, hLe⟩ : ∃ L, L = (Im.preL ts).map (Im.hdl S') := ⟨_, rfl⟩
  have hLl : L.length ≤ 4096 := by rw [hLe, List.length_map]; exact hPD.val.count
  have hLA : AllIs S' ts 0 L := Or.inl ⟨rfl, hLe⟩
  have C := allR_any w2.heap.size d S' roots' ts 0 L w2 hRD hLA
  have HC2 := Lib.hid C
  obtain ⟨m, hm⟩ : ∃ m, m = L.length := ⟨_, rfl⟩
  have H2 := Lib.hid (And.intro (HH.out.1.trans (B2.mono HH.out.1.size)) (And.intro (U2.blk HH.out.2.1 (fun h => h)) (And.intro (U2.blk HH.out.2.2.1 (fun h => h)) (And.intro hPD (And.intro hRD (And.intro hLA (And.intro hLl hm)))))))
  have HAB := Lib.hid (And.intro HH.out.2.2.2.1 HH.out.2.2.2.2.1)
  have HPw := Lib.hid (show w.heap.size ≤ Mb ∧ w.heap.size ≤ Rb by have := HH.out; omega)
  unfold Pd.ptr
  clear B2 hPD hRD U2 hLe hLl hLA C hm HC x0 x1 HH
  go_wp2_with fail
  refine HC2.out.mono ?_
  rintro e w3 ⟨v, rfl, ⟨va, vc, rfl, O3, G3⟩, B3⟩
  obtain ⟨wB, hwB⟩ : ∃ wB, wB = w3.heap.size := ⟨_, rfl⟩
  obtain ⟨iB, hiB⟩ : ∃ iB, iB = w3.heap.size + 1 := ⟨_, rfl⟩
  rw [← H2.out.2.2.2.2.2.2.2] at O3 G3 ⊢
  obtain ⟨W4, hW4⟩ : ∃ W4, W4 = (w3.alloc (.cells #[.slice va m vc] 42)).alloc (.cells #[.int .i64 0] 3) := ⟨_, rfl⟩
  have hs4 : W4.heap.size = iB + 1 := by rw [hW4, hiB]; simp
  have U4 : Upd w3 W4 (fun _ => False) := by rw [hW4]; exact ((Upd.refl w3 _).alloc _).alloc _
  have N4 : Blk W4 wB [.slice va m vc] 42 := by rw [hW4, hwB]; exact (Blk.new w3 _ _).alloc _
  have I4 : Blk W4 iB [.int .i64 0] 3 := by rw [hW4]; exact Blk.new' (by rw [hiB]; simp)
  have B4 : Below w2.heap.size w2 W4 := B3.trans (U4.below B3.size (fun _ _ h => h))
  have HCp := Lib.hid (wall_any p W4)
  unfold Pd.ptr at HCp
  have H4 := Lib.hid (And.intro B4 (And.intro N4 (And.intro I4 (And.intro (own_keep O3 U4 (fun _ _ h => h)) (And.intro (show iB = wB + 1 by omega) (And.intro hs4 (And.intro B3.size hwB)))))))
  have HE4 := Lib.hid (And.intro hW4 (And.intro hiB hwB))
  clear O3 G3 B3 hwB hiB hW4 hs4 U4 N4 I4 B4 HC2
  go_wp2_with fail
  rw [← HE4.out.1, ← HE4.out.2.1, ← HE4.out.2.2]
  refine HCp.out.mono ?_
  rintro e w5 ⟨rfl, hw5⟩
  obtain ⟨fb, hfb⟩ : ∃ fb, fb = W4.heap.size := ⟨_, rfl⟩
  have U5 : Upd W4 w5 (fun _ => False) := by rw [hw5]; exact (Upd.refl W4 _).alloc _
  have P5 : Blk w5 fb [.pointer (some ⟨p, 0, none⟩)] 47 := by rw [hw5, hfb]; exact Blk.new W4 [.pointer (some ⟨p, 0, none⟩)] _
  have HCn := Lib.hid (wall_nil w5)
  have H5 := Lib.hid (And.intro U5 (And.intro P5 hfb))
  rw [← hfb]
  clear U5 P5 hw5 hfb HCp HE4
  go_wp2_with fail
  refine HCn.out.mono ?_
  rintro e w6 ⟨rfl, hw6⟩
  obtain ⟨fn, hfn⟩ : ∃ fn, fn = w5.heap.size := ⟨_, rfl⟩
  have U56 : Upd w5 w6 (fun _ => False) := by rw [hw6]; exact (Upd.refl w5 _).alloc _
  have U6 := H5.out.1.trans U56 (fun _ _ h => h)
  have P6 := U56.blk H5.out.2.1 (fun h => h)
  have Q6 : Blk w6 fn [.pointer none] 47 := by rw [hw6, hfn]; exact Blk.new w5 [.pointer none] _
  have B6 : Below w2.heap.size w2 w6 := H4.out.1.trans (U6.below H4.out.1.size (fun _ _ h => h))
  have N6 := U6.blk H4.out.2.1 (fun h => h)
  have I6 := U6.blk H4.out.2.2.1 (fun h => h)
  have O6 := own_keep H4.out.2.2.2.1 U6 (fun _ _ h => h)
  have hlow : w2.heap.size ≤ wB ∧ iB = wB + 1 := ⟨by have := H4.out.2.2.2.2.2.2; omega, H4.out.2.2.2.2.1⟩
  have hiB6 : iB < w6.heap.size := I6.lt
  have hgv := all_gives fb w2.heap.size p Bl S' roots' ts L (by have := H2.out.2.2.2.2.2.2.1; omega) w6 (P6.cell 0) (H2.out.2.2.2.1.below B6) H2.out.2.2.2.2.2.1 (fun b => b = iB) (fun g hg => by have : g = iB := hg; omega)
  have H6 := Lib.hid (And.intro B6 (And.intro N6 (And.intro I6 (And.intro O6 (And.intro hlow Q6)))))
  have H26 := Lib.hid B6.size
  rw [← hfn]
  clear U56 U6 P6 B6 N6 I6 O6 hlow Q6 hfn hw6 HCn H5 H4
  go_wp2_with fail
  refine range_lawB (gf := 72) (lb := #[.pointer (some ⟨fb, 0, none⟩)]) rfl (enters_of Tryd.func72 (by kernel_rfl) rfl) hgv (fun b hb => by have : b = iB := hb; omega) (Below.refl _ _) (fun _ => rfl)
    (fun n pre W => Rk w2 L iB wB fn (.slice va m vc) pre W ∧ (pre <+: en L ∧ ∀ j : Nat, 1 ≤ j → j ≤ pre.length → (j : Int) ≠ most)) (fun n c pre W => (¬ pre <+: en L) ∨ (Rk w2 L iB wB fn (.slice va m vc) pre W ∧ c = .exit 0 ∧ (pre.length : Int) = most))
    (fun n => rk_own H26.out (fun n pre => pre <+: en L ∧ ∀ j : Nat, 1 ≤ j → j ≤ pre.length → (j : Int) ≠ most) n) (fun n c pre W W' row h hg hr => h.imp id (fun h => ⟨rk_turn H26.out h.1 hg hr, h.2⟩)) ?h0 ?FA ?assign ?body ?done ?stop
  case assign =>
    intro l3 x3 W3 K hK
    gi_wp2
    exact hK
  case h0 =>
    intro W' hW' _
    have V := Upd.ofBelow (F := fun _ => False) hW'
    obtain ⟨B6, N6, I6, O6, _, Q6⟩ := H6.out
    refine ⟨⟨V.blk I6 (fun h => h), V.blk N6 (fun h => h), ?_, B6.trans (hW'.mono B6.size), V.blk Q6 (fun h => h)⟩, List.nil_prefix, fun j h1 h2 => by simp at h2; omega⟩
    have o := own_keep O6 V (fun _ _ h => h)
    rw [H2.out.2.2.2.2.2.2.2] at o ⊢
    exact o
  case body =>
    rintro l2 n pre ⟨j, y⟩ W' hn ⟨hI, hfit, hno⟩ hlt
    obtain ⟨z, hz⟩ : ∃ z, L[pre.length]? = some z := ⟨L[pre.length]'(by omega), List.getElem?_eq_getElem _⟩
    have hRd := Rd.ofOwn hI.list
    rw [← H2.out.2.2.2.2.2.2.2] at hRd
    obtain ⟨g, off, c', e1, hcc, z0⟩ := hRd.at_ (hcv_at hz)
    simp only [Value.slice.injEq] at e1
    obtain ⟨rfl, _, rfl⟩ := e1
    have hB := hI.below
    have kM : W'.cell? ⟨Mb, 0, none⟩ = some (.int .i64 most) := ((Upd.ofBelow (F := fun _ => False) hB).blk H2.out.2.1 (fun h => h)).cell 0
    have hRW := (Upd.ofBelow (F := fun _ => False) hB).blk H2.out.2.2.1 (fun h => h)
    have kr : W'.cell? ⟨Rb, 0, none⟩ = some (.bool false) := hRW.cell 0
    have krf : W'.frozen? ⟨Rb, 0, none⟩ = false := hRW.free 0
    have kn : W'.cell? ⟨iB, 0, none⟩ = some (.int .i64 (pre.length : Int)) := hI.num.cell 0
    have kf : W'.frozen? ⟨iB, 0, none⟩ = false := hI.num.free 0
    have kw : W'.cell? ⟨wB, 0, none⟩ = some (.slice (some ⟨g, off, none⟩) m vc) := hI.want.cell 0
    have hwi : wB ≠ iB := hI.want.ty hI.num (by decide)
    have hMi : Mb ≠ iB := fun e => by have := H2.out.2.1.lt; have := H6.out.2.2.2.2.1; omega
    obtain ⟨q, hq⟩ : ∃ q, q = pre.length := ⟨_, rfl⟩
    rw [← hq] at kn z0
    have hq0 : (0 : Int) ≤ (q : Int) := by omega
    have hqm : q < m := by have := H2.out.2.2.2.2.2.2.2; omega
    have hq1 : (q : Int) < (m : Int) := by omega
    have hq4 : decide ((m : Int) ≤ (q : Int)) = false := decide_eq_false (by omega)
    have hq5 : ¬ (m : Int) ≤ (q : Int) := by omega
    have hq6 : ¬ m ≤ q := by omega
    have hw : wrap64 ((q : Int) + 1) = (q : Int) + 1 := Go.IntWalk.wrap64_in _ (by have := H2.out.2.2.2.2.2.2; omega)
    have HM := Lib.hid (And.intro hq (And.intro hz (And.intro hI (And.intro hfit hno))))
    have hRl : Rb < w6.heap.size := by have := H2.out.2.2.1.lt; have := H26.out; omega
    have HRl := Lib.hid hRl
    clear hRd hB hRW hI hfit hno hlt hq hz hRl hcc
    by_cases hj : j = q
    · subst hj
      by_cases hyz : y = z
      · subst hyz
        by_cases hst : (j : Int) + 1 = most
        · have d1 : ((j : Int) + 1 == most) = true := beq_iff_eq.2 hst
          have HST := Lib.hid hst
          clear hst
          gi_wp2
          obtain ⟨hq, hz, hI, hfit, hno⟩ := HM.out
          refine ⟨Upd.set (F := fun b => b < w6.heap.size ∨ n ≤ b) (Upd.refl W' _) ⟨iB, 0, none⟩ _ (fun _ => Or.inl hiB6), Or.inr ⟨⟨?_, hI.want.far ⟨iB, 0, none⟩ _ hwi, ?_, ?_, hI.nl.far ⟨iB, 0, none⟩ _ (hI.nl.ty hI.num (by decide))⟩, rfl, ?_⟩⟩
          · have e : (((pre ++ [(j, y)]).length : Nat) : Int) = (j : Int) + 1 := by rw [List.length_append, ← hq]; rfl
            rw [e]
            exact hI.num.set 0 _
          · exact own_keep hI.list ((Upd.refl W' (fun g => g = iB)).set ⟨iB, 0, none⟩ _ (fun _ => rfl)) (fun g' hg' e => by
              obtain ⟨_, hv⟩ := own_ty hI.list hg'
              have e : g' = iB := e
              rw [e] at hv
              exact hv.ty hI.num (by decide) rfl)
          · exact hI.below.setCell (p := ⟨iB, 0, none⟩) (by have := H6.out.2.2.2.2.1; show w2.heap.size ≤ iB; omega) _
          · have := HST.out
            rw [List.length_append, ← hq]
            simpa using this
        · have d1 : ((j : Int) + 1 == most) = false := beq_eq_false_iff_ne.2 hst
          have HST := Lib.hid hst
          clear hst
          gi_wp2
          obtain ⟨hq, hz, hI, hfit, hno⟩ := HM.out
          refine ⟨Upd.set (F := Mine (fun b => b = iB) n) (Upd.refl W' _) ⟨iB, 0, none⟩ _ (fun _ => Or.inl rfl), ⟨?_, hI.want.far ⟨iB, 0, none⟩ _ hwi, ?_, ?_, hI.nl.far ⟨iB, 0, none⟩ _ (hI.nl.ty hI.num (by decide))⟩, (pre_nextH hfit).2 ⟨hq, hz⟩, fun k h1 h2 => ?_⟩
          · have e : (((pre ++ [(j, y)]).length : Nat) : Int) = (j : Int) + 1 := by rw [List.length_append, ← hq]; rfl
            rw [e]
            exact hI.num.set 0 _
          · exact own_keep hI.list ((Upd.refl W' (fun g => g = iB)).set ⟨iB, 0, none⟩ _ (fun _ => rfl)) (fun g' hg' e => by
              obtain ⟨_, hv⟩ := own_ty hI.list hg'
              have e : g' = iB := e
              rw [e] at hv
              exact hv.ty hI.num (by decide) rfl)
          · exact hI.below.setCell (p := ⟨iB, 0, none⟩) (by have := H6.out.2.2.2.2.1; show w2.heap.size ≤ iB; omega) _
          · rw [List.length_append, List.length_singleton] at h2
            by_cases hk : k ≤ pre.length
            · exact hno k h1 hk
            · have := HST.out
              omega
      · have d2 : ((y : Int) != (z : Int)) = true := bne_iff_ne.2 (by omega)
        have d3 : ((y : Int) == (z : Int)) = false := beq_eq_false_iff_ne.2 (by omega)
        have d4 : (y == z) = false := beq_eq_false_iff_ne.2 hyz
        have HE := Lib.hid hyz
        clear hyz
        gi_wp2
        obtain ⟨hq, hz, hI, hfit, hno⟩ := HM.out
        refine ⟨Upd.set (F := fun b => b < w6.heap.size ∨ n ≤ b) (Upd.refl W' _) ⟨Rb, 0, none⟩ _ (fun _ => Or.inl HRl.out), Or.inl (fun hp => ?_)⟩
        obtain ⟨e1, e2⟩ := (pre_nextH hfit).1 hp
        rw [hz] at e2
        exact HE.out (Option.some.inj e2).symm
    · have d2 : ((j : Int) != (q : Int)) = true := bne_iff_ne.2 (by omega)
      have d3 : ((j : Int) == (q : Int)) = false := beq_eq_false_iff_ne.2 (by omega)
      have d4 : (j == q) = false := beq_eq_false_iff_ne.2 hj
      have HE := Lib.hid hj
      clear hj
      gi_wp2
      obtain ⟨hq, hz, hI, hfit, hno⟩ := HM.out
      refine ⟨Upd.set (F := fun b => b < w6.heap.size ∨ n ≤ b) (Upd.refl W' _) ⟨Rb, 0, none⟩ _ (fun _ => Or.inl HRl.out), Or.inl (fun hp => ?_)⟩
      obtain ⟨e1, e2⟩ := (pre_nextH hfit).1 hp
      exact HE.out (by rw [hq]; exact e1)
  case' done =>
    rintro D n xs W' hD hn rfl ⟨hI, hfit, hno⟩ hK
    have hB := hI.below
    have kM : W'.cell? ⟨Mb, 0, none⟩ = some (.int .i64 most) := ((Upd.ofBelow (F := fun _ => False) hB).blk H2.out.2.1 (fun h => h)).cell 0
    have kn : W'.cell? ⟨iB, 0, none⟩ = some (.int .i64 (m : Int)) := by
      have := hI.num.cell 0
      rw [en_len, ← H2.out.2.2.2.2.2.2.2] at this
      exact this
    have kw : W'.cell? ⟨wB, 0, none⟩ = some (.slice va m vc) := hI.want.cell 0
    have HB := Lib.hid hB
    have HK := Lib.hid (And.intro hK hD)
    have HNl := Lib.hid hI.nl
    clear hI hfit hno hB hK hD hn
    dsimp only
    go_upto_region 18 with fail
  case' stop =>
    rintro D n c pre W' hD hn hpre hIx hK
    rcases hIx with h | ⟨hI, rfl, hst⟩
    case' inl => exact absurd hpre h
    have hB := hI.below
    have kM : W'.cell? ⟨Mb, 0, none⟩ = some (.int .i64 most) := ((Upd.ofBelow (F := fun _ => False) hB).blk H2.out.2.1 (fun h => h)).cell 0
    obtain ⟨q, hq⟩ : ∃ q, q = pre.length := ⟨_, rfl⟩
    have kn : W'.cell? ⟨iB, 0, none⟩ = some (.int .i64 (q : Int)) := by rw [hq]; exact hI.num.cell 0
    have kw : W'.cell? ⟨wB, 0, none⟩ = some (.slice va m vc) := hI.want.cell 0
    have d1 : ((q : Int) != most) = false := by rw [hq, hst]; exact bne_self_eq_false _
    have d2 : ((q : Int) == most) = true := by rw [hq, hst]; exact beq_self_eq_true _
    have HB := Lib.hid hB
    have HK := Lib.hid (And.intro hK hD)
    have HNl := Lib.hid hI.nl
    clear hI hB hK hD hn hst hpre hq
    dsimp only
    by_cases hqm : q = m
    case' pos =>
      subst hqm
      go_upto_region 18 with fail
    case' neg =>
      have d3 : ((q : Int) != (m : Int)) = true := bne_iff_ne.2 (by omega)
      have d4 : ((q : Int) == (m : Int)) = false := beq_eq_false_iff_ne.2 (by omega)
      have d5 : (q == m) = false := beq_eq_false_iff_ne.2 hqm
      clear hqm
      go_upto_region 18 with fail
  all_goals
    have C := meant_any w2.heap.size d S' roots' ts a how W' (H2.out.2.2.2.2.1.below HB.out) HAB.out.1
    obtain ⟨a', ha'⟩ : ∃ a', a' = meantN S' ts a how := ⟨_, rfl⟩
    obtain ⟨b', hb'⟩ : ∃ b', b' = meantN S' ts b how := ⟨_, rfl⟩
    rw [← ha'] at C
    have ha64 : a' < 18446744073709551616 := by rw [ha']; exact meantN_lt H2.out.2.2.2.1 HAB.out.1 how
    have hb64 : b' < 18446744073709551616 := by rw [hb']; exact meantN_lt H2.out.2.2.2.1 HAB.out.2 how
    have HC7 := Lib.hid C
    have HM7 := Lib.hid (And.intro hb' (And.intro ha64 hb64))
    clear C ha' hb' ha64 hb64 kM kn kw
    go_wp2_with fail
    refine HC7.out.mono ?_
    rintro e w8 ⟨rfl, B8⟩
    have H8 := Lib.hid (And.intro (HB.out.trans (B8.mono HB.out.size)) B8)
    have C := meant_any w2.heap.size d S' roots' ts b how w8 (H2.out.2.2.2.2.1.below H8.out.1) HAB.out.2
    rw [← HM7.out.1] at C
    have HC8 := Lib.hid C
    clear B8 C HC7
    go_wp2_with fail
    refine HC8.out.mono ?_
    rintro e w9 ⟨rfl, B9⟩
    have H9 := Lib.hid (And.intro (H8.out.1.trans (B9.mono H8.out.1.size)) (H8.out.2.trans (B9.mono H8.out.2.size)))
    have C := nearP_any w2.heap.size p Bl S' roots' ts a' b' w9 (H2.out.2.2.2.1.below H9.out.1) HM7.out.2.1 HM7.out.2.2
    unfold Pd.ptr at C
    have HC9 := Lib.hid C
    clear B9 C HC8 H8
    go_wp2_with fail
    refine HC9.out.mono ?_
    rintro e w10 ⟨B10, hres⟩
    have H10 := Lib.hid (And.intro (H9.out.1.trans (B10.mono H9.out.1.size)) (H9.out.2.trans (B10.mono H9.out.2.size)))
    have key : ∃ (nn : Nat) (bb : Bool) (ee : Int), e = .returned (.tuple #[.int .u64 (nn : Nat), .bool bb, .int .i64 ee]) ∧ Calls Tryd.prog 28 #[.pointer (some ⟨d, 0, none⟩), .int .u64 (a' : Nat), .int .u64 (b' : Nat)] w10 (fun e w' => e = .returned (.tuple #[.int .u64 (nn : Nat), .bool bb, .int .i64 ee]) ∧ Below w10.heap.size w10 w') := by
      have hR := H2.out.2.2.2.2.1.below H10.out.1
      rcases hres with ⟨ua, ub, hCa, hCb, he⟩ | ⟨hn, he⟩
      · obtain ⟨ia, sa', la', _, _, hia, _⟩ := (Df.Climb.ne hCa).resolve_left (fun h => by cases h.2)
        obtain ⟨ib, sb', lb', _, _, hib, _⟩ := (Df.Climb.ne hCb).resolve_left (fun h => by cases h.2)
        obtain ⟨_, _, _, _, _, hCa2, hla, _⟩ := H2.out.2.2.2.1.val.find hia
        obtain ⟨_, _, _, _, _, hCb2, hlb, _⟩ := H2.out.2.2.2.1.val.find hib
        rw [← Im.Climb.eq hCa hCa2, List.length_cons] at hla
        rw [← Im.Climb.eq hCb hCb2, List.length_cons] at hlb
        exact ⟨_, _, _, he, nearR_any w2.heap.size d S' roots' ts a' b' ua ub w10 hR hCa hCb (by omega) (by omega) (by rw [hia]; rfl) (by rw [hib]; rfl)⟩
      · exact ⟨0, false, 8, he, nearR_none w2.heap.size d S' roots' ts a' b' w10 hR hn⟩
    obtain ⟨nn, bb, ee, rfl, hR⟩ := key
    have HC10 := Lib.hid hR
    clear B10 hres hR HC9 H9
    go_wp2_with fail
    refine HC10.out.mono ?_
    rintro e w11 ⟨rfl, B11⟩
    have H11 := Lib.hid (And.intro (H10.out.1.trans (B11.mono H10.out.1.size)) (H10.out.2.trans (B11.mono H10.out.2.size)))
    have h6B : Below w6.heap.size w6 w6 := Below.refl _ _
    have hnc : w11.cell? ⟨fn, 0, none⟩ = some (.pointer none) := ((Upd.ofBelow (F := fun _ => False) H11.out.2).blk HNl.out (fun h => h)).cell 0
    have hgn := nil_gives fn w11 hnc (fun _ => False)
    clear B11 HC10 H10 h6B hnc
    go_wp2_with fail
    refine range_lawB (gf := 72) (lb := #[.pointer (some ⟨fn, 0, none⟩)]) rfl (enters_of Tryd.func72 (by kernel_rfl) rfl) hgn (fun b hb => hb.elim) (Below.refl _ _) (fun _ => rfl)
      (fun n pre W => Below w11.heap.size w11 W) (fun _ _ _ _ => False) (fun n pre W W' row h hg hr => h.grown hg h.size (fun k e => (hr k e).1)) (fun n c pre W W' row h _ _ => h) (fun W hW _ => hW) ?_ ?_ ?_ ?_ ?_
    rotate_left 1
    · intro l3 x3 W3 K hK
      gi_wp2
      exact hK
    · rintro l2 n pre x W' hn hI hlt
      omega
    · rintro D2 n2 xs W12 hD2 hn2 rfl hB12 hK2
      have H12 := Lib.hid (And.intro (H11.out.1.trans (hB12.mono H11.out.1.size)) (And.intro (H11.out.2.trans (hB12.mono H11.out.2.size)) (And.intro hK2 (Nat.le_trans H11.out.2.size hD2))))
      have HCa := Lib.hid (axis_nil a' W12)
      clear hB12 hK2 hD2 hn2
      dsimp only
      go_wp2_with fail
      refine HCa.out.mono ?_
      rintro e w13 ⟨rfl, B13⟩
      have H13 := Lib.hid (And.intro (H12.out.1.trans (B13.mono H12.out.1.size)) (And.intro (H12.out.2.1.trans (B13.mono H12.out.2.1.size)) B13))
      have HCb := Lib.hid (near_nil a' b' w13)
      clear B13 HCa
      go_wp2_with fail
      refine HCb.out.mono ?_
      rintro e w14 ⟨rfl, hw14⟩
      have hRW := (Upd.ofBelow (F := fun _ => False) H13.out.1).blk H2.out.2.2.1 (fun h => h)
      rw [← hw14] at hRW
      have kr : w14.cell? ⟨Rb, 0, none⟩ = some (.bool false) := hRW.cell 0
      have krf : w14.frozen? ⟨Rb, 0, none⟩ = false := hRW.free 0
      have r1 : ((nn : Int) == (nn : Int)) = true := beq_self_eq_true _
      have r2 : (bb == bb) = true := beq_self_eq_true _
      have r3 : (ee == ee) = true := beq_self_eq_true _
      have HW := Lib.hid hw14
      clear hRW hw14 HCb
      go_wp2
      have k1 : w14.heap[D]? = some (.deferred (some [])) := by rw [HW.out]; exact deferred_below H13.out.2.1 (heap_lt HK.out.1) HK.out.1
      have k2 : w14.heap[D2]? = some (.deferred (some [])) := by rw [HW.out]; exact deferred_below H13.out.2.2 (heap_lt H12.out.2.2.1) H12.out.2.2.1
      have hne : D ≠ D2 := by have := heap_lt HK.out.1; have := H12.out.2.2.2; omega
      have hK2 : (w14.setCell ⟨Rb, 0, none⟩ (.bool true)).heap[D2]? = some (.deferred (some [])) := (KeepsOthers.setCell w14 ⟨Rb, 0, none⟩ (.bool true)).same D2 _ k2 rfl
      have hK1 : (w14.setCell ⟨Rb, 0, none⟩ (.bool true)).heap[D]? = some (.deferred (some [])) := (KeepsOthers.setCell w14 ⟨Rb, 0, none⟩ (.bool true)).same D _ k1 rfl
      refine leave_two hK2 hK1 hne ?_
      have hc1 : (w14.setCell ⟨Rb, 0, none⟩ (.bool true)).cell? ⟨Rb, 0, none⟩ = some (.bool true) := World.cell?_setCell_same' w14 ⟨Rb, 0, none⟩ (.bool true) (by rw [kr]; rfl)
      have hc2 := cell_kept hc1 (grownBy_putObj' _ D2 (.deferred none)) (fun r e => by cases e; exact ⟨_, hK2, rfl⟩)
      have hK1b := (World.putObj_heap_other (o := .deferred none) hne).trans hK1
      have hres := cell_kept hc2 (grownBy_putObj' _ D (.deferred none)) (fun r e => by cases e; exact ⟨_, hK1b, rfl⟩)
      have hw2 := H2.out.1.size
      have hBw : Below w.heap.size w (((w14.setCell ⟨Rb, 0, none⟩ (.bool true)).putObj D2 (.deferred none)).putObj D (.deferred none)) := by
        have h1 : Below w.heap.size w w14 := by rw [HW.out]; exact H2.out.1.trans (H13.out.1.mono hw2)
        have h2 := h1.setCell (p := ⟨Rb, 0, none⟩) (by have := HPw.out; show w.heap.size ≤ Rb; omega) (.bool true)
        have hd1 : w.heap.size ≤ D := by have := HK.out.2; have := H26.out; omega
        have hd2 : w.heap.size ≤ D2 := by have := H12.out.2.2.2; have := heap_lt HK.out.1; omega
        have h3 := h2.grown (grownBy_putObj' _ D2 (.deferred none)) h2.size (fun k e => by cases e; exact hd2)
        exact h3.grown (grownBy_putObj' _ D (.deferred none)) h3.size (fun k e => by cases e; exact hd1)
      simp [LeavesIn, results, Tryd.results6, go_sem, hres]
      exact hBw
    · rintro D n c pre W' hD hn hpre hIx hK
      exact hpre.elim
end

end Wk
end Go.Proofs.YtemmkobgpciflaaDoor
