/- Lists of items in an order: All, From, ranged over; slices.Backward. -/
import Derived.Test.YtnhgeoccknhiiaaOrdI2
import Derived.Test.YtnhgeoccknhiiaaRef7
import Derived.Test.YtnhgeoccknhiiaaRange
namespace Go.Proofs.Ytnhgeoccknhiiaa
open Go.RowKit Go.Shelf
namespace OrdI

theorem all_any (p : Nat) (w : World) : Calls Try.prog 51 #[.pointer (some ⟨p, 0, none⟩)] w fun e w' => e = .returned (.func (.func 84) #[] #[.pointer (some ⟨w.heap.size, 0, none⟩)]) ∧ w' = w.alloc (.cells #[.pointer (some ⟨p, 0, none⟩)] 99) := by
  go_enter Try.func51, Try.ntmps51
  go_wp2
  go_ret
  exact ⟨rfl, rfl⟩
theorem from_any (p : Nat) (x : It) (w : World) : Calls Try.prog 90 #[.pointer (some ⟨p, 0, none⟩), itv x] w fun e w' => e = .returned (.func (.func 92) #[] #[.pointer (some ⟨w.heap.size, 0, none⟩), .pointer (some ⟨w.heap.size + 1, 0, none⟩)]) ∧ w' = (w.alloc (.cells #[.pointer (some ⟨p, 0, none⟩)] 99)).alloc (.cells #[.int .i64 x.k, .int .i64 x.m] 36) := by
  go_enter Try.func90, Try.ntmps90
  go_wp2
  go_ret
  exact ⟨rfl, rfl⟩
theorem back_any (p : Nat) (x : It) (w : World) : Calls Try.prog 91 #[.pointer (some ⟨p, 0, none⟩), itv x] w fun e w' => e = .returned (.func (.func 93) #[] #[.pointer (some ⟨w.heap.size, 0, none⟩), .pointer (some ⟨w.heap.size + 1, 0, none⟩)]) ∧ w' = (w.alloc (.cells #[.pointer (some ⟨p, 0, none⟩)] 99)).alloc (.cells #[.int .i64 x.k, .int .i64 x.m] 36) := by
  go_enter Try.func91, Try.ntmps91
  go_wp2
  go_ret
  exact ⟨rfl, rfl⟩
theorem bw_any (a : Option Addr) (n c : Nat) (w : World) : Calls Try.prog 94 #[.slice a n c] w fun e w' => e = .returned (.func (.func 95) #[] #[.pointer (some ⟨w.heap.size, 0, none⟩)]) ∧ w' = w.alloc (.cells #[.slice a n c] 30) := by
  go_enter Try.func94, Try.ntmps94
  go_wp2
  go_ret
  exact ⟨rfl, rfl⟩

@[reducible] def enc2 (x : Nat × It) : Array Value := #[.int .i64 (x.1 : Int), itv x.2]
@[reducible] def enc1 (x : It) : Array Value := #[itv x]

theorem alloc_J {α : Type} {B : Nat} {J : List α → World → Prop} (hJ : OwnFrom B J) {s : List α} {W : World} (h : J s W) (o : Obj) : J s (W.alloc o) := hJ.alloc o h
theorem askI : Ask (fun _ => True) It.k := ⟨fun _ _ _ _ => trivial, fun w a b _ => less_any a b w⟩

section
attribute [local go_sem] Oper.semAt_some
set_option maxRecDepth 100000 in
set_option maxHeartbeats 2000000 in
theorem all1_in (l B p n : Nat) (L : List It) (a : Option Addr) (c : Nat) (hl : L.length ≤ 8192) (F0 : Nat → Prop) (hg : ∀ g, (Value.slice a L.length c).ownBlock = some g → ¬ Mine F0 n g)
    (G : Nat → Prop) (J Jx : List (Nat × It) → World → Prop) (B0 : Nat) (hJ : OwnFrom B0 J)
    (hY : ∀ pre x W, J pre W → pre.length < L.length → YieldAt Fence.wide 7 Try.prog l (enc2 x) W fun e W' => (e = .returned (.bool true) ∧ J (pre ++ [x]) W' ∧ Upd W W' (Mine F0 n)) ∨ (e = .returned (.bool false) ∧ Jx (pre ++ [x]) W' ∧ Upd W W' G))
    (W : World) (hB : W.cell? ⟨B, 0, none⟩ = some (.pointer (some ⟨p, 0, none⟩))) (h1 : W.cell? ⟨p, 1, none⟩ = some (.slice a L.length c)) (hR : Rd W (.slice a L.length c) L.length 2 (cells L)) (h0 : J [] W) :
    CallsIn Fence.wide 8 Try.prog 84 #[.func (.yield l) #[] #[], .pointer (some ⟨B, 0, none⟩)] W fun e W' => (∃ v, e = .returned v) ∧ ((∃ ys, ys = en L ∧ J ys W') ∨ (∃ pre, pre <+: en L ∧ Jx pre W')) := by
  refine callsIn_of_wp Try.func84 rfl trivial ?_ rfl
  have HR := Lib.hid hR
  clear hR
  simp only [Try.ntmps84, List.size_toArray, List.length_cons, List.length_nil, Nat.reduceAdd, Nat.reduceSub, Array.replicate_succ, Array.replicate_zero, List.push_toArray, List.append_toArray, List.nil_append, List.cons_append]
  gi_wp2
  gi_loopw [10] (fun i wr => ∃ k : Nat, k ≤ L.length ∧ i = .int .i64 k ∧ J ((en L).take k) wr ∧ Hid (Rd wr (.slice a L.length c) L.length 2 (cells L)))
    (fun i _ => L.length - (intOf i).toNat)
  case atStart => exact ⟨0, Nat.zero_le _, rfl, h0, HR⟩
  case round =>
    obtain ⟨k, hk, rfl, hJs, hR⟩ := hrel
    by_cases hlt : k < L.length
    · obtain ⟨y, hy⟩ : ∃ y, L[k]? = some y := ⟨L[k], List.getElem?_eq_getElem hlt⟩
      obtain ⟨g, off, c', e1, _, hc0, hc1⟩ := it_at hR.out hy
      cases e1
      have HY := Lib.hid hy
      clear hy
      have hJ2 := alloc_J hJ hJs (.cells #[.int .i64 y.k, .int .i64 y.m] 36)
      have HRA : Hid (Rd (wr.alloc (.cells #[.int .i64 y.k, .int .i64 y.m] 36)) (.slice (some ⟨g, off, none⟩) L.length c) L.length 2 (cells L)) := Lib.hid (hR.out.keep ((Upd.refl wr (fun _ => False)).alloc _) (fun _ _ h => h))
      obtain ⟨fn, tmps, assign, body, hyy, hR2⟩ := hY _ (k, y) _ hJ2 (by rw [List.length_take, en_len]; omega)
      dsimp only [enc2] at hyy
      gi_wp2
      refine hR2.mono ?_
      rintro e W3 (⟨rfl, hJ3, hk3⟩ | ⟨rfl, hJx3, _⟩)
      · have HR3 := Lib.hid (HRA.out.keep hk3 hg)
        gi_wp2
        go_roundw
        case rel => exact ⟨k + 1, by omega, by simp, by rw [← en_take HY.out]; exact hJ3, HR3⟩
        case measure => simp [intOf]; omega
      · gi_wp2
        refine bodyPost_ret (results_none rfl _ _ _) rfl ?_
        exact ⟨⟨_, rfl⟩, .inr ⟨_, by rw [en_take HY.out]; exact List.take_prefix _ _, hJx3⟩⟩
    · obtain rfl : k = L.length := by omega
      gi_wp2
      go_end0
      exact ⟨⟨_, rfl⟩, .inl ⟨_, rfl, by rw [List.take_of_length_le (by rw [en_len]; exact Nat.le_refl _)] at hJs; exact hJs⟩⟩

theorem take_next {α : Type} {L : List α} {k : Nat} {y : α} (h : L[k]? = some y) : L.take k ++ [y] = L.take (k + 1) := by
  rw [List.take_add_one, h]
  rfl

set_option maxRecDepth 100000 in
set_option maxHeartbeats 2000000 in
theorem from1_in (l B X p : Nat) (L : List It) (x : It) (r : Nat) (hr : RankOf It.k L x.k r) (hs : Sorted It.k L) (a : Option Addr) (c : Nat) (hl : L.length ≤ 8192) (F0 : Nat → Prop)
    (J Jx : Nat → List It → World → Prop) (W : World) (hJ : ∀ n, OwnFrom W.heap.size (J n)) (hg : ∀ g, (Value.slice a L.length c).ownBlock = some g → g < W.heap.size ∧ ¬ F0 g)
    (hY : ∀ n pre x W1, W.heap.size ≤ n → J n pre W1 → pre.length < (L.drop r).length → YieldAt Fence.wide 7 Try.prog l (enc1 x) W1 fun e W' => (e = .returned (.bool true) ∧ J n (pre ++ [x]) W' ∧ Upd W1 W' (Mine F0 n)) ∨ (e = .returned (.bool false) ∧ Jx n (pre ++ [x]) W' ∧ Upd W1 W' (fun b => b < W.heap.size ∨ n ≤ b)))
    (hB : W.cell? ⟨B, 0, none⟩ = some (.pointer (some ⟨p, 0, none⟩))) (hX : Blk W X (icells x) 36) (hO : OrdIs W p L) (h1 : W.cell? ⟨p, 1, none⟩ = some (.slice a L.length c)) (hR : Rd W (.slice a L.length c) L.length 2 (cells L))
    (h0 : ∀ W1, Below W.heap.size W W1 → J W1.heap.size [] W1) :
    CallsIn Fence.wide 8 Try.prog 92 #[.func (.yield l) #[] #[], .pointer (some ⟨B, 0, none⟩), .pointer (some ⟨X, 0, none⟩)] W fun e W' => (∃ v, e = .returned v) ∧ ((∃ n ys, W.heap.size ≤ n ∧ ys = L.drop r ∧ J n ys W') ∨ (∃ n pre, W.heap.size ≤ n ∧ pre <+: L.drop r ∧ Jx n pre W')) := by
  obtain ⟨s2, r2, R2, b2⟩ := hR.cutL elem Try.underlying30 hr.le .i64
  rw [cells_drop] at R2
  obtain ⟨a2, c2, rfl, _⟩ := R2.form
  have hbl : B < W.heap.size := World.block_lt_of_cell? W _ hB
  have hpl : p < W.heap.size := World.block_lt_of_cell? W _ h1
  have k0 : W.cell? ⟨X, 0, none⟩ = some (.int .i64 x.k) := hX.cell 0
  have k1 : W.cell? ⟨X, 1, none⟩ = some (.int .i64 x.m) := hX.cell 1
  have ld : (L.drop r).length = L.length - r := List.length_drop
  have HC := Lib.hid (rank_any askI p L x W.drew trivial (hO.below ((Upd.refl W (fun _ => False)).drew.below (Nat.le_refl _) (fun _ _ h => h))) hs hl)
  have HE := Lib.hid (And.intro R2 (And.intro b2 hr))
  clear R2 b2 hR hX hO
  refine callsIn_of_wp Try.func92 rfl trivial ?_ rfl
  simp only [Try.ntmps92, List.size_toArray, List.length_cons, List.length_nil, Nat.reduceAdd, Nat.reduceSub, Array.replicate_succ, Array.replicate_zero, List.push_toArray, List.append_toArray, List.nil_append, List.cons_append]
  gi_wp2_with fail
  refine (wpIn_wide (n := 8)).2 ?_
  apply wp_reg (fun w' : World => w'.cell? ⟨B, 0, none⟩ = some (.pointer (some ⟨p, 0, none⟩)) ∧ w'.cell? ⟨p, 1, none⟩ = some (.slice a L.length c) ∧ w'.cell? ⟨X, 0, none⟩ = some (.int .i64 x.k) ∧ w'.cell? ⟨X, 1, none⟩ = some (.int .i64 x.m)) [0, 1, 2, 3, 4, 5, 9] [6, 7, 8] [] (by kernel_rfl) (by kernel_rfl) (fun _ _ d _ _ h => by cases d <;> exact h) ⟨hB, h1, k0, k1⟩
  · iterate 7 (apply reads_consL rfl rfl; (· intro w0 hS; obtain ⟨hS1, hS2, hS3, hS4⟩ := hS; go_simp; try rfl); simp only [Act.put, List.setIfInBounds_toArray, List.set_cons_zero, List.set_cons_succ])
    exact rfl
  refine tail_consL rfl ?_
  go_wp2_with fail
  refine HC.out.mono ?_
  rintro e w2 ⟨⟨r', hr', rfl⟩, hb⟩
  have er : r' = r := rank_uniq hr' HE.out.2.2
  subst er
  have hb' : Below W.heap.size W w2 := ((Upd.refl W (fun _ => False)).drew.below (Nat.le_refl _) (fun _ _ h => h)).trans hb
  have q1 := (hb'.cell (p := ⟨B, 0, none⟩) hbl).trans hB
  have q2 := (hb'.cell (p := ⟨p, 1, none⟩) hpl).trans h1
  have q3 := (hb'.cell (p := ⟨X, 0, none⟩) (World.block_lt_of_cell? W _ k0)).trans k0
  have q4 := (hb'.cell (p := ⟨X, 1, none⟩) (World.block_lt_of_cell? W _ k1)).trans k1
  have HB2 := Lib.hid hb'
  clear hr' hb hb' HC
  go_wp2_with fail
  refine ⟨⟨q1, q2, q3, q4⟩, tail_consL rfl ?_⟩
  go_wp2_with fail
  refine ⟨⟨q1, q2, q3, q4⟩, tail_consL rfl ?_⟩
  go_wp2_with fail
  refine ⟨⟨q1, q2, q3, q4⟩, tail_zero ?_⟩
  obtain ⟨n, hn⟩ : ∃ n, n = w2.heap.size := ⟨_, rfl⟩
  have hJ0 : J n [] w2 := by rw [hn]; exact h0 w2 HB2.out
  have hnW : W.heap.size ≤ n := by rw [hn]; exact HB2.out.size
  have HR2 : Hid (Rd w2 (.slice a2 (L.length - r') c2) (L.length - r') 2 (cells (L.drop r'))) := Lib.hid (HE.out.1.keep (Upd.ofBelow (F := fun _ => False) HB2.out) (fun _ _ h => h))
  have hg2 : ∀ g, (Value.slice a2 (L.length - r') c2).ownBlock = some g → ¬ Mine F0 n g := by
    intro g hgg hm
    have := hg g (HE.out.2.1 g hgg)
    rcases hm with hm | hm
    · exact this.2 hm
    · omega
  clear hB h1 k0 k1 q1 q2 q3 q4 hn h0
  gi_wp2
  gi_loopw [15] (fun i wr => ∃ k : Nat, k ≤ L.length - r' ∧ i = .int .i64 k ∧ J n ((L.drop r').take k) wr ∧ Hid (Rd wr (.slice a2 (L.length - r') c2) (L.length - r') 2 (cells (L.drop r'))))
    (fun i _ => L.length - r' - (intOf i).toNat)
  case atStart => exact ⟨0, Nat.zero_le _, rfl, hJ0, HR2⟩
  case round =>
    obtain ⟨k, hk, rfl, hJs, hR⟩ := hrel
    by_cases hlt : k < L.length - r'
    · obtain ⟨y, hy⟩ : ∃ y, (L.drop r')[k]? = some y := ⟨(L.drop r')[k]'(by omega), List.getElem?_eq_getElem _⟩
      obtain ⟨g, off, c', e1, _, hc0, hc1⟩ := it_at hR.out hy
      cases e1
      have HY := Lib.hid hy
      clear hy
      have hJ2 := alloc_J (hJ n) hJs (.cells #[.int .i64 y.k, .int .i64 y.m] 36)
      have HRA : Hid (Rd (wr.alloc (.cells #[.int .i64 y.k, .int .i64 y.m] 36)) (.slice (some ⟨g, off, none⟩) (L.length - r') c2) (L.length - r') 2 (cells (L.drop r'))) := Lib.hid (hR.out.keep ((Upd.refl wr (fun _ => False)).alloc _) (fun _ _ h => h))
      obtain ⟨fn, tmps, assign, body, hyy, hR2⟩ := hY n _ y _ hnW hJ2 (by rw [List.length_take]; omega)
      dsimp only [enc1] at hyy
      gi_wp2
      refine hR2.mono ?_
      rintro e W3 (⟨rfl, hJ3, hk3⟩ | ⟨rfl, hJx3, _⟩)
      · have HR3 := Lib.hid (HRA.out.keep hk3 hg2)
        gi_wp2
        go_roundw
        case rel => exact ⟨k + 1, by omega, by simp, by rw [← take_next HY.out]; exact hJ3, HR3⟩
        case measure => simp [intOf]; omega
      · gi_wp2
        refine bodyPost_ret (results_none rfl _ _ _) rfl ?_
        exact ⟨⟨_, rfl⟩, .inr ⟨n, _, hnW, by rw [take_next HY.out]; exact List.take_prefix _ _, hJx3⟩⟩
    · obtain rfl : k = L.length - r' := by omega
      gi_wp2
      go_end0
      exact ⟨⟨_, rfl⟩, .inl ⟨n, _, hnW, rfl, by rw [List.take_of_length_le (by omega)] at hJs; exact hJs⟩⟩
end

theorem ord_head {w : World} {p : Nat} {L : List It} (h : OrdIs w p L) : ∃ a c, w.cell? ⟨p, 1, none⟩ = some (.slice a L.length c) ∧ Rd w (.slice a L.length c) L.length 2 (cells L) ∧ p < w.heap.size ∧ ∀ g, (Value.slice a L.length c).ownBlock = some g → g < w.heap.size ∧ ∃ vs, Blk w g vs 36 := by
  obtain ⟨v, h1, h2⟩ := h
  have hR := Rd.ofOwn h2
  obtain ⟨a, c, rfl, hc⟩ := hR.form
  exact ⟨a, c, h1.cell 1, hR, h1.lt, fun g hg => ⟨own_lt h2 hg, own_ty h2 hg⟩⟩

/-- All hands back an iterator; F0: old blocks that a round may change. -/
theorem all_gives (B p : Nat) (L : List It) (hl : L.length ≤ 8192) (w : World) (hB : w.cell? ⟨B, 0, none⟩ = some (.pointer (some ⟨p, 0, none⟩))) (hO : OrdIs w p L)
    (F0 : Nat → Prop) (hF : ∀ g vs, Blk w g vs 36 → (∃ v, w.cell? ⟨p, 1, none⟩ = some v ∧ v.ownBlock = some g) → ¬ F0 g) :
    Gives Try.prog 84 #[.pointer (some ⟨B, 0, none⟩)] enc2 F0 (fun ys => ys = en L) (fun pre => pre <+: en L) L.length w := fun l J Jx W hW hJ _ hY h0 => by
  have hB' := (hW.cell (p := ⟨B, 0, none⟩) (World.block_lt_of_cell? w _ hB)).trans hB
  obtain ⟨a, c, c1, hR, hp, hg⟩ := ord_head hO
  have c2 := (hW.cell (p := ⟨p, 1, none⟩) hp).trans c1
  have hR' : Rd W (.slice a L.length c) L.length 2 (cells L) := hR.keep (Upd.ofBelow (F := fun _ => False) hW) (fun _ _ h => h)
  have hgM : ∀ g, (Value.slice a L.length c).ownBlock = some g → ¬ Mine F0 W.heap.size g := by
    intro g hgg hm
    obtain ⟨h1, vs, h2⟩ := hg g hgg
    rcases hm with hm | hm
    · exact hF g vs h2 ⟨_, c1, hgg⟩ hm
    · have := hW.size
      omega
  refine (all1_in l B p W.heap.size L a c hl F0 hgM _ (J W.heap.size) (Jx W.heap.size) W.heap.size (hJ _) (fun pre x W1 hj hlt => hY _ pre x W1 (Nat.le_refl _) hj hlt) W hB' c2 hR' (h0 W (Below.refl _ _))).mono ?_
  rintro e W' ⟨hv, ⟨ys, hy, hj⟩ | ⟨pre, hpre, hj⟩⟩
  · exact ⟨hv, Or.inl ⟨_, ys, Nat.le_refl _, hy, hj⟩⟩
  · exact ⟨hv, Or.inr ⟨_, pre, Nat.le_refl _, hpre, hj⟩⟩

theorem from_gives (B X p : Nat) (L : List It) (x : It) (r : Nat) (hr : RankOf It.k L x.k r) (hs : Sorted It.k L) (hl : L.length ≤ 8192) (w : World) (hB : w.cell? ⟨B, 0, none⟩ = some (.pointer (some ⟨p, 0, none⟩))) (hX : Blk w X (icells x) 36) (hO : OrdIs w p L)
    (F0 : Nat → Prop) (hF : ∀ g vs, Blk w g vs 36 → (∃ v, w.cell? ⟨p, 1, none⟩ = some v ∧ v.ownBlock = some g) → ¬ F0 g) :
    Gives Try.prog 92 #[.pointer (some ⟨B, 0, none⟩), .pointer (some ⟨X, 0, none⟩)] enc1 F0 (fun ys => ys = L.drop r) (fun pre => pre <+: L.drop r) (L.drop r).length w := fun l J Jx W hW hJ _ hY h0 => by
  have hB' := (hW.cell (p := ⟨B, 0, none⟩) (World.block_lt_of_cell? w _ hB)).trans hB
  have U : Upd w W (fun _ => False) := Upd.ofBelow hW
  obtain ⟨a, c, c1, hR, hp, hg⟩ := ord_head hO
  have c2 := (hW.cell (p := ⟨p, 1, none⟩) hp).trans c1
  have hR' : Rd W (.slice a L.length c) L.length 2 (cells L) := hR.keep U (fun _ _ h => h)
  exact from1_in l B X p L x r hr hs a c hl F0 J Jx W hJ (fun g hgg => by
    obtain ⟨h1, vs, h2⟩ := hg g hgg
    have := hW.size
    exact ⟨by omega, hF g vs h2 ⟨_, c1, hgg⟩⟩) hY hB' (U.blk hX (fun h => h)) (hO.below hW) c2 hR' h0

end OrdI
end Go.Proofs.Ytnhgeoccknhiiaa
