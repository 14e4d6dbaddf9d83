/- Lists of items in an order: Back, ranged over (slices.Backward within). -/
import Derived.Test.YtnhgeoccknhiiaaAllI
namespace Go.Proofs.Ytnhgeoccknhiiaa
open Go.RowKit Go.Shelf
namespace OrdI

theorem rev_get (M : List It) {k : Nat} (h : k < M.length) : ∃ y, M[M.length - 1 - k]? = some y ∧ (en M).reverse[k]? = some (M.length - 1 - k, y) := by
  have h1 : M.length - 1 - k < M.length := by omega
  refine ⟨M[M.length - 1 - k], List.getElem?_eq_getElem h1, ?_⟩
  rw [List.getElem?_reverse (by rw [en_len]; exact h), en_len, en_get, List.getElem?_eq_getElem h1]
  rfl

section
attribute [local go_sem] Oper.semAt_some
set_option maxRecDepth 100000 in
set_option maxHeartbeats 2000000 in
theorem bw1_in (l B n : Nat) (M : List It) (a : Option Addr) (c : Nat) (hl : M.length ≤ 8192) (F0 : Nat → Prop) (hg : ∀ g, (Value.slice a M.length c).ownBlock = some g → ¬ Mine F0 n g) (hBm : ¬ Mine F0 n B)
    (G : Nat → Prop) (J Jx : List (Nat × It) → World → Prop)
    (hY : ∀ pre x W, J pre W → pre.length < M.length → YieldAt Fence.wide 7 Try.prog l (enc2 x) W fun e W' => (e = .returned (.bool true) ∧ J (pre ++ [x]) W' ∧ Upd W W' (Mine F0 n)) ∨ (e = .returned (.bool false) ∧ Jx (pre ++ [x]) W' ∧ Upd W W' G))
    (W : World) (t : TypeId) (hB : Blk W B [.slice a M.length c] t) (hR : Rd W (.slice a M.length c) M.length 2 (cells M)) (h0 : J [] W) :
    CallsIn Fence.wide 8 Try.prog 95 #[.func (.yield l) #[] #[], .pointer (some ⟨B, 0, none⟩)] W fun e W' => (∃ v, e = .returned v) ∧ ((∃ ys, ys = (en M).reverse ∧ J ys W') ∨ (∃ pre, pre <+: (en M).reverse ∧ Jx pre W')) := by
  refine callsIn_of_wp Try.func95 rfl trivial ?_ rfl
  have HR := Lib.hid (And.intro hR hB)
  have hB0 : W.cell? ⟨B, 0, none⟩ = some (.slice a M.length c) := hB.cell 0
  clear hR hB
  simp only [Try.ntmps95, List.size_toArray, List.length_cons, List.length_nil, Nat.reduceAdd, Nat.reduceSub, Array.replicate_succ, Array.replicate_zero, List.push_toArray, List.append_toArray, List.nil_append, List.cons_append]
  gi_wp2
  gi_loopw [3] (fun i wr => ∃ k : Nat, k ≤ M.length ∧ i = .int .i64 ((M.length : Int) - 1 - (k : Int)) ∧ J ((en M).reverse.take k) wr ∧ Hid (Rd wr (.slice a M.length c) M.length 2 (cells M) ∧ Blk wr B [.slice a M.length c] t))
    (fun i _ => (intOf i + 1).toNat)
  case atStart => exact ⟨0, Nat.zero_le _, by simp, h0, HR⟩
  case round =>
    obtain ⟨k, hk, rfl, hJs, hR⟩ := hrel
    by_cases hlt : k < M.length
    · obtain ⟨y, hy, hyr⟩ := rev_get M hlt
      obtain ⟨g, off, c', e1, _, hc0, hc1⟩ := it_at hR.out.1 hy
      cases e1
      have hb0 : wr.cell? ⟨B, 0, none⟩ = some (.slice (some ⟨g, off, none⟩) M.length c) := hR.out.2.cell 0
      have HY := Lib.hid hyr
      clear hy hyr
      obtain ⟨i, hi⟩ : ∃ i : Nat, i = M.length - 1 - k := ⟨_, rfl⟩
      have hi2 : (M.length : Int) - 1 - (k : Int) = (i : Int) := by omega
      have hi3 : (0 : Int) ≤ (i : Int) := by omega
      have hi4 : (i : Int) < (M.length : Int) := by omega
      rw [← hi] at hc0 hc1
      obtain ⟨fn, tmps, assign, body, hyy, hR2⟩ := hY _ (i, y) _ hJs (by rw [List.length_take, List.length_reverse, en_len]; omega)
      have HI := Lib.hid (And.intro hi hi2)
      dsimp only [enc2] at hyy
      rw [hi2]
      clear hi hi2
      gi_wp2
      refine hR2.mono ?_
      rintro e W3 (⟨rfl, hJ3, hk3⟩ | ⟨rfl, hJx3, hk3⟩)
      · have HR3 := Lib.hid (And.intro (hR.out.1.keep hk3 hg) (hk3.blk hR.out.2 hBm))
        gi_wp2
        go_roundw
        case rel => exact ⟨k + 1, by omega, by have := HI.out.2; go_num, by rw [← take_next HY.out, ← HI.out.1]; exact hJ3, HR3⟩
        case measure => have := HI.out.2; first | (simp [intOf]; done) | (simp [intOf]; omega)
      · gi_wp2
        refine bodyPost_ret (results_none rfl _ _ _) rfl ?_
        exact ⟨⟨_, rfl⟩, .inr ⟨_, by rw [HI.out.1, take_next HY.out]; exact List.take_prefix _ _, hJx3⟩⟩
    · obtain rfl : k = M.length := by omega
      have hi3 : ¬ (0 : Int) ≤ (M.length : Int) - 1 - (M.length : Int) := by omega
      gi_wp2
      go_end0
      rw [List.take_of_length_le (by rw [List.length_reverse, en_len]; exact Nat.le_refl _)] at hJs
      exact ⟨⟨_, rfl⟩, .inl (by first | exact hJs | exact ⟨_, rfl, hJs⟩)⟩
end

theorem bw_gives (B : Nat) (M : List It) (a : Option Addr) (c : Nat) (hl : M.length ≤ 8192) (w : World) (t : TypeId) (hB : Blk w B [.slice a M.length c] t) (hR : Rd w (.slice a M.length c) M.length 2 (cells M))
    (F0 : Nat → Prop) (hF : ∀ g, (Value.slice a M.length c).ownBlock = some g → g < w.heap.size ∧ ¬ F0 g) (hFB : ¬ F0 B) :
    Gives Try.prog 95 #[.pointer (some ⟨B, 0, none⟩)] enc2 F0 (fun ys => ys = (en M).reverse) (fun pre => pre <+: (en M).reverse) M.length w := fun l J Jx W hW _ _ hY h0 => by
  have U : Upd w W (fun _ => False) := Upd.ofBelow hW
  have hsz := hW.size
  refine (bw1_in l B W.heap.size M a c hl F0 (fun g hg hm => ?_) (fun hm => ?_) _ (J W.heap.size) (Jx W.heap.size) (fun pre x W1 hj hlt => hY _ pre x W1 (Nat.le_refl _) hj hlt) W t (U.blk hB (fun h => h)) (hR.keep U (fun _ _ h => h)) (h0 W (Below.refl _ _))).mono ?_
  · obtain ⟨h1, h2⟩ := hF g hg
    rcases hm with hm | hm
    · exact h2 hm
    · omega
  · rcases hm with hm | hm
    · exact hFB hm
    · have := hB.lt
      omega
  · rintro e W' ⟨hv, ⟨ys, hy, hj⟩ | ⟨pre, hpre, hj⟩⟩
    · exact ⟨hv, Or.inl ⟨_, ys, Nat.le_refl _, hy, hj⟩⟩
    · exact ⟨hv, Or.inr ⟨_, pre, Nat.le_refl _, hpre, hj⟩⟩

theorem snd_rev (M : List It) : ((en M).reverse).map Prod.snd = M.reverse := by rw [List.map_reverse, en_snd]

section
attribute [local go_sem] Oper.semAt_some
set_option maxRecDepth 100000 in
set_option maxHeartbeats 2000000 in
theorem back1_in (l B X p : Nat) (L : List It) (x : It) (r : Nat) (hr : RankOf It.k L x.k r) (hs : Sorted It.k L) (a : Option Addr) (c : Nat) (hl : L.length ≤ 8192) (F0 : Nat → Prop)
    (J Jx : Nat → List It → World → Prop) (W : World) (hF0 : ∀ b, F0 b → b < W.heap.size) (hJ : ∀ n, OwnFrom W.heap.size (J n)) (hJx : ∀ n, OwnFrom W.heap.size (Jx n)) (hg : ∀ g, (Value.slice a L.length c).ownBlock = some g → g < W.heap.size ∧ ¬ F0 g)
    (hY : ∀ n pre x W1, W.heap.size ≤ n → J n pre W1 → pre.length < (L.take r).length → YieldAt Fence.wide 7 Try.prog l (enc1 x) W1 fun e W' => (e = .returned (.bool true) ∧ J n (pre ++ [x]) W' ∧ Upd W1 W' (Mine F0 n)) ∨ (e = .returned (.bool false) ∧ Jx n (pre ++ [x]) W' ∧ Upd W1 W' (fun b => b < W.heap.size ∨ n ≤ b)))
    (hB : W.cell? ⟨B, 0, none⟩ = some (.pointer (some ⟨p, 0, none⟩))) (hX : Blk W X (icells x) 36) (hO : OrdIs W p L) (h1 : W.cell? ⟨p, 1, none⟩ = some (.slice a L.length c)) (hR : Rd W (.slice a L.length c) L.length 2 (cells L))
    (h0 : ∀ W1, Below W.heap.size W W1 → J W1.heap.size [] W1) :
    CallsIn Fence.wide 8 Try.prog 93 #[.func (.yield l) #[] #[], .pointer (some ⟨B, 0, none⟩), .pointer (some ⟨X, 0, none⟩)] W fun e W' => (∃ v, e = .returned v) ∧ ((∃ n ys, W.heap.size ≤ n ∧ ys = (L.take r).reverse ∧ J n ys W') ∨ (∃ n pre, W.heap.size ≤ n ∧ pre <+: (L.take r).reverse ∧ Jx n pre W')) := by
  obtain ⟨s2, r2, R2, b2⟩ := hR.cutH elem Try.underlying30 hr.le .i64
  rw [cells_take] at R2
  obtain ⟨a2, c2, rfl, _⟩ := R2.form
  have ld : (L.take r).length = r := by rw [List.length_take]; have := hr.le; omega
  -- the box of yield
  obtain ⟨yb, hyb⟩ : ∃ yb, yb = W.heap.size := ⟨_, rfl⟩
  obtain ⟨Wa, hWa⟩ : ∃ Wa, Wa = W.alloc (.cells #[.func (.yield l) #[] #[]] 137) := ⟨_, rfl⟩
  have Ua : Upd W Wa (fun _ => False) := by rw [hWa]; exact (Upd.refl W _).alloc _
  have Ya : Blk Wa yb [.func (.yield l) #[] #[]] 137 := by rw [hWa, hyb]; exact Blk.new W _ _
  have hB' : Wa.cell? ⟨B, 0, none⟩ = some (.pointer (some ⟨p, 0, none⟩)) := (Ua.cell (World.block_lt_of_cell? W _ hB) (fun h => h)).trans hB
  have h1' : Wa.cell? ⟨p, 1, none⟩ = some (.slice a L.length c) := (Ua.cell (World.block_lt_of_cell? W _ h1) (fun h => h)).trans h1
  have hX' := Ua.blk hX (fun h => h)
  have k0 : Wa.cell? ⟨X, 0, none⟩ = some (.int .i64 x.k) := hX'.cell 0
  have k1 : Wa.cell? ⟨X, 1, none⟩ = some (.int .i64 x.m) := hX'.cell 1
  have hbl : B < Wa.heap.size := World.block_lt_of_cell? Wa _ hB'
  have hpl : p < Wa.heap.size := World.block_lt_of_cell? Wa _ h1'
  have HC := Lib.hid (rank_any askI p L x Wa.drew trivial (hO.below ((Ua.drew).below (Nat.le_refl _) (fun _ _ h => h))) hs hl)
  have HE := Lib.hid (And.intro R2 (And.intro b2 hr))
  have HA := Lib.hid (And.intro Ua Ya)
  have HWa := Lib.hid (And.intro hWa hyb)
  clear R2 b2 hR hX hO hX' Ua Ya hB h1
  refine callsIn_marks (n := 8) Try.func93 rfl ?_
  simp only [Try.ntmps93, List.size_toArray, List.length_cons, List.length_nil, Nat.reduceAdd, Nat.reduceSub, Array.replicate_succ, Array.replicate_zero, List.push_toArray, List.append_toArray, List.nil_append, List.cons_append]
  go_wp2_with fail
  rw [← hWa, ← hyb]
  clear hWa hyb
  apply wp_reg (fun w' : World => w'.cell? ⟨B, 0, none⟩ = some (.pointer (some ⟨p, 0, none⟩)) ∧ w'.cell? ⟨p, 1, none⟩ = some (.slice a L.length c) ∧ w'.cell? ⟨X, 0, none⟩ = some (.int .i64 x.k) ∧ w'.cell? ⟨X, 1, none⟩ = some (.int .i64 x.m)) [0, 1, 2, 3, 4, 5] [6, 7, 8] [] (by kernel_rfl) (by kernel_rfl) (fun _ _ d _ _ h => by cases d <;> exact h) ⟨hB', h1', k0, k1⟩
  · iterate 6 (apply reads_consL rfl rfl; (· intro w0 hS; obtain ⟨hS1, hS2, hS3, hS4⟩ := hS; go_simp; try rfl); simp only [Act.put, List.setIfInBounds_toArray, List.set_cons_zero, List.set_cons_succ])
    exact rfl
  refine tail_consL rfl ?_
  go_wp2_with fail
  refine HC.out.mono ?_
  rintro e w2 ⟨⟨r', hr', rfl⟩, hb⟩
  have er : r' = r := rank_uniq hr' HE.out.2.2
  subst er
  have hb' : Below Wa.heap.size Wa w2 := ((Upd.refl Wa (fun _ => False)).drew.below (Nat.le_refl _) (fun _ _ h => h)).trans hb
  have q1 := (hb'.cell (p := ⟨B, 0, none⟩) hbl).trans hB'
  have q2 := (hb'.cell (p := ⟨p, 1, none⟩) hpl).trans h1'
  have q3 := (hb'.cell (p := ⟨X, 0, none⟩) (World.block_lt_of_cell? Wa _ k0)).trans k0
  have q4 := (hb'.cell (p := ⟨X, 1, none⟩) (World.block_lt_of_cell? Wa _ k1)).trans k1
  have HB2 := Lib.hid hb'
  clear hr' hb hb' HC hB' h1' k0 k1
  go_wp2_with fail
  refine ⟨⟨q1, q2, q3, q4⟩, tail_consL rfl ?_⟩
  go_wp2_with fail
  refine ⟨⟨q1, q2, q3, q4⟩, tail_consL rfl ?_⟩
  have HW := Lib.hid (bw_any a2 r' c2 w2)
  go_wp2_with fail
  refine HW.out.mono ?_
  rintro e w3 ⟨rfl, hw3⟩
  obtain ⟨bs, hbs⟩ : ∃ bs, bs = w2.heap.size := ⟨_, rfl⟩
  have U3 : Upd w2 w3 (fun _ => False) := by rw [hw3]; exact (Upd.refl w2 _).alloc _
  have S3 : Blk w3 bs [.slice a2 r' c2] 30 := by rw [hw3, hbs]; exact Blk.new w2 _ _
  have p1 := (U3.cell (p := ⟨B, 0, none⟩) (World.block_lt_of_cell? w2 _ q1) (fun h => h)).trans q1
  have p2 := (U3.cell (p := ⟨p, 1, none⟩) (World.block_lt_of_cell? w2 _ q2) (fun h => h)).trans q2
  have p3 := (U3.cell (p := ⟨X, 0, none⟩) (World.block_lt_of_cell? w2 _ q3) (fun h => h)).trans q3
  have p4 := (U3.cell (p := ⟨X, 1, none⟩) (World.block_lt_of_cell? w2 _ q4) (fun h => h)).trans q4
  have Uall : Upd W w3 (fun _ => False) := (HA.out.1.trans (Upd.ofBelow (F := fun _ => False) HB2.out) (fun _ _ h => h)).trans U3 (fun _ _ h => h)
  have Y3 : Blk w3 yb [.func (.yield l) #[] #[]] 137 := (((Upd.ofBelow (F := fun _ => False) HB2.out).trans U3 (fun _ _ h => h))).blk HA.out.2 (fun h => h)
  have R3 := HE.out.1.keep Uall (fun _ _ h => h)
  have hbsW : W.heap.size ≤ bs := by
    have h1 := HA.out.1.size
    have h2 := HB2.out.size
    omega
  have HS := Lib.hid (And.intro Uall (And.intro Y3 (And.intro R3 (And.intro S3 hbsW))))
  rw [← hbs]
  clear U3 Uall Y3 R3 S3 hw3 hbs hbsW q1 q2 q3 q4 HW
  go_wp2_with fail
  refine ⟨⟨p1, p2, p3, p4⟩, tail_zero ?_⟩
  clear p1 p2 p3 p4
  go_wp2_with fail
  have hybW : W.heap.size ≤ yb := by rw [HWa.out.2]; exact Nat.le_refl _
  have hW3 : W.heap.size ≤ w3.heap.size := HS.out.1.size
  have hM : (L.take r').length ≤ 8192 := by rw [ld]; have := hr.le; omega
  have hbw := bw_gives bs (L.take r') a2 c2 hM w3 30 (by rw [ld]; exact HS.out.2.2.2.1) (by rw [ld]; exact HS.out.2.2.1) F0 (fun g hgg => by rw [ld] at hgg; have h := hg g (HE.out.2.1 g hgg); exact ⟨by omega, h.2⟩) (fun h => by have := hF0 _ h; have := HS.out.2.2.2.2; omega)
  refine range_lawA (gf := 95) (lb := #[.pointer (some ⟨bs, 0, none⟩)]) rfl (enters_of Try.func95 (by kernel_rfl) rfl) hbw (fun b hb => by have := hF0 b hb; omega) (Below.refl _ _) (fun _ => rfl)
    (fun n pre W' => J n (pre.map Prod.snd) W' ∧ Blk W' yb [.func (.yield l) #[] #[]] 137) (fun n c pre W' => c = .ret ∧ Jx n (pre.map Prod.snd) W') ?hI ?hIx ?h0 (fun x => icells x.2) 36 ?FA ?assign ?body ?done ?stop
  case assign =>
    intro l3 x3 W3 b hb K hK
    gi_wp2
    rw [← hb]
    exact hK
  case hI =>
    intro n s A C row hs hgr hrow
    exact ⟨hJ n _ _ _ row hs.1 hgr (fun r e => ⟨by have := (hrow r e).1; omega, (hrow r e).2⟩), hs.2.at_ (hgr.block yb hs.2.lt (fun e => by have := (hrow yb e.symm).1; have := HS.out.2.1.lt; omega))⟩
  case hIx =>
    intro n c s A C row hs hgr hrow
    exact ⟨hs.1, hJx n _ _ _ row hs.2 hgr (fun r e => ⟨by have := (hrow r e).1; omega, (hrow r e).2⟩)⟩
  case h0 =>
    intro W' hW' _
    exact ⟨h0 W' ((HS.out.1.below (Nat.le_refl _) (fun _ _ h => h)).trans (hW'.mono hW3)), (Upd.ofBelow (F := fun _ => False) hW').blk HS.out.2.1 (fun h => h)⟩
  case body =>
    rintro l2 n pre ⟨i, y⟩ b W' hn ⟨hj, hyb'⟩ hb hlt
    obtain ⟨fn, tmps, assign, body, hyy, hR2⟩ := hY n (pre.map Prod.snd) y W' (by omega) hj (by rw [List.length_map]; exact hlt)
    have hR3 := Lib.hid hR2
    have y0 : W'.cell? ⟨yb, 0, none⟩ = some (.func (.yield l) #[] #[]) := hyb'.cell 0
    have c0 : W'.cell? ⟨b, 0, none⟩ = some (.int .i64 y.k) := hb.cell 0
    have c1 : W'.cell? ⟨b, 1, none⟩ = some (.int .i64 y.m) := hb.cell 1
    have HYB := Lib.hid hyb'
    clear hR2 hyb' hb hj
    dsimp only [enc1] at hyy
    gi_wp2_with fail
    refine (roundIn_wide hR3.out).mono ?_
    rintro e W5 (⟨rfl, hJ3, hk3⟩ | ⟨rfl, hJx3, hk3⟩)
    · gi_wp2
      refine ⟨hk3, by rw [List.map_append]; exact hJ3, hk3.blk HYB.out (fun hm => ?_)⟩
      rcases hm with hm | hm
      · have := hF0 _ hm
        omega
      · have := HS.out.2.1.lt
        omega
    · gi_wp2
      exact ⟨hk3.mono (fun i _ h => by omega), rfl, by rw [List.map_append]; exact hJx3⟩
  case done =>
    rintro D n xs W' hD hn rfl ⟨hj, _⟩ hK
    dsimp only
    go_wp2
    refine leave_mark hK ?_
    have hj2 := (hJ n).putObj (.deferred none) hj (by omega) hK rfl
    rw [snd_rev] at hj2
    have hn2 : W.heap.size ≤ n := by omega
    exact ⟨_, results_none rfl _ _ _, ⟨_, rfl⟩, .inl ⟨n, _, hn2, rfl, hj2⟩⟩
  case stop =>
    rintro D n c pre W' hD hn hpre ⟨rfl, hj⟩ hK
    dsimp only
    go_wp2
    refine leave_mark hK ?_
    have hj2 := (hJx n).putObj (.deferred none) hj (by omega) hK rfl
    have hn2 : W.heap.size ≤ n := by omega
    have hp2 := hpre.map Prod.snd
    rw [snd_rev] at hp2
    exact ⟨_, results_none rfl _ _ _, ⟨_, rfl⟩, .inr ⟨n, _, hn2, hp2, hj2⟩⟩
end

theorem back_gives (B X p : Nat) (L : List It) (x : It) (r : Nat) (hr : RankOf It.k L x.k r) (hs : Sorted It.k L) (hl : L.length ≤ 8192) (w : World) (hB : w.cell? ⟨B, 0, none⟩ = some (.pointer (some ⟨p, 0, none⟩))) (hX : Blk w X (icells x) 36) (hO : OrdIs w p L)
    (F0 : Nat → Prop) (hF0 : ∀ b, F0 b → b < w.heap.size) (hF : ∀ g vs, Blk w g vs 36 → (∃ v, w.cell? ⟨p, 1, none⟩ = some v ∧ v.ownBlock = some g) → ¬ F0 g) :
    Gives Try.prog 93 #[.pointer (some ⟨B, 0, none⟩), .pointer (some ⟨X, 0, none⟩)] enc1 F0 (fun ys => ys = (L.take r).reverse) (fun pre => pre <+: (L.take r).reverse) (L.take r).length w := fun l J Jx W hW hJ hJx hY h0 => by
  have hB' := (hW.cell (p := ⟨B, 0, none⟩) (World.block_lt_of_cell? w _ hB)).trans hB
  have U : Upd w W (fun _ => False) := Upd.ofBelow hW
  obtain ⟨a, c, c1, hR, hp, hg⟩ := ord_head hO
  have c2 := (hW.cell (p := ⟨p, 1, none⟩) hp).trans c1
  have hR' : Rd W (.slice a L.length c) L.length 2 (cells L) := hR.keep U (fun _ _ h => h)
  exact back1_in l B X p L x r hr hs a c hl F0 J Jx W (fun b hb => by have := hF0 b hb; have := hW.size; omega) hJ hJx (fun g hgg => by
    obtain ⟨h1, vs, h2⟩ := hg g hgg
    have := hW.size
    exact ⟨by omega, hF g vs h2 ⟨_, c1, hgg⟩⟩) hY hB' (U.blk hX (fun h => h)) (hO.below hW) c2 hR' h0

end OrdI
end Go.Proofs.Ytnhgeoccknhiiaa
