/- OrderedLive, walked. -/
import Derived.Test.YtnhgeoccknhiiaaLiveQ
namespace Go.Proofs.Ytnhgeoccknhiiaa
open Go.RowKit Go.Shelf
namespace OrdN

def bodyPostN (P : Program) (fn : Func) (R : Ending → World → Prop) : Exit → Act → World → Prop
  | .normal, a, w => LeavesInM Fence.wide 9 P fn a.tmps R a.defers .returning w
  | .ret, a, w => LeavesInM Fence.wide 9 P fn a.tmps R a.defers .returning w
  | _, _, _ => False
theorem calls_marks {P : Program} {f : FuncId} {fn : Func} {c : Code} {args : Array Value} {w : World} {R : Ending → World → Prop} (hf : P.funcs[f]? = some fn) (hb : fn.body = some c)
    (h : c.wp P (bodyPostN P fn R) { tmps := args ++ Array.replicate (fn.ntmps - args.size) undef, defers := [] } w) : Calls P f args w R :=
  callsIn_wide.1 (callsIn_of_wp_marks hf hb trivial (wpIn_mono (wpIn_wide.2 h) (fun e a w h => by cases e <;> first | exact h | exact h.elim)) rfl)

def u8s (s : List Nat) : List Value := s.map fun x : Nat => Value.int .u8 (x : Int)
theorem u8s_get (s : List Nat) (i : Nat) : (u8s s)[i]? = s[i]?.map fun x : Nat => Value.int .u8 (x : Int) := List.getElem?_map ..

theorem own_full {w : World} {b e g n : Nat} {xs : List Value} (h : w.ownsRow b e 1 (.slice (some ⟨g, 0, none⟩) n n) n xs) : Blk w g xs e := by
  obtain ⟨hl, ⟨h1, _⟩ | ⟨g', cap, cur, h1, _, hg, _, _, hs, ht⟩⟩ := h
  · cases h1
  · cases h1
    rw [List.take_of_length_le (by simp; omega)] at ht
    unfold Blk
    rw [hg, ← ht]
theorem made_ints (n : Nat) : (madeCells (Value.int .i64 0).cells (n * 1)).toList = (List.replicate n (0 : Int)).map (Value.int .i64) := by
  rw [List.map_replicate, Nat.mul_one]
  apply List.ext_getElem?
  intro i
  by_cases h : i < n
  · simp [madeCells, Value.cells, List.getElem?_replicate, h, Nat.mod_one]
  · simp [madeCells, List.getElem?_replicate, h]

theorem Upd.from {n₀ : Nat} {w w' : World} (h : Below n₀ w w') : Upd w w' (fun b => n₀ ≤ b) := ⟨h.os, h.tape, h.output, h.size, fun k _ hn => h.block k (Nat.lt_of_not_le hn)⟩
theorem blk_grown {B g : Nat} {vs : List Value} {t : TypeId} {W W' : World} {row : Option Nat} (h : Blk W g vs t) (hg : g < B) (hgr : W.grownBy W' row) (hr : ∀ r, row = some r → B ≤ r) : Blk W' g vs t :=
  h.at_ (hgr.block g h.lt (fun e => by have := hr g e.symm; omega))

def LivePost (w : World) (e : Ending) (w' : World) : Prop := e = .returned (.bool true) ∧ Below w.heap.size w w'

section
attribute [local go_sem] Oper.semAt_some
set_option maxRecDepth 20000 in
set_option maxHeartbeats 1000000 in
theorem live_calls (w : World) (vs vp : Value) (s q : List Nat) (b : Nat) (hs : Rd w vs s.length 1 (u8s s)) (hq : Rd w vp q.length 1 (u8s q)) (hs8 : ∀ x ∈ s, x < 256) (hq8 : ∀ x ∈ q, x < 256) (hb8 : b < 256) (hl : s.length ≤ 1500000) (hlq : q.length ≤ 1500000) :
    Calls Try.prog 3 #[vs, vp, .int .u8 (b : Int)] w (LivePost w) := by
  obtain ⟨a1, cs, rfl, hcs⟩ := hs.form
  obtain ⟨a2, cp, rfl, hcp⟩ := hq.form
  have HA := Lib.hid (And.intro hs hq)
  have H8 := Lib.hid (And.intro hs8 hq8)
  clear hs hq hs8 hq8
  refine calls_marks Try.func3 rfl ?_
  simp only [Try.ntmps3, List.size_toArray, List.length_cons, List.length_nil, Nat.reduceAdd, Nat.reduceSub, Array.replicate_succ, Array.replicate_zero, List.push_toArray, List.append_toArray, List.nil_append, List.cons_append]
  obtain ⟨i0, hi, hz, hsz, hby⟩ := elem.info
  have HI := Lib.hid (And.intro hi (And.intro hz (And.intro hsz hby)))
  clear hi hz hsz hby
  go_wp2_with (at_make; refine halt_mk ?_)
  refine halt_go ?_
  refine wpList_make_full _ rfl _ _ 23 rfl 0 3 i0 _ 1 Try.underlying23 HI.out.1 HI.out.2.1 HI.out.2.2.1 _ _ _ _ (s.length + 1) rfl rfl (by simp) (by simp) (by rw [HI.out.2.2.2]; omega) (by unfold maxLen; omega) (Nat.zero_le _) ?_
  intro w3 hown hgrow
  rw [made_ints] at hown
  have hW1 : (w.alloc (.cells #[.bool false] 4)).heap.size = w.heap.size + 1 := by simp
  rw [hW1] at hown ⊢
  have U0 : Upd w (w.alloc (.cells #[.bool false] 4)) (fun _ => False) := (Upd.refl w _).alloc _
  have R0 : Blk (w.alloc (.cells #[.bool false] 4)) w.heap.size [.bool false] 4 := Blk.new w _ _
  have U3' : Upd (w.alloc (.cells #[.bool false] 4)) w3 (fun _ => False) := Upd.ofB (Below.grown (Below.refl _ _) hgrow (Nat.le_refl _) (fun k hk => by cases hk))
  have U3 : Upd w w3 (fun _ => False) := U0.trans U3' (fun _ _ h => h)
  have R3 := U3'.blk R0 (fun h => h)
  have G3 := own_full hown
  obtain ⟨rv, hrv⟩ : ∃ rv, rv = w.heap.size := ⟨_, rfl⟩
  obtain ⟨tg, htg⟩ : ∃ tg, tg = w.heap.size + 1 := ⟨_, rfl⟩
  obtain ⟨tv, htv⟩ : ∃ tv, tv = w3.heap.size := ⟨_, rfl⟩
  rw [← htg] at G3 ⊢
  rw [← hrv] at R3 ⊢
  have S3 := Lib.hid (And.intro U3 (And.intro R3 G3))
  have hgr0 : w.heap.size ≤ w3.heap.size := U3.size
  have HN := Lib.hid (And.intro hrv (And.intro htg htv))
  clear U0 R0 U3' U3 R3 G3 hown hgrow HI hW1 hrv htg
  go_wp2_with fail
  rw [← htv]
  have S4 : Hid (Tab (w3.alloc (.cells #[.slice (some ⟨tg, 0, none⟩) (s.length + 1) (s.length + 1)] 23)) tv tg (List.replicate (s.length + 1) 0) ∧ Blk (w3.alloc (.cells #[.slice (some ⟨tg, 0, none⟩) (s.length + 1) (s.length + 1)] 23)) rv [.bool false] 4 ∧ Below w.heap.size w (w3.alloc (.cells #[.slice (some ⟨tg, 0, none⟩) (s.length + 1) (s.length + 1)] 23))) := by
    obtain ⟨U3, R3, G3⟩ := S3.out
    refine Lib.hid ⟨⟨?_, ?_⟩, R3.alloc _, (U3.alloc _).below (Nat.le_refl _) (fun _ _ h => h)⟩
    · rw [List.length_replicate]
      exact Blk.new' htv
    · exact G3.alloc _
  clear S3 htv
  generalize World.alloc _ _ = W4 at S4 ⊢
  go_loopg [8] s.length (fun kq v8 w' => ∃ i : Nat, v8 = .int .i64 i ∧ Hid (kq = s.length - i ∧ i ≤ s.length) ∧ Hid (∃ T : List Int, T.length = s.length + 1 ∧ (∀ j, j ≤ i → T[j]? = some (pre s j)) ∧ Tab w' tv tg T ∧ Blk w' rv [.bool false] 4 ∧ Below w.heap.size w w'))
  case atStart =>
    refine ⟨0, rfl, Lib.hid ⟨rfl, Nat.zero_le _⟩, Lib.hid ⟨_, List.length_replicate, fun j hj => ?_, S4.out⟩⟩
    obtain rfl : j = 0 := by omega
    rw [List.getElem?_replicate, if_pos (by omega)]
    rfl
  case round =>
    obtain ⟨i, rfl, HI, HS⟩ := hrel
    have hi0 : (0 : Int) ≤ (i : Int) := by omega
    by_cases hi : i < s.length
    · obtain ⟨T, hT, hp, hTab, hR, hL⟩ := HS.out
      obtain ⟨y, hy⟩ : ∃ y, s[i]? = some y := ⟨s[i], List.getElem?_eq_getElem hi⟩
      obtain ⟨g, off, c', e1, _, hc0⟩ := HA.out.1.at_ (j := i) (u := .int .u8 (y : Int)) (by rw [u8s_get, hy]; rfl)
      cases e1
      have hc : wr.cell? ⟨g, off + i, none⟩ = some (.int .u8 (y : Int)) := by
        rw [hL.cell (World.block_lt_of_cell? w _ hc0)]
        exact hc0
      have hy8 : y < 256 := H8.out.1 y (List.mem_of_getElem? hy)
      have h0 : wr.cell? ⟨tv, 0, none⟩ = some (.slice (some ⟨tg, 0, none⟩) (s.length + 1) (s.length + 1)) := by
        have := hTab.var.cell 0
        rw [hT] at this
        exact this
      have h1 := hTab.cell (hp i (Nat.le_refl _))
      have hf : wr.frozen? ⟨tg, i + 1, none⟩ = false := hTab.row.free _
      have hpb := pre_bound H8.out.1 i
      have hnext : pre s (i + 1) = pre s i + 1 + (y : Int) := by
        show pre s i + 1 + ((s[i]?).getD 0 : Nat) = _
        rw [hy]
        rfl
      have hc2 : ∃ x, wr.cell? ⟨tg, i + 1, none⟩ = some (.int .i64 x) := ⟨T[i + 1]'(by omega), hTab.cell (List.getElem?_eq_getElem (by omega))⟩
      obtain ⟨xold, hc2⟩ := hc2
      have HX := Lib.hid (And.intro hT (And.intro hp (And.intro hTab (And.intro hR hL))))
      have HY := Lib.hid hnext
      clear hp hTab hR hL hc0 hT hy hnext
      generalize pre s i = a at *
      have hi1 : (i : Int) < (s.length : Int) := by omega
      have hi2 : decide ((i : Int) < (s.length : Int)) = true := decide_eq_true hi1
      have hi3 : (i : Int) < (s.length : Int) + 1 := by omega
      have hi4 : (i : Int) + 1 < (s.length : Int) + 1 := by omega
      have hw1 : IntKind.i64.wrap ((i : Int) + 1) = (i : Int) + 1 := w64 _ (by omega)
      have hw2 : IntKind.i64.wrap (a + 1) = a + 1 := w64 _ (by omega)
      have hw3 : IntKind.i64.wrap (a + 1 + (y : Int)) = a + 1 + (y : Int) := w64 _ (by omega)
      have hw4 : ((i : Int) + 1).toNat = i + 1 := by omega
      have hw5 : (0 : Int) ≤ (i : Int) + 1 := by omega
      go_wp2
      apply wp_reg (fun w' : World => w'.cell? ⟨tv, 0, none⟩ = some (.slice (some ⟨tg, 0, none⟩) (s.length + 1) (s.length + 1)) ∧ w'.cell? ⟨tg, i, none⟩ = some (.int .i64 a) ∧ w'.cell? ⟨g, off + i, none⟩ = some (.int .u8 (y : Int))) [0, 1, 2, 3, 4, 5, 6, 7, 8, 9, 10, 11, 12, 13, 14] [] [15] (by kernel_rfl) (by kernel_rfl) (fun _ _ d _ _ h => by cases d <;> exact h) ⟨h0, h1, hc⟩
      · iterate 15 (apply reads_consL rfl rfl; (· intro w0 hS; obtain ⟨hS1, hS2, hS3⟩ := hS; go_simp; try rfl); simp only [Act.put, List.setIfInBounds_toArray, List.set_cons_zero, List.set_cons_succ])
        exact rfl
      refine tail_oneL rfl ?_
      go_wp2
      go_roundg (s.length - (i + 1))
      case rel =>
        obtain ⟨hT, hp, hTab, hR, hL⟩ := HX.out
        refine ⟨i + 1, by go_num, Lib.hid ⟨rfl, by omega⟩, Lib.hid ⟨T.set (i + 1) (a + 1 + (y : Int)), by rw [List.length_set]; exact hT, fun j hj => ?_, ?_, ?_, ?_⟩⟩
        · rw [List.getElem?_set]
          by_cases e : i + 1 = j
          · subst e
            rw [if_pos rfl, if_pos (by omega), HY.out]
          · rw [if_neg e]
            exact hp j (by omega)
        · exact Tab.set (w := wr.drew) ⟨hTab.var, hTab.row⟩ _ _
        · exact Blk.far (w := wr.drew) hR _ _ (by have := HN.out; intro e; simp at e; omega)
        · exact Below.setCell hL.drew (by have := HN.out; show w.heap.size ≤ tg; omega) _
      case measure => have := HI.out; omega
    · obtain rfl : i = s.length := by have := HI.out; omega
      have hi1 : ¬ (s.length : Int) < (s.length : Int) := by omega
      have hi2 : decide ((s.length : Int) < (s.length : Int)) = false := decide_eq_false hi1
      go_wp2_with fail
      refine (new_any (s.length + 1) tv wr).mono ?_
      rintro e w5 ⟨p, rfl, hp, hO, hB5⟩
      obtain ⟨d, hd⟩ : ∃ d, d = w5.heap.size := ⟨_, rfl⟩
      obtain ⟨dv, hdv⟩ : ∃ dv, dv = d + 1 := ⟨_, rfl⟩
      have hs6 : (w5.alloc (.cells #[.slice none 0 0] 32)).heap.size = w5.heap.size + 1 := by simp
      obtain ⟨W6, hW6⟩ : ∃ W6, W6 = (w5.alloc (.cells #[.slice none 0 0] 32)).alloc (.cells #[.pointer (some ⟨d, 0, none⟩)] 29) := ⟨_, rfl⟩
      have L6 : Hid (∃ T : List Int, Liv w.heap.size W6 p d tv tg dv rv T ([] : List (Fin (s.length + 1))) ∧ T.length = s.length + 1 ∧ Mono T ∧ Bnd T 1073741824 ∧ Below w.heap.size w W6) := by
        obtain ⟨T, hT, hpr, hTab, hR, hL⟩ := HS.out
        have U5 : Upd wr w5 (fun _ => False) := Upd.ofB hB5
        have U6 : Upd w5 W6 (fun _ => False) := by rw [hW6]; exact ((Upd.refl w5 _).alloc _).alloc _
        have U := U5.trans U6 (fun _ _ h => h)
        obtain ⟨v, h1, h2, h3⟩ := hO
        have hsz := hL.size
        have hsz5 := U5.size
        have hN := HN.out
        have htg := hTab.row.lt
        refine Lib.hid ⟨T, ⟨⟨v, U6.blk h1 (fun h => h), own_keep h2 U6 (fun _ _ h => h), fun g hg => ?_⟩, ⟨.slice none 0 0, ?_, World.ownsRow_nil _ _ _ _⟩, hTab.upd U (fun h => h) (fun h => h), ⟨29, ?_, by decide, by decide, by decide, by decide, by decide⟩,
          ⟨4, U.blk hR (fun h => h), by decide, by decide, by decide, by decide, by decide⟩, ⟨by omega, by omega, ?_, by omega, by omega, by omega⟩, ?_, ?_, ?_⟩, hT, mono_pre (fun j hj => hpr j (by omega)), fun i x hx => ?_, ?_⟩
        · have := h3 g hg
          omega
        · rw [hW6, hd]
          exact (Blk.new w5 [.slice none 0 0] 32).alloc _
        · rw [hW6, hdv, hd]
          exact Blk.new' hs6.symm
        · have := hTab.var.lt
          have := hN.2.2
          have := hgr0
          omega
        · exact Nat.le_trans hsz (Nat.le_trans U5.size U6.size)
        · intro i j x y hx
          simp at hx
        · exact Nat.zero_le _
        · have hj := hpr i (by have := (List.getElem?_eq_some_iff.1 hx).1; omega)
          rw [hj] at hx
          cases hx
          have := pre_bound H8.out.1 i
          have hi := (List.getElem?_eq_some_iff.1 hj).1
          omega
        · exact hL.trans (U.below hsz (fun _ _ h => h))
      have HD := Lib.hid (And.intro hd hdv)
      clear hO hB5 hp HS
      go_wp2_with fail
      rw [← hd, ← hdv, ← hW6]
      clear hd hdv hs6 hW6
      go_loopg [12] 2 (fun kq v12 w' => ∃ r : Nat, v12 = .int .i64 r ∧ Hid (kq = 2 - r ∧ r ≤ 2) ∧ Hid (∃ (T : List Int) (L : List (Fin (s.length + 1))), Liv w.heap.size w' p d tv tg dv rv T L ∧ T.length = s.length + 1 ∧ Mono T ∧ Bnd T (Mr r) ∧ Below w.heap.size w w'))
      case atStart =>
        obtain ⟨T, h1, h2⟩ := L6.out
        exact ⟨0, rfl, Lib.hid ⟨rfl, Nat.zero_le _⟩, Lib.hid ⟨T, [], h1, h2⟩⟩
      case round =>
        obtain ⟨r, rfl, HI2, HS2⟩ := hrel
        have hr0 : (0 : Int) ≤ (r : Int) := by omega
        by_cases hr : r < 2
        · obtain ⟨T, L, hLiv, hT, hM, hBd, hL⟩ := HS2.out
          have HT := Lib.hid (And.intro hT (And.intro hM hBd))
          have HL0 : Hid (∃ L : List (Fin (s.length + 1)), Liv w.heap.size wr p d tv tg dv rv T L ∧ Below w.heap.size w wr) := Lib.hid ⟨L, hLiv, hL⟩
          clear hLiv hT hM hBd hL
          have hr1 : (r : Int) < 2 := by omega
          have hr2 : decide ((r : Int) < 2) = true := decide_eq_true hr1
          go_wp2_with fail
          go_loopg [13] q.length (fun kq v13 w' => ∃ i : Nat, v13 = .int .i64 i ∧ Hid (kq = q.length - i ∧ i ≤ q.length) ∧ Hid (∃ L : List (Fin (s.length + 1)), Liv w.heap.size w' p d tv tg dv rv T L ∧ Below w.heap.size w w'))
          case atStart => exact ⟨0, rfl, Lib.hid ⟨rfl, Nat.zero_le _⟩, HL0⟩
          case round =>
            obtain ⟨i, rfl, HI3, HS3⟩ := hrel
            have hi0 : (0 : Int) ≤ (i : Int) := by omega
            by_cases hi : i < q.length
            · obtain ⟨L, hLiv, hL⟩ := HS3.out
              obtain ⟨y, hy⟩ : ∃ y, q[i]? = some y := ⟨q[i], List.getElem?_eq_getElem hi⟩
              obtain ⟨g, off, c', e1, _, hc0⟩ := HA.out.2.at_ (j := i) (u := .int .u8 (y : Int)) (by rw [u8s_get, hy]; rfl)
              cases e1
              have hc := (hL.cell (World.block_lt_of_cell? w _ hc0)).trans hc0
              have hy8 : y < 256 := H8.out.2 y (List.mem_of_getElem? hy)
              have h0 := hLiv.tab.var.cell 0
              rw [HT.out.1] at h0
              have hi1 : (i : Int) < (q.length : Int) := by omega
              have hi2 : decide ((i : Int) < (q.length : Int)) = true := decide_eq_true hi1
              have HLv := Lib.hid (And.intro hLiv hL)
              clear hLiv hL hc0 hy
              dsimp only [List.getElem?_cons_zero] at h0
              rcases (show r = 0 ∨ r = 1 by omega) with rfl | rfl
              · go_wp2_with fail
                go_quiet (fail)
                go_wp2_with fail
                obtain ⟨x, hx⟩ : ∃ x : Fin (s.length + 1), (y : Int) % ((s.length : Int) + 1) = ((x.val : Nat) : Int) := ⟨⟨y % (s.length + 1), Nat.mod_lt _ (Nat.succ_pos _)⟩, by simp⟩
                rw [hx]
                clear hx
                have HQ : Hid (Liv w.heap.size (wr.drewN nq) p d tv tg dv rv T L ∧ Below w.heap.size w (wr.drewN nq)) := Lib.hid ⟨HLv.out.1.below (((Upd.refl wr (fun _ => False)).drewN _).below (Nat.le_refl _) (fun _ _ h => h)), HLv.out.2.trans (((Upd.refl wr (fun _ => False)).drewN _).below HLv.out.1.hB (fun _ _ h => h))⟩
                generalize wr.drewN nq = wq at HQ ⊢
                have hdv : wq.cell? ⟨dv, 0, none⟩ = some (.pointer (some ⟨d, 0, none⟩)) := by
                  obtain ⟨t, h, _⟩ := HQ.out.1.dvar
                  exact h.cell 0
                have HQ2 : Liv w.heap.size wq.drew p d tv tg dv rv T L := HQ.out.1.below ((Upd.refl wq (fun _ => False)).drew.below (Nat.le_refl _) (fun _ _ h => h))
                have HB2 : Hid (Below w.heap.size w wq.drew) := Lib.hid HQ.out.2.drew
                have HC := Lib.hid (step_put HQ2 HT.out.1 (by rw [HT.out.1]; omega) HT.out.2.1 x)
                have HSB := Lib.hid (And.intro HQ2.srt HQ2.big)
                clear HQ2 hc h0 HLv HS3
                apply wp_reg2 (fun w' : World => w'.cell? ⟨dv, 0, none⟩ = some (.pointer (some ⟨d, 0, none⟩))) [0, 1, 3, 4, 5] [2, 6] [7, 8, 9, 10, 12, 13] [11, 14, 15, 16] [] (by kernel_rfl) (by kernel_rfl) (fun _ _ d _ _ h => by cases d <;> exact h) hdv
                · iterate 5 (apply reads_consL rfl rfl; (· intro w0 hS; go_simp; try rfl); simp only [Act.put, List.setIfInBounds_toArray, List.set_cons_zero, List.set_cons_succ])
                  exact rfl
                refine pre_consL rfl ?_
                go_wp2_with fail
                refine HC.out.mono ?_
                rintro e w2 ⟨c, L', rfl, hst⟩
                have hd2 : w2.cell? ⟨dv, 0, none⟩ = some (.pointer (some ⟨d, 0, none⟩)) := by
                  obtain ⟨t, h, _⟩ := hst.mid.dvar
                  exact h.cell 0
                have HC2 := Lib.hid (step_ref hst HSB.out.1 HSB.out.2)
                clear hst HC
                go_wp2_with fail
                refine ⟨hd2, pre_consL rfl ?_⟩
                go_wp2_with fail
                refine HC2.out.mono ?_
                rintro e w5' ⟨rfl, hLv, hbl⟩
                have hd3 : w5'.cell? ⟨dv, 0, none⟩ = some (.pointer (some ⟨d, 0, none⟩)) := by
                  obtain ⟨t, h, _⟩ := hLv.dvar
                  exact h.cell 0
                have HL5 := Lib.hid (And.intro hLv (HB2.out.trans hbl))
                clear HC2 hLv hbl hd2
                go_wp2_with fail
                refine ⟨hd3, ?_⟩
                apply pre_last
                · iterate 6 (apply reads_consL rfl rfl; (· intro w0 hS; go_simp; try rfl); simp only [Act.put, List.setIfInBounds_toArray, List.set_cons_zero, List.set_cons_succ])
                  exact rfl
                refine tail_consL rfl ?_
                have HC3 := Lib.hid (rank_any (askN (tv := tv) (tg := tg) HT.out.1 (by rw [HT.out.1]; omega)) p L' x w5' HL5.out.1.tab HL5.out.1.is (sorted_tk HT.out.1 HT.out.2.1 HL5.out.1.srt) HL5.out.1.big)
                go_wp2_with fail
                refine HC3.out.mono ?_
                rintro e w6' ⟨⟨r1, hr1', rfl⟩, hb6⟩
                have HL6 := Lib.hid (And.intro (HL5.out.1.below hb6) (HL5.out.2.trans (hb6.mono HL5.out.1.hB)))
                have HR6 := Lib.hid (rank_it HT.out.1 HT.out.2.1 hr1')
                have hd4 : w6'.cell? ⟨dv, 0, none⟩ = some (.pointer (some ⟨d, 0, none⟩)) := by
                  obtain ⟨t, h, _⟩ := HL6.out.1.dvar
                  exact h.cell 0
                clear hr1' hb6 HC3 hd3
                go_wp2_with fail
                refine ⟨hd4, tail_consL rfl ?_⟩
                have HC4 := Lib.hid (OrdI.rrank_any d (L'.map toIt) (x.val : Int) w6' HL6.out.1.ref (sorted_it HL6.out.1.srt) (by rw [List.length_map]; exact HL6.out.1.big))
                go_wp2_with fail
                refine HC4.out.mono ?_
                rintro e w7' ⟨⟨r2, hr2', rfl⟩, rfl⟩
                have er := OrdI.rank_uniq hr2' HR6.out
                subst er
                clear hr2' HC4
                go_wp2_with fail
                refine ⟨hd4, tail_consL rfl ?_⟩
                go_wp2_with fail
                refine ⟨hd4, tail_consL rfl ?_⟩
                go_wp2_with fail
                refine ⟨hd4, tail_zero ?_⟩
                go_wp2
                go_roundg (q.length - (i + 1))
                case rel => exact ⟨i + 1, by go_num, Lib.hid ⟨rfl, by omega⟩, Lib.hid ⟨L', HL6.out⟩⟩
                case measure => have := HI3.out; omega
              · go_wp2_with fail
                go_quiet (fail)
                go_wp2_with fail
                obtain ⟨x, hx⟩ : ∃ x : Fin (s.length + 1), wrap64 ((s.length : Int) - (y : Int) % ((s.length : Int) + 1)) = ((x.val : Nat) : Int) := by
                  have h1 : y % (s.length + 1) < s.length + 1 := Nat.mod_lt _ (Nat.succ_pos _)
                  refine ⟨⟨s.length - y % (s.length + 1), by omega⟩, ?_⟩
                  have h2 : (y : Int) % ((s.length : Int) + 1) = ((y % (s.length + 1) : Nat) : Int) := by simp
                  rw [h2, Go.IntWalk.wrap64_in _ (by omega)]
                  show _ = ((s.length - y % (s.length + 1) : Nat) : Int)
                  omega
                rw [hx]
                clear hx
                have HQ : Hid (Liv w.heap.size (wr.drewN nq) p d tv tg dv rv T L ∧ Below w.heap.size w (wr.drewN nq)) := Lib.hid ⟨HLv.out.1.below (((Upd.refl wr (fun _ => False)).drewN _).below (Nat.le_refl _) (fun _ _ h => h)), HLv.out.2.trans (((Upd.refl wr (fun _ => False)).drewN _).below HLv.out.1.hB (fun _ _ h => h))⟩
                generalize wr.drewN nq = wq at HQ ⊢
                have hdv : wq.cell? ⟨dv, 0, none⟩ = some (.pointer (some ⟨d, 0, none⟩)) := by
                  obtain ⟨t, h, _⟩ := HQ.out.1.dvar
                  exact h.cell 0
                have HQ2 : Liv w.heap.size wq.drew p d tv tg dv rv T L := HQ.out.1.below ((Upd.refl wq (fun _ => False)).drew.below (Nat.le_refl _) (fun _ _ h => h))
                have HB2 : Hid (Below w.heap.size w wq.drew) := Lib.hid HQ.out.2.drew
                have HC := Lib.hid (step_put HQ2 HT.out.1 (by rw [HT.out.1]; omega) HT.out.2.1 x)
                have HSB := Lib.hid (And.intro HQ2.srt HQ2.big)
                clear HQ2 hc h0 HLv HS3
                apply wp_reg2 (fun w' : World => w'.cell? ⟨dv, 0, none⟩ = some (.pointer (some ⟨d, 0, none⟩))) [0, 1, 3, 4, 5] [2, 6] [7, 8, 9, 10, 12, 13] [11, 14, 15, 16] [] (by kernel_rfl) (by kernel_rfl) (fun _ _ d _ _ h => by cases d <;> exact h) hdv
                · iterate 5 (apply reads_consL rfl rfl; (· intro w0 hS; go_simp; try rfl); simp only [Act.put, List.setIfInBounds_toArray, List.set_cons_zero, List.set_cons_succ])
                  exact rfl
                refine pre_consL rfl ?_
                go_wp2_with fail
                refine HC.out.mono ?_
                rintro e w2 ⟨c, L', rfl, hst⟩
                have hd2 : w2.cell? ⟨dv, 0, none⟩ = some (.pointer (some ⟨d, 0, none⟩)) := by
                  obtain ⟨t, h, _⟩ := hst.mid.dvar
                  exact h.cell 0
                have HC2 := Lib.hid (step_ref hst HSB.out.1 HSB.out.2)
                clear hst HC
                go_wp2_with fail
                refine ⟨hd2, pre_consL rfl ?_⟩
                go_wp2_with fail
                refine HC2.out.mono ?_
                rintro e w5' ⟨rfl, hLv, hbl⟩
                have hd3 : w5'.cell? ⟨dv, 0, none⟩ = some (.pointer (some ⟨d, 0, none⟩)) := by
                  obtain ⟨t, h, _⟩ := hLv.dvar
                  exact h.cell 0
                have HL5 := Lib.hid (And.intro hLv (HB2.out.trans hbl))
                clear HC2 hLv hbl hd2
                go_wp2_with fail
                refine ⟨hd3, ?_⟩
                apply pre_last
                · iterate 6 (apply reads_consL rfl rfl; (· intro w0 hS; go_simp; try rfl); simp only [Act.put, List.setIfInBounds_toArray, List.set_cons_zero, List.set_cons_succ])
                  exact rfl
                refine tail_consL rfl ?_
                have HC3 := Lib.hid (rank_any (askN (tv := tv) (tg := tg) HT.out.1 (by rw [HT.out.1]; omega)) p L' x w5' HL5.out.1.tab HL5.out.1.is (sorted_tk HT.out.1 HT.out.2.1 HL5.out.1.srt) HL5.out.1.big)
                go_wp2_with fail
                refine HC3.out.mono ?_
                rintro e w6' ⟨⟨r1, hr1', rfl⟩, hb6⟩
                have HL6 := Lib.hid (And.intro (HL5.out.1.below hb6) (HL5.out.2.trans (hb6.mono HL5.out.1.hB)))
                have HR6 := Lib.hid (rank_it HT.out.1 HT.out.2.1 hr1')
                have hd4 : w6'.cell? ⟨dv, 0, none⟩ = some (.pointer (some ⟨d, 0, none⟩)) := by
                  obtain ⟨t, h, _⟩ := HL6.out.1.dvar
                  exact h.cell 0
                clear hr1' hb6 HC3 hd3
                go_wp2_with fail
                refine ⟨hd4, tail_consL rfl ?_⟩
                have HC4 := Lib.hid (OrdI.rrank_any d (L'.map toIt) (x.val : Int) w6' HL6.out.1.ref (sorted_it HL6.out.1.srt) (by rw [List.length_map]; exact HL6.out.1.big))
                go_wp2_with fail
                refine HC4.out.mono ?_
                rintro e w7' ⟨⟨r2, hr2', rfl⟩, rfl⟩
                have er := OrdI.rank_uniq hr2' HR6.out
                subst er
                clear hr2' HC4
                go_wp2_with fail
                refine ⟨hd4, tail_consL rfl ?_⟩
                go_wp2_with fail
                refine ⟨hd4, tail_consL rfl ?_⟩
                go_wp2_with fail
                refine ⟨hd4, tail_zero ?_⟩
                go_wp2
                go_roundg (q.length - (i + 1))
                case rel => exact ⟨i + 1, by go_num, Lib.hid ⟨rfl, by omega⟩, Lib.hid ⟨L', HL6.out⟩⟩
                case measure => have := HI3.out; omega
            · obtain rfl : i = q.length := by have := HI3.out; omega
              have hi1 : ¬ (q.length : Int) < (q.length : Int) := by omega
              have hi2 : decide ((q.length : Int) < (q.length : Int)) = false := decide_eq_false hi1
              go_wp2_with fail
              have HS3' : Hid (∃ L : List (Fin (s.length + 1)), Liv w.heap.size wr p d tv tg dv rv (half (b : Int) T 0) L ∧ Below w.heap.size w wr) := by rw [half_zero]; exact HS3
              go_loopg [15] (s.length + 1) (fun kq v15 w' => ∃ i : Nat, v15 = .int .i64 i ∧ Hid (kq = s.length + 1 - i ∧ i ≤ s.length + 1) ∧ Hid (∃ L : List (Fin (s.length + 1)), Liv w.heap.size w' p d tv tg dv rv (half (b : Int) T i) L ∧ Below w.heap.size w w'))
              case atStart => exact ⟨0, rfl, Lib.hid ⟨rfl, Nat.zero_le _⟩, HS3'⟩
              case round =>
                obtain ⟨i, rfl, HI4, HS4⟩ := hrel
                obtain ⟨L, hLiv, hL⟩ := HS4.out
                have h0 := hLiv.tab.var.cell 0
                rw [half_len, HT.out.1] at h0
                dsimp only [List.getElem?_cons_zero] at h0
                have hi0 : (0 : Int) ≤ (i : Int) := by omega
                by_cases hi : i < s.length + 1
                · obtain ⟨x, hx⟩ : ∃ x, T[i]? = some x := ⟨T[i]'(by have := HT.out.1; omega), List.getElem?_eq_getElem _⟩
                  have hx2 : (half (b : Int) T i)[i]? = some x := by rw [half_get, hx]; simp
                  have hc := hLiv.tab.cell hx2
                  have hf : wr.frozen? ⟨tg, i, none⟩ = false := hLiv.tab.row.free _
                  have hbd := HT.out.2.2 i x hx
                  have hbd2 : -1099511627776 ≤ x ∧ x ≤ 1099511627776 := by
                    rcases (show r = 0 ∨ r = 1 by omega) with rfl | rfl
                    · have : Mr 0 = 1073741824 := rfl
                      omega
                    · have : Mr 1 = 1099511627776 := rfl
                      omega
                  clear hbd
                  have htb := turn_bound (b := (b : Int)) (i := i) (by omega) (by omega) hbd2.1 hbd2.2 (by omega)
                  have hmul : -281474976710656 - 3000000 ≤ x * (1 + (b : Int)) ∧ x * (1 + (b : Int)) ≤ 281474976710656 + 3000000 := by
                    unfold turn at htb
                    omega
                  have HTU : Hid (turn (b : Int) i x = x * (1 + (b : Int)) + (i : Int) - 1000) := Lib.hid rfl
                  have HX := Lib.hid hx
                  have HLv := Lib.hid (And.intro hLiv hL)
                  clear hLiv hL hx2 hx htb
                  have hi1 : (i : Int) < (s.length : Int) + 1 := by omega
                  have hi2 : decide ((i : Int) < (s.length : Int) + 1) = true := decide_eq_true hi1
                  have hw1 : IntKind.i64.wrap (1 + (b : Int)) = 1 + (b : Int) := w64 _ (by omega)
                  have hw2 : IntKind.i64.wrap (x * (1 + (b : Int))) = x * (1 + (b : Int)) := w64 _ (by omega)
                  generalize hm : x * (1 + (b : Int)) = m at *
                  have hw3 : IntKind.i64.wrap (m + (i : Int)) = m + (i : Int) := w64 _ (by omega)
                  have hw4 : IntKind.i64.wrap (m + (i : Int) - 1000) = m + (i : Int) - 1000 := w64 _ (by omega)
                  go_wp2_with fail
                  apply wp_reg (fun w' : World => w'.cell? ⟨tv, 0, none⟩ = some (.slice (some ⟨tg, 0, none⟩) (s.length + 1) (s.length + 1)) ∧ w'.cell? ⟨tg, i, none⟩ = some (.int .i64 x)) [0, 1, 2, 3, 4, 5, 6, 7, 8, 9, 10, 11, 12, 13] [] [14] (by kernel_rfl) (by kernel_rfl) (fun _ _ d _ _ h => by cases d <;> exact h) ⟨h0, hc⟩
                  · iterate 14 (apply reads_consL rfl rfl; (· intro w0 hS; obtain ⟨hS1, hS2⟩ := hS; go_simp; try rfl); simp only [Act.put, List.setIfInBounds_toArray, List.set_cons_zero, List.set_cons_succ])
                    exact rfl
                  refine tail_oneL rfl ?_
                  go_wp2
                  go_roundg (s.length + 1 - (i + 1))
                  case rel =>
                    refine ⟨i + 1, by go_num, Lib.hid ⟨rfl, by omega⟩, Lib.hid ⟨L, ?_, Below.setCell HLv.out.2.drew (HLv.out.1.low.2.2.2.1) _⟩⟩
                    rw [← half_set _ _ _ _ HX.out, HTU.out]
                    exact Liv.set (w := wr.drew) (HLv.out.1.below ((Upd.refl wr (fun _ => False)).drew.below (Nat.le_refl _) (fun _ _ h => h))) _ _
                  case measure => have := HI4.out; omega
                · obtain rfl : i = s.length + 1 := by have := HI4.out; omega
                  have hi1 : ¬ ((s.length + 1 : Nat) : Int) < (s.length : Int) + 1 := by omega
                  have hi2 : decide (((s.length + 1 : Nat) : Int) < (s.length : Int) + 1) = false := decide_eq_false hi1
                  have HLv := Lib.hid (And.intro hLiv hL)
                  clear hLiv hL
                  go_wp2
                  go_roundg (2 - (r + 1))
                  case rel =>
                    refine ⟨r + 1, by go_num, Lib.hid ⟨rfl, by omega⟩, Lib.hid ⟨half (b : Int) T (s.length + 1), L, HLv.out.1, by rw [half_len]; exact HT.out.1, ?_, ?_, HLv.out.2⟩⟩
                    · have := half_all_mono (b := (b : Int)) (by omega) HT.out.2.1
                      rw [HT.out.1] at this
                      exact this
                    · have h8 := half_bnd (b := (b : Int)) (by omega) (by omega) HT.out.2.2 (by rw [HT.out.1]; omega) (by rcases (show r = 0 ∨ r = 1 by omega) with rfl | rfl <;> decide) (s.length + 1)
                      intro i x hx
                      have h9 := h8 i x hx
                      rcases (show r = 0 ∨ r = 1 by omega) with rfl | rfl
                      · have e1 : Mr 0 = 1073741824 := rfl
                        have e2 : Mr (0 + 1) = 1099511627776 := rfl
                        omega
                      · have e1 : Mr 1 = 1099511627776 := rfl
                        have e2 : Mr (1 + 1) = 1125899906842624 := rfl
                        omega
                  case measure => have := HI2.out; omega
        · have hr1 : ¬ (r : Int) < 2 := by omega
          have hr2 : decide ((r : Int) < 2) = false := decide_eq_false hr1
          have HA2 := Lib.hid (all_any p)
          obtain ⟨T, L, hLiv, hT, hM, hBd, hL⟩ := HS2.out
          have HF := Lib.hid (And.intro hLiv hL)
          clear hLiv hT hM hBd hL
          go_wp2_with fail
          refine (HA2.out _).mono ?_
          rintro e w9 ⟨rfl, rfl⟩
          obtain ⟨nv, hnv⟩ : ∃ nv, nv = wr.heap.size := ⟨_, rfl⟩
          obtain ⟨bx, hbx⟩ : ∃ bx, bx = nv + 1 := ⟨_, rfl⟩
          have hs8 : (wr.alloc (.cells #[.int .i64 0] 3)).heap.size = nv + 1 := by simp [hnv]
          obtain ⟨W9, hW9⟩ : ∃ W9, W9 = (wr.alloc (.cells #[.int .i64 0] 3)).alloc (.cells #[.pointer (some ⟨p, 0, none⟩)] 24) := ⟨_, rfl⟩
          have U9 : Upd wr W9 (fun _ => False) := by rw [hW9]; exact ((Upd.refl wr _).alloc _).alloc _
          have N9 : Blk W9 nv [.int .i64 0] 3 := by rw [hW9, hnv]; exact (Blk.new wr _ _).alloc _
          have X9 : Blk W9 bx [.pointer (some ⟨p, 0, none⟩)] 24 := by rw [hW9, hbx]; exact Blk.new' hs8.symm
          have z9 : W9.heap.size = nv + 1 + 1 := by rw [hW9]; simp [hnv]
          rw [hs8, ← hbx, ← hW9, ← hnv]
          have H9 := Lib.hid (And.intro U9 (And.intro N9 (And.intro X9 z9)))
          have HNV := Lib.hid (And.intro hnv hbx)
          clear U9 N9 X9 z9 hW9 hs8 hbx hnv HA2
          go_wp2_with fail
          refine (wpIn_wide (n := 9)).1 ?_
          have hO9 : OrdIs tv W9 p L := (HF.out.1.below (H9.out.1.below (Nat.le_refl _) (fun _ _ h => h))).is
          have hIown : OwnFrom W9.heap.size (fun (pre : List (Nat × Fin (s.length + 1))) (W : World) => (Blk W nv [.int .i64 (pre.length : Int)] 3 ∧ pre.map Prod.snd <+: L) ∧ Below nv wr W) := by
            refine OwnFrom.and (fun pre A C row hs hg hr => ⟨blk_grown hs.1 (B := W9.heap.size) (by have := H9.out.2.2.2; omega) hg (fun r e => (hr r e).1), hs.2⟩) (ownFrom_below (by have := HNV.out.1; omega) (by have := H9.out.2.2.2; omega))
          refine wpIn_rangeFunc_ownG (n := 9) (F := Fence.wide) rfl (by decide) (gf := 56) (lb := #[.pointer (some ⟨bx, 0, none⟩)]) rfl trivial (enters_of Try.func56 (by kernel_rfl) rfl)
            (all_stops bx p L HF.out.1.big W9 (H9.out.2.2.1.cell 0) hO9 (Below nv) (fun W W' v hv hk hR => hR.keep (Upd.from hk) (fun g hg => ?keep))) belowK_t (belowK_b (by have := H9.out.2.2.2; omega)) (Below.refl _ _) (fun _ => rfl)
            (fun pre W => (Blk W nv [.int .i64 (pre.length : Int)] 3 ∧ pre.map Prod.snd <+: L) ∧ Below nv wr W) (fun _ pre _ => ¬ pre.map Prod.snd <+: L)
            hIown (fun c s A C row hs _ _ => hs) ⟨⟨H9.out.2.1, by simp⟩, ?below⟩ ?a1 ?assign ?body ?done ?stop
          case assign =>
            intro l x W K hK
            unfold enc
            gi_wp2
            exact hK
          case keep =>
            obtain ⟨v0, b1, b2, _⟩ := HF.out.1.ord
            have e1 : W9.cell? ⟨p, 1, none⟩ = some v0 := (H9.out.1.blk b1 (fun h => h)).cell 1
            have e2 : v = v0 := Option.some.inj (hv.symm.trans e1)
            subst e2
            have := own_lt b2 hg
            have := HNV.out.1
            omega
          case below => exact H9.out.1.below (by have := HNV.out.1; omega) (fun _ _ h => h)
          case body =>
            rintro l pre x W ⟨⟨hNB, hpre⟩, hBl⟩ hlt
            have hO := HF.out.1.below (hBl.mono (by have := HNV.out.1; omega))
            obtain ⟨y, hy⟩ : ∃ y, L[pre.length]? = some y := ⟨L[pre.length], List.getElem?_eq_getElem hlt⟩
            have hyI : (L.map toIt)[pre.length]? = some (toIt y) := by rw [List.getElem?_map, hy]; rfl
            obtain ⟨td, hd1, _⟩ := hO.dvar
            have k0 : W.cell? ⟨dv, 0, none⟩ = some (.pointer (some ⟨d, 0, none⟩)) := hd1.cell 0
            obtain ⟨vr, hr1', hr2'⟩ := hO.ref
            obtain ⟨g, off, c', rfl, hcc, kc, _⟩ := OrdI.it_at (Rd.ofOwn hr2') hyI
            have k1 : W.cell? ⟨d, 0, none⟩ = some (.slice (some ⟨g, off, none⟩) (L.map toIt).length c') := hr1'.cell 0
            rw [List.length_map] at k1
            have kc2 : W.cell? ⟨g, off + pre.length * 2, none⟩ = some (.int .i64 (y.val : Int)) := kc
            have kn : W.cell? ⟨nv, 0, none⟩ = some (.int .i64 (pre.length : Int)) := hNB.cell 0
            have kf : W.frozen? ⟨nv, 0, none⟩ = false := hNB.free 0
            obtain ⟨tr, hr3, _⟩ := hO.res
            have kr : W.cell? ⟨rv, 0, none⟩ = some (.bool false) := hr3.cell 0
            have krf : W.frozen? ⟨rv, 0, none⟩ = false := hr3.free 0
            have HY := Lib.hid (And.intro hy (And.intro hpre (And.intro hNB hBl)))
            have hbig := hO.big
            clear hd1 hr1' hr2' kc hyI hO hr3 hNB hBl hpre hcc
            obtain ⟨m, hm⟩ : ∃ m, m = pre.length := ⟨_, rfl⟩
            have hm0 : (0 : Int) ≤ (m : Int) := by omega
            have hm1 : (m : Int) < (L.length : Int) := by omega
            have hm2 : ¬ (m : Int) ≥ (L.length : Int) := by omega
            have hm3 : decide ((m : Int) ≥ (L.length : Int)) = false := decide_eq_false hm2
            have hm4 : decide ((L.length : Int) ≤ (m : Int)) = false := decide_eq_false hm2
            have hm5 : ¬ (L.length : Int) ≤ (m : Int) := by omega
            have hm6 : ¬ L.length ≤ m := by omega
            have hm7 : m < L.length := by omega
            rw [← hm] at kn kc2
            have HM := Lib.hid hm
            clear hm hy hlt
            have hreads : True := trivial
            by_cases hk : y = x.2
            · have dk : ((y.val : Int) != (x.2.val : Int)) = false := by rw [hk]; simp
              have HK := Lib.hid hk
              clear hk
              gi_wp2_with fail
              apply wpIn_reg (fun w' : World => w'.cell? ⟨dv, 0, none⟩ = some (.pointer (some ⟨d, 0, none⟩)) ∧ w'.cell? ⟨d, 0, none⟩ = some (.slice (some ⟨g, off, none⟩) L.length c') ∧ w'.cell? ⟨g, off + m * 2, none⟩ = some (.int .i64 (y.val : Int)) ∧ w'.cell? ⟨nv, 0, none⟩ = some (.int .i64 (m : Int))) [0, 1, 2, 3, 4, 5, 6, 7, 8, 9, 10, 11, 12, 13, 14, 15, 16, 17, 18] [] [] (by rintro ⟨a, w, h⟩; exact h) (by kernel_rfl) (by kernel_rfl) (by kernel_rfl) (fun _ _ d _ _ h => by cases d <;> exact h) ⟨k0, k1, kc2, kn⟩
              · iterate 19 (apply reads_consL rfl rfl; (· intro w0 hS; obtain ⟨hS1, hS2, hS3, hS4⟩ := hS; go_simp; try rfl); simp only [Act.put, List.setIfInBounds_toArray, List.set_cons_zero, List.set_cons_succ])
                exact rfl
              refine tail_zero ?_
              gi_wp2
              obtain ⟨hy, hpre, hNB, hBl⟩ := HY.out
              have hm := HM.out
              have hB2 : Below nv W ((W.setCell ⟨nv, 0, none⟩ (.int .i64 ((m : Int) + 1))).drew) := ((Below.refl nv W).setCell (p := ⟨nv, 0, none⟩) (Nat.le_refl _) _).drew
              refine ⟨⟨(KeepsOthers.setCell W ⟨nv, 0, none⟩ _).size, fun k o _ hk ho => (KeepsOthers.setCell W ⟨nv, 0, none⟩ _).same k o hk ho⟩, hB2, ⟨?_, ?_⟩, hBl.trans hB2⟩
              · have := hNB.set 0 (.int .i64 ((m : Int) + 1))
                have e : (((pre ++ [x]).length : Nat) : Int) = (m : Int) + 1 := by rw [List.length_append, hm]; rfl
                rw [e]
                exact this
              · rw [List.map_append, List.map_cons, List.map_nil, List.prefix_iff_eq_take.1 hpre, List.length_map, ← HK.out]
                have : L.take pre.length ++ [y] = L.take (pre.length + 1) := by rw [List.take_add_one, hy]; rfl
                rw [this]
                exact List.take_prefix _ _
            · have dk : ((y.val : Int) != (x.2.val : Int)) = true := by rw [bne_iff_ne]; intro e; exact hk (Fin.ext (by omega))
              have HK := Lib.hid hk
              clear hk
              gi_wp2_with fail
              apply wpIn_reg (fun w' : World => w'.cell? ⟨dv, 0, none⟩ = some (.pointer (some ⟨d, 0, none⟩)) ∧ w'.cell? ⟨d, 0, none⟩ = some (.slice (some ⟨g, off, none⟩) L.length c') ∧ w'.cell? ⟨g, off + m * 2, none⟩ = some (.int .i64 (y.val : Int)) ∧ w'.cell? ⟨nv, 0, none⟩ = some (.int .i64 (m : Int))) [0, 1, 2, 3, 4, 5, 6, 7, 8, 9, 10, 11, 12, 13, 14, 15, 16, 17, 18] [] [] (by rintro ⟨a, w, h⟩; exact h) (by kernel_rfl) (by kernel_rfl) (by kernel_rfl) (fun _ _ d _ _ h => by cases d <;> exact h) ⟨k0, k1, kc2, kn⟩
              · iterate 19 (apply reads_consL rfl rfl; (· intro w0 hS; obtain ⟨hS1, hS2, hS3, hS4⟩ := hS; go_simp; try rfl); simp only [Act.put, List.setIfInBounds_toArray, List.set_cons_zero, List.set_cons_succ])
                exact rfl
              refine tail_zero ?_
              gi_wp2
              obtain ⟨hy, hpre, hNB, hBl⟩ := HY.out
              refine ⟨⟨(KeepsOthers.setCell W ⟨rv, 0, none⟩ _).size, fun k o _ hk ho => (KeepsOthers.setCell W ⟨rv, 0, none⟩ _).same k o hk ho⟩, fun hp2 => HK.out ?_⟩
              obtain ⟨t, ht⟩ := hp2
              rw [← ht, List.map_append, List.append_assoc, List.getElem?_append_right (by simp)] at hy
              simp at hy
              exact hy.symm
          case done =>
            rintro D xs W hD rfl ⟨⟨hNB, _⟩, hBl⟩ hK
            have hO := HF.out.1.below (hBl.mono (by have := HNV.out.1; omega))
            rw [en_len] at hNB
            obtain ⟨td, hd1, _⟩ := hO.dvar
            have k0 : W.cell? ⟨dv, 0, none⟩ = some (.pointer (some ⟨d, 0, none⟩)) := hd1.cell 0
            obtain ⟨vr, hr1', hr2'⟩ := hO.ref
            obtain ⟨ar, cr, rfl, hcr⟩ := (Rd.ofOwn hr2').form
            have k1 : W.cell? ⟨d, 0, none⟩ = some (.slice ar (L.map toIt).length cr) := hr1'.cell 0
            rw [List.length_map] at k1
            have kn : W.cell? ⟨nv, 0, none⟩ = some (.int .i64 (L.length : Int)) := hNB.cell 0
            obtain ⟨tr, hr3, _⟩ := hO.res
            have kr : W.cell? ⟨rv, 0, none⟩ = some (.bool false) := hr3.cell 0
            have krf : W.frozen? ⟨rv, 0, none⟩ = false := hr3.free 0
            have HLn := Lib.hid (len_any p L W.drew (hO.is.below ((Upd.refl W (fun _ => False)).drew.below (Nat.le_refl _) (fun _ _ h => h))))
            have HE := Lib.hid (And.intro hBl (And.intro hK hD))
            clear hNB hO hd1 hr1' hr2' hr3 hBl hcr hK hD
            dsimp only
            go_wp2_with fail
            apply wp_reg2 (fun w' : World => w'.cell? ⟨dv, 0, none⟩ = some (.pointer (some ⟨d, 0, none⟩)) ∧ w'.cell? ⟨d, 0, none⟩ = some (.slice ar L.length cr) ∧ w'.cell? ⟨nv, 0, none⟩ = some (.int .i64 (L.length : Int))) [0, 1, 2, 3, 4, 5, 6, 7, 8, 10] [9] [11, 12] [] [13] (by kernel_rfl) (by kernel_rfl) (fun _ _ d _ _ h => by cases d <;> exact h) ⟨k0, k1, kn⟩
            · iterate 10 (apply reads_consL rfl rfl; (· intro w0 hS; obtain ⟨hS1, hS2, hS3⟩ := hS; go_simp; try rfl); simp only [Act.put, List.setIfInBounds_toArray, List.set_cons_zero, List.set_cons_succ])
              exact rfl
            refine pre_consL rfl ?_
            go_wp2_with fail
            refine HLn.out.mono ?_
            rintro e w2 ⟨rfl, rfl⟩
            go_wp2_with fail
            refine ⟨⟨k0, k1, kn⟩, ?_⟩
            apply pre_last
            · iterate 2 (apply reads_consL rfl rfl; (· intro w0 hS; obtain ⟨hS1, hS2, hS3⟩ := hS; go_simp; try rfl); simp only [Act.put, List.setIfInBounds_toArray, List.set_cons_zero, List.set_cons_succ])
              exact rfl
            refine tail_oneL rfl ?_
            go_wp2
            obtain ⟨hBl, hK, hD⟩ := HE.out
            have hK2 : ((W.setCell ⟨rv, 0, none⟩ (.bool true)).drew).heap[D]? = some (.deferred (some [])) := (KeepsOthers.setCell W ⟨rv, 0, none⟩ (.bool true)).same D _ hK rfl
            refine ⟨by simp, .inl ⟨_, _, rfl, run_takeDeferred hK2, ?_⟩⟩
            have hc1 : ((W.setCell ⟨rv, 0, none⟩ (.bool true)).drew).cell? ⟨rv, 0, none⟩ = some (.bool true) := World.cell?_setCell_same' W ⟨rv, 0, none⟩ (.bool true) (by rw [kr]; rfl)
            have hres := cell_kept hc1 (grownBy_putObj' _ D (.deferred none)) (fun r e => by cases e; exact ⟨_, hK2, rfl⟩)
            have hBw : Below w.heap.size w (((W.setCell ⟨rv, 0, none⟩ (.bool true)).drew).putObj D (.deferred none)) := by
              have h1 := HF.out.2
              have h2 : Below w.heap.size wr W := hBl.mono (by have := HF.out.1.hB; have := HNV.out.1; omega)
              have h3 : Below w.heap.size w W := h1.trans h2
              have h4 := (h3.setCell (p := ⟨rv, 0, none⟩) (HF.out.1.low.2.2.2.2.2) (.bool true)).drew
              refine h4.grown (grownBy_putObj' _ D (.deferred none)) h4.size (fun k e => ?_)
              cases e
              have := H9.out.1.size
              have := HF.out.1.hB
              omega
            simp [LeavesInM, LeavesIn, settle, results, Try.results3, go_sem, hres, LivePost]
            exact hBw
          case stop =>
            rintro D c pre W hD hpre hno hK
            exact (hno (by
              obtain ⟨t, ht⟩ := hpre
              refine ⟨t.map Prod.snd, ?_⟩
              rw [← List.map_append, ht, en_snd])).elim
end

end OrdN
end Go.Proofs.Ytnhgeoccknhiiaa
