/- The document's Merge. -/
import Derived.Test.YtnhgeoccknhiiaaMergeA
import Derived.Test.YtnhgeoccknhiiaaTurned
namespace Go.Proofs.Ytnhgeoccknhiiaa
open Go.RowKit
namespace OrdI

theorem mergeAll_take {ls : List (List It)} {i : Nat} {l : List It} (h : ls[i]? = some l) : mergeAll (ls.take (i + 1)) = merge2 (mergeAll (ls.take i)) l := by
  unfold mergeAll
  rw [List.take_add_one, h, List.foldl_append]
  rfl

/-- While one list is merged in. -/
structure Rm (w : World) (R l : List It) (M : List It) (k j : Nat) (v6 v8 : Value) (W : World) : Prop where
  r : OwnNew w W v6 R
  m : OwnNew w W v8 M
  apart : ∀ g, v8.ownBlock = some g → v6.ownBlock ≠ some g
  sum : M ++ merge2 (R.drop k) (l.drop j) = merge2 R l
  kle : k ≤ R.length
  jle : j ≤ l.length
section
variable {w W W8 W9 : World} {R l M : List It} {k j : Nat} {v6 v8 v2 : Value} {x : It}
theorem OwnNew.grow {W' : World} {v : Value} (h : OwnNew w W v M) (U : Upd W W' (fun _ => False)) : OwnNew w W' v M := ⟨own_keep h.1 U (fun _ _ h => h), h.2.1.trans U (fun _ _ h => h), h.2.2⟩
theorem Rm.grow (h : Rm w R l M k j v6 v8 W) (U : Upd W W8 (fun _ => False)) : Rm w R l M k j v6 v8 W8 := ⟨h.r.grow U, h.m.grow U, h.apart, h.sum, h.kle, h.jle⟩
theorem Rm.below (h : Rm w R l M k j v6 v8 W) : Below w.heap.size w W := h.r.2.1.below (Nat.le_refl _) (fun _ _ h => h)
theorem Rm.len (h : Rm w R l M k j v6 v8 W) : M.length + (R.length - k) + (l.length - j) = R.length + l.length := by
  have e := congrArg List.length h.sum
  rw [List.length_append, merge2_len, merge2_len, List.length_drop, List.length_drop] at e
  omega
theorem Rm.snoc (h : Rm w R l M k j v6 v8 W) (T1 : Upd W W8 (fun _ => False)) (hA : AppPost W8 36 2 v8 M.length (cells M) 1 (icells x) v2 W9) {k' j' : Nat} (hs : M ++ x :: merge2 (R.drop k') (l.drop j') = merge2 R l) (hk : k' ≤ R.length) (hj : j' ≤ l.length) :
    Rm w R l (M ++ [x]) k' j' v6 v2 W9 := by
  have hm := h.m.snoc T1 hA
  obtain ⟨_, U9, b9⟩ := hA
  refine ⟨⟨own_keep (own_keep h.r.1 T1 (fun _ _ h => h)) U9 (fun g hg e => h.apart g e hg), hm.2.1, h.r.2.2⟩, hm, fun g hg e => ?_, by rw [List.append_assoc]; exact hs, hk, hj⟩
  rcases b9 with e2 | e2
  · exact h.apart g (e2 ▸ hg) e
  · have h1 := ob_some (e2.symm.trans hg)
    have h2 := own_lt h.r.1 e
    have := T1.size
    omega
theorem Rm.fromR (h : Rm w R l M k j v6 v8 W) {a b : It} (ha : R[k]? = some a) (hb : l[j]? = some b) (hle : a.k ≤ b.k) : M ++ a :: merge2 (R.drop (k + 1)) (l.drop j) = merge2 R l := by
  have e := h.sum
  rw [drop_cons ha, drop_cons hb, merge2_le hle, ← drop_cons hb] at e
  exact e
theorem Rm.fromL (h : Rm w R l M k j v6 v8 W) {b : It} (hb : l[j]? = some b) (hr : ∀ a, R[k]? = some a → ¬ a.k ≤ b.k) : M ++ b :: merge2 (R.drop k) (l.drop (j + 1)) = merge2 R l := by
  have e := h.sum
  cases hk : R[k]? with
  | none =>
    have hd : R.drop k = [] := List.drop_eq_nil_of_le (by
      rcases Nat.lt_or_ge k R.length with h' | h'
      · rw [List.getElem?_eq_getElem h'] at hk
        cases hk
      · exact h')
    rw [hd, merge2_left] at e
    rw [hd, merge2_left, ← drop_cons hb]
    exact e
  | some a =>
    rw [drop_cons hk, drop_cons hb, merge2_gt (hr a hk), ← drop_cons hk] at e
    exact e
theorem Rm.last (h : Rm w R l M k l.length v6 v8 W) : M ++ R.drop k = merge2 R l := by
  have e := h.sum
  rw [List.drop_length, merge2_nil] at e
  exact e
end

set_option maxRecDepth 100000 in
set_option maxHeartbeats 2000000 in
theorem rmerge_any (v : Value) (ls : List (List It)) (w : World) (h : RdL w v ls) (hl : ls.length * 24 ≤ 140737488351232) (hle : ∀ l ∈ ls, l.length * 16 ≤ 140737488351232) :
    Calls Try.prog 30 #[v] w (MergePost w ls) := by
  obtain ⟨a, c, rfl, hc⟩ := h.form
  have HR := Lib.hid h
  have HLE := Lib.hid hle
  clear h hle
  go_enter Try.func30, Try.ntmps30
  go_wp2_with fail
  go_loopg [4, 5] ls.length (fun kq v4 v5 w' => ∃ i : Nat, v5 = .int .i64 i ∧ v4 = .int .i64 (total (ls.take i) : Nat) ∧ Hid (kq = ls.length - i ∧ i ≤ ls.length) ∧ Hid (total (ls.take i) ≤ 8192) ∧ Hid (w' = w))
  case atStart => exact ⟨0, rfl, rfl, Lib.hid ⟨rfl, Nat.zero_le _⟩, Lib.hid (Nat.zero_le _), Lib.hid rfl⟩
  case round =>
    obtain ⟨i, rfl, rfl, HI, HT, HW⟩ := hrel
    have hw := HW.out.symm
    subst hw
    have hi0 : (0 : Int) ≤ (i : Int) := by omega
    by_cases hi : i < ls.length
    · obtain ⟨l, hll⟩ : ∃ l, ls[i]? = some l := ⟨ls[i], List.getElem?_eq_getElem hi⟩
      obtain ⟨g, off, c', a2, c2, e1, hcell, hrd⟩ := rdl_at HR.out hll
      cases e1
      have hi1 : (i : Int) < (ls.length : Int) := by omega
      have hi2 : decide ((i : Int) < (ls.length : Int)) = true := decide_eq_true hi1
      have hts := total_take_succ hll
      have htl := total_take_le ls (i + 1)
      have hlen := HLE.out l (List.mem_of_getElem? hll)
      obtain ⟨T, hT⟩ : ∃ T, T = total (ls.take i) := ⟨_, rfl⟩
      have hT8 : T ≤ 8192 := by rw [hT]; exact HT.out
      rw [← hT] at hts ⊢
      have hw1 : IntKind.i64.wrap ((T : Int) + (l.length : Int)) = (T : Int) + (l.length : Int) := by rw [IntKind.wrap_i64]; omega
      have HS := Lib.hid (And.intro hts htl)
      clear hT hrd hll hts htl
      by_cases hsm : T + l.length ≤ 8192
      · have HSM := Lib.hid hsm
        have hg2 : ¬ (8192 : Int) < (T : Int) + (l.length : Int) := by omega
        have hg : decide ((8192 : Int) < (T : Int) + (l.length : Int)) = false := decide_eq_false hg2
        go_wp2
        go_roundg (ls.length - (i + 1))
        case rel =>
          obtain ⟨h1, h2⟩ := HS.out
          refine ⟨i + 1, by go_num, congrArg (Value.int .i64) ?_, Lib.hid ⟨rfl, by omega⟩, Lib.hid (by rw [h1]; exact HSM.out), Lib.hid rfl⟩
          rw [h1]
          rfl
        case measure => have := HI.out; omega
      · have hg2 : (8192 : Int) < (T : Int) + (l.length : Int) := by omega
        have hg : decide ((8192 : Int) < (T : Int) + (l.length : Int)) = true := decide_eq_true hg2
        go_wp2
        go_ret2
        exact Or.inl ⟨by have := HS.out; omega, rfl, Below.refl _ _⟩
    · obtain rfl : i = ls.length := by have := HI.out; omega
      have hi1 : ¬ (ls.length : Int) < (ls.length : Int) := by omega
      have hi2 : decide ((ls.length : Int) < (ls.length : Int)) = false := decide_eq_false hi1
      rw [List.take_length]
      have hT8 : total ls ≤ 8192 := by have := HT.out; rw [List.take_length] at this; exact this
      have hle8 : Hid (∀ (i : Nat) (l : List It), ls[i]? = some l → l.length ≤ 8192) := Lib.hid (fun i l h => by
        have h1 := total_take_succ h
        have h2 := total_take_le ls (i + 1)
        omega)
      obtain ⟨g0, hg0⟩ : ∃ g0, g0 = w.heap.size := ⟨_, rfl⟩
      clear HT HI
      go_wp2_with fail
      rw [← hg0]
      have S0 : Hid (OwnNew w (w.alloc (.cells #[] 36)) (.slice (some ⟨g0, 0, none⟩) 0 0) []) := Lib.hid ⟨own_lit_sz hg0, (Upd.refl w _).alloc _, fun g hg => by have := ob_eq hg; omega⟩
      clear hg0
      generalize World.alloc _ _ = W0 at S0 ⊢
      go_loopg [6, 7] ls.length (fun kq v6 v7 w' => ∃ i : Nat, v7 = .int .i64 i ∧ Hid (kq = ls.length - i ∧ i ≤ ls.length) ∧ Hid (∀ (j : Nat) (l : List It), j < i → ls[j]? = some l → Rises l) ∧ Hid (OwnNew w w' v6 (mergeAll (ls.take i))))
      case atStart => exact ⟨0, rfl, Lib.hid ⟨rfl, Nat.zero_le _⟩, Lib.hid (fun j l h => by omega), S0⟩
      case round =>
        clear S0
        obtain ⟨i, rfl, HI, HK, HO⟩ := hrel
        have hi0 : (0 : Int) ≤ (i : Int) := by omega
        obtain ⟨R, hR⟩ : ∃ R, R = mergeAll (ls.take i) := ⟨_, rfl⟩
        have HRR := Lib.hid hR
        have hRl : R.length ≤ 8192 := by
          have := total_take_le ls i
          rw [hR, mergeAll_len]
          omega
        rw [← hR] at HO
        clear hR
        obtain ⟨ar, cr, rfl, _⟩ := HO.out.rd.form
        by_cases hi : i < ls.length
        · obtain ⟨l, hll⟩ : ∃ l, ls[i]? = some l := ⟨ls[i], List.getElem?_eq_getElem hi⟩
          obtain ⟨g, off, c', a2, c2, e1, hcell, hrd⟩ := rdl_at HR.out hll
          cases e1
          have hi1 : (i : Int) < (ls.length : Int) := by omega
          have hi2 : decide ((i : Int) < (ls.length : Int)) = true := decide_eq_true hi1
          have hl8 := hle8.out i l hll
          have keep : Hid (∀ w', Below w.heap.size w w' → w'.cell? ⟨g, off + i, none⟩ = some (.slice a2 l.length c2) ∧ Rd w' (.slice a2 l.length c2) l.length 2 (cells l)) := Lib.hid (fun w' hb => ⟨(hb.cell (World.block_lt_of_cell? w _ hcell)).trans hcell, hrd.keep (Upd.ofBelow (F := fun _ => False) hb) (fun _ _ h => h)⟩)
          have hB : Below w.heap.size w wr := HO.out.2.1.below (Nat.le_refl _) (fun _ _ h => h)
          obtain ⟨q1, q2⟩ := keep.out wr hB
          have HC := Lib.hid (rrises_any (.slice a2 l.length c2) l _ q2 hl8)
          have HLL := Lib.hid hll
          clear hrd hll hcell hB q2
          go_wp2_with fail
          refine HC.out.mono ?_
          rintro e w4 ⟨⟨b, rfl, hb⟩, hb4⟩
          have HO4 : Hid (OwnNew w w4 (.slice ar R.length cr) R) := Lib.hid (HO.out.grow (Upd.ofBelow hb4))
          have HBB := Lib.hid hb
          clear HC hb hb4 q1 HO
          cases b
          · go_wp2
            go_ret2
            exact Or.inr (Or.inl ⟨hT8, fun h => (by have := HBB.out.2 (h l (List.mem_of_getElem? HLL.out)); first | cases this | exact this), rfl, HO4.out.2.1.below (Nat.le_refl _) (fun _ _ h => h)⟩)
          · have hRs : Hid (Rises l) := Lib.hid (HBB.out.1 (by trivial))
            clear HBB
            obtain ⟨g1, hg1⟩ : ∃ g1, g1 = w4.heap.size := ⟨_, rfl⟩
            go_wp2_with fail
            rw [← hg1]
            have S0 : Hid (Rm w R l [] 0 0 (.slice ar R.length cr) (.slice (some ⟨g1, 0, none⟩) 0 0) (w4.alloc (.cells #[] 36))) := by
              have U1 : Upd w4 (w4.alloc (.cells #[] 36)) (fun _ => False) := (Upd.refl w4 _).alloc _
              have hs := HO4.out.2.1.size
              refine Lib.hid ⟨HO4.out.grow U1, ⟨own_lit_sz hg1, HO4.out.2.1.trans U1 (fun _ _ h => h), fun g hg => by have := ob_eq hg; omega⟩, fun g hg e => ?_, by simp, Nat.zero_le _, Nat.zero_le _⟩
              have := own_lt HO4.out.1 e
              have := ob_eq hg
              omega
            clear hg1
            generalize World.alloc _ _ = W5 at S0 ⊢
            go_loopg [8, 9, 10] l.length (fun kq v8 v9 v10 w' => ∃ (j k : Nat) (M : List It), v10 = .int .i64 j ∧ v9 = .int .i64 k ∧ Hid (kq = l.length - j) ∧ Hid (Rm w R l M k j (.slice ar R.length cr) v8 w'))
            case atStart => exact ⟨0, 0, [], rfl, rfl, Lib.hid rfl, S0⟩
            case round =>
              clear S0 HO4
              obtain ⟨j, k, M, rfl, rfl, HJ, HM⟩ := hrel
              have hj0 : (0 : Int) ≤ (j : Int) := by omega
              obtain ⟨q1, q2⟩ := keep.out wr HM.out.below
              by_cases hj : j < l.length
              · obtain ⟨y, hy⟩ : ∃ y, l[j]? = some y := ⟨l[j], List.getElem?_eq_getElem hj⟩
                obtain ⟨gl, ol, cl, e1, _, y0, y1⟩ := it_at q2 hy
                cases e1
                have keep2 : Hid (∀ w', Below w.heap.size w w' → w'.cell? ⟨g, off + i, none⟩ = some (.slice (some ⟨gl, ol, none⟩) l.length c2) ∧ w'.cell? ⟨gl, ol + j * 2, none⟩ = some (.int .i64 y.k) ∧ w'.cell? ⟨gl, ol + j * 2 + 1, none⟩ = some (.int .i64 y.m)) := Lib.hid (fun w' hb => by
                  obtain ⟨r1, r2⟩ := keep.out w' hb
                  obtain ⟨gl', ol', cl', e1, _, y0, y1⟩ := it_at r2 hy
                  cases e1
                  exact ⟨r1, y0, y1⟩)
                have hj1 : (j : Int) < (l.length : Int) := by omega
                have hj2 : decide ((j : Int) < (l.length : Int)) = true := decide_eq_true hj1
                have HY := Lib.hid hy
                have HJJ := HJ
                clear hy q2 y0 y1
                go_wp2_with fail
                go_loopg [8, 9] (R.length - k) (fun kq v8 v9 w' => ∃ (k : Nat) (M : List It), v9 = .int .i64 k ∧ Hid (kq = R.length - k) ∧ Hid (Rm w R l M k j (.slice ar R.length cr) v8 w'))
                case atStart => exact ⟨k, M, rfl, Lib.hid rfl, HM⟩
                case round =>
                  clear HM q1
                  obtain ⟨k, M, rfl, HK4, HM⟩ := hrel
                  obtain ⟨am, cm, rfl, _⟩ := HM.out.m.rd.form
                  obtain ⟨q1, y0, y1⟩ := keep2.out wr HM.out.below
                  have hk0 : (0 : Int) ≤ (k : Int) := by omega
                  have hMl : M.length ≤ 16384 := by have := HM.out.len; omega
                  by_cases hk : k < R.length
                  · obtain ⟨x, hx⟩ : ∃ x, R[k]? = some x := ⟨R[k], List.getElem?_eq_getElem hk⟩
                    obtain ⟨gr, or', cr', e1, _, x0, x1⟩ := it_at HM.out.r.rd hx
                    cases e1
                    have hk1 : (k : Int) < (R.length : Int) := by omega
                    have hk2 : decide ((k : Int) < (R.length : Int)) = true := decide_eq_true hk1
                    have HX := Lib.hid hx
                    clear hx
                    by_cases hle : x.k ≤ y.k
                    · have hd : decide (x.k ≤ y.k) = true := decide_eq_true hle
                      have HL := Lib.hid hle
                      go_wp2_with fail
                      go_quiet (fail)
                      go_wp2_with (at_builtin; refine halt_mk ?_)
                      refine halt_go ?_
                      generalize hW : World.alloc _ _ = W8
                      have T1 : Upd wr W8 (fun _ => False) := by rw [← hW]; exact ((Upd.refl wr _).drewN _).alloc _
                      have X1 : Blk W8 wr.heap.size (icells x) 36 := by rw [← hW]; exact Blk.new' rfl
                      clear hW
                      refine wpl_app rfl rfl elem Try.underlying30 rfl (own_keep HM.out.m.1 T1 (fun _ _ h => h)) rfl (Rd.ofBlk X1 1 2 rfl) (by simp [icells, Value.oneCell']) (by omega) ?_
                      intro v2 w5 hA
                      have HM2 : Hid (Rm w R l (M ++ [x]) (k + 1) j (.slice (some ⟨gr, or', none⟩) R.length cr) v2 w5) := Lib.hid (HM.out.snoc T1 hA (HM.out.fromR HX.out HY.out HL.out) hk HM.out.jle)
                      clear hA T1 X1 HM q1 y0 y1 x0 x1
                      go_wp2
                      go_roundg (R.length - (k + 1))
                      case rel => exact ⟨k + 1, _, by go_num, Lib.hid rfl, HM2⟩
                      case measure => have := HK4.out; omega
                    · have hd : decide (x.k ≤ y.k) = false := decide_eq_false hle
                      have HL := Lib.hid hle
                      go_wp2_with fail
                      go_quiet (fail)
                      go_wp2_with (at_builtin; refine halt_mk ?_)
                      refine halt_go ?_
                      generalize hW : World.alloc _ _ = W8
                      have T1 : Upd wr W8 (fun _ => False) := by rw [← hW]; exact ((Upd.refl wr _).drewN _).alloc _
                      have X1 : Blk W8 wr.heap.size (icells y) 36 := by rw [← hW]; exact Blk.new' rfl
                      clear hW
                      refine wpl_app rfl rfl elem Try.underlying30 rfl (own_keep HM.out.m.1 T1 (fun _ _ h => h)) rfl (Rd.ofBlk X1 1 2 rfl) (by simp [icells, Value.oneCell']) (by omega) ?_
                      intro v2 w5 hA
                      have HM2 : Hid (Rm w R l (M ++ [y]) k (j + 1) (.slice (some ⟨gr, or', none⟩) R.length cr) v2 w5) := Lib.hid (HM.out.snoc T1 hA (HM.out.fromL HY.out (fun a ha => by
                        rw [HX.out] at ha; cases ha; have := HL.out; omega)) HM.out.kle hj)
                      clear hA T1 X1 HM q1 y0 y1
                      go_wp2
                      go_roundg (l.length - (j + 1))
                      case rel => exact ⟨j + 1, k, _, by go_num, rfl, Lib.hid rfl, HM2⟩
                      case measure => have := HJJ.out; omega
                  · have hk1 : ¬ (k : Int) < (R.length : Int) := by omega
                    have hk2 : decide ((k : Int) < (R.length : Int)) = false := decide_eq_false hk1
                    go_wp2_with fail
                    go_quiet (fail)
                    go_wp2_with (at_builtin; refine halt_mk ?_)
                    refine halt_go ?_
                    generalize hW : World.alloc _ _ = W8
                    have T1 : Upd wr W8 (fun _ => False) := by rw [← hW]; exact ((Upd.refl wr _).drewN _).alloc _
                    have X1 : Blk W8 wr.heap.size (icells y) 36 := by rw [← hW]; exact Blk.new' rfl
                    clear hW
                    refine wpl_app rfl rfl elem Try.underlying30 rfl (own_keep HM.out.m.1 T1 (fun _ _ h => h)) rfl (Rd.ofBlk X1 1 2 rfl) (by simp [icells, Value.oneCell']) (by omega) ?_
                    intro v2 w5 hA
                    have HM2 : Hid (Rm w R l (M ++ [y]) k (j + 1) (.slice ar R.length cr) v2 w5) := Lib.hid (HM.out.snoc T1 hA (HM.out.fromL HY.out (fun a ha => by
                      have := (List.getElem?_eq_some_iff.1 ha).1; omega)) HM.out.kle hj)
                    clear hA T1 X1 HM q1 y0 y1
                    go_wp2
                    go_roundg (l.length - (j + 1))
                    case rel => exact ⟨j + 1, k, _, by go_num, rfl, Lib.hid rfl, HM2⟩
                    case measure => have := HJJ.out; omega
              · obtain rfl : j = l.length := by have := HM.out.jle; omega
                have hj1 : ¬ (l.length : Int) < (l.length : Int) := by omega
                have hj2 : decide ((l.length : Int) < (l.length : Int)) = false := decide_eq_false hj1
                obtain ⟨am, cm, rfl, _⟩ := HM.out.m.rd.form
                have hMl : M.length ≤ 16384 := by have := HM.out.len; omega
                have hkle := HM.out.kle
                have hk0 : (0 : Int) ≤ (k : Int) := by omega
                obtain ⟨s2, r2, R2, b2⟩ := HM.out.r.rd.cutL elem Try.underlying30 hkle .i64
                rw [cells_drop] at R2
                have HR2 := Lib.hid R2
                clear R2 b2 q2
                go_wp2_with (at_builtin; refine halt_mk ?_)
                refine halt_go ?_
                refine wpl_app rfl rfl elem Try.underlying30 rfl HM.out.m.1 rfl HR2.out (cells_one _) (by omega) ?_
                intro v2 w5 hA
                have HO2 : Hid (OwnNew w w5 v2 (mergeAll (ls.take (i + 1)))) := Lib.hid (by
                  obtain ⟨O5, U5, b5⟩ := hA
                  have hs := HM.out.m.2.1.size
                  have e1 : (mergeAll (ls.take (i + 1))) = M ++ R.drop k := by rw [mergeAll_take HLL.out, ← HRR.out, HM.out.last]
                  refine ⟨?_, HM.out.m.2.1.trans U5 (fun b hb e => by have := HM.out.m.2.2 b e; omega), fun g hg => ?_⟩
                  · rw [e1, cells_append, List.length_append, List.length_drop]
                    exact O5
                  · rcases b5 with e | e
                    · exact HM.out.m.2.2 g (e ▸ hg)
                    · have := ob_some (e.symm.trans hg)
                      omega)
                clear hA HM q1 HR2 r2
                go_wp2
                go_roundg (ls.length - (i + 1))
                case rel => exact ⟨i + 1, by go_num, Lib.hid ⟨rfl, by omega⟩, Lib.hid (fun j l' hj hl' => by
                  by_cases e : j = i
                  · subst e
                    rw [HLL.out] at hl'
                    cases hl'
                    exact hRs.out
                  · exact HK.out j l' (by omega) hl'), HO2⟩
                case measure => have := HI.out; omega
        · obtain rfl : i = ls.length := by have := HI.out; omega
          have hi1 : ¬ (ls.length : Int) < (ls.length : Int) := by omega
          have hi2 : decide ((ls.length : Int) < (ls.length : Int)) = false := decide_eq_false hi1
          have hrs : Hid (∀ l ∈ ls, Rises l) := Lib.hid (fun l hl => by
            obtain ⟨j, hj⟩ := List.mem_iff_getElem?.1 hl
            exact HK.out j l (List.getElem?_eq_some_iff.1 hj).1 hj)
          clear HK
          go_wp2
          go_ret2
          have e : R = mergeAll ls := by have := HRR.out; rw [List.take_length] at this; exact this
          exact Or.inr (Or.inr ⟨hT8, hrs.out, _, rfl, by rw [← e]; exact HO.out⟩)

end OrdI
end Go.Proofs.Ytnhgeoccknhiiaa
