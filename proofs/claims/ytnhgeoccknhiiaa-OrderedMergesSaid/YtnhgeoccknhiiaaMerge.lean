/- The program's Merge. -/
import Derived.Test.YtnhgeoccknhiiaaMergeA
namespace Go.Proofs.Ytnhgeoccknhiiaa
open Go.RowKit
namespace OrdI

set_option maxRecDepth 100000 in
set_option maxHeartbeats 2000000 in
theorem merge_any (v : Value) (ls : List (List It)) (w : World) (h : RdL w v ls) (hl : ls.length * 24 ≤ 140737488351232) (hle : ∀ l ∈ ls, l.length * 16 ≤ 140737488351232) :
    Calls Try.prog 28 #[.func (.func 29) #[] #[], v] w (MergePost w ls) := by
  obtain ⟨a, c, rfl, hc⟩ := h.form
  have HR := Lib.hid h
  have HLE := Lib.hid hle
  clear h hle
  have qn : ∀ (w : World) (f : Fn) (a b : Array Value), (binOp .eql 58 (.func f a b) .nilFunc).run Try.prog w = .ok (.bool false) w := fun _ _ _ _ => by kernel_rfl
  go_enter Try.func28, Try.ntmps28
  go_wp2_with fail
  go_loopg [6, 20] ls.length (fun kq v6 v20 w' => ∃ i : Nat, v20 = .int .i64 i ∧ v6 = .int .i64 (total (ls.take i) : Nat) ∧ Hid (kq = ls.length - i ∧ i ≤ ls.length) ∧ Hid (total (ls.take i) ≤ 8192) ∧ Hid (w' = w))
  case atStart => exact ⟨0, rfl, rfl, Lib.hid ⟨rfl, Nat.zero_le _⟩, Lib.hid (Nat.zero_le _), Lib.hid rfl⟩
  case round =>
    obtain ⟨i, rfl, rfl, HI, HT, HW⟩ := hrel
    have hw := HW.out.symm
    subst hw
    have hi0 : (0 : Int) ≤ (i : Int) := by omega
    by_cases hi : i < ls.length
    · obtain ⟨l, hll⟩ : ∃ l, ls[i]? = some l := ⟨ls[i], List.getElem?_eq_getElem hi⟩
      obtain ⟨g, off, c', a2, c2, e1, hcell, hrd⟩ := rdl_at HR.out hll
      cases e1
      have hi1 : (i : Int) < (ls.length : Int) := by omega
      have hi2 : decide ((i : Int) < (ls.length : Int)) = true := decide_eq_true hi1
      have hts := total_take_succ hll
      have htl := total_take_le ls (i + 1)
      have hlen := HLE.out l (List.mem_of_getElem? hll)
      obtain ⟨T, hT⟩ : ∃ T, T = total (ls.take i) := ⟨_, rfl⟩
      have HTT := Lib.hid hT
      have hT8 : T ≤ 8192 := by rw [hT]; exact HT.out
      rw [← hT] at hts ⊢
      obtain ⟨m, hm⟩ : ∃ m, m = min l.length 8193 := ⟨_, rfl⟩
      have hm2 : min (l.length : Int) 8193 = (m : Int) := by omega
      have hw1 : IntKind.i64.wrap ((T : Int) + (m : Int)) = (T : Int) + (m : Int) := by rw [IntKind.wrap_i64]; omega
      clear hT hrd hll
      by_cases hsm : T + l.length ≤ 8192
      · have HS := Lib.hid (And.intro hts (And.intro hsm hm))
        clear hts htl hm
        have hg : decide ((T : Int) + (m : Int) > 8192) = false := decide_eq_false (by have := HS.out; omega)
        go_wp2
        go_roundg (ls.length - (i + 1))
        case rel =>
          obtain ⟨h1, h2, _⟩ := HS.out
          refine ⟨i + 1, by go_num, congrArg (Value.int .i64) ?_, Lib.hid ⟨rfl, by omega⟩, Lib.hid (by rw [h1]; exact h2), Lib.hid rfl⟩
          rw [h1]
          rfl
        case measure => have := HI.out; omega
      · have HS := Lib.hid (And.intro hts htl)
        have HSM := Lib.hid hsm
        clear hts htl
        by_cases h8 : l.length ≤ 8192
        · have hg : decide ((8192 : Int) < (T : Int) + (l.length : Int)) = true := decide_eq_true (by omega)
          have hg2 : (8192 : Int) < (T : Int) + (l.length : Int) := by omega
          have hm3 : m = l.length := by omega
          subst hm3
          clear hm
          go_wp2
          all_goals (go_ret2; exact Or.inl ⟨by have := HS.out; omega, rfl, Below.refl _ _⟩)
        · have hm3 : m = 8193 := by omega
          have hg : decide ((8192 : Int) < (T : Int) + 8193) = true := decide_eq_true (by omega)
          have hg2 : (8192 : Int) < (T : Int) + 8193 := by omega
          subst hm3
          clear hm
          go_wp2
          all_goals (go_ret2; exact Or.inl ⟨by have := HS.out; omega, rfl, Below.refl _ _⟩)
    · obtain rfl : i = ls.length := by have := HI.out; omega
      have hi1 : ¬ (ls.length : Int) < (ls.length : Int) := by omega
      have hi2 : decide ((ls.length : Int) < (ls.length : Int)) = false := decide_eq_false hi1
      rw [List.take_length]
      have hT8 : total ls ≤ 8192 := by have := HT.out; rw [List.take_length] at this; exact this
      have hle8 : Hid (∀ (i : Nat) (l : List It), ls[i]? = some l → l.length ≤ 8192) := Lib.hid (fun i l h => by
        have h1 := total_take_succ h
        have h2 := total_take_le ls (i + 1)
        omega)
      clear HT HI
      go_wp2_with fail
      go_loopg [34] ls.length (fun kq v34 w' => ∃ i : Nat, v34 = .int .i64 i ∧ Hid (kq = ls.length - i ∧ i ≤ ls.length) ∧ Hid (∀ (j : Nat) (l : List It), j < i → ls[j]? = some l → Rises l) ∧ Hid (Below w.heap.size w w'))
      case atStart => exact ⟨0, rfl, Lib.hid ⟨rfl, Nat.zero_le _⟩, Lib.hid (fun j l h => by omega), Lib.hid (Below.refl _ _)⟩
      case round =>
        obtain ⟨i, rfl, HI, HK, HB⟩ := hrel
        have hi0 : (0 : Int) ≤ (i : Int) := by omega
        by_cases hi : i < ls.length
        · obtain ⟨l, hll⟩ : ∃ l, ls[i]? = some l := ⟨ls[i], List.getElem?_eq_getElem hi⟩
          have HR2 := HR.out.below HB.out
          obtain ⟨g, off, c', a2, c2, e1, hcell, hrd⟩ := rdl_at HR2 hll
          cases e1
          have hi1 : (i : Int) < (ls.length : Int) := by omega
          have hi2 : decide ((i : Int) < (ls.length : Int)) = true := decide_eq_true hi1
          have HC := Lib.hid (rises_any (.slice a2 l.length c2) l _ hrd (hle8.out i l hll))
          have HLL := Lib.hid hll
          clear HR2 hrd hll
          go_wp2_with fail
          refine HC.out.mono ?_
          rintro e w4 ⟨⟨b, rfl, hb⟩, hb4⟩
          have HB4 := Lib.hid (below_trans HB.out hb4)
          have HBB := Lib.hid hb
          clear HC hb hb4 hcell
          cases b
          · go_wp2
            go_ret2
            exact Or.inr (Or.inl ⟨hT8, fun h => (by have := HBB.out.2 (h l (List.mem_of_getElem? HLL.out)); first | cases this | exact this), rfl, HB4.out⟩)
          · go_wp2
            go_roundg (ls.length - (i + 1))
            case rel => exact ⟨i + 1, by go_num, Lib.hid ⟨rfl, by omega⟩, Lib.hid (fun j l' hj hl' => by
              by_cases e : j = i
              · subst e
                rw [HLL.out] at hl'
                cases hl'
                exact HBB.out.1 (by trivial)
              · exact HK.out j l' (by omega) hl'), HB4⟩
            case measure => have := HI.out; omega
        · obtain rfl : i = ls.length := by have := HI.out; omega
          have hi1 : ¬ (ls.length : Int) < (ls.length : Int) := by omega
          have hi2 : decide ((ls.length : Int) < (ls.length : Int)) = false := decide_eq_false hi1
          have hrs : Hid (∀ l ∈ ls, Rises l) := Lib.hid (fun l hl => by
            obtain ⟨j, hj⟩ := List.mem_iff_getElem?.1 hl
            exact HK.out j l (List.getElem?_eq_some_iff.1 hj).1 hj)
          obtain ⟨iN, hiN, hzN, hsN, hbN⟩ := elemN.info
          have HIN := Lib.hid (And.intro hiN (And.intro hzN (And.intro hsN hbN)))
          clear hiN hzN hsN hbN HK
          have HB0 := Lib.hid HB.out
          clear HB HI
          go_wp2_with (at_make; refine halt_mk ?_)
          refine halt_go ?_
          refine wpList_make_full _ rfl _ _ 23 rfl 0 3 iN _ 1 Try.underlying23 HIN.out.1 HIN.out.2.1 HIN.out.2.2.1 _ _ _ _ ls.length rfl rfl rfl rfl (by rw [HIN.out.2.2.2]; omega) (by unfold maxLen; omega) (Nat.zero_le _) ?_
          intro w5 hown hgrow
          rw [made_nints] at hown
          have A5 := own_whole hown
          have U5 : Upd wr w5 (fun _ => False) := (upd_of_grown hgrow).mono (fun _ _ h => by cases h)
          obtain ⟨ag, hag⟩ : ∃ ag, ag = wr.heap.size := ⟨_, rfl⟩
          rw [← hag] at A5 ⊢
          have H5 := Lib.hid (And.intro A5 (And.intro U5 hag))
          clear hown hgrow A5 U5 hag HIN
          obtain ⟨iT, hiT, hzT, hsT, hbT⟩ := elem.info
          have HIT := Lib.hid (And.intro hiT (And.intro hzT (And.intro hsT hbT)))
          clear hiT hzT hsT hbT
          go_wp2_with (at_make; refine halt_mk ?_)
          refine halt_go ?_
          refine wpList_make_own _ rfl _ _ 30 rfl 0 36 iT _ 2 Try.underlying30 HIT.out.1 HIT.out.2.1 HIT.out.2.2.1 _ _ _ (total ls) rfl rfl rfl (by rw [HIT.out.2.2.2]; omega) (by unfold maxLen; omega) (Nat.zero_le _) ?_
          intro w6 hown hgrow
          have S6 : Hid (Ms w ls ag [] (List.replicate ls.length 0) (.slice (some ⟨w5.heap.size, 0, none⟩) 0 (total ls)) w6) := by
            have U6 : Upd w5 w6 (fun _ => False) := (upd_of_grown hgrow).mono (fun _ _ h => by cases h)
            have U05 : Upd w w5 (fun _ => False) := (Upd.ofBelow HB0.out).trans H5.out.2.1 (fun _ _ h => h)
            have hs0 := HB0.out.size
            have hs5 := U05.size
            have hag := H5.out.2.2
            refine Lib.hid ⟨List.length_replicate, fun j l n hj hn => ?_, ?_, U6.blk H5.out.1 (fun h => h), hown, fun g hg => by have := ob_eq hg; omega, by omega, U05.trans U6 (fun _ _ h => h)⟩
            · obtain ⟨_, e⟩ := List.getElem?_eq_some_iff.1 hn
              rw [List.getElem_replicate] at e
              omega
            · rw [rests_zero]
              rfl
          generalize Value.slice (some ⟨w5.heap.size, 0, none⟩) 0 (total ls) = v12 at S6 ⊢
          clear hown hgrow H5 HIT HB0
          go_wp2_with fail
          go_loopg [12] (total ls) (fun kq v12 w' => ∃ (O : List It) (N : List Nat), Hid (kq = total ls - O.length) ∧ Hid (Ms w ls ag O N v12 w'))
          case atStart => exact ⟨[], _, Lib.hid rfl, S6⟩
          case round =>
            obtain ⟨O, N, HI, HM⟩ := hrel
            obtain ⟨ao, co, rfl, hco⟩ := (Rd.ofOwn HM.out.own).form
            by_cases hO : O.length < total ls
            · have hO1 : (O.length : Int) < (total ls : Int) := by omega
              have hO2 : decide ((O.length : Int) < (total ls : Int)) = true := decide_eq_true hO1
              have HN0 := Lib.hid (HM.out.more hO)
              have HIO := HI
              have hNl := HM.out.len
              go_wp2_with fail
              go_loopg [13, 54] ls.length (fun kq v13 v54 w' => ∃ (i : Nat) (z : Int), v54 = .int .i64 i ∧ v13 = .int .i64 z ∧ Hid (kq = ls.length - i ∧ i ≤ ls.length) ∧ Hid (Found ls N i z) ∧ Hid (Ms w ls ag O N (.slice ao O.length co) w'))
              case atStart => exact ⟨0, -1, rfl, rfl, Lib.hid ⟨rfl, Nat.zero_le _⟩, Lib.hid (Or.inl ⟨rfl, fun j r _ h => by omega⟩), HM⟩
              case round =>
                obtain ⟨i, z, rfl, rfl, HI, HF, HM⟩ := hrel
                have hi0 : (0 : Int) ≤ (i : Int) := by omega
                by_cases hi : i < ls.length
                · obtain ⟨l, hll⟩ : ∃ l, ls[i]? = some l := ⟨ls[i], List.getElem?_eq_getElem hi⟩
                  obtain ⟨n, hn⟩ : ∃ n, N[i]? = some n := ⟨N[i]'(by omega), List.getElem?_eq_getElem _⟩
                  have HR2 := HR.out.below HM.out.below
                  obtain ⟨g, off, c', a2, c2, e1, hcell, hrd⟩ := rdl_at HR2 hll
                  cases e1
                  have hi1 : (i : Int) < (ls.length : Int) := by omega
                  have hi2 : decide ((i : Int) < (ls.length : Int)) = true := decide_eq_true hi1
                  have qa : wr.cell? ⟨ag, i, none⟩ = some (.int .i64 (n : Int)) := (HM.out.at_.cell i).trans (nints_get hn)
                  have hfit := HM.out.fit i l n hll hn
                  have hl8 := hle8.out i l hll
                  have hrg := rests_get hll hn
                  have hn0 : (0 : Int) ≤ (n : Int) := by omega
                  have hUd : Hid (∀ k, Ms w ls ag O N (.slice ao O.length co) (wr.drewN k)) := Lib.hid (fun k => HM.out.grow ((Upd.refl wr (fun _ => False)).drewN k))
                  have hUd1 : Hid (Ms w ls ag O N (.slice ao O.length co) wr.drew) := Lib.hid (HM.out.grow ((Upd.refl wr (fun _ => False)).drew))
                  by_cases hnl : n < l.length
                  · obtain ⟨y, hy⟩ : ∃ y, l[n]? = some y := ⟨l[n], List.getElem?_eq_getElem hnl⟩
                    obtain ⟨gl, ol, cl, e1, _, y0, y1⟩ := it_at hrd hy
                    cases e1
                    have hnl1 : (n : Int) < (l.length : Int) := by omega
                    have hnl2 : decide ((n : Int) < (l.length : Int)) = true := decide_eq_true hnl1
                    have hrg0 : (rests ls N)[i]? = some (y :: l.drop (n + 1)) := by rw [hrg, drop_cons hy]
                    rcases HF.out with ⟨rfl, hno⟩ | ⟨b, nb, lb, x, rfl, hlb, hnb, hx, hbest⟩
                    · have HF2 : Hid (Found ls N (i + 1) i) := Lib.hid (Or.inr ⟨i, n, l, y, rfl, hll, hn, hy, hno.first hrg0⟩)
                      clear HF hrg hrg0 hrd HR2 hfit hll hn hno y0 y1 hy
                      go_wp2_with fail
                      apply wp_reg (fun w' : World => w'.cell? ⟨ag, i, none⟩ = some (.int .i64 (n : Int))) [0, 1, 2, 3, 4, 5, 6, 7, 8, 9, 10, 11, 12, 13, 14, 15, 16, 17, 18, 19, 20, 21, 22, 23, 24, 25, 26, 27, 28] [29, 30, 31] [] (by kernel_rfl) (by kernel_rfl) (fun _ _ d _ _ h => by cases d <;> exact h) qa
                      · iterate 11 (apply reads_consL rfl rfl; (· intro w0 hS; have hS1 := hS; go_simp; try rfl); simp only [Act.put, List.setIfInBounds_toArray, List.set_cons_zero, List.set_cons_succ])
                        iterate 18 (apply reads_skipL rfl rfl; simp only [Act.put, List.setIfInBounds_toArray, List.set_cons_zero, List.set_cons_succ])
                        exact rfl
                      refine tail_consL rfl ?_
                      go_wp2_with fail
                      refine ⟨qa, tail_consL rfl ?_⟩
                      go_wp2_with fail
                      refine ⟨qa, tail_consL rfl ?_⟩
                      go_wp2_with fail
                      refine ⟨qa, tail_zero ?_⟩
                      go_wp2
                      go_roundg (ls.length - (i + 1))
                      case rel => exact ⟨i + 1, i, by go_num, rfl, Lib.hid ⟨rfl, by omega⟩, HF2, hUd1⟩
                      case measure => have := HI.out; omega
                    · obtain ⟨g', off', c', a5, c5, e1, hcellb, hrdb⟩ := rdl_at HR2 hlb
                      cases e1
                      obtain ⟨gb, ob, cb, e1, _, x0, x1⟩ := it_at hrdb hx
                      cases e1
                      have qb : wr.cell? ⟨ag, b, none⟩ = some (.int .i64 (nb : Int)) := (HM.out.at_.cell b).trans (nints_get hnb)
                      have hbl : b < ls.length := (List.getElem?_eq_some_iff.1 hlb).1
                      have hnbl : nb < lb.length := (List.getElem?_eq_some_iff.1 hx).1
                      have hb0 : ¬ (b : Int) < 0 := by omega
                      have hb1 : decide ((b : Int) < 0) = false := decide_eq_false hb0
                      have hb2 : (0 : Int) ≤ (b : Int) := by omega
                      have hb3 : (b : Int) < (ls.length : Int) := by omega
                      have hb4 : (0 : Int) ≤ (nb : Int) := by omega
                      have hb5 : (nb : Int) < (lb.length : Int) := by omega
                      have HC := Lib.hid (asks_any askI y x wr.drew trivial)
                      have HBst := Lib.hid (And.intro hbest (And.intro hrg0 (And.intro hll (And.intro hn (And.intro hy (And.intro hlb (And.intro hnb hx)))))))
                      have keep : Hid (∀ w', Below wr.drew.heap.size wr.drew w' → w'.cell? ⟨ag, i, none⟩ = some (.int .i64 (n : Int)) ∧ w'.cell? ⟨ag, b, none⟩ = some (.int .i64 (nb : Int)) ∧ w'.cell? ⟨g, off + b, none⟩ = some (.slice (some ⟨gb, ob, none⟩) lb.length c5) ∧ w'.cell? ⟨gl, ol + n * 2, none⟩ = some (.int .i64 y.k) ∧ w'.cell? ⟨gl, ol + n * 2 + 1, none⟩ = some (.int .i64 y.m) ∧ w'.cell? ⟨gb, ob + nb * 2, none⟩ = some (.int .i64 x.k) ∧ w'.cell? ⟨gb, ob + nb * 2 + 1, none⟩ = some (.int .i64 x.m)) := Lib.hid (fun w' hb => by
                        have l1 : ag < wr.heap.size := HM.out.at_.lt
                        have l2 : g < wr.heap.size := World.block_lt_of_cell? wr _ hcellb
                        have l3 : gl < wr.heap.size := World.block_lt_of_cell? wr _ y0
                        have l4 : gb < wr.heap.size := World.block_lt_of_cell? wr _ x0
                        exact ⟨(hb.cell l1).trans qa, (hb.cell l1).trans qb, (hb.cell l2).trans hcellb, (hb.cell l3).trans y0, (hb.cell l3).trans y1, (hb.cell l4).trans x0, (hb.cell l4).trans x1⟩)
                      clear HF hrg hrg0 hrd HR2 hfit hll hn hlb hnb hx hbest hy hrdb
                      go_wp2_with fail
                      apply wp_reg (fun w' : World => w'.cell? ⟨ag, i, none⟩ = some (.int .i64 (n : Int)) ∧ w'.cell? ⟨ag, b, none⟩ = some (.int .i64 (nb : Int)) ∧ w'.cell? ⟨g, off + b, none⟩ = some (.slice (some ⟨gb, ob, none⟩) lb.length c5) ∧ w'.cell? ⟨gl, ol + n * 2, none⟩ = some (.int .i64 y.k) ∧ w'.cell? ⟨gl, ol + n * 2 + 1, none⟩ = some (.int .i64 y.m) ∧ w'.cell? ⟨gb, ob + nb * 2, none⟩ = some (.int .i64 x.k) ∧ w'.cell? ⟨gb, ob + nb * 2 + 1, none⟩ = some (.int .i64 x.m)) [0, 1, 2, 3, 4, 5, 6, 7, 8, 9, 10, 11, 12, 13, 14, 15, 16, 17, 18, 19, 20, 21, 22, 23, 24, 25, 26, 27, 28] [29, 30, 31] [] (by kernel_rfl) (by kernel_rfl) (fun _ _ d _ _ h => by cases d <;> exact h) ⟨qa, qb, hcellb, y0, y1, x0, x1⟩
                      · iterate 29 (apply reads_consL rfl rfl; (· intro w0 hS; obtain ⟨hS1, hS2, hS3, hS4, hS5, hS6, hS7⟩ := hS; go_simp; try rfl); simp only [Act.put, List.setIfInBounds_toArray, List.set_cons_zero, List.set_cons_succ])
                        exact rfl
                      refine tail_consL rfl ?_
                      go_wp2_with fail
                      refine HC.out.mono ?_
                      rintro e w4 ⟨rfl, hb4⟩
                      have hS4 := keep.out w4 hb4
                      have HM4 : Hid (Ms w ls ag O N (.slice ao O.length co) w4) := Lib.hid (hUd1.out.grow (Upd.ofBelow hb4))
                      clear hb4 HC keep qa qb hcellb y0 y1 x0 x1 hcell HM hUd hUd1
                      go_wp2_with fail
                      refine ⟨hS4, tail_consL rfl ?_⟩
                      go_wp2_with fail
                      refine ⟨hS4, tail_consL rfl ?_⟩
                      go_wp2_with fail
                      refine ⟨hS4, tail_zero ?_⟩
                      obtain ⟨s1, s2, s3, s4, s5, s6, s7⟩ := HBst.out
                      by_cases hlt : y.k < x.k
                      · have hd : decide (y.k < x.k) = true := decide_eq_true hlt
                        have HF2 : Hid (Found ls N (i + 1) i) := Lib.hid (Or.inr ⟨i, n, l, y, rfl, s3, s4, s5, s1.new s2 hlt⟩)
                        clear hS4 s1 s2 s3 s4 s5 s6 s7
                        go_wp2
                        go_roundg (ls.length - (i + 1))
                        case rel => exact ⟨i + 1, i, by go_num, rfl, Lib.hid ⟨rfl, by omega⟩, HF2, HM4⟩
                        case measure => have := HI.out; omega
                      · have hd : decide (y.k < x.k) = false := decide_eq_false hlt
                        have HF2 : Hid (Found ls N (i + 1) b) := Lib.hid (Or.inr ⟨b, nb, lb, x, rfl, s6, s7.1, s7.2, s1.keep s2 hlt⟩)
                        clear hS4 s1 s2 s3 s4 s5 s6 s7
                        go_wp2
                        go_roundg (ls.length - (i + 1))
                        case rel => exact ⟨i + 1, b, by go_num, rfl, Lib.hid ⟨rfl, by omega⟩, HF2, HM4⟩
                        case measure => have := HI.out; omega
                  · have hnl1 : ¬ (n : Int) < (l.length : Int) := by omega
                    have hnl2 : decide ((n : Int) < (l.length : Int)) = false := decide_eq_false hnl1
                    have hrg0 : (rests ls N)[i]? = some [] := by rw [hrg, List.drop_eq_nil_of_le (by omega)]
                    have HF2 : Hid (Found ls N (i + 1) z) := Lib.hid (by
                      rcases HF.out with ⟨e, h⟩ | ⟨b, nb, lb, x, e, h1, h2, h3, h4⟩
                      · exact Or.inl ⟨e, h.skip hrg0⟩
                      · exact Or.inr ⟨b, nb, lb, x, e, h1, h2, h3, h4.skip hrg0⟩)
                    clear HF hrg hrg0 hrd HR2 hfit hll hn
                    go_wp2_with fail
                    apply wp_reg (fun w' : World => w'.cell? ⟨ag, i, none⟩ = some (.int .i64 (n : Int))) [0, 1, 2, 3, 4, 5, 6, 7, 8, 9, 10, 11, 12, 13, 14, 15, 16, 17, 18, 19, 20, 21, 22, 23, 24, 25, 26, 27, 28] [29, 30, 31] [] (by kernel_rfl) (by kernel_rfl) (fun _ _ d _ _ h => by cases d <;> exact h) qa
                    · iterate 8 (apply reads_consL rfl rfl; (· intro w0 hS; have hS1 := hS; go_simp; try rfl); simp only [Act.put, List.setIfInBounds_toArray, List.set_cons_zero, List.set_cons_succ])
                      iterate 21 (apply reads_skipL rfl rfl; simp only [Act.put, List.setIfInBounds_toArray, List.set_cons_zero, List.set_cons_succ])
                      exact rfl
                    refine tail_consL rfl ?_
                    go_wp2_with fail
                    refine ⟨qa, tail_consL rfl ?_⟩
                    go_wp2_with fail
                    refine ⟨qa, tail_consL rfl ?_⟩
                    go_wp2_with fail
                    refine ⟨qa, tail_zero ?_⟩
                    go_wp2
                    go_roundg (ls.length - (i + 1))
                    case rel => exact ⟨i + 1, z, by go_num, rfl, Lib.hid ⟨rfl, by omega⟩, HF2, hUd1⟩
                    case measure => have := HI.out; omega
                · obtain rfl : i = ls.length := by have := HI.out; omega
                  have hi1 : ¬ (ls.length : Int) < (ls.length : Int) := by omega
                  have hi2 : decide ((ls.length : Int) < (ls.length : Int)) = false := decide_eq_false hi1
                  rcases HF.out with ⟨rfl, hno⟩ | ⟨b, nb, lb, x, rfl, hlb, hnb, hx, hbest⟩
                  · exact absurd hno HN0.out
                  · obtain ⟨g, off, c', a5, c5, e1, hcb, hrdb⟩ := rdl_at HR.out hlb
                    cases e1
                    obtain ⟨gb, ob, cb, e1, _, x0, x1⟩ := it_at hrdb hx
                    cases e1
                    have keep : Hid (∀ w', Below w.heap.size w w' → w'.cell? ⟨g, off + b, none⟩ = some (.slice (some ⟨gb, ob, none⟩) lb.length c5) ∧ w'.cell? ⟨gb, ob + nb * 2, none⟩ = some (.int .i64 x.k) ∧ w'.cell? ⟨gb, ob + nb * 2 + 1, none⟩ = some (.int .i64 x.m)) := Lib.hid (fun w' hb => by
                      have l2 : g < w.heap.size := World.block_lt_of_cell? w _ hcb
                      have l4 : gb < w.heap.size := World.block_lt_of_cell? w _ x0
                      exact ⟨(hb.cell l2).trans hcb, (hb.cell l4).trans x0, (hb.cell l4).trans x1⟩)
                    have qb : wr.cell? ⟨ag, b, none⟩ = some (.int .i64 (nb : Int)) := (HM.out.at_.cell b).trans (nints_get hnb)
                    have hbl : b < ls.length := (List.getElem?_eq_some_iff.1 hlb).1
                    have hnbl : nb < lb.length := (List.getElem?_eq_some_iff.1 hx).1
                    have hlb8 := hle8.out b lb hlb
                    have hb0 : (0 : Int) ≤ (b : Int) := by omega
                    have hb3 : (b : Int) < (ls.length : Int) := by omega
                    have hb4 : (0 : Int) ≤ (nb : Int) := by omega
                    have hb5 : (nb : Int) < (lb.length : Int) := by omega
                    have hw1 : IntKind.i64.wrap ((nb : Int) + 1) = (nb : Int) + 1 := by rw [IntKind.wrap_i64]; omega
                    have HBst := Lib.hid (And.intro hlb (And.intro hnb (And.intro hx hbest)))
                    obtain ⟨z1, z2, z3⟩ := keep.out wr HM.out.below
                    have HM1 := HM
                    clear HF hlb hnb hx hbest hrdb hcb x0 x1 HN0 HM
                    go_wp2_with fail
                    apply wp_reg (fun w' : World => w'.cell? ⟨g, off + b, none⟩ = some (.slice (some ⟨gb, ob, none⟩) lb.length c5) ∧ w'.cell? ⟨gb, ob + nb * 2, none⟩ = some (.int .i64 x.k) ∧ w'.cell? ⟨gb, ob + nb * 2 + 1, none⟩ = some (.int .i64 x.m) ∧ w'.cell? ⟨ag, b, none⟩ = some (.int .i64 (nb : Int))) [0, 1, 2, 3, 4, 5, 6, 7, 8, 9, 10] [11, 12] [13] (by kernel_rfl) (by kernel_rfl) (fun _ _ d _ _ h => by cases d <;> exact h) ⟨z1, z2, z3, qb⟩
                    · iterate 11 (apply reads_consL rfl rfl; (· intro w0 hS; obtain ⟨hS1, hS2, hS3, hS4⟩ := hS; go_simp; try rfl); simp only [Act.put, List.setIfInBounds_toArray, List.set_cons_zero, List.set_cons_succ])
                      exact rfl
                    refine tail_consL rfl ?_
                    go_wp2_with fail
                    generalize hW : World.drew (World.alloc _ _) = W8
                    have T1 : Upd wr W8 (fun _ => False) := by rw [← hW]; exact ((Upd.refl wr _).alloc _).drew
                    have X1 : Blk W8 wr.heap.size (icells x) 36 := by rw [← hW]; exact Blk.drew (Blk.new' rfl)
                    clear hW z1 z2 z3 qb
                    have HM8 := HM1.out.grow T1
                    obtain ⟨z1, z2, z3⟩ := keep.out W8 HM8.below
                    have qb : W8.cell? ⟨ag, b, none⟩ = some (.int .i64 (nb : Int)) := (HM8.at_.cell b).trans (nints_get HBst.out.2.1)
                    refine ⟨⟨z1, z2, z3, qb⟩, tail_consL rfl ?_⟩
                    refine wpl_app rfl rfl elem Try.underlying30 rfl HM8.own rfl (Rd.ofBlk X1 1 2 rfl) (by simp [icells, Value.oneCell']) (by omega) ?_
                    intro v2 W9 hA
                    obtain ⟨A9, B9, M9⟩ := HM1.out.app HBst.out.1 HBst.out.2.1 HBst.out.2.2.1 HBst.out.2.2.2 T1 hA
                    obtain ⟨a6, c6, rfl, _⟩ := (Rd.ofOwn hA.1).form
                    have HM9 := Lib.hid M9
                    clear HM8 hA T1 X1 z1 z2 z3 qb M9
                    obtain ⟨z1, z2, z3⟩ := keep.out W9 B9
                    have qb : W9.cell? ⟨ag, b, none⟩ = some (.int .i64 (nb : Int)) := (A9.cell b).trans (nints_get HBst.out.2.1)
                    have qf : W9.frozen? ⟨ag, b, none⟩ = false := A9.free b
                    clear A9 B9
                    go_wp2_with fail
                    refine ⟨⟨z1, z2, z3, qb⟩, tail_oneL rfl ?_⟩
                    go_wp2
                    go_roundg (total ls - (O.length + 1))
                    case rel => exact ⟨O ++ [x], N.set b (nb + 1), Lib.hid (by rw [List.length_append]; rfl), HM9⟩
                    case measure => have := HIO.out; omega
            · have hO1 : ¬ (O.length : Int) < (total ls : Int) := by omega
              have hO2 : decide ((O.length : Int) < (total ls : Int)) = false := decide_eq_false hO1
              have HD := Lib.hid (HM.out.done hO)
              go_wp2
              go_ret2
              exact Or.inr (Or.inr ⟨hT8, hrs.out, _, rfl, by rw [← HD.out]; exact HM.out.own, HM.out.upd, HM.out.new⟩)
end OrdI
end Go.Proofs.Ytnhgeoccknhiiaa
