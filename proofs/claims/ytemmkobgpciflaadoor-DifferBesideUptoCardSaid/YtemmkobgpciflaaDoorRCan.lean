/- What is wrong with a forest: the document's test, walked. -/
import Derived.Test.YtemmkobgpciflaaDoorCan
import Derived.Test.YtemmkobgpciflaaDoorRLook
namespace Go.Proofs.YtemmkobgpciflaaDoor
open Go.RowKit
namespace Ch

set_option maxRecDepth 100000 in
set_option maxHeartbeats 2000000 in
theorem size4_any (P : Nat → Prop) : ∀ t, ∀ (cs : List Value) (w : World), TreeAt w P t cs → Fits t → T.size t ≤ 4096 → Calls Tryd.prog 61 #[.agg cs.toArray] w fun e w' => e = .returned (.int .i64 (T.size t)) ∧ Below w.heap.size w w' := by
  refine T.ind ?_
  intro k nm al tx ks ih cs w hA hF hS
  obtain ⟨aa, ca, ak, ck, rfl, _, hFo⟩ := TreeAt.forest hA
  rw [T.size] at hS ⊢
  have B0 : ∀ o, Below w.heap.size w (w.alloc o) := fun o => below_al (Below.refl _ _) (Nat.le_refl _) o
  by_cases h1 : k = 1
  · subst h1
    rw [if_pos rfl] at hS ⊢
    have HH := Lib.hid (And.intro hFo (And.intro hF (And.intro ih hS)))
    obtain ⟨S, hSz⟩ : ∃ S, T.sizeL ks + 1 = S := ⟨_, rfl⟩
    rw [hSz]
    have HS := Lib.hid hSz
    clear hFo hF ih hS hA hSz
    go_enter Tryd.func61, Tryd.ntmps61
    go_wp2
    generalize hW : World.alloc _ _ = W
    have BW : Below w.heap.size w W := by rw [← hW]; exact B0 _
    have XW : Blk W w.heap.size [.int .i64 1, .string nm, .slice aa al.length ca, .string tx, .slice ak ks.length ck] 25 := by rw [← hW]; exact Blk.new w _ _
    have HW := Lib.hid (And.intro BW XW)
    clear hW BW B0 XW
    go_loopg [3, 4] ks.length (fun kq v3 v w' => ∃ i : Nat, v = .int .i64 i ∧ v3 = .int .i64 ((1 + T.sizeL (ks.take i) : Nat) : Int) ∧ Hid (kq = ks.length - i ∧ i ≤ ks.length) ∧ Hid (Below W.heap.size W w'))
    case atStart => exact ⟨0, rfl, by simp [T.sizeL], Lib.hid ⟨rfl, Nat.zero_le _⟩, Lib.hid (Below.refl _ _)⟩
    case round =>
      obtain ⟨i, rfl, rfl, HI, HB⟩ := hrel
      have hi0 : (0 : Int) ≤ (i : Int) := by omega
      have XR := (Upd.ofBelow (F := fun _ => False) HB.out).blk HW.out.2 (fun h => h)
      have x0 := XR.cell 0
      have x4 := XR.cell 4
      simp only [List.getElem?_cons_zero, List.getElem?_cons_succ] at x0 x4
      clear XR
      by_cases hi : i < ks.length
      · have hi1 : (i : Int) < (ks.length : Int) := by omega
        have hi2 : decide (i < ks.length) = true := decide_eq_true hi
        obtain ⟨x, hx⟩ : ∃ x, ks[i]? = some x := ⟨ks[i], List.getElem?_eq_getElem hi⟩
        have hsx := size_mem hx
        have Bw := below_tr HW.out.1 HB.out
        have hFr : Forest wr P ks ak ck := HH.out.1.below Bw
        obtain ⟨g, off, xk, xn, xa, xla, xca, xt, xkk, xlk, xkc, rfl, hck, y0, y1, y2, y3, y4, hxA⟩ := hFr.kid hx
        have IH := HH.out.2.2.1 x (List.mem_of_getElem? hx) _ wr hxA (HH.out.2.1.kid x (List.mem_of_getElem? hx)) (by have := HH.out.2.2.2; omega)
        obtain ⟨m, hm⟩ : ∃ m, 1 + T.sizeL (ks.take i) = m := ⟨_, rfl⟩
        obtain ⟨z, hz⟩ : ∃ z, T.size x = z := ⟨_, rfl⟩
        rw [hm]
        rw [hz] at IH
        have hmz : (m : Int) + (z : Int) ≤ 4097 := by have := HH.out.2.2.2; omega
        have HX := Lib.hid (And.intro hx (And.intro hi (And.intro hm hz)))
        clear hxA hFr hx hi hm hz hsx Bw
        go_wp2_with fail
        refine IH.mono ?_
        rintro e w3 ⟨rfl, hB3⟩
        have HU := Lib.hid (below_tr HB.out hB3)
        clear hB3 IH y0 y1 y2 y3 y4
        go_wp2
        go_roundg (ks.length - (i + 1))
        case measure => have := HI.out; have := HX.out; omega
        case rel =>
          refine ⟨i + 1, v64s HX.out.2.1 (by have := HH.out.2.1.small; unfold Small at this; omega), ?_, Lib.hid ⟨rfl, HX.out.2.1⟩, HU⟩
          have h1 := HX.out.2.2.1
          have h2 := HX.out.2.2.2
          have h3 := sizeL_at HX.out.1
          have : (1 + T.sizeL (ks.take (i + 1)) : Nat) = m + z := by omega
          rw [this]
          go_num
      · have hi1 : ¬ (i : Int) < (ks.length : Int) := by omega
        have hi2 : decide (i < ks.length) = false := decide_eq_false hi
        have ei : i = ks.length := by have := HI.out; omega
        clear hi
        go_wp2
        go_ret
        refine ⟨?_, below_tr HW.out.1 HB.out⟩
        exact ret_int (by have := HS.out; omega)
  · have h1b : (k == 1) = false := beq_eq_false_iff_ne.2 h1
    rw [if_neg h1]
    have HF := Lib.hid (And.intro hF h1)
    clear h1 hA hF hS ih hFo
    go_enter Tryd.func61, Tryd.ntmps61
    go_wp2
    generalize hW : World.alloc _ _ = W
    have BW : Below w.heap.size w W := by rw [← hW]; exact B0 _
    have XW : Blk W w.heap.size [.int .i64 k, .string nm, .slice aa al.length ca, .string tx, .slice ak ks.length ck] 25 := by rw [← hW]; exact Blk.new w _ _
    have x0 := XW.cell 0
    have x4 := XW.cell 4
    simp only [List.getElem?_cons_zero, List.getElem?_cons_succ] at x0 x4
    have HW := Lib.hid BW
    clear hW BW B0 XW
    go_loopg [3, 4] 1 (fun kq v3 v w' => v = .int .i64 0 ∧ v3 = .int .i64 1 ∧ w' = W)
    case atStart => exact ⟨rfl, rfl, rfl⟩
    case round =>
      obtain ⟨rfl, rfl, rfl⟩ := hrel
      by_cases hn : 0 < ks.length
      · have hn1 : (0 : Int) < (ks.length : Int) := by omega
        have hn2 : decide (0 < ks.length) = true := decide_eq_true hn
        go_wp2
        go_ret
        exact ⟨rfl, HW.out⟩
      · have hn0 : ks.length = 0 := by omega
        go_wp2
        go_ret
        exact ⟨rfl, HW.out⟩

set_option maxRecDepth 100000 in
set_option maxHeartbeats 2000000 in
/-- The document's Can. -/
theorem rcan_any (ks : List T) (ak : Option Addr) (ck : Nat) (w : World) (B : Nat) (hFo : Forest w (· < B) ks ak ck) (hF : ∀ x ∈ ks, Fits x) (hks : ks.length * 88 ≤ 140737488351232) (hB : B ≤ w.heap.size) (hT : Tabs w) :
    Calls Tryd.prog 18 #[.slice ak ks.length ck] w fun e w' => e = .returned (.int .i64 (canE ks)) ∧ Below w.heap.size w w' := by
  obtain ⟨r, hr⟩ : ∃ r, canE ks = r := ⟨_, rfl⟩
  rw [hr]
  unfold canE at hr
  have HH := Lib.hid (And.intro hFo (And.intro hF (And.intro hB (And.intro hT (And.intro hr hks)))))
  clear hFo hF hB hT hr hks
  go_enter Tryd.func18, Tryd.ntmps18
  go_wp2
  go_loopg [3, 4] ks.length (fun kq v3 v w' => ∃ i m : Nat, v = .int .i64 i ∧ v3 = .int .i64 m ∧ Hid (kq = ks.length - i ∧ i ≤ ks.length) ∧ Hid (canGo ks 0 = canGo (ks.drop i) m ∧ m ≤ 4097) ∧ Hid (Below w.heap.size w w'))
  case atStart => exact ⟨0, 0, rfl, rfl, Lib.hid ⟨rfl, Nat.zero_le _⟩, Lib.hid ⟨rfl, by omega⟩, Lib.hid (Below.refl _ _)⟩
  case round =>
    obtain ⟨i, m, rfl, rfl, HI, HM, HB⟩ := hrel
    have hi0 : (0 : Int) ≤ (i : Int) := by omega
    by_cases hi : i < ks.length
    · have hi1 : (i : Int) < (ks.length : Int) := by omega
      have hi2 : decide (i < ks.length) = true := decide_eq_true hi
      obtain ⟨x, hx⟩ : ∃ x, ks[i]? = some x := ⟨ks[i], List.getElem?_eq_getElem hi⟩
      have hFr : Forest wr (· < B) ks ak ck := HH.out.1.below HB.out
      obtain ⟨g, off, xk, xn, xa, xla, xca, xt, xkk, xlk, xkc, rfl, hck, y0, y1, y2, y3, y4, hxA⟩ := hFr.kid hx
      have C := rCheck_any x _ wr (· < B) hxA (HH.out.2.1 x (List.mem_of_getElem? hx))
      have HA := Lib.hid hxA
      obtain ⟨e0, he⟩ : ∃ e0, chk x 1 0 = e0 := ⟨_, rfl⟩
      rw [he] at C
      have HX := Lib.hid (And.intro hx (And.intro hi he))
      clear hxA hFr hx hi he
      go_wp2_with fail
      refine C.mono ?_
      rintro e w3 ⟨rfl, hB3⟩
      have U3 : Upd wr w3 (fun _ => False) := Upd.ofBelow hB3
      have z0 := (U3.cell (p := ⟨g, off + i * 5, none⟩) (by exact World.block_lt_of_cell? wr _ y0) (fun h => h)).trans y0
      have z1 := (U3.cell (p := ⟨g, off + i * 5 + 1, none⟩) (by exact World.block_lt_of_cell? wr _ y1) (fun h => h)).trans y1
      have z2 := (U3.cell (p := ⟨g, off + i * 5 + 2, none⟩) (by exact World.block_lt_of_cell? wr _ y2) (fun h => h)).trans y2
      have z3 := (U3.cell (p := ⟨g, off + i * 5 + 3, none⟩) (by exact World.block_lt_of_cell? wr _ y3) (fun h => h)).trans y3
      have z4 := (U3.cell (p := ⟨g, off + i * 5 + 4, none⟩) (by exact World.block_lt_of_cell? wr _ y4) (fun h => h)).trans y4
      have H3 := Lib.hid (And.intro hB3 (HA.out.keep U3 (fun _ _ h => h)))
      clear hB3 U3 C y0 y1 y2 y3 y4
      have hgo : canGo ks 0 = if e0 ≠ 0 then e0 else canGo (ks.drop (i + 1)) (m + T.size x) := by rw [HM.out.1, canGo_at HX.out.1, show chk x 1 0 = e0 from HX.out.2.2]
      have HG := Lib.hid hgo
      clear hgo
      by_cases h0 : e0 = 0
      · subst h0
        have hs := (chk_size x 1 0 HX.out.2.2).1
        have D := size4_any (· < B) x _ w3 H3.out.2 (HH.out.2.1 x (List.mem_of_getElem? HX.out.1)) (by omega)
        obtain ⟨z, hz⟩ : ∃ z, T.size x = z := ⟨_, rfl⟩
        rw [hz] at D hs
        have hz1 : (z : Int) ≤ 4096 := by omega
        have hm0 : (m : Int) ≤ 4097 := by have := HM.out.2; omega
        have HZ := Lib.hid (And.intro hz hs)
        clear hz hs
        by_cases hmz : m + z ≤ 4096
        · have hmz1 : ¬ (4096 : Int) < (m : Int) + (z : Int) := by omega
          have HMZ := Lib.hid hmz
          clear hmz
          go_wp2_with fail
          refine D.mono ?_
          rintro e w4 ⟨rfl, hB4⟩
          have HU := Lib.hid (below_tr HB.out (below_tr H3.out.1 hB4))
          clear hB4 D z0 z1 z2 z3 z4
          go_wp2
          go_roundg (ks.length - (i + 1))
          case measure => have := HI.out; have := HX.out; omega
          case rel =>
            refine ⟨i + 1, m + z, v64s HX.out.2.1 (by have := HH.out; omega), by go_num, Lib.hid ⟨rfl, HX.out.2.1⟩, Lib.hid ⟨?_, by have := HMZ.out; omega⟩, HU⟩
            have hg := HG.out
            rw [if_neg (by simp), HZ.out.1] at hg
            exact hg
        · have hmz1 : (4096 : Int) < (m : Int) + (z : Int) := by omega
          have HMZ := Lib.hid hmz
          clear hmz
          go_wp2_with fail
          refine D.mono ?_
          rintro e w4 ⟨rfl, hB4⟩
          have HU := Lib.hid (below_tr HB.out (below_tr H3.out.1 hB4))
          clear hB4 D z0 z1 z2 z3 z4
          go_wp2
          go_roundg (ks.length - (i + 1))
          case measure => have := HI.out; have := HX.out; omega
          case rel =>
            refine ⟨i + 1, 4097, v64s HX.out.2.1 (by have := HH.out; omega), rfl, Lib.hid ⟨rfl, HX.out.2.1⟩, Lib.hid ⟨?_, by omega⟩, HU⟩
            have hg := HG.out
            have h1 := HZ.out.1
            rw [if_neg (by simp), canGo_over (ks.drop (i + 1)) (m + T.size x) 4097 (by have := HMZ.out; omega) (by omega)] at hg
            exact hg
      · have h0b : (e0 == 0) = false := beq_eq_false_iff_ne.2 h0
        have Hr0 := Lib.hid h0
        clear h0 z0 z1 z2 z3 z4
        go_wp2
        go_ret
        refine ⟨ret_int ?_, below_tr HB.out H3.out.1⟩
        have hg := HG.out
        rw [if_pos Hr0.out] at hg
        rw [← hg]
        exact HH.out.2.2.2.2.1
    · have hi1 : ¬ (i : Int) < (ks.length : Int) := by omega
      have hi2 : decide (i < ks.length) = false := decide_eq_false hi
      have H1 := Lib.hid hi
      clear hi
      have hgo := HM.out.1
      rw [canGo_end H1.out] at hgo
      by_cases hm : m ≤ 4096
      · have hm1 : ¬ (4096 : Int) < (m : Int) := by omega
        rw [if_neg (by omega)] at hgo
        have HG := Lib.hid hgo
        clear hgo hm
        go_wp2
        go_ret
        exact ⟨ret_int (by rw [← HG.out]; exact HH.out.2.2.2.2.1), HB.out⟩
      · have hm1 : (4096 : Int) < (m : Int) := by omega
        rw [if_pos (by omega)] at hgo
        have HG := Lib.hid hgo
        clear hgo hm
        go_wp2
        go_ret
        exact ⟨ret_int (by rw [← HG.out]; exact HH.out.2.2.2.2.1), HB.out⟩

end Ch
end Go.Proofs.YtemmkobgpciflaaDoor
