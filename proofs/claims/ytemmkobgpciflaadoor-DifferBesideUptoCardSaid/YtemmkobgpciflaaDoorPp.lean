/- The program's Doc in memory, of one leaf or of none: handle, at, fresh, put: walked. -/
import Derived.Test.YtemmkobgpciflaaDoorLook
import Derived.Test.YtemmkobgpciflaaDoorDocH
import Derived.Test.YtemmkobgpciflaaDoorOwnD
import Derived.Deep.Upon
import Derived.LaidEqlPtr
import Derived.Laws.ResultCell
import Derived.Test.YtemmkobgpciflaaDoorScript
namespace Go.Proofs.YtemmkobgpciflaaDoor
open Go.RowKit
open Ch
namespace Pt

/-- A node's cells. -/
def nodeC (ix ge : Nat) (lv : Bool) (k : Int) (n : ByteArray) (av : Value) (t : ByteArray) (pv kv : Value) : List Value := [.int .u32 (ix : Nat), .int .u32 (ge : Nat), .bool lv, .int .i64 k, .string n, av, .string t, pv, kv]
def vac (ge : Nat) : List Value := nodeC 1 ge false 0 ⟨#[]⟩ (.slice none 0 0) ⟨#[]⟩ (.pointer none) (.slice none 0 0)
def ptr (b : Nat) : Value := .pointer (some ⟨b, 0, none⟩)

theorem shaped0 (w : World) : Calls Tryd.prog 130 #[.int .i64 2, .int .u64 0] w (fun e w' => e = .returned (.bool true) ∧ w' = w) := by
  go_enter Tryd.func130, Tryd.ntmps130
  go_wp2
  go_ret
  exact ⟨rfl, rfl⟩
theorem parent0 (d : Nat) (w : World) : Calls Tryd.prog 131 #[.pointer (some ⟨d, 0, none⟩), .int .i64 2, .pointer none] w (fun e w' => e = .returned (.tuple #[.pointer none, .int .i64 0]) ∧ w' = w) := by
  go_enter Tryd.func131, Tryd.ntmps131
  go_wp2
  go_ret2
  exact ⟨rfl, rfl⟩
theorem level0 (w : World) : Calls Tryd.prog 132 #[.pointer none] w (fun e w' => e = .returned (.int .i64 (-1)) ∧ w' = w) := by
  go_enter Tryd.func132, Tryd.ntmps132
  go_wp2
  go_loopg [0, 3] 0 (fun kq v0 v3 w' => v0 = .pointer none ∧ v3 = .int .i64 (-1) ∧ w' = w)
  case atStart => exact ⟨rfl, rfl, rfl⟩
  case round =>
    obtain ⟨rfl, rfl, rfl⟩ := hrel
    go_wp2
    go_ret
    exact ⟨rfl, rfl⟩
theorem list0 (d : Nat) (w : World) : Calls Tryd.prog 155 #[.pointer (some ⟨d, 0, none⟩), .pointer none] w (fun e w' => e = .returned (.pointer (some ⟨d, 1, none⟩)) ∧ w' = w) := by
  go_enter Tryd.func155, Tryd.ntmps155
  go_wp2
  go_ret
  exact ⟨rfl, rfl⟩
theorem at0 (d : Nat) (w : World) : Calls Tryd.prog 117 #[.pointer (some ⟨d, 0, none⟩), .int .u64 0] w (fun e w' => e = .returned (.pointer none) ∧ w' = w) := by
  go_enter Tryd.func117, Tryd.ntmps117
  go_wp2
  go_ret
  exact ⟨rfl, rfl⟩
theorem handle_any (b ge i : Nat) (lv : Bool) (k : Int) (n : ByteArray) (av : Value) (t : ByteArray) (pv kv : Value) (w : World) (hb : Blk w b (nodeC (i + 1) ge lv k n av t pv kv) 160) (hg : ge < 4294967296) (hi : i < 1048576) :
    Calls Tryd.prog 135 #[ptr b] w (fun e w' => e = .returned (.int .u64 (Df.hand ge i : Nat)) ∧ Below w.heap.size w w') := by
  have c0 := hb.cell 0
  have c1 := hb.cell 1
  unfold nodeC at c0 c1
  simp only [List.getElem?_cons_zero, List.getElem?_cons_succ] at c0 c1
  obtain ⟨q1, q2, q3, q4, q5, hi0⟩ := Df.handQ ge i hg hi
  rw [← show ((i + 1 : Nat) : Int) = (i : Int) + 1 from rfl] at q1 q4
  obtain ⟨X, hX⟩ : ∃ X, X = Df.hand ge i := ⟨_, rfl⟩
  rw [← hX] at q1 ⊢
  obtain ⟨j, hj⟩ : ∃ j, j = i + 1 := ⟨_, rfl⟩
  rw [← hj] at c0 q1 q4
  unfold ptr
  clear hb hg hi hX hj q5 hi0
  go_enter Tryd.func135, Tryd.ntmps135
  go_wp2
  apply wp_reg (fun w' : World => w'.cell? ⟨b, 1, none⟩ = some (.int .u32 (ge : Nat)) ∧ w'.cell? ⟨b, 0, none⟩ = some (.int .u32 (j : Nat))) [0, 1, 2, 3, 4, 5, 6, 7, 8, 9, 10, 11] [] [12] (by kernel_rfl) (by kernel_rfl) (fun _ _ d _ _ h => by cases d <;> exact h) ⟨c1, c0⟩
  · iterate 12 (apply reads_consL rfl rfl; (· intro w0 hS; obtain ⟨hS1, hS2⟩ := hS; go_simp; try rfl); simp only [Act.put, List.setIfInBounds_toArray, List.set_cons_zero, List.set_cons_succ])
    exact rfl
  refine tail_oneL rfl ?_
  go_wp2
  go_ret
  exact ⟨rfl, (Below.refl _ _).drew⟩

/-- A document: its slices of nodes and of roots, how many live, the least index that may be free. -/
structure Dst (w : World) (D : Nat) (Nv Rv : Value) (lv low : Nat) (bs rb : List Nat) : Prop where
  doc : Blk w D [Nv, Rv, .int .i64 (lv : Nat), .int .i64 0, .int .i64 (low : Nat)] 120
  ownN : w.ownsRow 0 154 1 Nv bs.length (bs.map ptr)
  ownR : w.ownsRow 0 154 1 Rv rb.length (rb.map ptr)
  apart : ∀ g, Nv.ownBlock = some g → Rv.ownBlock ≠ some g
theorem Dst.ne {w : World} {D : Nat} {Nv Rv : Value} {lv low : Nat} {bs rb : List Nat} (h : Dst w D Nv Rv lv low bs rb) : Nv.ownBlock ≠ some D ∧ Rv.ownBlock ≠ some D :=
  ⟨fun e => by obtain ⟨_, hv⟩ := own_ty h.ownN e; exact h.doc.ty hv (by decide) rfl, fun e => by obtain ⟨_, hv⟩ := own_ty h.ownR e; exact h.doc.ty hv (by decide) rfl⟩
theorem Dst.keep {w w' : World} {D : Nat} {Nv Rv : Value} {lv low : Nat} {bs rb : List Nat} (h : Dst w D Nv Rv lv low bs rb) {F : Nat → Prop} (hU : Upd w w' F) (hd : ¬ F D) (hN : ∀ g, Nv.ownBlock = some g → ¬ F g) (hR : ∀ g, Rv.ownBlock = some g → ¬ F g) : Dst w' D Nv Rv lv low bs rb :=
  ⟨hU.blk h.doc hd, own_keep h.ownN hU hN, own_keep h.ownR hU hR, h.apart⟩
theorem Dst.none {w w' : World} {D : Nat} {Nv Rv : Value} {lv low : Nat} {bs rb : List Nat} (h : Dst w D Nv Rv lv low bs rb) (hU : Upd w w' (fun _ => False)) : Dst w' D Nv Rv lv low bs rb := h.keep hU (fun h => h) (fun _ _ h => h) (fun _ _ h => h)

theorem elemNp : Elem Tryd.prog 154 1 8 (.pointer none) := Elem.mk' (by kernel_rfl) rfl (by omega) (by omega)
theorem ptrs_one (l : List Nat) : ∀ u ∈ l.map ptr, u.oneCell' = true := by
  intro u hu
  obtain ⟨b, _, rfl⟩ := List.mem_map.1 hu
  rfl

def FreshPost (D : Nat) (Nv Rv : Value) (lv : Nat) (bs rb : List Nat) (w : World) (e : Ending) (w' : World) : Prop := ∃ b Nv', e = .returned (ptr b) ∧ Dst w' D Nv' Rv (lv + 1) bs.length (bs ++ [b]) rb ∧ Blk w' b (nodeC (bs.length + 1) 1 true 0 ⟨#[]⟩ (.slice none 0 0) ⟨#[]⟩ (.pointer none) (.slice none 0 0)) 160 ∧ w.heap.size ≤ b ∧
  (∀ g, Nv'.ownBlock = some g → Nv.ownBlock = some g ∨ w.heap.size ≤ g) ∧ Upd w w' (fun g => g = D ∨ Nv.ownBlock = some g)

set_option maxRecDepth 100000 in
set_option maxHeartbeats 1600000 in
theorem fresh_new (D : Nat) (Nv Rv : Value) (lv low : Nat) (bs rb : List Nat) (w : World) (hD : Dst w D Nv Rv lv low bs rb) (hl : ∀ (i b : Nat), bs[i]? = some b → low ≤ i → w.cell? ⟨b, 2, none⟩ = some (.bool true)) (hb : ∀ b ∈ bs, ∃ cs, Blk w b cs 160) (hlow : low ≤ bs.length) (hn : bs.length < 4096) (hlv : lv ≤ 4096) :
    Calls Tryd.prog 161 #[.pointer (some ⟨D, 0, none⟩)] w (FreshPost D Nv Rv lv bs rb w) := by
  obtain ⟨n, hnn⟩ : ∃ n, n = bs.length := ⟨_, rfl⟩
  obtain ⟨a, c, rfl, _⟩ := (Rd.ofOwn hD.ownN).form
  have HH := Lib.hid (And.intro hD (And.intro hl (And.intro hb (And.intro hlow (And.intro hn (And.intro hlv hnn))))))
  rw [← hnn]
  clear hD hl hb hlow hn hlv hnn
  go_enter Tryd.func161, Tryd.ntmps161
  go_wp2
  go_loopg [] (n - low) (fun kq w' => ∃ i : Nat, Hid (kq = n - i ∧ i ≤ n ∧ low ≤ i) ∧ Hid (Dst w' D (.slice a n c) Rv lv i bs rb) ∧ Hid (Upd w w' (· = D)))
  case atStart => exact ⟨low, Lib.hid ⟨rfl, by have := HH.out; omega, Nat.le_refl _⟩, Lib.hid (by have := HH.out.1; rwa [← HH.out.2.2.2.2.2.2] at this), Lib.hid (Upd.refl _ _)⟩
  case round =>
    obtain ⟨i, HJ, HD, HU⟩ := hrel
    have d0 := HD.out.doc.cell 0
    have d2 := HD.out.doc.cell 2
    have d4 := HD.out.doc.cell 4
    have f4 := HD.out.doc.free 4
    simp only [List.getElem?_cons_zero, List.getElem?_cons_succ] at d0 d2 d4
    have hi0 : (0 : Int) ≤ (i : Int) := Int.natCast_nonneg _
    have hi00 : ¬ ((i : Int) < 0) := Int.not_lt.2 hi0
    by_cases hi : i < n
    · have hi1 : (i : Int) < (n : Int) := Int.ofNat_lt.2 hi
      have hi2 : decide (i < n) = true := decide_eq_true hi
      obtain ⟨hD, hl, hb, hlow, hn, hlv, hnn⟩ := HH.out
      obtain ⟨b, hbi⟩ : ∃ b, bs[i]? = some b := ⟨bs[i]'(by omega), List.getElem?_eq_getElem _⟩
      have hN := HD.out.ownN
      rw [← hnn] at hN
      obtain ⟨g, off, c', e, hc, h1⟩ := (Rd.ofOwn hN).at_ (j := i) (u := ptr b) (by rw [List.getElem?_map, hbi]; rfl)
      simp only [Value.slice.injEq] at e
      obtain ⟨rfl, _, rfl⟩ := e
      unfold ptr at h1
      obtain ⟨cs, hbb⟩ := hb b (List.mem_of_getElem? hbi)
      have h2 : wr.cell? ⟨b, 2, none⟩ = some (.bool true) := by
        rw [HU.out.cell hbb.lt (fun e => by
          have e : b = D := e
          rw [e] at hbb
          exact hD.doc.ty hbb (by decide) rfl)]
        exact hl i b hbi HJ.out.2.2
      have HX := Lib.hid hi
      clear hD hl hb hlow hn hlv hnn hbi hN hbb hi
      go_wp2
      apply wp_reg (fun w' : World => w'.cell? ⟨D, 0, none⟩ = some (.slice (some ⟨g, off, none⟩) n c) ∧ w'.cell? ⟨D, 4, none⟩ = some (.int .i64 (i : Nat)) ∧ w'.cell? ⟨g, off + i, none⟩ = some (.pointer (some ⟨b, 0, none⟩)) ∧ w'.cell? ⟨b, 2, none⟩ = some (.bool true)) [0, 1, 2, 3, 4, 5, 6, 7, 8, 9, 10, 11, 12, 13, 14, 15, 16, 17, 18, 19, 20, 21, 22, 23, 24, 25, 26, 27, 28, 29, 30, 31, 32, 33, 34, 35, 36, 37, 38, 39, 40] [] [] (by kernel_rfl) (by kernel_rfl) (fun _ _ d _ _ h => by cases d <;> exact h) ⟨d0, d4, h1, h2⟩
      · iterate 25 (apply reads_consL rfl rfl; (· intro w0 hS; obtain ⟨hS0, hS1, hS2, hS3⟩ := hS; go_simp; try rfl); simp only [Act.put, List.setIfInBounds_toArray, List.set_cons_zero, List.set_cons_succ])
        iterate 14 (apply reads_skipL rfl rfl; simp only [Act.put, List.setIfInBounds_toArray, List.set_cons_zero, List.set_cons_succ])
        iterate 2 (apply reads_consL rfl rfl; (· intro w0 hS; obtain ⟨hS0, hS1, hS2, hS3⟩ := hS; go_simp; try rfl); simp only [Act.put, List.setIfInBounds_toArray, List.set_cons_zero, List.set_cons_succ])
        exact rfl
      refine tail_zero ?_
      have q1 : wrap64 ((i : Int) + 1) = (i : Int) + 1 := Go.IntWalk.wrap64_in _ (by have := HH.out; have := HX.out; omega)
      go_wp2
      go_roundg (n - (i + 1))
      case measure => have := HJ.out; have := HX.out; omega
      case rel =>
        have HD := HD.out
        have e : [Value.slice (some ⟨g, off, none⟩) n c, Rv, .int .i64 (lv : Nat), .int .i64 0, .int .i64 ((i : Int) + 1)] = [Value.slice (some ⟨g, off, none⟩) n c, Rv, .int .i64 (lv : Nat), .int .i64 0, .int .i64 ((i + 1 : Nat) : Int)] := rfl
        have U : Upd wr ((wr.drew).setCell ⟨D, 4, none⟩ (.int .i64 ((i : Int) + 1))) (· = D) := (Upd.refl wr (· = D)).drew.set ⟨D, 4, none⟩ _ (fun _ => rfl)
        exact ⟨i + 1, Lib.hid ⟨rfl, by have := HX.out; omega, by have := HJ.out; omega⟩, Lib.hid ⟨HD.doc.drew.set 4 _, own_keep HD.ownN U (fun g' hg' e => HD.ne.1 (by rw [hg', e])), own_keep HD.ownR U (fun g' hg' e => HD.ne.2 (by rw [hg', e])), HD.apart⟩, Lib.hid (HU.out.trans U (fun _ _ h => h))⟩
    · have hi1 : ¬ (i : Int) < (n : Int) := fun h => hi (Int.ofNat_lt.1 h)
      have hi2 : decide (i < n) = false := decide_eq_false hi
      have ei : i = n := by have := HJ.out; omega
      clear hi
      subst ei
      go_wp2
      apply wp_reg (fun w' : World => w'.cell? ⟨D, 0, none⟩ = some (.slice a i c) ∧ w'.cell? ⟨D, 4, none⟩ = some (.int .i64 (i : Nat))) [0, 1, 2, 3, 4, 5, 6, 7, 8, 9, 10, 11, 12, 13, 14, 15, 16, 17, 18, 19, 20, 21, 22, 23, 24, 25, 26, 27, 28, 29, 30, 31, 32, 33, 34, 35, 36, 37, 38, 39, 40] [] [] (by kernel_rfl) (by kernel_rfl) (fun _ _ d _ _ h => by cases d <;> exact h) ⟨d0, d4⟩
      · iterate 11 (apply reads_consL rfl rfl; (· intro w0 hS; obtain ⟨hS0, hS1⟩ := hS; go_simp; try rfl); simp only [Act.put, List.setIfInBounds_toArray, List.set_cons_zero, List.set_cons_succ])
        iterate 29 (apply reads_skipL rfl rfl; simp only [Act.put, List.setIfInBounds_toArray, List.set_cons_zero, List.set_cons_succ])
        iterate 1 (apply reads_consL rfl rfl; (· intro w0 hS; obtain ⟨hS0, hS1⟩ := hS; go_simp; try rfl); simp only [Act.put, List.setIfInBounds_toArray, List.set_cons_zero, List.set_cons_succ])
        exact rfl
      refine tail_zero ?_
      go_wp2
      apply wp_reg (w := wr.drew) (fun w' : World => w'.cell? ⟨D, 0, none⟩ = some (.slice a i c) ∧ w'.cell? ⟨D, 4, none⟩ = some (.int .i64 (i : Nat))) [0, 1, 2, 3, 4, 5, 6, 7, 8, 9] [] [] (by kernel_rfl) (by kernel_rfl) (fun _ _ d _ _ h => by cases d <;> exact h) ⟨d0, d4⟩
      · iterate 10 (apply reads_consL rfl rfl; (· intro w0 hS; obtain ⟨hS0, hS1⟩ := hS; go_simp; try rfl); simp only [Act.put, List.setIfInBounds_toArray, List.set_cons_zero, List.set_cons_succ])
        exact rfl
      refine tail_zero ?_
      have q1 : wrap64 ((i : Int) + 1) = (i : Int) + 1 := Go.IntWalk.wrap64_in _ (by have := HH.out; omega)
      have q2 : wrap64 ((i : Int) + 1) % 4294967296 = ((i + 1 : Nat) : Int) := by rw [q1]; have := HH.out; omega
      go_wp2
      apply wp_reg (w := wr.drew.drew) (fun w' : World => w'.cell? ⟨D, 0, none⟩ = some (.slice a i c) ∧ w'.cell? ⟨D, 4, none⟩ = some (.int .i64 (i : Nat))) [0, 1, 2, 3, 4, 5, 6, 7, 8, 9, 10, 11] [12, 13, 14] [15, 16, 17] (by kernel_rfl) (by kernel_rfl) (fun _ _ d _ _ h => by cases d <;> exact h) ⟨d0, d4⟩
      · iterate 12 (apply reads_consL rfl rfl; (· intro w0 hS; obtain ⟨hS0, hS1⟩ := hS; go_simp; try rfl); simp only [Act.put, List.setIfInBounds_toArray, List.set_cons_zero, List.set_cons_succ])
        exact rfl
      have V1 : Upd wr wr.drew.drew.drew (fun _ => False) := (Upd.refl wr _).drew.drew.drew
      generalize wr.drew.drew.drew = wb at V1 ⊢
      obtain ⟨b, hb⟩ : ∃ b, b = wb.heap.size := ⟨_, rfl⟩
      have HB := Lib.hid (And.intro V1 (And.intro hb q2))
      clear V1 hb q1 q2
      refine tail_consL rfl ?_
      go_wp2_with fail
      rw [← HB.out.2.1, HB.out.2.2]
      generalize hW : World.alloc _ _ = Wc
      have Vc : Upd wr Wc (fun _ => False) := by rw [← hW]; exact HB.out.1.alloc _
      have Xb : Blk Wc b (nodeC (i + 1) 0 false 0 ⟨#[]⟩ (.slice none 0 0) ⟨#[]⟩ (.pointer none) (.slice none 0 0)) 160 := by rw [← hW]; exact Blk.new' HB.out.2.1
      have hbs : wr.heap.size ≤ b := by rw [HB.out.2.1]; exact HB.out.1.size
      have Dc := HD.out.none Vc
      have d0 := Dc.doc.cell 0
      have d4 := Dc.doc.cell 4
      simp only [List.getElem?_cons_zero, List.getElem?_cons_succ] at d0 d4
      have Hc := Lib.hid (And.intro Vc (And.intro Xb (And.intro hbs Dc)))
      obtain ⟨q, hq⟩ : ∃ q, q = Wc.heap.size := ⟨_, rfl⟩
      have HQ := Lib.hid hq
      clear hW Vc Xb hbs Dc hq
      refine ⟨⟨d0, d4⟩, tail_consL rfl ?_⟩
      go_wp2_with fail
      rw [← HQ.out]
      generalize hW : World.alloc _ _ = Wd
      have Vd : Upd Wc Wd (fun _ => False) := by rw [← hW]; exact (Upd.refl _ _).alloc _
      have Xq : Blk Wd q [ptr b] 154 := by rw [← hW]; exact Blk.new' HQ.out
      have Dd := Hc.out.2.2.2.none Vd
      have Xb := Vd.blk Hc.out.2.1 (fun h => h)
      have d0 := Dd.doc.cell 0
      have d4 := Dd.doc.cell 4
      simp only [List.getElem?_cons_zero, List.getElem?_cons_succ] at d0 d4
      have ON := Dd.ownN
      have Hd := Lib.hid (And.intro Vd (And.intro Xq (And.intro Dd Xb)))
      have hne := Dd.ne
      clear hW Vd Dd Xb
      refine ⟨⟨d0, d4⟩, tail_consL rfl ?_⟩
      refine wpl_app (n := bs.length) (m := 1) rfl rfl elemNp Tryd.underlying118 rfl ON rfl (Rd.ofBlk Xq 1 1 rfl) (by intro u hu; simp at hu; subst hu; rfl) (by have := HH.out.2.2.2.2.1; omega) ?_
      rintro v8 w8 ⟨O8, U8, b8⟩
      clear ON Xq
      have D8 : Blk w8 D _ 120 := U8.blk Hd.out.2.2.1.doc (fun e => hne.1 e)
      have d0 := D8.cell 0
      have d4 := D8.cell 4
      have z0 := D8.free 0
      simp only [List.getElem?_cons_zero, List.getElem?_cons_succ] at d0 d4
      have R8 := own_keep Hd.out.2.2.1.ownR U8 (fun g hg e => Hd.out.2.2.1.apart g e hg)
      have b8X := U8.blk Hd.out.2.2.2 (fun e => by
        obtain ⟨_, hv⟩ := own_ty Hd.out.2.2.1.ownN e
        exact Hd.out.2.2.2.ty hv (by decide) rfl)
      obtain ⟨a8, c8, rfl, _⟩ := (Rd.ofOwn O8).form
      have H8 := Lib.hid (And.intro O8 (And.intro U8 (And.intro b8 (And.intro D8 (And.intro R8 b8X)))))
      clear O8 U8 b8 D8 R8 b8X hne
      go_wp2_with fail
      refine ⟨⟨d0, d4⟩, tail_threeL rfl rfl rfl ?_⟩
      go_wp2
      generalize hW : World.setCell _ _ _ = W9
      obtain ⟨O8, U8, b8, D8, R8, b8X⟩ := H8.out
      have D9 : Blk W9 D [.slice a8 (bs.length + 1) c8, Rv, .int .i64 (lv : Nat), .int .i64 0, .int .i64 (i : Nat)] 120 := by rw [← hW]; exact D8.set 0 _
      have U9 : Upd w8 W9 (· = D) := by rw [← hW]; exact (Upd.refl w8 (· = D)).set ⟨D, 0, none⟩ _ (fun _ => rfl)
      have nD : ∀ g, (Value.slice a8 (bs.length + 1) c8).ownBlock = some g → g ≠ D := fun g hg e => by
        obtain ⟨_, hv⟩ := own_ty O8 hg
        exact D8.ty (e ▸ hv) (by decide) rfl
      have nR : ∀ g, Rv.ownBlock = some g → g ≠ D := fun g hg e => by
        obtain ⟨_, hv⟩ := own_ty R8 hg
        exact D8.ty (e ▸ hv) (by decide) rfl
      have nb : b ≠ D := fun e => D8.ty (e ▸ b8X) (by decide) rfl
      have O9 := own_keep O8 U9 (fun g hg e => nD g hg e)
      have R9 := own_keep R8 U9 (fun g hg e => nR g hg e)
      have X9 := U9.blk b8X nb
      have en : i = bs.length := HH.out.2.2.2.2.2.2
      obtain ⟨g9, o9, c9, e9, _, cell9⟩ := (Rd.ofOwn O9).at_ (j := i) (u := ptr b) (by rw [en, List.getElem?_append_right (by simp), List.length_map, Nat.sub_self]; rfl)
      simp only [Value.slice.injEq] at e9
      obtain ⟨rfl, _, rfl⟩ := e9
      unfold ptr at cell9
      have d0 := D9.cell 0
      have d4 := D9.cell 4
      simp only [List.getElem?_cons_zero, List.getElem?_cons_succ] at d0 d4
      have i1 : (i : Int) < ((bs.length + 1 : Nat) : Int) := by omega
      have i2 : (i : Int) < (bs.length : Int) + 1 := by omega
      have H9 := Lib.hid (And.intro D9 (And.intro U9 (And.intro nD (And.intro nR (And.intro nb (And.intro O9 (And.intro R9 (And.intro X9 en))))))))
      clear hW O8 U8 b8 D8 R8 b8X D9 U9 nD nR nb O9 R9 X9 en z0
      obtain ⟨m1, hm1⟩ : ∃ m1, m1 = bs.length + 1 := ⟨_, rfl⟩
      rw [← hm1] at d0 i1
      have HM1 := Lib.hid hm1
      clear i2 hm1
      apply wp_reg (w := W9) (fun w' : World => w'.cell? ⟨D, 0, none⟩ = some (.slice (some ⟨g9, o9, none⟩) m1 c8) ∧ w'.cell? ⟨D, 4, none⟩ = some (.int .i64 (i : Nat)) ∧ w'.cell? ⟨g9, o9 + i, none⟩ = some (.pointer (some ⟨b, 0, none⟩))) [0, 1, 2, 3, 4, 5, 6, 7, 8, 9] [] [10] (by kernel_rfl) (by kernel_rfl) (fun _ _ d _ _ h => by cases d <;> exact h) ⟨d0, d4, cell9⟩
      · iterate 10 (apply reads_consL rfl rfl; (· intro w0 hS; obtain ⟨hS0, hS1, hS2⟩ := hS; go_simp; try rfl); simp only [Act.put, List.setIfInBounds_toArray, List.set_cons_zero, List.set_cons_succ])
        exact rfl
      refine tail_oneL rfl ?_
      have V9 : Upd W9 W9.drew (fun _ => False) := (Upd.refl W9 _).drew
      have D9 := V9.blk H9.out.1 (fun h => h)
      have X9 := V9.blk H9.out.2.2.2.2.2.2.2.1 (fun h => h)
      have O9 := own_keep H9.out.2.2.2.2.2.1 V9 (fun _ _ h => h)
      have R9 := own_keep H9.out.2.2.2.2.2.2.1 V9 (fun _ _ h => h)
      have U9 := H9.out.2.1.trans V9 (fun _ _ h => h.elim)
      clear V9 d0 d4 cell9
      generalize W9.drew = W10 at D9 X9 O9 R9 U9 ⊢
      have x1 := X9.cell 1
      have z1 := X9.free 1
      unfold nodeC at x1
      simp only [List.getElem?_cons_zero, List.getElem?_cons_succ] at x1
      have H10 := Lib.hid (And.intro D9 (And.intro X9 (And.intro O9 (And.intro R9 U9))))
      clear D9 X9 O9 R9 U9
      go_upto_region 7 with fail
      generalize hW : World.setCell _ _ _ = W11
      obtain ⟨D9, X9, O9, R9, U9⟩ := H10.out
      have U11 : Upd W10 W11 (· = b) := by rw [← hW]; exact (Upd.refl W10 (· = b)).set ⟨b, 1, none⟩ _ (fun _ => rfl)
      have X11 : Blk W11 b (nodeC (i + 1) 1 false 0 ⟨#[]⟩ (.slice none 0 0) ⟨#[]⟩ (.pointer none) (.slice none 0 0)) 160 := by
        rw [← hW]
        exact X9.set 1 _
      have D11 := U11.blk D9 (fun e => H9.out.2.2.2.2.1 e.symm)
      have z2 := X11.free 2
      have x2 := X11.cell 2
      have d2 := D11.cell 2
      have f2 := D11.free 2
      unfold nodeC at x2
      simp only [List.getElem?_cons_zero, List.getElem?_cons_succ] at d2 x2
      have H11 := Lib.hid (And.intro U11 (And.intro X11 D11))
      clear hW D9 X9 O9 R9 U9 U11 X11 D11
      go_upto_region 8 with fail
      generalize hW : World.setCell _ _ _ = W12
      have U12 : Upd W11 W12 (· = b) := by rw [← hW]; exact (Upd.refl W11 (· = b)).set ⟨b, 2, none⟩ _ (fun _ => rfl)
      have X12 : Blk W12 b (nodeC (i + 1) 1 true 0 ⟨#[]⟩ (.slice none 0 0) ⟨#[]⟩ (.pointer none) (.slice none 0 0)) 160 := by
        rw [← hW]
        exact H11.out.2.1.set 2 _
      have D12 := U12.blk H11.out.2.2 (fun e => H9.out.2.2.2.2.1 e.symm)
      have d2 := D12.cell 2
      have f2 := D12.free 2
      simp only [List.getElem?_cons_zero, List.getElem?_cons_succ] at d2
      have q1 : wrap64 ((lv : Int) + 1) = (lv : Int) + 1 := Go.IntWalk.wrap64_in _ (by have := HH.out.2.2.2.2.2.1; omega)
      have H12 := Lib.hid (And.intro U12 (And.intro X12 D12))
      clear hW U12 X12 D12
      go_wp2
      go_ret
      obtain ⟨D9, X9, O9, R9, U9⟩ := H10.out
      obtain ⟨U11, X11, D11⟩ := H11.out
      obtain ⟨U12, X12, D12⟩ := H12.out
      obtain ⟨_, _, nD, nR, nb, _, _, _, en⟩ := H9.out
      obtain ⟨O8, U8, b8, D8, R8, b8X⟩ := H8.out
      have b8 : (Value.slice (some ⟨g9, o9, none⟩) (bs.length + 1) c8).ownBlock = (Value.slice a i c).ownBlock ∨ (Value.slice (some ⟨g9, o9, none⟩) (bs.length + 1) c8).ownBlock = some Wd.heap.size := b8
      have U8 : Upd Wd w8 (fun g => (Value.slice a i c).ownBlock = some g) := U8
      have ap : ∀ g, (Value.slice a i c).ownBlock = some g → Rv.ownBlock ≠ some g := Hd.out.2.2.1.apart
      rw [en] at b8 U8 ap
      have V : Upd W10 (W12.setCell ⟨D, 2, none⟩ (.int .i64 ((lv : Int) + 1))) (fun g => g = b ∨ g = D) := ((U11.mono (fun _ _ e => Or.inl e)).trans U12 (fun _ _ e => Or.inl e)).set ⟨D, 2, none⟩ _ (fun _ => Or.inr rfl)
      have nbO : ∀ g, (Value.slice (some ⟨g9, o9, none⟩) (bs.length + 1) c8).ownBlock = some g → g ≠ b := fun g hg e => by
        obtain ⟨_, hv⟩ := own_ty O8 hg
        exact b8X.ty (e ▸ hv) (by decide) rfl
      have nbR : ∀ g, Rv.ownBlock = some g → g ≠ b := fun g hg e => by
        obtain ⟨_, hv⟩ := own_ty R8 hg
        exact b8X.ty (e ▸ hv) (by decide) rfl
      have hsz : w.heap.size ≤ b := Nat.le_trans HU.out.size Hc.out.2.2.1
      have hWd : wr.heap.size ≤ Wd.heap.size := Nat.le_trans Hc.out.1.size Hd.out.1.size
      have h80 : ∀ g, (Value.slice (some ⟨g9, o9, none⟩) (bs.length + 1) c8).ownBlock = some g → (Value.slice a bs.length c).ownBlock = some g ∨ w.heap.size ≤ g := fun g hg => by
        rcases b8 with e | e
        · exact Or.inl (by rw [← e]; exact hg)
        · have h1 : Wd.heap.size = g := ob_some (e.symm.trans hg)
          have h2 := HU.out.size
          exact Or.inr (by omega)
      have UU : Upd w W10 (fun g => g = D ∨ (Value.slice a bs.length c).ownBlock = some g) :=
        ((((HU.out.mono (fun _ _ e => Or.inl e)).trans Hc.out.1 (fun _ _ h => h.elim)).trans Hd.out.1 (fun _ _ h => h.elim)).trans U8 (fun _ _ h => Or.inr h)).trans U9 (fun _ _ h => Or.inl h)
      have hlen : (bs ++ [b]).length = bs.length + 1 := by simp
      rw [← en] at h80 UU
      refine ⟨b, .slice (some ⟨g9, o9, none⟩) (bs.length + 1) c8, rfl, ⟨?_, ?_, own_keep R9 V (fun g hg e => ?_), fun g hg e => ?_⟩, ?_, hsz, h80, UU.trans V (fun g hg e => ?_)⟩
      · rw [← en]
        have := D12.set 2 (.int .i64 ((lv : Int) + 1))
        rwa [← en] at this
      · have := own_keep O9 V (fun g hg e => by
          rcases e with e | e
          · exact nbO g hg e
          · exact nD g hg e)
        rw [hlen, List.map_append]
        exact this
      · rcases e with e | e
        · exact nbR g hg e
        · exact nR g hg e
      · rcases b8 with e8 | e8
        · exact ap g (e8 ▸ hg) e
        · have h1 : Wd.heap.size = g := ob_some (e8.symm.trans hg)
          have h2 := own_lt Hd.out.2.2.1.ownR e
          omega
      · rw [← en]
        exact (X12.far _ _ nb)
      · rcases e with e | e
        · omega
        · exact Or.inl e

end Pt
end Go.Proofs.YtemmkobgpciflaaDoor

namespace Go.Proofs.YtemmkobgpciflaaDoor
open Go.RowKit
open Ch
namespace Pt

def InsPost (v : Value) (n : Nat) (xs : List Value) (u : Value) (w : World) (e : Ending) (w' : World) : Prop := ∃ a c, e = .returned (.slice a (n + 1) c) ∧ w'.ownsRow 0 154 1 (.slice a (n + 1) c) (n + 1) (xs ++ [u]) ∧ Upd w w' (fun b => v.ownBlock = some b) ∧ ((Value.slice a (n + 1) c).ownBlock = v.ownBlock ∨ (Value.slice a (n + 1) c).ownBlock = some w.heap.size)

set_option maxRecDepth 100000 in
set_option maxHeartbeats 1600000 in
theorem insEnd (a : Option Addr) (n c : Nat) (xs : List Value) (q : Nat) (u : Value) (w : World) (hO : w.ownsRow 0 154 1 (.slice a n c) n xs) (hq : Blk w q [u] 154) (h1 : u.oneCell' = true) (hn : n ≤ 1048576) :
    Calls Tryd.prog 163 #[.slice a n c, .int .i64 (n : Nat), .slice (some ⟨q, 0, none⟩) 1 1] w (InsPost (.slice a n c) n xs u w) := by
  obtain ⟨s1, q1, R1, _⟩ := (Rd.ofOwn hO).cutL elemNp Tryd.underlying118 (Nat.le_refl n) .i64
  have HH := Lib.hid (And.intro hO (And.intro hq (And.intro h1 hn)))
  have hn0 : (0 : Int) ≤ (n : Int) := Int.natCast_nonneg _
  clear hO hq h1 hn R1
  go_enter Tryd.func163, Tryd.ntmps163
  go_wp2_with (at_builtin; refine halt_mk ?_)
  refine halt_go ?_
  refine wpl_app (n := n) (m := 1) rfl rfl elemNp Tryd.underlying118 rfl HH.out.1 rfl (Rd.ofBlk HH.out.2.1 1 1 rfl) (by intro x hx; simp at hx; subst hx; exact HH.out.2.2.1) (by have := HH.out; omega) ?_
  rintro v3 w3 ⟨O3, U3, b3⟩
  obtain ⟨a3, c3, rfl, _⟩ := (Rd.ofOwn O3).form
  have H3 := Lib.hid (And.intro O3 (And.intro U3 b3))
  clear O3 U3 b3 q1
  go_wp2
  go_ret
  exact ⟨a3, c3, rfl, H3.out.1, H3.out.2.1, H3.out.2.2⟩

def PutPost (D : Nat) (Nv Rv : Value) (lv low : Nat) (bs rb : List Nat) (b : Nat) (cs : List Value) (w : World) (e : Ending) (w' : World) : Prop := e = .returned (.tuple #[]) ∧ ∃ Rv', Dst w' D Nv Rv' lv low bs (rb ++ [b]) ∧ Blk w' b (cs.set 7 (.pointer none)) 160 ∧
  (∀ g, Rv'.ownBlock = some g → Rv.ownBlock = some g ∨ w.heap.size ≤ g) ∧ Upd w w' (fun g => g = D ∨ g = b ∨ Rv.ownBlock = some g)

set_option maxRecDepth 100000 in
set_option maxHeartbeats 1600000 in
theorem put_last (D : Nat) (Nv Rv : Value) (lv low : Nat) (bs rb : List Nat) (b : Nat) (cs : List Value) (w : World) (hD : Dst w D Nv Rv lv low bs rb) (hb : Blk w b cs 160) (h7 : ∃ u, cs[7]? = some u) (hn : rb.length ≤ 1048576) :
    Calls Tryd.prog 134 #[.pointer (some ⟨D, 0, none⟩), ptr b, .pointer none, .int .i64 2, .pointer none] w (PutPost D Nv Rv lv low bs rb b cs w) := by
  obtain ⟨a, c, rfl, _⟩ := (Rd.ofOwn hD.ownR).form
  have d1 := hD.doc.cell 1
  simp only [List.getElem?_cons_zero, List.getElem?_cons_succ] at d1
  have C := list0 D w
  have HH := Lib.hid (And.intro hD (And.intro hb (And.intro h7 hn)))
  have HC := Lib.hid C
  obtain ⟨n, hnn⟩ : ∃ n, n = rb.length := ⟨_, rfl⟩
  rw [← hnn] at d1
  have HN := Lib.hid hnn
  unfold ptr
  clear hD hb h7 hn C hnn
  go_enter Tryd.func134, Tryd.ntmps134
  go_wp2_with fail
  refine HC.out.mono ?_
  rintro e w2 ⟨rfl, rfl⟩
  clear HC
  obtain ⟨q, hq⟩ : ∃ q, q = w2.heap.size := ⟨_, rfl⟩
  have HQ := Lib.hid hq
  clear hq
  go_wp2_with fail
  rw [← HQ.out]
  generalize hW : World.alloc _ _ = W1
  have T1 : Upd w2 W1 (fun _ => False) := by rw [← hW]; exact (Upd.refl w2 _).alloc _
  have X1 : Blk W1 q [ptr b] 154 := by rw [← hW]; exact Blk.new' HQ.out
  have D1 := HH.out.1.none T1
  have O1 := D1.ownR
  rw [← HN.out] at O1
  have C := insEnd a n c (rb.map ptr) q (ptr b) W1 O1 X1 rfl (by rw [HN.out]; exact HH.out.2.2.2)
  have B1 := T1.blk HH.out.2.1 (fun h => h)
  have H1 := Lib.hid (And.intro T1 (And.intro D1 B1))
  have HC := Lib.hid C
  clear hW T1 X1 D1 O1 C B1
  refine HC.out.mono ?_
  rintro e w3 ⟨a3, c3, rfl, O3, U3, b3⟩
  have hU : ∀ g, (Value.slice a n c).ownBlock = some g → (Value.slice a rb.length c).ownBlock = some g := fun g e => by rw [← HN.out]; exact e
  have D3 : Blk w3 D _ 120 := U3.blk H1.out.2.1.doc (fun e => H1.out.2.1.ne.2 (hU _ e))
  have N3 := own_keep H1.out.2.1.ownN U3 (fun g hg e => H1.out.2.1.apart g hg (hU _ e))
  have B3 := U3.blk H1.out.2.2 (fun e => by
    obtain ⟨_, hv⟩ := own_ty H1.out.2.1.ownR (hU _ e)
    exact H1.out.2.2.ty hv (by decide) rfl)
  have d1 := D3.cell 1
  have z1 := D3.free 1
  simp only [List.getElem?_cons_zero, List.getElem?_cons_succ] at d1
  have H3 := Lib.hid (And.intro O3 (And.intro U3 (And.intro b3 (And.intro D3 (And.intro N3 (And.intro B3 hU))))))
  clear O3 U3 b3 D3 N3 B3 hU
  go_upto_region 10 with fail
  generalize hW : World.setCell _ _ _ = W4
  obtain ⟨O3, U3, b3, D3, N3, B3, hU⟩ := H3.out
  have U4 : Upd w3 W4 (· = D) := by rw [← hW]; exact (Upd.refl w3 (· = D)).set ⟨D, 1, none⟩ _ (fun _ => rfl)
  have D4 : Blk W4 D [Nv, .slice a3 (n + 1) c3, .int .i64 (lv : Nat), .int .i64 0, .int .i64 (low : Nat)] 120 := by
    rw [← hW]
    exact D3.set 1 _
  have nb : b ≠ D := fun e => D3.ty (e ▸ B3) (by decide) rfl
  have B4 := U4.blk B3 nb
  obtain ⟨u7, h7⟩ := HH.out.2.2.1
  have x7 := (B4.cell 7).trans h7
  have z7 := B4.free 7
  have H4 := Lib.hid (And.intro U4 (And.intro D4 (And.intro B4 nb)))
  clear hW O3 U3 b3 D3 N3 B3 hU U4 D4 B4 nb h7
  go_wp2
  go_end0
  obtain ⟨O3, U3, b3, D3, N3, B3, hU⟩ := H3.out
  obtain ⟨U4, D4, B4, nb⟩ := H4.out
  have V : Upd w3 (W4.setCell ⟨b, 7, none⟩ (.pointer none)) (fun g => g = D ∨ g = b) := (U4.mono (fun _ _ e => Or.inl e)).set ⟨b, 7, none⟩ _ (fun _ => Or.inr rfl)
  have nO : ∀ (v : Value) (m : Nat) (xs : List Value), w3.ownsRow 0 154 1 v m xs → ∀ g, v.ownBlock = some g → ¬ (g = D ∨ g = b) := fun v m xs hv g hg e => by
    obtain ⟨_, h⟩ := own_ty hv hg
    rcases e with e | e
    · exact D3.ty (e ▸ h) (by decide) rfl
    · exact B3.ty (e ▸ h) (by decide) rfl
  have hlen : (rb ++ [b]).length = n + 1 := by rw [HN.out]; simp
  refine ⟨rfl, .slice a3 (n + 1) c3, ⟨D4.far _ _ (fun e => nb e.symm), own_keep N3 V (nO _ _ _ N3), ?_, fun g hg e => ?_⟩, B4.set 7 _, fun g hg => ?_, ?_⟩
  · rw [hlen, List.map_append]
    exact own_keep O3 V (nO _ _ _ O3)
  · rcases b3 with e3 | e3
    · exact HH.out.1.apart g hg (hU g (e3 ▸ e))
    · have h1 := ob_some (e3.symm.trans e)
      have h2 := own_lt HH.out.1.ownN hg
      have h3 := H1.out.1.size
      omega
  · rcases b3 with e3 | e3
    · exact Or.inl (hU g (e3 ▸ hg))
    · have h1 := ob_some (e3.symm.trans hg)
      have h3 := H1.out.1.size
      exact Or.inr (by omega)
  · exact ((H1.out.1.mono (fun _ _ e => e.elim)).trans U3 (fun g _ e => Or.inr (Or.inr (hU g e)))).trans V (fun g _ e => by
      rcases e with e | e
      · exact Or.inl e
      · exact Or.inr (Or.inl e))

end Pt
end Go.Proofs.YtemmkobgpciflaaDoor

namespace Go.Proofs.YtemmkobgpciflaaDoor
open Go.RowKit
open Ch
namespace Pt

def OldPost (D : Nat) (Nv Rv : Value) (lv ge b : Nat) (rb : List Nat) (w : World) (e : Ending) (w' : World) : Prop := e = .returned (ptr b) ∧ Dst w' D Nv Rv (lv + 1) 0 [b] rb ∧ Blk w' b (nodeC 1 (ge + 1) true 0 ⟨#[]⟩ (.slice none 0 0) ⟨#[]⟩ (.pointer none) (.slice none 0 0)) 160 ∧ Upd w w' (fun g => g = D ∨ g = b)

set_option maxRecDepth 100000 in
set_option maxHeartbeats 1600000 in
theorem fresh_old (D : Nat) (Nv Rv : Value) (lv ge b : Nat) (rb : List Nat) (w : World) (hD : Dst w D Nv Rv lv 0 [b] rb) (hb : Blk w b (vac ge) 160) (hg : ge < 4294967295) (hlv : lv ≤ 4096) :
    Calls Tryd.prog 161 #[.pointer (some ⟨D, 0, none⟩)] w (OldPost D Nv Rv lv ge b rb w) := by
  have HH := Lib.hid (And.intro hD (And.intro hb (And.intro hg hlv)))
  obtain ⟨g, o, c, rfl, hc, h1⟩ := (Rd.ofOwn hD.ownN).at_ (j := 0) (u := ptr b) rfl
  have d0 := hD.doc.cell 0
  have d4 := hD.doc.cell 4
  have c1 := hb.cell 1
  have c2 := hb.cell 2
  have z1 := hb.free 1
  unfold vac nodeC at c1 c2
  unfold ptr at h1
  rw [Nat.add_zero] at h1
  simp only [List.getElem?_cons_zero, List.getElem?_cons_succ, List.length_cons, List.length_nil, Int.ofNat_zero, Int.natCast_zero] at d0 d4 c1 c2
  have hq : ((ge : Int) == 4294967295) = false := beq_eq_false_iff_ne.2 (by omega)
  have hq2 : decide (ge = 4294967295) = false := decide_eq_false (by omega)
  clear hD hb hg hlv
  go_enter Tryd.func161, Tryd.ntmps161
  go_wp2
  go_loopg [] 0 (fun kq w' => w' = w)
  case atStart => rfl
  case round =>
    subst hrel
    go_wp2
    apply wp_reg (w := wr) (fun w' : World => w'.cell? ⟨D, 0, none⟩ = some (.slice (some ⟨g, o, none⟩) 1 c) ∧ w'.cell? ⟨D, 4, none⟩ = some (.int .i64 0) ∧ w'.cell? ⟨g, o, none⟩ = some (.pointer (some ⟨b, 0, none⟩)) ∧ w'.cell? ⟨b, 2, none⟩ = some (.bool false) ∧ w'.cell? ⟨b, 1, none⟩ = some (.int .u32 (ge : Nat))) [0, 1, 2, 3, 4, 5, 6, 7, 8, 9, 10, 11, 12, 13, 14, 15, 16, 17, 18, 19, 20, 21, 22, 23, 24, 25, 26, 27, 28, 29, 30, 31, 32, 33, 34, 35, 36, 37, 38, 39, 40] [] [] (by kernel_rfl) (by kernel_rfl) (fun _ _ d _ _ h => by cases d <;> exact h) ⟨d0, d4, h1, c2, c1⟩
    · iterate 41 (apply reads_consL rfl rfl; (· intro w0 hS; obtain ⟨hS0, hS1, hS2, hS3, hS4⟩ := hS; go_simp; try rfl); simp only [Act.put, List.setIfInBounds_toArray, List.set_cons_zero, List.set_cons_succ])
      exact rfl
    refine tail_zero ?_
    go_wp2
    apply wp_reg (w := wr.drew) (fun w' : World => w'.cell? ⟨D, 0, none⟩ = some (.slice (some ⟨g, o, none⟩) 1 c) ∧ w'.cell? ⟨D, 4, none⟩ = some (.int .i64 0)) [0, 1, 2, 3, 4, 5, 6, 7, 8, 9] [] [] (by kernel_rfl) (by kernel_rfl) (fun _ _ d _ _ h => by cases d <;> exact h) ⟨d0, d4⟩
    · iterate 10 (apply reads_consL rfl rfl; (· intro w0 hS; obtain ⟨hS0, hS1⟩ := hS; go_simp; try rfl); simp only [Act.put, List.setIfInBounds_toArray, List.set_cons_zero, List.set_cons_succ])
      exact rfl
    refine tail_zero ?_
    go_wp2
    apply wp_reg (w := wr.drew.drew) (fun w' : World => w'.cell? ⟨D, 0, none⟩ = some (.slice (some ⟨g, o, none⟩) 1 c) ∧ w'.cell? ⟨D, 4, none⟩ = some (.int .i64 0) ∧ w'.cell? ⟨g, o, none⟩ = some (.pointer (some ⟨b, 0, none⟩))) [0, 1, 2, 3, 4, 5, 6, 7, 8, 9] [] [10] (by kernel_rfl) (by kernel_rfl) (fun _ _ d _ _ h => by cases d <;> exact h) ⟨d0, d4, h1⟩
    · iterate 10 (apply reads_consL rfl rfl; (· intro w0 hS; obtain ⟨hS0, hS1, hS2⟩ := hS; go_simp; try rfl); simp only [Act.put, List.setIfInBounds_toArray, List.set_cons_zero, List.set_cons_succ])
      exact rfl
    refine tail_oneL rfl ?_
    have V : Upd wr wr.drew.drew.drew (fun _ => False) := (Upd.refl wr _).drew.drew.drew
    have D1 := HH.out.1.none V
    have X1 := V.blk HH.out.2.1 (fun h => h)
    clear d0 d4 h1 c1 c2 z1
    generalize wr.drew.drew.drew = W10 at V D1 X1 ⊢
    have x1 := X1.cell 1
    have z1 := X1.free 1
    unfold vac nodeC at x1
    simp only [List.getElem?_cons_zero, List.getElem?_cons_succ] at x1
    have q1 : IntKind.u32.wrap ((ge : Int) + 1) = (ge : Int) + 1 := by
      have := HH.out.2.2.1
      rw [IntKind.wrap_u32]
      omega
    have H1 := Lib.hid (And.intro V (And.intro D1 X1))
    clear V D1 X1
    go_upto_region 7 with fail
    generalize hW : World.setCell _ _ _ = W11
    obtain ⟨V, D1, X1⟩ := H1.out
    have nb : b ≠ D := fun e => D1.doc.ty (e ▸ X1) (by decide) rfl
    have U11 : Upd W10 W11 (· = b) := by rw [← hW]; exact (Upd.refl W10 (· = b)).set ⟨b, 1, none⟩ _ (fun _ => rfl)
    have X11 : Blk W11 b (nodeC 1 (ge + 1) false 0 ⟨#[]⟩ (.slice none 0 0) ⟨#[]⟩ (.pointer none) (.slice none 0 0)) 160 := by
      rw [← hW]
      exact X1.set 1 _
    have D11 := U11.blk D1.doc (fun e => nb e.symm)
    have z2 := X11.free 2
    have x2 := X11.cell 2
    have d2 := D11.cell 2
    have f2 := D11.free 2
    unfold nodeC at x2
    simp only [List.getElem?_cons_zero, List.getElem?_cons_succ] at d2 x2
    have H11 := Lib.hid (And.intro U11 (And.intro X11 (And.intro D11 nb)))
    clear hW V D1 X1 U11 X11 D11 nb
    go_upto_region 8 with fail
    generalize hW : World.setCell _ _ _ = W12
    have U12 : Upd W11 W12 (· = b) := by rw [← hW]; exact (Upd.refl W11 (· = b)).set ⟨b, 2, none⟩ _ (fun _ => rfl)
    have X12 : Blk W12 b (nodeC 1 (ge + 1) true 0 ⟨#[]⟩ (.slice none 0 0) ⟨#[]⟩ (.pointer none) (.slice none 0 0)) 160 := by
      rw [← hW]
      exact H11.out.2.1.set 2 _
    have D12 := U12.blk H11.out.2.2.1 (fun e => H11.out.2.2.2 e.symm)
    have d2 := D12.cell 2
    have f2 := D12.free 2
    simp only [List.getElem?_cons_zero, List.getElem?_cons_succ] at d2
    have q1 : wrap64 ((lv : Int) + 1) = (lv : Int) + 1 := Go.IntWalk.wrap64_in _ (by have := HH.out.2.2.2; omega)
    have H12 := Lib.hid (And.intro U12 (And.intro X12 D12))
    clear hW U12 X12 D12
    go_wp2
    go_ret
    obtain ⟨V, D1, X1⟩ := H1.out
    obtain ⟨U11, X11, D11, nb⟩ := H11.out
    obtain ⟨U12, X12, D12⟩ := H12.out
    have UU : Upd W10 (W12.setCell ⟨D, 2, none⟩ (.int .i64 ((lv : Int) + 1))) (fun g => g = D ∨ g = b) := ((U11.mono (fun _ _ e => Or.inr e)).trans U12 (fun _ _ e => Or.inr e)).set ⟨D, 2, none⟩ _ (fun _ => Or.inl rfl)
    have nO : ∀ (v : Value) (m : Nat) (xs : List Value), W10.ownsRow 0 154 1 v m xs → ∀ g, v.ownBlock = some g → ¬ (g = D ∨ g = b) := fun v m xs hv g hg e => by
      obtain ⟨_, h⟩ := own_ty hv hg
      rcases e with e | e
      · exact D1.doc.ty (e ▸ h) (by decide) rfl
      · exact X1.ty (e ▸ h) (by decide) rfl
    exact ⟨rfl, ⟨D12.set 2 _, own_keep D1.ownN UU (nO _ _ _ D1.ownN), own_keep D1.ownR UU (nO _ _ _ D1.ownR), D1.apart⟩, X12.far _ _ nb, (V.mono (fun _ _ e => e.elim)).trans UU (fun _ _ e => e)⟩

end Pt
end Go.Proofs.YtemmkobgpciflaaDoor

namespace Go.Proofs.YtemmkobgpciflaaDoor
open Go.RowKit
open Ch
namespace Pt

/-- A document of no roots: nothing at all, or one node that is no more. -/
def Vac (w : World) (D ge : Nat) : Prop := ∃ Nv Rv, (∀ g, Nv.ownBlock = some g → D ≤ g) ∧ (∀ g, Rv.ownBlock = some g → D ≤ g) ∧ ((Dst w D Nv Rv 0 0 [] [] ∧ ge = 0) ∨ ∃ b, Dst w D Nv Rv 0 0 [b] [] ∧ D < b ∧ Blk w b (vac ge) 160)
def leafC (ge : Nat) (n : ByteArray) (a : Option Addr) (c : Nat) : List Value := nodeC 1 ge true 1 n (.slice a 0 c) ⟨#[]⟩ (.pointer none) (.slice none 0 0)
def FP (D M : Nat) (Rv : Value) (ge : Nat) (w : World) (e : Ending) (w' : World) : Prop := ∃ b Nv, e = .returned (ptr b) ∧ Dst w' D Nv Rv 1 0 [b] [] ∧ Blk w' b (nodeC 1 ge true 0 ⟨#[]⟩ (.slice none 0 0) ⟨#[]⟩ (.pointer none) (.slice none 0 0)) 160 ∧ D < b ∧ (∀ g, Nv.ownBlock = some g → D ≤ g) ∧ Upd w w' (fun g => D ≤ g ∧ g < M)
theorem fresh_vac (D M : Nat) (Nv Rv : Value) (ge : Nat) (w : World) (hN : ∀ g, Nv.ownBlock = some g → D ≤ g ∧ g < M) (h : (Dst w D Nv Rv 0 0 [] [] ∧ ge = 0) ∨ ∃ b, Dst w D Nv Rv 0 0 [b] [] ∧ D < b ∧ b < M ∧ Blk w b (vac ge) 160) (hg : ge < 4294967295) (hDM : D < M) :
    Calls Tryd.prog 161 #[.pointer (some ⟨D, 0, none⟩)] w (FP D M Rv (ge + 1) w) := by
  rcases h with ⟨h, rfl⟩ | ⟨b, h, hb, hbM, hv⟩
  · refine (fresh_new D Nv Rv 0 0 [] [] w h (fun i b e => by simp at e) (fun b e => by simp at e) (Nat.zero_le _) (by simp) (by omega)).mono ?_
    rintro e w' ⟨b, Nv', rfl, h1, h2, h3, h4, h5⟩
    have hD := h.doc.lt
    refine ⟨b, Nv', rfl, h1, h2, by omega, fun g hg => ?_, h5.mono (fun g _ e => ?_)⟩
    · rcases h4 g hg with h | h
      · exact (hN g h).1
      · omega
    · rcases e with e | e
      · omega
      · exact hN g e
  · refine (fresh_old D Nv Rv 0 ge b [] w h hv hg (by omega)).mono ?_
    rintro e w' ⟨rfl, h1, h2, h3⟩
    exact ⟨b, Nv, rfl, h1, h2, hb, fun g hg => (hN g hg).1, h3.mono (fun g _ e => by rcases e with e | e <;> omega)⟩

def MP (D : Nat) (Rv : Value) (ge : Nat) (n : ByteArray) (w : World) (e : Ending) (w' : World) : Prop := ∃ b Nv a c, e = .returned (ptr b) ∧ Dst w' D Nv Rv 1 0 [b] [] ∧ Blk w' b (leafC ge n a c) 160 ∧ (a = none → c = 0) ∧ D < b ∧ (∀ g, Nv.ownBlock = some g → D ≤ g) ∧ Upd w w' (fun g => D ≤ g)

set_option maxRecDepth 100000 in
set_option maxHeartbeats 1600000 in
theorem make_leaf (D : Nat) (Nv Rv : Value) (ge : Nat) (n t : ByteArray) (a ak : Option Addr) (c ck : Nat) (w : World) (hN : ∀ g, Nv.ownBlock = some g → D ≤ g) (hR : ∀ g, Rv.ownBlock = some g → D ≤ g) (h : (Dst w D Nv Rv 0 0 [] [] ∧ ge = 0) ∨ ∃ b, Dst w D Nv Rv 0 0 [b] [] ∧ D < b ∧ Blk w b (vac ge) 160) (hg : ge < 4294967295) (hc : a = none → c = 0) (hDw : D < w.heap.size) :
    Calls Tryd.prog 133 #[.pointer (some ⟨D, 0, none⟩), .agg #[.int .i64 1, .string n, .slice a 0 c, .string t, .slice ak 0 ck], .pointer none] w (MP D Rv (ge + 1) n w) := by
  have HH := Lib.hid (And.intro hN (And.intro hR (And.intro h (And.intro hg (And.intro hc hDw)))))
  clear hN hR h hg hc hDw
  obtain ⟨X, hX⟩ : ∃ X, X = w.heap.size := ⟨_, rfl⟩
  have HX := Lib.hid hX
  clear hX
  go_enter Tryd.func133, Tryd.ntmps133
  go_wp2_with fail
  rw [← HX.out]
  generalize hW : World.alloc _ _ = W1
  have T1 : Upd w W1 (fun _ => False) := by rw [← hW]; exact (Upd.refl w _).alloc _
  have X1 : Blk W1 X [.int .i64 1, .string n, .slice a 0 c, .string t, .slice ak 0 ck] 25 := by rw [← hW]; exact Blk.new' HX.out
  have S1 : (Dst W1 D Nv Rv 0 0 [] [] ∧ ge = 0) ∨ ∃ b, Dst W1 D Nv Rv 0 0 [b] [] ∧ D < b ∧ b < X ∧ Blk W1 b (vac ge) 160 := by
    rcases HH.out.2.2.1 with ⟨h, h0⟩ | ⟨b, h, hb, hv⟩
    · exact Or.inl ⟨h.none T1, h0⟩
    · exact Or.inr ⟨b, h.none T1, hb, by rw [HX.out]; exact hv.lt, T1.blk hv (fun h => h)⟩
  have hNX : ∀ g, Nv.ownBlock = some g → D ≤ g ∧ g < X := fun g hg => ⟨HH.out.1 g hg, by
    rw [HX.out]
    rcases HH.out.2.2.1 with ⟨h, _⟩ | ⟨b, h, _⟩
    · exact own_lt h.ownN hg
    · exact own_lt h.ownN hg⟩
  have C := fresh_vac D X Nv Rv ge W1 hNX S1 HH.out.2.2.2.1 (by rw [HX.out]; exact HH.out.2.2.2.2.2)
  have H1 := Lib.hid (And.intro T1 X1)
  have HC := Lib.hid C
  clear hW T1 X1 S1 C hNX
  refine HC.out.mono ?_
  rintro e w2 ⟨b, Nv2, rfl, D2, B2, hDb, hN2, U2⟩
  have X2 := U2.blk H1.out.2 (fun h => by omega)
  have x0 := X2.cell 0
  have b3 := B2.cell 3
  have y3 := B2.free 3
  have b7 := B2.cell 7
  have y7 := B2.free 7
  unfold nodeC at b3 b7
  simp only [List.getElem?_cons_zero, List.getElem?_cons_succ] at x0 b3 b7
  have H2 := Lib.hid (And.intro D2 (And.intro B2 (And.intro hDb (And.intro hN2 (And.intro U2 X2)))))
  clear D2 B2 hDb hN2 U2 X2
  unfold ptr
  go_upto_region 3 with fail
  generalize hW : World.setCell _ _ _ = W3
  obtain ⟨D2, B2, hDb, hN2, U2, X2⟩ := H2.out
  have U3 : Upd w2 W3 (· = b) := by rw [← hW]; exact ((Upd.refl w2 (· = b)).set ⟨b, 3, none⟩ _ (fun _ => rfl)).set ⟨b, 7, none⟩ _ (fun _ => rfl)
  have B3 : Blk W3 b (nodeC 1 (ge + 1) true 1 ⟨#[]⟩ (.slice none 0 0) ⟨#[]⟩ (.pointer none) (.slice none 0 0)) 160 := by
    rw [← hW]
    exact (B2.set 3 _).set 7 _
  have nb : D ≠ b := by omega
  have nX : X ≠ b := fun e => X2.ty (e ▸ B2) (by decide) rfl
  have D3 := D2.keep U3 nb (fun g hg e => by
    obtain ⟨_, h⟩ := own_ty D2.ownN hg
    exact B2.ty (e ▸ h) (by decide) rfl) (fun g hg e => by
    obtain ⟨_, h⟩ := own_ty D2.ownR hg
    exact B2.ty (e ▸ h) (by decide) rfl)
  have X3 := U3.blk X2 nX
  have x0 := X3.cell 0
  have x1 := X3.cell 1
  have x2 := X3.cell 2
  have x4 := X3.cell 4
  simp only [List.getElem?_cons_zero, List.getElem?_cons_succ] at x0 x1 x2 x4
  have C := clone_any [] a c W3.drew (by
    refine ⟨rfl, a, c, rfl, Nat.zero_le _, HH.out.2.2.2.2.1, Or.inl rfl⟩) (by simp)
  simp only [List.length_nil] at C
  have H3 := Lib.hid (And.intro U3 (And.intro B3 (And.intro D3 X3)))
  have HC := Lib.hid C
  clear hW D2 B2 hDb hN2 U2 X2 U3 B3 nb nX D3 X3 C b3 b7 y3 y7
  go_upto_region 6 with fail
  apply wp_reg (w := W3) (fun w' : World => w'.cell? ⟨X, 1, none⟩ = some (.string n) ∧ w'.cell? ⟨X, 2, none⟩ = some (.slice a 0 c)) [0, 1, 2, 3, 4, 5] [6, 7, 8, 9] [10, 11, 12] (by kernel_rfl) (by kernel_rfl) (fun _ _ d _ _ h => by cases d <;> exact h) ⟨x1, x2⟩
  · iterate 6 (apply reads_consL rfl rfl; (· intro w0 hS; obtain ⟨hS0, hS1⟩ := hS; go_simp; try rfl); simp only [Act.put, List.setIfInBounds_toArray, List.set_cons_zero, List.set_cons_succ])
    exact rfl
  refine tail_consL rfl ?_
  go_wp2_with fail
  refine HC.out.mono ?_
  rintro e w4 ⟨a4, c4, rfl, O4, I4, E4⟩
  have U4 : Upd W3 w4 (fun _ => False) := (Upd.refl W3 _).drew.trans (Upd.ofBelow E4) (fun _ _ h => h)
  have X4 := U4.blk H3.out.2.2.2 (fun h => h)
  have B4 := U4.blk H3.out.2.1 (fun h => h)
  have D4 := H3.out.2.2.1.none U4
  have x1 := X4.cell 1
  have x2 := X4.cell 2
  have x4 := X4.cell 4
  have b4 := B4.cell 4
  have b5 := B4.cell 5
  have y4 := B4.free 4
  have y5 := B4.free 5
  unfold nodeC at b4 b5
  simp only [List.getElem?_cons_zero, List.getElem?_cons_succ] at x1 x2 x4 b4 b5
  have hc4 : a4 = none → c4 = 0 := fun e => by
    obtain ⟨_, a5, c5, e5, _, hn, _⟩ := Rd.ofOwn O4
    simp only [Value.slice.injEq] at e5
    obtain ⟨rfl, _, rfl⟩ := e5
    exact hn e
  have H4 := Lib.hid (And.intro U4 (And.intro X4 (And.intro B4 (And.intro D4 hc4))))
  clear O4 I4 E4 U4 X4 B4 D4 hc4
  go_wp2_with fail
  refine ⟨⟨x1, x2⟩, tail_consL rfl ?_⟩
  go_wp2_with fail
  refine ⟨⟨x1, x2⟩, tail_consL rfl ?_⟩
  go_wp2_with fail
  refine ⟨⟨x1, x2⟩, tail_consL rfl ?_⟩
  go_wp2_with fail
  generalize hW : World.setCell _ _ _ = W5
  obtain ⟨U4, X4, B4, D4, hc4⟩ := H4.out
  have U5 : Upd w4 W5 (· = b) := by rw [← hW]; exact (Upd.refl w4 (· = b)).set ⟨b, 4, none⟩ _ (fun _ => rfl)
  have B5 : Blk W5 b (nodeC 1 (ge + 1) true 1 n (.slice none 0 0) ⟨#[]⟩ (.pointer none) (.slice none 0 0)) 160 := by
    rw [← hW]
    exact B4.set 4 _
  have X5 := U5.blk X4 (fun e => X4.ty (e ▸ B4) (by decide) rfl)
  have x1 := X5.cell 1
  have x2 := X5.cell 2
  have x4 := X5.cell 4
  have b5 := B5.cell 5
  have y5 := B5.free 5
  unfold nodeC at b5
  simp only [List.getElem?_cons_zero, List.getElem?_cons_succ] at x1 x2 x4 b5
  have H5 := Lib.hid (And.intro U5 (And.intro B5 X5))
  clear hW U4 X4 B4 D4 hc4 U5 B5 X5
  refine ⟨⟨x1, x2⟩, tail_threeL rfl rfl rfl ?_⟩
  go_upto_region 7 with fail
  generalize hW : World.setCell _ _ _ = W6
  obtain ⟨U5, B5, X5⟩ := H5.out
  have U6 : Upd W5 W6 (· = b) := by rw [← hW]; exact (Upd.refl W5 (· = b)).set ⟨b, 5, none⟩ _ (fun _ => rfl)
  have B6 : Blk W6 b (leafC (ge + 1) n a4 c4) 160 := by
    rw [← hW]
    exact B5.set 5 _
  have X6 := U6.blk X5 (fun e => X5.ty (e ▸ B5) (by decide) rfl)
  have x4 := X6.cell 4
  simp only [List.getElem?_cons_zero, List.getElem?_cons_succ] at x4
  have H6 := Lib.hid (And.intro U6 B6)
  clear hW U5 B5 X5 U6 B6 X6
  go_wp2
  go_loopg [44] 0 (fun kq v44 w' => v44 = .int .i64 0 ∧ w' = W6)
  case atStart => exact ⟨rfl, rfl⟩
  case round =>
    obtain ⟨rfl, rfl⟩ := hrel
    go_wp2
    go_ret
    obtain ⟨D2, B2, hDb, hN2, U2, X2⟩ := H2.out
    obtain ⟨U3, B3, D3, X3⟩ := H3.out
    obtain ⟨U4, X4, B4, D4, hc4⟩ := H4.out
    obtain ⟨U5, B5, X5⟩ := H5.out
    obtain ⟨U6, B6⟩ := H6.out
    have V : Upd w4 wr (· = b) := U5.trans U6 (fun _ _ e => e)
    have D6 := D4.keep V (by omega) (fun g hg e => by
      obtain ⟨_, h⟩ := own_ty D4.ownN hg
      exact B4.ty (e ▸ h) (by decide) rfl) (fun g hg e => by
      obtain ⟨_, h⟩ := own_ty D4.ownR hg
      exact B4.ty (e ▸ h) (by decide) rfl)
    exact ⟨b, Nv2, a4, c4, rfl, D6, B6, hc4, hDb, hN2, ((((H1.out.1.mono (fun _ _ e => e.elim)).trans U2 (fun _ _ e => e.1)).trans U3 (fun g _ e => by show D ≤ g; have e : g = b := e; omega)).trans U4 (fun _ _ e => e.elim)).trans V (fun g _ e => by show D ≤ g; have e : g = b := e; omega)⟩

end Pt
end Go.Proofs.YtemmkobgpciflaaDoor

namespace Go.Proofs.YtemmkobgpciflaaDoor
open Go.RowKit
open Ch
namespace Pt

def Full (w : World) (D ge : Nat) (n : ByteArray) : Prop := ∃ Nv Rv b a c, Dst w D Nv Rv 1 0 [b] [b] ∧ Blk w b (leafC ge n a c) 160 ∧ (a = none → c = 0) ∧ D < b ∧ (∀ g, Nv.ownBlock = some g → D ≤ g) ∧ (∀ g, Rv.ownBlock = some g → D ≤ g)
def IP (D ge : Nat) (n : ByteArray) (w : World) (e : Ending) (w' : World) : Prop := e = .returned (.tuple #[.int .u64 (Df.hand ge 0 : Nat), .int .i64 0]) ∧ Full w' D ge n ∧ Upd w w' (fun g => D ≤ g)

set_option maxRecDepth 100000 in
set_option maxHeartbeats 1600000 in
theorem ins_leaf (B D ge : Nat) (n t : ByteArray) (cs : List Value) (w : World) (hV : Vac w D ge) (hg : ge < 4294967295) (hDw : D < w.heap.size) (hA : TreeAt w (· < B) (.mk 1 n [] t []) cs) (hk : chk (.mk 1 n [] t []) 1 0 = 0) (hF : Fits (.mk 1 n [] t [])) (hB : B ≤ w.heap.size) (hT : Tabs w) :
    Calls Tryd.prog 82 #[.pointer (some ⟨D, 0, none⟩), .int .i64 2, .int .u64 0, .agg cs.toArray] w (IP D (ge + 1) n w) := by
  have HA := Lib.hid hA
  obtain ⟨a, c, ak, ck, xs, rfl, hAl, hKs, hFo⟩ := hA.parts
  have hc : a = none → c = 0 := fun e => by
    obtain ⟨⟨_, a5, c5, e5, _, hn, _⟩, _⟩ := hAl
    simp only [Value.slice.injEq] at e5
    obtain ⟨rfl, _, rfl⟩ := e5
    exact hn e
  simp only [List.length_nil]
  have HH := Lib.hid (And.intro hV (And.intro hg (And.intro hDw (And.intro hk (And.intro hF (And.intro hB (And.intro hT hc)))))))
  clear hV hg hDw hA hk hF hB hT hAl hKs hFo hc
  obtain ⟨X, hX⟩ : ∃ X, X = w.heap.size := ⟨_, rfl⟩
  have HX := Lib.hid hX
  clear hX
  go_enter Tryd.func82, Tryd.ntmps82
  go_upto_region 1 with fail
  rw [← HX.out]
  generalize hW : World.alloc _ _ = W1
  have T1 : Upd w W1 (fun _ => False) := by rw [← hW]; exact (Upd.refl w _).alloc _
  have X1 : Blk W1 X [.int .i64 1, .string n, .slice a 0 c, .string t, .slice ak 0 ck] 25 := by rw [← hW]; exact Blk.new' HX.out
  have H1 := Lib.hid (And.intro T1 X1)
  have x1 : W1.heap.size = X + 1 := by rw [← hW, HX.out]; simp
  have HS := Lib.hid x1
  clear hW T1 X1 x1
  have HC := Lib.hid (shaped0 W1)
  go_wp2_with fail
  refine HC.out.mono ?_
  rintro e w2 ⟨rfl, rfl⟩
  clear HC
  obtain ⟨q, hq⟩ : ∃ q, q = w2.heap.size := ⟨_, rfl⟩
  have HQ := Lib.hid hq
  clear hq
  go_upto_region 4 with fail
  rw [← HQ.out]
  generalize hW : World.alloc _ _ = W3
  have T3 : Upd w2 W3 (fun _ => False) := by rw [← hW]; exact (Upd.refl w2 _).alloc _
  have Q3 : Blk W3 q [.int .i64 (0 : Nat), .int .i64 (0 : Nat)] 88 := by rw [← hW]; exact Blk.new' HQ.out
  have X3 := T3.blk H1.out.2 (fun h => h)
  have x00 := X3.cell 0
  have x01 := X3.cell 1
  have x02 := X3.cell 2
  have x03 := X3.cell 3
  have x04 := X3.cell 4
  simp only [List.getElem?_cons_zero, List.getElem?_cons_succ] at x00 x01 x02 x03 x04
  have U13 := H1.out.1.trans T3 (fun _ _ h => h)
  have C := look_any B (.mk 1 n [] t []) _ W3 q 1 0 0 (HA.out.keep U13 (fun _ _ h => h)) HH.out.2.2.2.2.1 (by have := HH.out.2.2.2.2.2.1; have := HS.out; have := HQ.out; have := HX.out; omega) Q3 (HH.out.2.2.2.2.2.2.1.below (U13.below (Nat.le_refl _) (fun _ _ h => h))) (by omega) (by omega) (by omega) (by omega)
  simp only [List.length_nil] at C
  have H3 := Lib.hid (And.intro T3 (And.intro Q3 X3))
  have HC := Lib.hid C
  clear hW T3 Q3 X3 U13 C
  go_wp2_with fail
  refine HC.out.mono ?_
  rintro e w4 ⟨he, U4, n', d', Q4, hnd⟩
  obtain ⟨rfl, rfl⟩ := hnd HH.out.2.2.2.1
  rw [HH.out.2.2.2.1] at he
  subst he
  have hsz : T.size (.mk 1 n [] t []) = 1 := by rw [T.size, if_pos rfl, T.sizeL]
  have hht : T.height (.mk 1 n [] t []) = 1 := by rw [T.height, if_pos rfl, T.heightL]
  rw [hsz, hht] at Q4
  have Q4 : Blk w4 q [.int .i64 1, .int .i64 1] 88 := Q4
  have X4 := U4.blk H3.out.2.2 (fun e => by have := H3.out.2.2.ty H3.out.2.1 (by decide); exact this e)
  have U14 : Upd w w4 (fun g => w.heap.size ≤ g) := ((H1.out.1.mono (fun _ _ e => e.elim)).trans H3.out.1 (fun _ _ e => e.elim)).trans U4 (fun g _ e => by
    have e : g = q := e
    show w.heap.size ≤ g
    have := HS.out; have := HQ.out; have := HX.out
    omega)
  have hq : q < w4.heap.size := Q4.lt
  have H4 := Lib.hid (And.intro Q4 (And.intro X4 (And.intro U14 hq)))
  clear hsz hht Q4 X4 U4 U14 hnd hq HC
  have HC := Lib.hid (at0 D w4)
  go_wp2_with fail
  refine HC.out.mono ?_
  rintro e w5 ⟨rfl, rfl⟩
  clear HC
  have HC := Lib.hid (parent0 D w5)
  go_wp2_with fail
  refine HC.out.mono ?_
  rintro e w6 ⟨rfl, rfl⟩
  clear HC
  have q1 := H4.out.1.cell 1
  have q0 := H4.out.1.cell 0
  simp only [List.getElem?_cons_zero, List.getElem?_cons_succ] at q1 q0
  have HC := Lib.hid (level0 w6.drew)
  go_upto_region 13 with fail
  apply wp_reg2 (w := w6) (fun w' : World => w'.cell? ⟨q, 1, none⟩ = some (.int .i64 1)) [0, 3, 4] [1] [2, 5, 6, 7] [] [] (by kernel_rfl) (by kernel_rfl) (fun _ _ d _ _ h => by cases d <;> exact h) q1
  · iterate 3 (apply reads_consL rfl rfl; (· intro w0 hS; go_simp; try rfl); simp only [Act.put, List.setIfInBounds_toArray, List.set_cons_zero, List.set_cons_succ])
    exact rfl
  refine pre_consL rfl ?_
  go_wp2_with fail
  refine HC.out.mono ?_
  rintro e w7 ⟨rfl, rfl⟩
  clear HC
  go_wp2_with fail
  refine ⟨q1, ?_⟩
  apply pre_last
  · iterate 4 (apply reads_consL rfl rfl; (· intro w0 hS; go_simp; try rfl); simp only [Act.put, List.setIfInBounds_toArray, List.set_cons_zero, List.set_cons_succ])
    exact rfl
  rw [show (decide ((64 : Int) < IntKind.i64.wrap (IntKind.i64.wrap 0 + 1))) = false from by decide]
  refine tail_zero ?_
  obtain ⟨Nv, Rv, hN, hR, hst⟩ := HH.out.1
  have U6 : Upd w w6.drew (fun g => w.heap.size ≤ g) := H4.out.2.2.1.drew
  have kd : ∀ bs rb, Dst w D Nv Rv 0 0 bs rb → Dst w6.drew D Nv Rv 0 0 bs rb := fun bs rb h => h.keep U6 (by have := HH.out.2.2.1; omega) (fun g hg e => by have := own_lt h.ownN hg; omega) (fun g hg e => by have := own_lt h.ownR hg; omega)
  have S6 : (Dst w6.drew D Nv Rv 0 0 [] [] ∧ ge = 0) ∨ ∃ b, Dst w6.drew D Nv Rv 0 0 [b] [] ∧ D < b ∧ Blk w6.drew b (vac ge) 160 := by
    rcases hst with ⟨h, h0⟩ | ⟨b, h, hb, hv⟩
    · exact Or.inl ⟨kd _ _ h, h0⟩
    · exact Or.inr ⟨b, kd _ _ h, hb, U6.blk hv (by have := hv.lt; omega)⟩
  have hd : Blk w6.drew D [Nv, Rv, .int .i64 (0 : Nat), .int .i64 0, .int .i64 (0 : Nat)] 120 := by
    rcases S6 with ⟨h, _⟩ | ⟨b, h, _⟩
    · exact h.doc
    · exact h.doc
  have d2 := hd.cell 2
  have d3 := hd.cell 3
  simp only [List.getElem?_cons_zero, List.getElem?_cons_succ, Int.ofNat_zero, Int.natCast_zero] at d2 d3
  have x4 := H4.out.2.1
  have Q0 : w6.drew.cell? ⟨q, 0, none⟩ = some (.int .i64 1) := q0
  have C := fun w' (hU : Upd w6.drew w' (fun _ => False)) => make_leaf D Nv Rv ge n t a ak c ck w' hN hR (by
    rcases S6 with ⟨h, h0⟩ | ⟨b, h, hb, hv⟩
    · exact Or.inl ⟨h.none hU, h0⟩
    · exact Or.inr ⟨b, h.none hU, hb, hU.blk hv (fun h => h)⟩) HH.out.2.1 HH.out.2.2.2.2.2.2.2 (Nat.lt_of_lt_of_le HH.out.2.2.1 (Nat.le_trans U6.size hU.size))
  have H6 := Lib.hid (And.intro U6 (And.intro S6 (And.intro hN (And.intro hR C))))
  have xx4 : Blk w6.drew X _ 25 := x4
  clear kd S6 hd C hst hN hR U6 q0 q1 x4
  generalize w6.drew = W6 at d2 d3 Q0 H6 xx4 ⊢
  have x0 := xx4.cell 0
  have x1 := xx4.cell 1
  have x2 := xx4.cell 2
  have x3 := xx4.cell 3
  have x4 := xx4.cell 4
  simp only [List.getElem?_cons_zero, List.getElem?_cons_succ] at x0 x1 x2 x3 x4
  clear xx4 x00 x01 x02 x03 x04
  go_upto_region 15 with fail
  apply wp_reg (w := W6) (fun w' : World => w'.cell? ⟨D, 2, none⟩ = some (.int .i64 0) ∧ w'.cell? ⟨D, 3, none⟩ = some (.int .i64 0) ∧ w'.cell? ⟨q, 0, none⟩ = some (.int .i64 1)) [0, 1, 2, 3, 4, 5, 6, 7, 8, 9, 10, 11, 12, 13] [] [] (by kernel_rfl) (by kernel_rfl) (fun _ _ d _ _ h => by cases d <;> exact h) ⟨d2, d3, Q0⟩
  · iterate 14 (apply reads_consL rfl rfl; (· intro w0 hS; obtain ⟨hS0, hS1, hS2⟩ := hS; go_simp; try rfl); simp only [Act.put, List.setIfInBounds_toArray, List.set_cons_zero, List.set_cons_succ])
    exact rfl
  trace_state
  refine tail_zero ?_
  have HC := Lib.hid (H6.out.2.2.2.2 W6.drew (Upd.refl _ _).drew)
  go_wp2_with fail
  refine HC.out.mono ?_
  rintro e w8 ⟨b, Nv8, a8, c8, rfl, D8, B8, hc8, hDb, hN8, U8⟩
  have C := put_last D Nv8 Rv 1 0 [b] [] b (leafC (ge + 1) n a8 c8) w8 D8 B8 ⟨_, rfl⟩ (by simp)
  have H8 := Lib.hid (And.intro D8 (And.intro hc8 (And.intro hDb (And.intro hN8 U8))))
  have HC2 := Lib.hid C
  clear D8 B8 hc8 hDb hN8 U8 C HC d2 d3 Q0 x0 x1 x2 x3 x4
  unfold ptr at HC2 ⊢
  go_wp2_with fail
  refine HC2.out.mono ?_
  rintro e w9 ⟨rfl, Rv9, D9, B9, hR9, U9⟩
  have C := handle_any b (ge + 1) 0 true 1 n (.slice a8 0 c8) ⟨#[]⟩ (.pointer none) (.slice none 0 0) w9 B9 (by have := HH.out.2.1; omega) (by omega)
  have H9 := Lib.hid (And.intro D9 (And.intro B9 (And.intro hR9 U9)))
  have HC := Lib.hid C
  clear D9 B9 hR9 U9 C HC2
  unfold ptr at HC
  go_wp2_with fail
  refine HC.out.mono ?_
  rintro e w10 ⟨rfl, E10⟩
  have H10 := Lib.hid E10
  clear E10 HC
  go_wp2
  go_ret2
  obtain ⟨U6, S6, hN, hR, _⟩ := H6.out
  obtain ⟨D8, hc8, hDb, hN8, U8⟩ := H8.out
  obtain ⟨D9, B9, hR9, U9⟩ := H9.out
  have U10 := Upd.ofBelow (F := fun _ => False) H10.out
  have hDw := HH.out.2.2.1
  have s6 := U6.size
  have s8 := U8.size
  have s68 : W6.drew.heap.size = W6.heap.size := rfl
  refine ⟨rfl, ⟨Nv8, Rv9, b, a8, c8, D9.none U10, U10.blk B9 (fun h => h), hc8, hDb, hN8, fun g hg => ?_⟩, ?_⟩
  · rcases hR9 g hg with h | h
    · exact hR g h
    · omega
  · refine (((U6.mono (fun g _ e => by show D ≤ g; omega)).drew.trans U8 (fun _ _ e => e)).trans U9 (fun g _ e => ?_)).trans U10 (fun _ _ e => e.elim)
    rcases e with e | e | e
    · show D ≤ g; omega
    · show D ≤ g; omega
    · exact hR g e

end Pt
end Go.Proofs.YtemmkobgpciflaaDoor

namespace Go.Proofs.YtemmkobgpciflaaDoor
open Go.RowKit
open Ch
namespace Pt

theorem own_zero {w : World} {g c : Nat} {n : Nat} {xs : List Value} {e : TypeId} (h : w.ownsRow 0 e 1 (.slice (some ⟨g, 0, none⟩) n c) n xs) : w.ownsRow 0 e 1 (.slice (some ⟨g, 0, none⟩) 0 c) 0 [] := by
  obtain ⟨hl, ⟨e, h0⟩ | ⟨g', cap, cur, e, hb, hg, hn, hm, hs, ht⟩⟩ := h
  · cases e
  · simp only [Value.slice.injEq, Option.some.injEq, Addr.mk.injEq, and_true, true_and] at e
    obtain ⟨rfl, rfl⟩ := e
    exact ⟨rfl, Or.inr ⟨g, c, cur, rfl, hb, hg, Nat.zero_le _, hm, hs, by simp⟩⟩

set_option maxRecDepth 100000 in
set_option maxHeartbeats 1600000 in
theorem idx1 (a : Addr) (c b : Nat) (w : World) (h : w.cell? a = some (ptr b)) (ha : a.spot = none) (g o : Nat) (e : a = ⟨g, o, none⟩) :
    Calls Tryd.prog 162 #[.slice (some a) 1 c, ptr b] w (fun e w' => e = .returned (.int .i64 0) ∧ w' = w) := by
  subst e
  unfold ptr at h ⊢
  clear ha
  have hpe : ∀ w : World, (binOp .eql 154 (.pointer (some ⟨b, 0, none⟩)) (.pointer (some ⟨b, 0, none⟩))).run Tryd.prog w = .ok (.bool true) w := fun _ => run_eql_ptr_same (j := (Tryd.prog.info? 160).get!) _ _ Tryd.underlying154 (by kernel_rfl)
  go_enter Tryd.func162, Tryd.ntmps162
  go_wp2
  go_loopg [5, 8] 1 (fun kq v5 v8 w' => v8 = .int .i64 0 ∧ w' = w)
  case atStart => exact ⟨rfl, rfl⟩
  case round =>
    obtain ⟨rfl, rfl⟩ := hrel
    go_wp2
    go_ret
    exact ⟨rfl, rfl⟩

theorem clear1 (g c : Nat) (u : Value) (W1 : World) (O1 : W1.ownsRow 0 154 1 (.slice (some ⟨g, 0, none⟩) 1 c) 1 [u]) : ∀ ty, (Builtin.clear_ #[118] ty #[.slice (some ⟨g, 0, none⟩) 1 c]).run Tryd.prog W1 = .ok (.tuple #[]) (W1.setCell ⟨g, 0, none⟩ (.pointer none)) := by
  intro ty
  have c0 := (Rd.ofOwn O1).at_ (j := 0) (u := u) rfl
  obtain ⟨g', off, c', e, _, h0⟩ := c0
  simp only [Value.slice.injEq, Option.some.injEq, Addr.mk.injEq] at e
  obtain ⟨⟨rfl, rfl, _⟩, _, rfl⟩ := e
  have f0 := O1.frozenAt 0
  rw [Nat.add_zero] at h0
  have hz : (zeroValue 154).run Tryd.prog W1 = .ok (.pointer none) W1 := by kernel_rfl
  simp [Builtin.clear_, run_underlying Tryd.underlying118, hz, Builtin.zeroCells, Value.cells]
  have h1 := run_storeCells_cells (P := Tryd.prog) g 0 [.pointer none] 0 W1 (fun j hj => by simp at hj; subst hj; rw [h0]; rfl) (fun j hj => by simp at hj; subst hj; exact f0) (fun v hv => by simp at hv; subst hv; rfl)
  rw [h1]
  rfl

set_option maxRecDepth 100000 in
set_option maxHeartbeats 1600000 in
theorem del1 (g c : Nat) (u : Value) (w : World) (hO : w.ownsRow 0 154 1 (.slice (some ⟨g, 0, none⟩) 1 c) 1 [u]) :
    Calls Tryd.prog 192 #[.slice (some ⟨g, 0, none⟩) 1 c, .int .i64 0, .int .i64 1] w (fun e w' => e = .returned (.slice (some ⟨g, 0, none⟩) 0 c) ∧ w'.ownsRow 0 154 1 (.slice (some ⟨g, 0, none⟩) 0 c) 0 [] ∧ Upd w w' (· = g)) := by
  have hc : 1 ≤ c := by
    obtain ⟨hl, ⟨e, h0⟩ | ⟨g', cap, cur, e, hb, hg, hn, hm, hs, ht⟩⟩ := hO
    · cases e
    · simp only [Value.slice.injEq, Option.some.injEq, Addr.mk.injEq, and_true, true_and] at e
      obtain ⟨rfl, rfl⟩ := e
      exact hn
  have hc1 : (1 : Int) ≤ (c : Int) := by omega
  have c0 := (Rd.ofOwn hO).at_ (j := 0) (u := u) rfl
  have f0 := hO.frozenAt 0
  have HH := Lib.hid (And.intro hO hc)
  clear hO hc c0
  go_enter Tryd.func192, Tryd.ntmps192
  go_wp2
  by_cases hcc : c = 1
  · subst hcc
    apply wp_reg (w := w) (fun w' : World => True) [0, 1, 2, 3, 4, 5, 6] [] [7] (by kernel_rfl) (by kernel_rfl) (fun _ _ d _ _ h => by cases d <;> exact h) trivial
    · iterate 7 (apply reads_consL rfl rfl; (· intro w0 hS; go_simp; try rfl); simp only [Act.put, List.setIfInBounds_toArray, List.set_cons_zero, List.set_cons_succ])
      exact rfl
    refine tail_oneL rfl ?_
    have V : Upd w w.drew (fun _ => False) := (Upd.refl w _).drew
    have O1 := own_keep HH.out.1 V (fun _ _ h => h)
    generalize w.drew = W1 at V O1 ⊢
    have hcl := clear1 _ _ _ _ O1
    have H1 := Lib.hid (And.intro V O1)
    clear V O1
    go_wp2
    go_ret
    have U : Upd W1 (W1.setCell ⟨g, 0, none⟩ (.pointer none)) (· = g) := (Upd.refl W1 (· = g)).set ⟨g, 0, none⟩ _ (fun _ => rfl)
    exact ⟨rfl, own_zero (H1.out.2.stored 0 (.pointer none)).1, (H1.out.1.mono (fun _ _ h => h.elim)).trans U (fun _ _ h => h)⟩
  · have hcc2 : ¬ ((c : Int) = 1) := by omega
    apply wp_reg (w := w) (fun w' : World => True) [0, 1, 2, 3, 4, 5, 6] [] [7] (by kernel_rfl) (by kernel_rfl) (fun _ _ d _ _ h => by cases d <;> exact h) trivial
    · iterate 7 (apply reads_consL rfl rfl; (· intro w0 hS; go_simp; try rfl); simp only [Act.put, List.setIfInBounds_toArray, List.set_cons_zero, List.set_cons_succ])
      exact rfl
    refine tail_oneL rfl ?_
    have V : Upd w w.drew (fun _ => False) := (Upd.refl w _).drew
    have O1 := own_keep HH.out.1 V (fun _ _ h => h)
    generalize w.drew = W1 at V O1 ⊢
    have hcl := clear1 _ _ _ _ O1
    have H1 := Lib.hid (And.intro V O1)
    clear V O1
    go_wp2
    go_ret
    have U : Upd W1 (W1.setCell ⟨g, 0, none⟩ (.pointer none)) (· = g) := (Upd.refl W1 (· = g)).set ⟨g, 0, none⟩ _ (fun _ => rfl)
    exact ⟨rfl, own_zero (H1.out.2.stored 0 (.pointer none)).1, (H1.out.1.mono (fun _ _ h => h.elim)).trans U (fun _ _ h => h)⟩

end Pt
end Go.Proofs.YtemmkobgpciflaaDoor

namespace Go.Proofs.YtemmkobgpciflaaDoor
open Go.RowKit
open Ch
namespace Pt

set_option maxRecDepth 100000 in
set_option maxHeartbeats 1600000 in
theorem at_one (D : Nat) (Nv Rv : Value) (lv low b : Nat) (rb : List Nat) (k : Int) (n : ByteArray) (av : Value) (t : ByteArray) (pv kv : Value) (w : World) (hD : Dst w D Nv Rv lv low [b] rb) (hb : Blk w b (nodeC 1 1 true k n av t pv kv) 160) :
    Calls Tryd.prog 117 #[.pointer (some ⟨D, 0, none⟩), .int .u64 4294967297] w (fun e w' => e = .returned (ptr b) ∧ Upd w w' (fun _ => False)) := by
  obtain ⟨g, o, c, rfl, hc, h1⟩ := (Rd.ofOwn hD.ownN).at_ (j := 0) (u := ptr b) rfl
  have d0 := hD.doc.cell 0
  have c2 := hb.cell 2
  unfold nodeC at c2
  unfold ptr at h1
  rw [Nat.add_zero] at h1
  simp only [List.getElem?_cons_zero, List.getElem?_cons_succ] at d0 c2
  have HB := Lib.hid hb
  clear hD hb hc
  simp only [List.length_cons, List.length_nil, Nat.zero_add] at d0
  have hbit : bits BinOp.and IntKind.u64 4294967297 4294967295 = 1 := by kernel_rfl
  go_enter Tryd.func117, Tryd.ntmps117
  go_upto_region 4 with fail
  go_upto_region 5 with fail
  have C := handle_any b 1 0 true k n av t pv kv w HB.out (by omega) (by omega)
  have HC := Lib.hid C
  clear C hbit
  unfold ptr at HC
  go_wp2_with fail
  refine HC.out.mono ?_
  rintro e w2 ⟨rfl, E2⟩
  have H2 := Lib.hid E2
  clear E2 HC
  simp only [show Df.hand 1 0 = 4294967297 from rfl]
  go_wp2
  go_ret
  exact ⟨rfl, Upd.ofBelow H2.out⟩

theorem own_ptr1 {w : World} {v : Value} {b : Nat} (h : w.ownsRow 0 154 1 v 1 [ptr b]) : ∃ g c, v = .slice (some ⟨g, 0, none⟩) 1 c ∧ w.cell? ⟨g, 0, none⟩ = some (ptr b) := by
  have c0 := (Rd.ofOwn h).at_ (j := 0) (u := ptr b) rfl
  obtain ⟨hl, ⟨e, h0⟩ | ⟨g', cap, cur, e, hb, hg, hn, hm, hs, ht⟩⟩ := h
  · cases h0
  · subst e
    obtain ⟨g, off, c', e, _, h0⟩ := c0
    simp only [Value.slice.injEq, Option.some.injEq, Addr.mk.injEq] at e
    obtain ⟨⟨rfl, rfl, _⟩, _, rfl⟩ := e
    exact ⟨_, _, rfl, h0⟩

set_option maxRecDepth 100000 in
set_option maxHeartbeats 1600000 in
theorem out_one (D : Nat) (Nv Rv : Value) (lv low b : Nat) (bs : List Nat) (cs : List Value) (w : World) (hD : Dst w D Nv Rv lv low bs [b]) (hb : Blk w b cs 160) (h7 : cs[7]? = some (.pointer none)) :
    Calls Tryd.prog 183 #[.pointer (some ⟨D, 0, none⟩), ptr b] w (fun e w' => e = .returned (.tuple #[]) ∧ ∃ Rv', Dst w' D Nv Rv' lv low bs [] ∧ (∀ g, Rv'.ownBlock = some g → Rv.ownBlock = some g) ∧ Upd w w' (fun g => g = D ∨ Rv.ownBlock = some g)) := by
  obtain ⟨g, c, rfl, h1⟩ := own_ptr1 hD.ownR
  have x7 := (hb.cell 7).trans h7
  have d1 := hD.doc.cell 1
  simp only [List.getElem?_cons_zero, List.getElem?_cons_succ] at d1
  have HC := Lib.hid (list0 D w)
  have HC1 := Lib.hid (idx1 ⟨g, 0, none⟩ c b w h1 rfl g 0 rfl)
  have HC2 := Lib.hid (del1 g c (ptr b) w hD.ownR)
  have HH := Lib.hid hD
  unfold ptr at HC1 ⊢
  clear hD hb h7 h1
  go_enter Tryd.func183, Tryd.ntmps183
  go_wp2_with fail
  refine HC.out.mono ?_
  rintro e w2 ⟨rfl, rfl⟩
  go_wp2_with fail
  refine HC1.out.mono ?_
  rintro e w3 ⟨rfl, rfl⟩
  go_wp2_with fail
  refine HC2.out.mono ?_
  rintro e w4 ⟨rfl, O4, U4⟩
  have ne := HH.out.ne
  have D4 := U4.blk HH.out.doc (fun e => ne.2 (by rw [e]; rfl))
  have d1 := D4.cell 1
  have z1 := D4.free 1
  simp only [List.getElem?_cons_zero, List.getElem?_cons_succ] at d1
  have N4 := own_keep HH.out.ownN U4 (fun x hx e => HH.out.apart x hx (by rw [e]; rfl))
  have H4 := Lib.hid (And.intro O4 (And.intro U4 (And.intro D4 (And.intro N4 ne))))
  clear O4 U4 ne D4 N4 HC HC1 HC2 x7
  go_wp2
  go_end0
  obtain ⟨O4, U4, D4, N4, ne⟩ := H4.out
  have U : Upd w4 (w4.setCell ⟨D, 1, none⟩ (.slice (some ⟨g, 0, none⟩) 0 c)) (· = D) := (Upd.refl w4 (· = D)).set ⟨D, 1, none⟩ _ (fun _ => rfl)
  refine ⟨rfl, .slice (some ⟨g, 0, none⟩) 0 c, ⟨D4.set 1 _, own_keep N4 U (fun x hx e => ne.1 (by rw [hx, e])), own_keep O4 U (fun x hx e => ne.2 ?_), fun x hx e => HH.out.apart x hx e⟩, fun x hx => hx, ?_⟩
  · have hx : some g = some x := hx
    have e : x = D := e
    rw [← e, ← hx]
    rfl
  · exact (U4.mono (fun x _ e => Or.inr (by have e : x = g := e; rw [e]; rfl))).trans U (fun x _ e => Or.inl e)

end Pt
end Go.Proofs.YtemmkobgpciflaaDoor

namespace Go.Proofs.YtemmkobgpciflaaDoor
open Go.RowKit
open Ch
namespace Pt

set_option maxRecDepth 100000 in
set_option maxHeartbeats 1600000 in
theorem gone_one (D : Nat) (Nv Rv : Value) (b : Nat) (rb : List Nat) (n : ByteArray) (a : Option Addr) (c : Nat) (w : World) (hD : Dst w D Nv Rv 1 0 [b] rb) (hb : Blk w b (leafC 1 n a c) 160) :
    Calls Tryd.prog 184 #[.pointer (some ⟨D, 0, none⟩), ptr b] w (fun e w' => e = .returned (.tuple #[]) ∧ Dst w' D Nv Rv 0 0 [b] rb ∧ Blk w' b (vac 1) 160 ∧ Upd w w' (fun g => g = D ∨ g = b)) := by
  have c8 := hb.cell 8
  unfold leafC nodeC at c8
  simp only [List.getElem?_cons_zero, List.getElem?_cons_succ] at c8
  have HH := Lib.hid (And.intro hD hb)
  unfold ptr
  clear hD hb
  go_enter Tryd.func184, Tryd.ntmps184
  go_wp2
  go_loopg [11] 0 (fun kq v11 w' => v11 = .int .i64 0 ∧ w' = w)
  case atStart => exact ⟨rfl, rfl⟩
  case round =>
    obtain ⟨rfl, rfl⟩ := hrel
    have c0 := HH.out.2.cell 0
    have c1 := HH.out.2.cell 1
    unfold leafC nodeC at c0 c1
    simp only [List.getElem?_cons_zero, List.getElem?_cons_succ] at c0 c1
    go_wp2
    apply wp_reg (w := wr) (fun w' : World => w'.cell? ⟨b, 0, none⟩ = some (.int .u32 (1 : Nat)) ∧ w'.cell? ⟨b, 1, none⟩ = some (.int .u32 (1 : Nat))) [0, 1, 2, 3, 4, 5, 6, 7, 8, 9] [] [10, 11] (by kernel_rfl) (by kernel_rfl) (fun _ _ d _ _ h => by cases d <;> exact h) ⟨c0, c1⟩
    · iterate 10 (apply reads_consL rfl rfl; (· intro w0 hS; obtain ⟨hS0, hS1⟩ := hS; go_simp; try rfl); simp only [Act.put, List.setIfInBounds_toArray, List.set_cons_zero, List.set_cons_succ])
      exact rfl
    refine tail_twoL rfl rfl ?_
    have V : Upd wr wr.drew (fun _ => False) := (Upd.refl wr _).drew
    have D1 := HH.out.1.none V
    have X1 := V.blk HH.out.2 (fun h => h)
    generalize wr.drew = W1 at V D1 X1 ⊢
    have x0 := X1.cell 0
    have x1 := X1.cell 1
    have x2 := X1.cell 2
    have x3 := X1.cell 3
    have x4 := X1.cell 4
    have x5 := X1.cell 5
    have x6 := X1.cell 6
    have x7 := X1.cell 7
    have x8 := X1.cell 8
    have z0 := X1.free 0
    have z1 := X1.free 1
    have z2 := X1.free 2
    have z3 := X1.free 3
    have z4 := X1.free 4
    have z5 := X1.free 5
    have z6 := X1.free 6
    have z7 := X1.free 7
    have z8 := X1.free 8
    unfold leafC nodeC at x0 x1 x2 x3 x4 x5 x6 x7 x8
    simp only [List.getElem?_cons_zero, List.getElem?_cons_succ] at x0 x1 x2 x3 x4 x5 x6 x7 x8
    have H1 := Lib.hid (And.intro V (And.intro D1 X1))
    clear V D1 X1 c0 c1 c8
    go_upto_region 6 with fail
    generalize hW : World.setCell _ _ _ = W2
    obtain ⟨V, D1, X1⟩ := H1.out
    have U2 : Upd W1 W2 (· = b) := by rw [← hW]; exact ((((((((((Upd.refl W1 (· = b)).set ⟨b, 0, none⟩ _ (fun _ => rfl)).set ⟨b, 1, none⟩ _ (fun _ => rfl)).set ⟨b, 2, none⟩ _ (fun _ => rfl)).set ⟨b, 3, none⟩ _ (fun _ => rfl)).set ⟨b, 4, none⟩ _ (fun _ => rfl)).set ⟨b, 5, none⟩ _ (fun _ => rfl)).set ⟨b, 6, none⟩ _ (fun _ => rfl)).set ⟨b, 7, none⟩ _ (fun _ => rfl)).set ⟨b, 8, none⟩ _ (fun _ => rfl))
    have X2 : Blk W2 b (vac 1) 160 := by rw [← hW]; exact (((((((((X1.set 0 _).set 1 _).set 2 _).set 3 _).set 4 _).set 5 _).set 6 _).set 7 _).set 8 _)
    have nb : b ≠ D := fun e => D1.doc.ty (e ▸ X1) (by decide) rfl
    have nO : ∀ (v : Value) (m : Nat) (xs : List Value), W1.ownsRow 0 154 1 v m xs → ∀ g, v.ownBlock = some g → ¬ (g = b) := fun v m xs hv g hg e => by
      obtain ⟨_, h⟩ := own_ty hv hg
      exact X1.ty (e ▸ h) (by decide) rfl
    have D2 := D1.keep U2 (fun e => nb e.symm) (nO _ _ _ D1.ownN) (nO _ _ _ D1.ownR)
    have d2 := D2.doc.cell 2
    have f2 := D2.doc.free 2
    simp only [List.getElem?_cons_zero, List.getElem?_cons_succ] at d2
    have H2 := Lib.hid (And.intro U2 (And.intro X2 (And.intro D2 nb)))
    clear hW V D1 X1 U2 X2 nb nO D2 x0 x1 x2 x3 x4 x5 x6 x7 x8 z0 z1 z2 z3 z4 z5 z6 z7 z8
    go_upto_region 7 with fail
    generalize hW : World.setCell _ _ _ = W3
    obtain ⟨U2, X2, D2, nb⟩ := H2.out
    have U3 : Upd W2 W3 (· = D) := by rw [← hW]; exact (Upd.refl W2 (· = D)).set ⟨D, 2, none⟩ _ (fun _ => rfl)
    have D3 : Blk W3 D [Nv, Rv, .int .i64 (0 : Nat), .int .i64 0, .int .i64 (0 : Nat)] 120 := by rw [← hW]; exact D2.doc.set 2 _
    have X3 := U3.blk X2 nb
    have N3 := own_keep D2.ownN U3 (fun g hg e => D2.ne.1 (by rw [hg, e]))
    have R3 := own_keep D2.ownR U3 (fun g hg e => D2.ne.2 (by rw [hg, e]))
    have x0 := X3.cell 0
    have x1 := X3.cell 1
    have d4 := D3.cell 4
    have f4 := D3.free 4
    unfold vac nodeC at x0 x1
    simp only [List.getElem?_cons_zero, List.getElem?_cons_succ] at x0 x1 d4
    have H3 := Lib.hid (And.intro U3 (And.intro D3 (And.intro X3 (And.intro N3 R3))))
    clear hW U2 X2 D2 nb U3 D3 X3 N3 R3 d2 f2
    go_wp2
    apply wp_reg (w := W3) (fun w' : World => w'.cell? ⟨D, 4, none⟩ = some (.int .i64 (0 : Nat)) ∧ w'.cell? ⟨b, 0, none⟩ = some (.int .u32 (1 : Nat))) [0, 1, 2, 3, 4, 5, 6, 7, 8, 9, 10, 11] [] [12, 13, 14] (by kernel_rfl) (by kernel_rfl) (fun _ _ d _ _ h => by cases d <;> exact h) ⟨d4, x0⟩
    · iterate 12 (apply reads_consL rfl rfl; (· intro w0 hS; obtain ⟨hS0, hS1⟩ := hS; go_simp; try rfl); simp only [Act.put, List.setIfInBounds_toArray, List.set_cons_zero, List.set_cons_succ])
      exact rfl
    trace_state
    refine tail_threeL rfl rfl rfl ?_
    go_wp2
    go_end0
    obtain ⟨V, D1, X1⟩ := H1.out
    obtain ⟨U2, X2, D2, nb⟩ := H2.out
    obtain ⟨U3, D3, X3, N3, R3⟩ := H3.out
    have U4 : Upd W3 (W3.drew.setCell ⟨D, 4, none⟩ (.int .i64 0)) (· = D) := (Upd.refl W3 (· = D)).drew.set ⟨D, 4, none⟩ _ (fun _ => rfl)
    exact ⟨rfl, ⟨D3.drew.set 4 _, own_keep N3 U4 (fun g hg e => D2.ne.1 (by rw [hg, e])), own_keep R3 U4 (fun g hg e => D2.ne.2 (by rw [hg, e])), D2.apart⟩, U4.blk X3 nb, (((V.mono (fun _ _ e => e.elim)).trans U2 (fun _ _ e => Or.inr e)).trans U3 (fun _ _ e => Or.inl e)).trans U4 (fun _ _ e => Or.inl e)⟩

end Pt
end Go.Proofs.YtemmkobgpciflaaDoor

namespace Go.Proofs.YtemmkobgpciflaaDoor
open Go.RowKit
open Ch
namespace Pt

set_option maxRecDepth 100000 in
set_option maxHeartbeats 1600000 in
theorem del_leaf (D : Nat) (n : ByteArray) (w : World) (hF : Full w D 1 n) :
    Calls Tryd.prog 165 #[.pointer (some ⟨D, 0, none⟩), .int .u64 4294967297] w (fun e w' => e = .returned (.int .i64 0) ∧ Vac w' D 1 ∧ Upd w w' (fun g => D ≤ g)) := by
  obtain ⟨Nv, Rv, b, a, c, hD, hb, hc, hDb, hN, hR⟩ := hF
  have HC := Lib.hid (at_one D Nv Rv 1 0 b [b] 1 n (.slice a 0 c) ⟨#[]⟩ (.pointer none) (.slice none 0 0) w hD hb)
  have HH := Lib.hid (And.intro hD (And.intro hb (And.intro hc (And.intro hDb (And.intro hN hR)))))
  clear hD hb hc hDb hN hR
  unfold ptr at HC
  go_enter Tryd.func165, Tryd.ntmps165
  go_wp2_with fail
  refine HC.out.mono ?_
  rintro e w2 ⟨rfl, U2⟩
  have C := out_one D Nv Rv 1 0 b [b] (leafC 1 n a c) w2 (HH.out.1.none U2) (U2.blk HH.out.2.1 (fun h => h)) rfl
  have H2 := Lib.hid U2
  have HC2 := Lib.hid C
  clear U2 C HC
  unfold ptr at HC2
  go_wp2_with fail
  refine HC2.out.mono ?_
  rintro e w3 ⟨rfl, Rv', D3, hR3, U3⟩
  have B2 := H2.out.blk HH.out.2.1 (fun h => h)
  have B3 := U3.blk B2 (fun e => by
    rcases e with e | e
    · have := HH.out.2.2.2.1; omega
    · obtain ⟨_, h⟩ := own_ty HH.out.1.ownR e
      exact HH.out.2.1.ty h (by decide) rfl)
  have C := gone_one D Nv Rv' b [] n a c w3 D3 B3
  have H3 := Lib.hid (And.intro hR3 U3)
  have HC3 := Lib.hid C
  clear D3 hR3 U3 B2 B3 C HC2
  unfold ptr at HC3
  go_wp2_with fail
  refine HC3.out.mono ?_
  rintro e w4 ⟨rfl, D4, B4, U4⟩
  have H4 := Lib.hid (And.intro D4 (And.intro B4 U4))
  clear D4 B4 U4 HC3
  go_wp2
  go_ret
  obtain ⟨hD, hb, hc, hDb, hN, hR⟩ := HH.out
  refine ⟨rfl, ⟨Nv, Rv', hN, fun g hg => hR g (H3.out.1 g hg), Or.inr ⟨b, H4.out.1, hDb, H4.out.2.1⟩⟩, ((H2.out.mono (fun _ _ e => e.elim)).trans H3.out.2 (fun g _ e => ?_)).trans H4.out.2.2 (fun g _ e => ?_)⟩
  · show D ≤ g
    rcases e with e | e
    · omega
    · exact hR g e
  · show D ≤ g
    rcases e with e | e <;> omega

def leafT (n : ByteArray) (a : Option Addr) (c : Nat) : List Value := [.int .i64 1, .string n, .slice a 0 c, .string ⟨#[]⟩, .slice none 0 0]

set_option maxRecDepth 100000 in
set_option maxHeartbeats 1600000 in
theorem plain_leaf (b ge : Nat) (n : ByteArray) (a : Option Addr) (c : Nat) (w : World) (hb : Blk w b (leafC ge n a c) 160) (hc : a = none → c = 0) :
    Calls Tryd.prog 118 #[ptr b] w (fun e w' => ∃ a' c', e = .returned (.agg (leafT n a' c').toArray) ∧ (a' = none → c' = 0) ∧ Below w.heap.size w w') := by
  have HH := Lib.hid (And.intro hb hc)
  obtain ⟨X, hX⟩ : ∃ X, X = w.heap.size := ⟨_, rfl⟩
  have HX := Lib.hid hX
  unfold ptr
  clear hb hc hX
  go_enter Tryd.func118, Tryd.ntmps118
  go_wp2
  rw [← HX.out]
  generalize hW : World.alloc _ _ = W1
  have T1 : Upd w W1 (fun _ => False) := by rw [← hW]; exact (Upd.refl w _).alloc _
  have X1 : Blk W1 X [.int .i64 0, .string ⟨#[]⟩, .slice none 0 0, .string ⟨#[]⟩, .slice none 0 0] 25 := by rw [← hW]; exact Blk.new' HX.out
  have B1 := T1.blk HH.out.1 (fun h => h)
  have b3 := B1.cell 3
  have b4 := B1.cell 4
  have b5 := B1.cell 5
  have b6 := B1.cell 6
  unfold leafC nodeC at b3 b4 b5 b6
  simp only [List.getElem?_cons_zero, List.getElem?_cons_succ] at b3 b4 b5 b6
  have C := clone_any [] a c W1.drew (by
    refine ⟨rfl, a, c, rfl, Nat.zero_le _, HH.out.2, Or.inl rfl⟩) (by simp)
  simp only [List.length_nil] at C
  have H1 := Lib.hid (And.intro T1 (And.intro X1 B1))
  have HC := Lib.hid C
  clear hW T1 X1 B1 C
  apply wp_reg (w := W1) (fun w' : World => w'.cell? ⟨b, 3, none⟩ = some (.int .i64 1) ∧ w'.cell? ⟨b, 4, none⟩ = some (.string n) ∧ w'.cell? ⟨b, 5, none⟩ = some (.slice a 0 c) ∧ w'.cell? ⟨b, 6, none⟩ = some (.string ⟨#[]⟩)) [0, 1, 2, 3, 4, 5, 6, 7, 8, 9, 10, 11, 13, 14, 15, 16] [12, 17] [18] (by kernel_rfl) (by kernel_rfl) (fun _ _ d _ _ h => by cases d <;> exact h) ⟨b3, b4, b5, b6⟩
  · iterate 16 (apply reads_consL rfl rfl; (· intro w0 hS; obtain ⟨hS0, hS1, hS2, hS3⟩ := hS; go_simp; try rfl); simp only [Act.put, List.setIfInBounds_toArray, List.set_cons_zero, List.set_cons_succ])
    exact rfl
  refine tail_consL rfl ?_
  go_wp2_with fail
  refine HC.out.mono ?_
  rintro e w4 ⟨a4, c4, rfl, O4, I4, E4⟩
  have U4 : Upd W1 w4 (fun _ => False) := (Upd.refl W1 _).drew.trans (Upd.ofBelow E4) (fun _ _ h => h)
  have X4 := U4.blk H1.out.2.1 (fun h => h)
  have B4 := U4.blk H1.out.2.2 (fun h => h)
  have b3 := B4.cell 3
  have b4 := B4.cell 4
  have b5 := B4.cell 5
  have b6 := B4.cell 6
  unfold leafC nodeC at b3 b4 b5 b6
  simp only [List.getElem?_cons_zero, List.getElem?_cons_succ] at b3 b4 b5 b6
  have x0 := X4.cell 0
  have x1 := X4.cell 1
  have x2 := X4.cell 2
  have x3 := X4.cell 3
  have x4 := X4.cell 4
  have z0 := X4.free 0
  have z1 := X4.free 1
  have z2 := X4.free 2
  have z3 := X4.free 3
  have z4 := X4.free 4
  simp only [List.getElem?_cons_zero, List.getElem?_cons_succ] at x0 x1 x2 x3 x4
  have hc4 : a4 = none → c4 = 0 := fun e => by
    obtain ⟨_, a5, c5, e5, _, hn, _⟩ := Rd.ofOwn O4
    simp only [Value.slice.injEq] at e5
    obtain ⟨rfl, _, rfl⟩ := e5
    exact hn e
  have H4 := Lib.hid (And.intro U4 (And.intro X4 hc4))
  clear O4 I4 E4 U4 X4 B4 hc4 HC
  go_wp2_with fail
  refine ⟨⟨b3, b4, b5, b6⟩, tail_consL rfl ?_⟩
  go_wp2_with fail
  refine ⟨⟨b3, b4, b5, b6⟩, tail_oneL rfl ?_⟩
  go_wp2
  generalize hW : World.setCell _ _ _ = W9
  obtain ⟨U4, X4, hc4⟩ := H4.out
  have R9 : Blk W9 X (leafT n a4 c4) 25 := by
    rw [← hW]
    exact ((((X4.set 0 _).set 1 _).set 2 _).set 3 _).set 4 _
  have U9 : Upd w4 W9 (· = X) := by
    rw [← hW]
    exact ((((((Upd.refl w4 (· = X)).set ⟨X, 0, none⟩ _ (fun _ => rfl)).set ⟨X, 1, none⟩ _ (fun _ => rfl)).set ⟨X, 2, none⟩ _ (fun _ => rfl)).set ⟨X, 3, none⟩ _ (fun _ => rfl)).set ⟨X, 4, none⟩ _ (fun _ => rfl))
  refine bodyPost_ret (results_cell_row rfl _ _ X 25 _ (0, 0) _ rfl R9 Tryd.underlying25 rfl (by kernel_rfl)) rfl ?_
  have U : Upd w W9 (fun _ => False) := (H1.out.1.trans U4 (fun _ _ h => h)).trans U9 (fun g hg e => by have := HX.out; have e : g = X := e; omega)
  exact ⟨a4, c4, rfl, hc4, U.below (Nat.le_refl _) (fun _ _ h => h)⟩

end Pt
end Go.Proofs.YtemmkobgpciflaaDoor

namespace Go.Proofs.YtemmkobgpciflaaDoor
open Go.RowKit
open Ch
namespace Pt

set_option maxRecDepth 100000 in
set_option maxHeartbeats 1600000 in
theorem whole_leaf (b ge : Nat) (n : ByteArray) (a : Option Addr) (c : Nat) (w : World) (hb : Blk w b (leafC ge n a c) 160) (hc : a = none → c = 0) :
    Calls Tryd.prog 170 #[ptr b] w (fun e w' => ∃ a' c', e = .returned (.agg (leafT n a' c').toArray) ∧ (a' = none → c' = 0) ∧ Below w.heap.size w w') := by
  have HH := Lib.hid (And.intro hb hc)
  obtain ⟨X, hX⟩ : ∃ X, X = w.heap.size := ⟨_, rfl⟩
  have HX := Lib.hid hX
  unfold ptr
  clear hb hc hX
  go_enter Tryd.func170, Tryd.ntmps170
  go_upto_region 1 with fail
  rw [← HX.out]
  generalize hW : World.alloc _ _ = W1
  have T1 : Upd w W1 (fun _ => False) := by rw [← hW]; exact (Upd.refl w _).alloc _
  have X1 : Blk W1 X [.int .i64 0, .string ⟨#[]⟩, .slice none 0 0, .string ⟨#[]⟩, .slice none 0 0] 25 := by rw [← hW]; exact Blk.new' HX.out
  have C := plain_leaf b ge n a c W1 (T1.blk HH.out.1 (fun h => h)) HH.out.2
  have H1 := Lib.hid (And.intro T1 X1)
  have HC := Lib.hid C
  clear hW T1 X1 C
  unfold ptr at HC
  go_wp2_with fail
  refine HC.out.mono ?_
  rintro e w2 ⟨a2, c2, rfl, hc2, E2⟩
  have U2 : Upd W1 w2 (fun _ => False) := Upd.ofBelow E2
  obtain ⟨Y, hY⟩ : ∃ Y, Y = w2.heap.size := ⟨_, rfl⟩
  have H2 := Lib.hid (And.intro hc2 (And.intro U2 hY))
  clear hc2 E2 U2 hY HC
  unfold leafT
  go_upto_region 2 with fail
  rw [← H2.out.2.2]
  generalize hW : World.alloc _ _ = W3
  have U3 : Upd w2 W3 (fun _ => False) := by rw [← hW]; exact (Upd.refl _ _).alloc _
  have Y3 : Blk W3 Y (leafT n a2 c2) 25 := by rw [← hW]; exact Blk.new' H2.out.2.2
  have UU := (H1.out.1.trans H2.out.2.1 (fun _ _ h => h)).trans U3 (fun _ _ h => h)
  have X3 := U3.blk (H2.out.2.1.blk H1.out.2 (fun h => h)) (fun h => h)
  have b8 := (UU.blk HH.out.1 (fun h => h)).cell 8
  unfold leafC nodeC at b8
  simp only [List.getElem?_cons_zero, List.getElem?_cons_succ] at b8
  have H3 := Lib.hid (And.intro UU (And.intro X3 Y3))
  clear hW U3 Y3 UU X3
  go_wp2
  go_loopg [13] 0 (fun kq v13 w' => v13 = .int .i64 0 ∧ w' = W3)
  case atStart => exact ⟨rfl, rfl⟩
  case round =>
    obtain ⟨rfl, rfl⟩ := hrel
    have x0 := H3.out.2.1.cell 0
    have x1 := H3.out.2.1.cell 1
    have x2 := H3.out.2.1.cell 2
    have x3 := H3.out.2.1.cell 3
    have x4 := H3.out.2.1.cell 4
    have z0 := H3.out.2.1.free 0
    have z1 := H3.out.2.1.free 1
    have z2 := H3.out.2.1.free 2
    have z3 := H3.out.2.1.free 3
    have z4 := H3.out.2.1.free 4
    have y0 := H3.out.2.2.cell 0
    have y1 := H3.out.2.2.cell 1
    have y2 := H3.out.2.2.cell 2
    have y3 := H3.out.2.2.cell 3
    have y4 := H3.out.2.2.cell 4
    unfold leafT at y0 y1 y2 y3 y4
    simp only [List.getElem?_cons_zero, List.getElem?_cons_succ] at x0 x1 x2 x3 x4 y0 y1 y2 y3 y4
    go_wp2
    generalize hW : World.setCell _ _ _ = W9
    have R9 : Blk W9 X (leafT n a2 c2) 25 := by
      rw [← hW]
      exact ((((H3.out.2.1.set 0 _).set 1 _).set 2 _).set 3 _).set 4 _
    have U9 : Upd wr W9 (· = X) := by
      rw [← hW]
      exact ((((((Upd.refl wr (· = X)).set ⟨X, 0, none⟩ _ (fun _ => rfl)).set ⟨X, 1, none⟩ _ (fun _ => rfl)).set ⟨X, 2, none⟩ _ (fun _ => rfl)).set ⟨X, 3, none⟩ _ (fun _ => rfl)).set ⟨X, 4, none⟩ _ (fun _ => rfl))
    refine bodyPost_ret (results_cell_row rfl _ _ X 25 _ (0, 0) _ rfl R9 Tryd.underlying25 rfl (by kernel_rfl)) rfl ?_
    have U : Upd w W9 (fun _ => False) := H3.out.1.trans U9 (fun g hg e => by have := HX.out; have e : g = X := e; omega)
    exact ⟨a2, c2, rfl, H2.out.1, U.below (Nat.le_refl _) (fun _ _ h => h)⟩

set_option maxRecDepth 100000 in
set_option maxHeartbeats 1600000 in
theorem forest_leaf (D ge : Nat) (n : ByteArray) (w : World) (hF : Full w D ge n) :
    Calls Tryd.prog 137 #[.pointer (some ⟨D, 0, none⟩)] w (fun e w' => ∃ a c, e = .returned (.slice a 1 c) ∧ Forest w' (fun _ => True) [.mk 1 n [] ⟨#[]⟩ []] a c ∧ Below w.heap.size w w') := by
  obtain ⟨Nv, Rv, b, a, c, hD, hb, hc, hDb, hN, hR⟩ := hF
  obtain ⟨g, c1, rfl, h1⟩ := own_ptr1 hD.ownR
  have d1 := hD.doc.cell 1
  simp only [List.getElem?_cons_zero, List.getElem?_cons_succ] at d1
  have C := whole_leaf b ge n a c w hb hc
  have HC := Lib.hid C
  unfold ptr at h1 HC
  clear hD hb hc hDb hN hR C
  go_enter Tryd.func137, Tryd.ntmps137
  go_wp2
  go_loopg [3, 5, 11] 1 (fun kq v3 v5 v11 w' => (kq = 1 ∧ v11 = .int .i64 0 ∧ v3 = .slice none 0 0 ∧ w' = w) ∨ (kq = 0 ∧ v11 = .int .i64 1 ∧ ∃ a' c', v3 = .slice a' 1 c' ∧ Hid (Forest w' (fun _ => True) [.mk 1 n [] ⟨#[]⟩ []] a' c') ∧ Hid (Below w.heap.size w w')))
  case atStart => exact Or.inl ⟨rfl, rfl, rfl, rfl⟩
  case round =>
    rcases hrel with ⟨hk, rfl, rfl, rfl⟩ | ⟨hk, rfl, a', c', rfl, HF, HB⟩
    · have HK := Lib.hid hk
      clear hk
      go_wp2_with fail
      refine HC.out.mono ?_
      rintro e w2 ⟨a2, c2, rfl, hc2, E2⟩
      have H2 := Lib.hid (And.intro hc2 E2)
      clear hc2 E2 HC
      obtain ⟨q, hq⟩ : ∃ q, q = w2.heap.size := ⟨_, rfl⟩
      have HQ := Lib.hid hq
      clear hq
      unfold leafT
      go_wp2_with (at_builtin; refine halt_mk ?_)
      refine halt_go ?_
      rw [← HQ.out]
      generalize hW : World.alloc _ _ = W3
      have U3 : Upd w2 W3 (fun _ => False) := by rw [← hW]; exact (Upd.refl _ _).alloc _
      have Y3 : Blk W3 q (leafT n a2 c2) 25 := by rw [← hW]; exact Blk.new' HQ.out
      clear hW
      refine wpl_app (n := 0) (m := 1) rfl rfl elemTree Tryd.underlying23 rfl own_none rfl (Rd.ofBlk Y3 1 5 rfl) (by intro u hu; unfold leafT at hu; simp only [List.mem_cons, List.not_mem_nil, or_false] at hu; rcases hu with rfl | rfl | rfl | rfl | rfl <;> rfl) (by omega) ?_
      rintro v4 w4 ⟨O4, U4, b4⟩
      rw [Nat.zero_add, List.nil_append] at O4
      obtain ⟨a4, c4, rfl, _⟩ := (Rd.ofOwn O4).form
      have E4 : Below wr.heap.size wr w4 := by
        refine below_tr H2.out.2 ((U3.trans U4 (fun g _ e => ?_)).below (F := fun _ => False) (Nat.le_refl _) (fun _ _ h => h))
        cases e
      have H4 := Lib.hid (And.intro O4 E4)
      clear U3 Y3 O4 U4 b4 E4
      go_wp2
      go_roundg 0
      case measure => have := HK.out; omega
      case rel =>
        refine Or.inr ⟨rfl, rfl, a4, c4, rfl, Lib.hid ⟨leafT n a2 c2, ⟨Rd.ofOwn H4.out.1, fun _ _ _ => trivial⟩, ?_⟩, Lib.hid H4.out.2⟩
        refine ⟨leafT n a2 c2, [], by simp, ⟨a2, c2, none, 0, [], rfl, ⟨⟨rfl, a2, c2, rfl, Nat.zero_le _, H2.out.1, Or.inl rfl⟩, fun h => absurd rfl h⟩, ⟨Rd.nil _ _, fun h => absurd rfl h⟩, rfl⟩, rfl⟩
    · clear hk HC
      go_wp2
      go_ret
      exact ⟨a', c', rfl, HF.out, HB.out⟩

end Pt
end Go.Proofs.YtemmkobgpciflaaDoor

namespace Go.Proofs.YtemmkobgpciflaaDoor
open Go.RowKit
open Ch
namespace Pt

set_option maxRecDepth 100000 in
set_option maxHeartbeats 1600000 in
theorem do_del (D : Nat) (n : ByteArray) (w : World) (hF : Full w D 1 n) :
    Calls Tryd.prog 136 #[.pointer (some ⟨D, 0, none⟩), .agg (Df.delRow 4294967297).toArray] w (fun e w' => ∃ v, e = .returned (.tuple #[v, .int .i64 0]) ∧ Vac w' D 1 ∧ Upd w w' (fun g => D ≤ g)) := by
  have HH := Lib.hid hF
  obtain ⟨X, hX⟩ : ∃ X, X = w.heap.size := ⟨_, rfl⟩
  have HX := Lib.hid hX
  clear hF hX
  unfold Df.delRow
  go_enter Tryd.func136, Tryd.ntmps136
  go_upto_region 1 with fail
  rw [← HX.out]
  generalize hW : World.alloc _ _ = W1
  have T1 : Upd w W1 (fun _ => False) := by rw [← hW]; exact (Upd.refl w _).alloc _
  have X1 : Blk W1 X (Df.delRow 4294967297) 106 := by rw [← hW]; exact Blk.new' HX.out
  have x0 := X1.cell 0
  have x1 := X1.cell 1
  unfold Df.delRow at x0 x1
  simp only [List.getElem?_cons_zero, List.getElem?_cons_succ] at x0 x1
  have F1 : Full W1 D 1 n := by
    obtain ⟨Nv, Rv, b, a, c, hD, hb, r⟩ := HH.out
    exact ⟨Nv, Rv, b, a, c, hD.none T1, T1.blk hb (fun h => h), r⟩
  have HC := Lib.hid (del_leaf D n W1 F1)
  have H1 := Lib.hid T1
  clear hW T1 X1 F1
  go_wp2_with fail
  refine HC.out.mono ?_
  rintro e w2 ⟨rfl, V2, U2⟩
  have H2 := Lib.hid (And.intro V2 U2)
  clear V2 U2 HC
  go_wp2
  go_ret2
  exact ⟨_, rfl, H2.out.1, (H1.out.mono (fun _ _ e => e.elim)).trans H2.out.2 (fun _ _ e => e)⟩

set_option maxRecDepth 100000 in
set_option maxHeartbeats 1600000 in
theorem do_ins (B D ge : Nat) (n t : ByteArray) (cs : List Value) (w : World) (hV : Vac w D ge) (hg : ge < 4294967295) (hDw : D < w.heap.size) (hA : TreeAt w (· < B) (.mk 1 n [] t []) cs) (hk : chk (.mk 1 n [] t []) 1 0 = 0) (hF : Fits (.mk 1 n [] t [])) (hB : B ≤ w.heap.size) (hT : Tabs w) :
    Calls Tryd.prog 136 #[.pointer (some ⟨D, 0, none⟩), .agg (Df.insRow cs).toArray] w (fun e w' => ∃ v, e = .returned (.tuple #[v, .int .i64 0]) ∧ Full w' D (ge + 1) n ∧ Upd w w' (fun g => D ≤ g)) := by
  have HA := Lib.hid hA
  obtain ⟨a, c, ak, ck, xs, rfl, _⟩ := hA.parts
  have HH := Lib.hid (And.intro hV (And.intro hg (And.intro hDw (And.intro hk (And.intro hF (And.intro hB hT))))))
  obtain ⟨X, hX⟩ : ∃ X, X = w.heap.size := ⟨_, rfl⟩
  have HX := Lib.hid hX
  clear hV hg hDw hA hk hF hB hT hX
  simp only [List.length_nil]
  unfold Df.insRow
  simp only [List.cons_append, List.nil_append]
  go_enter Tryd.func136, Tryd.ntmps136
  go_upto_region 1 with fail
  rw [← HX.out]
  generalize hW : World.alloc _ _ = W1
  have T1 : Upd w W1 (fun _ => False) := by rw [← hW]; exact (Upd.refl w _).alloc _
  have X1 : Blk W1 X [.int .i64 1, .int .u64 0, .int .u64 0, .int .i64 2, .string ⟨#[]⟩, .string ⟨#[]⟩, .int .i64 1, .string n, .slice a 0 c, .string t, .slice ak 0 ck] 106 := by rw [← hW]; exact Blk.new' HX.out
  have x0 := X1.cell 0
  have x2 := X1.cell 2
  have x3 := X1.cell 3
  have x6 := X1.cell 6
  have x7 := X1.cell 7
  have x8 := X1.cell 8
  have x9 := X1.cell 9
  have x10 := X1.cell 10
  simp only [List.getElem?_cons_zero, List.getElem?_cons_succ] at x0 x2 x3 x6 x7 x8 x9 x10
  have V1 : Vac W1 D ge := by
    obtain ⟨Nv, Rv, hN, hR, h⟩ := HH.out.1
    refine ⟨Nv, Rv, hN, hR, ?_⟩
    rcases h with ⟨h, h0⟩ | ⟨b, h, hb, hv⟩
    · exact Or.inl ⟨h.none T1, h0⟩
    · exact Or.inr ⟨b, h.none T1, hb, T1.blk hv (fun h => h)⟩
  have C := ins_leaf B D ge n t _ W1 V1 HH.out.2.1 (Nat.lt_of_lt_of_le HH.out.2.2.1 T1.size) (HA.out.keep T1 (fun _ _ h => h)) HH.out.2.2.2.1 HH.out.2.2.2.2.1 (Nat.le_trans HH.out.2.2.2.2.2.1 T1.size) (HH.out.2.2.2.2.2.2.below (T1.below (Nat.le_refl _) (fun _ _ h => h)))
  simp only [List.length_nil] at C
  have HC := Lib.hid C
  have H1 := Lib.hid T1
  clear hW T1 X1 V1 C
  go_wp2_with fail
  refine HC.out.mono ?_
  rintro e w2 ⟨rfl, V2, U2⟩
  have H2 := Lib.hid (And.intro V2 U2)
  clear V2 U2 HC
  go_wp2
  go_ret2
  exact ⟨_, rfl, H2.out.1, (H1.out.mono (fun _ _ e => e.elim)).trans H2.out.2 (fun _ _ e => e)⟩

end Pt
end Go.Proofs.YtemmkobgpciflaaDoor

namespace Go.Proofs.YtemmkobgpciflaaDoor
open Go.RowKit
open Ch
namespace Pt

theorem rdp_lt {w : World} {P : Nat → Prop} {sz n : Nat} {v : Value} {xs : List Value} (hsz : 0 < sz) (h : RdP w P sz v n xs) : RdP w (fun g => P g ∧ g < w.heap.size) sz v n xs := by
  refine ⟨h.1, fun hn g hg => ⟨h.2 hn g hg, ?_⟩⟩
  obtain ⟨hl, a, c, rfl, hc, hnn, h0 | ⟨g', off, rfl, hr⟩⟩ := h.1
  · exact absurd h0 hn
  · obtain rfl : g' = g := by simpa [Value.ownBlock] using hg
    have hp : 0 < xs.length := by rw [hl]; exact Nat.mul_pos (by omega) hsz
    exact World.block_lt_of_cell? w _ (hr 0 _ (List.getElem?_eq_getElem hp))
theorem TreeAt.low' {w : World} {P : Nat → Prop} {t : T} {cs : List Value} (h : TreeAt w P t cs) : TreeAt w (· < w.heap.size) t cs :=
  TreeIs.mono (fun _ _ _ hr => (rdp_lt (by omega) hr).mono (fun _ h => h.2)) (fun _ _ _ hr => (rdp_lt (by omega) hr).mono (fun _ h => h.2)) t cs h

theorem Vac.new {w : World} {D : Nat} (h : Blk w D [.slice none 0 0, .slice none 0 0, .int .i64 (0 : Nat), .int .i64 0, .int .i64 (0 : Nat)] 120) : Vac w D 0 :=
  ⟨.slice none 0 0, .slice none 0 0, fun g hg => (by cases hg), fun g hg => (by cases hg), Or.inl ⟨⟨h, own_none, own_none, fun g hg => (by cases hg)⟩, rfl⟩⟩
theorem Vac.none {w w' : World} {D ge : Nat} (h : Vac w D ge) (hU : Upd w w' (fun _ => False)) : Vac w' D ge := by
  obtain ⟨Nv, Rv, hN, hR, h⟩ := h
  refine ⟨Nv, Rv, hN, hR, ?_⟩
  rcases h with ⟨h, h0⟩ | ⟨b, h, hb, hv⟩
  · exact Or.inl ⟨h.none hU, h0⟩
  · exact Or.inr ⟨b, h.none hU, hb, hU.blk hv (fun h => h)⟩
theorem Vac.lt {w : World} {D ge : Nat} (h : Vac w D ge) : D < w.heap.size := by
  obtain ⟨Nv, Rv, hN, hR, h⟩ := h
  rcases h with ⟨h, h0⟩ | ⟨b, h, hb, hv⟩
  · exact h.doc.lt
  · exact h.doc.lt
theorem Full.none {w w' : World} {D ge : Nat} {n : ByteArray} (h : Full w D ge n) (hU : Upd w w' (fun _ => False)) : Full w' D ge n := by
  obtain ⟨Nv, Rv, b, a, c, hD, hb, r⟩ := h
  exact ⟨Nv, Rv, b, a, c, hD.none hU, hU.blk hb (fun h => h), r⟩

def PPost (n : ByteArray) (w : World) (e : Ending) (w' : World) : Prop := ∃ a c, e = .returned (.tuple #[.slice a 1 c, .int .i64 0, .int .i64 0]) ∧ Forest w' (fun _ => True) [.mk 1 n [] ⟨#[]⟩ []] a c ∧ Below w.heap.size w w'

set_option maxRecDepth 100000 in
set_option maxHeartbeats 1600000 in
theorem patch_leaf (B : Nat) (n1 t1 n2 t2 : ByteArray) (ak : Option Addr) (ck : Nat) (la : Option Addr) (lc : Nat) (cs : List Value) (w : World) (hf : Forest w (· < B) [.mk 1 n1 [] t1 []] ak ck) (f1 : Fits (.mk 1 n1 [] t1 [])) (k1 : chk (.mk 1 n1 [] t1 []) 1 0 = 0) (c1 : canE [.mk 1 n1 [] t1 []] = 0)
    (hR : Rd w (.slice la 2 lc) 2 11 (Df.delRow 4294967297 ++ Df.insRow cs)) (hQ : TreeAt w (fun _ => True) (.mk 1 n2 [] t2 []) cs) (f2 : Fits (.mk 1 n2 [] t2 [])) (k2 : chk (.mk 1 n2 [] t2 []) 1 0 = 0) (hB : B ≤ w.heap.size) (hT : Tabs w) :
    Calls Tryd.prog 91 #[.slice ak 1 ck, .slice la 2 lc] w (PPost n2 w) := by
  have C := dcan_any [.mk 1 n1 [] t1 []] ak ck w B hf (by intro x hx; simp at hx; subst hx; exact f1) (by simp) hB hT
  rw [c1] at C
  have HC := Lib.hid C
  have HH := Lib.hid (And.intro hf (And.intro f1 (And.intro k1 (And.intro hR (And.intro (TreeAt.low' hQ) (And.intro f2 (And.intro k2 (And.intro hB hT))))))))
  clear hf f1 k1 c1 hR hQ f2 k2 hB hT C
  simp only [List.length_cons, List.length_nil, Nat.zero_add] at HC
  go_enter Tryd.func91, Tryd.ntmps91
  go_wp2_with fail
  refine HC.out.mono ?_
  rintro e w1 ⟨rfl, E1⟩
  obtain ⟨D, hD⟩ : ∃ D, D = w1.heap.size := ⟨_, rfl⟩
  have H1 := Lib.hid (And.intro E1 hD)
  clear E1 hD HC
  go_upto_region 5 with fail
  rw [← H1.out.2]
  generalize hW : World.alloc _ _ = W2
  have U2 : Upd w W2 (fun g => D ≤ g) := by rw [← hW]; exact (Upd.ofBelow H1.out.1).alloc _
  have X2 : Blk W2 D [.slice none 0 0, .slice none 0 0, .int .i64 (0 : Nat), .int .i64 0, .int .i64 (0 : Nat)] 120 := by rw [← hW]; exact Blk.new' H1.out.2
  have hDw : w.heap.size ≤ D := by rw [H1.out.2]; exact H1.out.1.size
  have H2 := Lib.hid (And.intro U2 (And.intro (Vac.new X2) hDw))
  clear hW U2 X2 hDw
  go_wp2
  go_loopg [10, 24, 27, 29, 30] 1 (fun kq v10 v24 v27 v29 v30 w' => ∃ i : Nat, v24 = .int .i64 i ∧ Hid (kq = 1 - i ∧ ((i = 0 ∧ Vac w' D 0) ∨ (i = 1 ∧ Full w' D 1 n1))) ∧ Hid (Upd w w' (fun g => D ≤ g)))
  case atStart => exact ⟨0, rfl, Lib.hid ⟨rfl, Or.inl ⟨rfl, H2.out.2.1⟩⟩, Lib.hid H2.out.1⟩
  case round =>
    obtain ⟨i, rfl, HJ, HU⟩ := hrel
    by_cases hi : i = 0
    · subst hi
      have V : Vac wr D 0 := by
        rcases HJ.out.2 with ⟨_, h⟩ | ⟨h, _⟩
        · exact h
        · cases h
      have Uw : Upd w wr (fun g => w.heap.size ≤ g) := HU.out.mono (fun g _ e => Nat.le_trans H2.out.2.2 e)
      have hFr : Forest wr (· < B) [.mk 1 n1 [] t1 []] ak ck := HH.out.1.keep Uw (fun g hg e => by have := HH.out.2.2.2.2.2.2.2.1; have hg : g < B := hg; have e : w.heap.size ≤ g := e; omega)
      obtain ⟨g, off, xk, xn, xa, xla, xca, xt, xkk, xlk, xkc, rfl, hck, y0, y1, y2, y3, y4, hxA⟩ := hFr.kid (i := 0) rfl
      obtain ⟨Bx, hBx⟩ : ∃ o, o = Obj.cells #[Value.int .i64 xk, .string xn, .slice xa xla xca, .string xt, .slice xkk xlk xkc] 25 := ⟨_, rfl⟩
      have UA : Upd wr (wr.alloc Bx) (fun _ => False) := (Upd.refl wr (fun _ => False)).alloc Bx
      have C := ins_leaf B D 0 n1 t1 _ (wr.alloc Bx) (V.none UA) (by omega) (Nat.lt_of_lt_of_le V.lt UA.size) (hxA.keep UA (fun _ _ h => h)) HH.out.2.2.1 HH.out.2.1 (by have := HH.out.2.2.2.2.2.2.2.1; have := Uw.size; have := UA.size; omega)
        (HH.out.2.2.2.2.2.2.2.2.below ((Uw.trans UA (fun _ _ h => h.elim)).below (Nat.le_refl _) (fun g hg e => by have e : w.heap.size ≤ g := e; omega)))
      have UB : Upd w (wr.alloc Bx) (fun g => D ≤ g) := HU.out.trans UA (fun _ _ h => h.elim)
      rw [hBx] at C UB
      simp only [Nat.zero_mul, Nat.add_zero] at y0 y1 y2 y3 y4
      have HB := Lib.hid UB
      have HC := Lib.hid C
      clear V Uw hFr hck hxA hBx UA C UB
      simp only [Int.ofNat_zero, Int.natCast_zero]
      go_wp2_with fail
      refine HC.out.mono ?_
      rintro e w3 ⟨rfl, F3, U3⟩
      have H3 := Lib.hid (And.intro F3 U3)
      clear F3 U3 HC y0 y1 y2 y3 y4
      go_wp2
      go_roundg 0
      case measure => have := HJ.out; omega
      case rel => exact ⟨1, rfl, Lib.hid ⟨rfl, Or.inr ⟨rfl, H3.out.1⟩⟩, Lib.hid (HB.out.trans H3.out.2 (fun _ _ e => e))⟩
    · obtain ⟨rfl, F⟩ : i = 1 ∧ Full wr D 1 n1 := by
        rcases HJ.out.2 with ⟨h, _⟩ | h
        · exact absurd h hi
        · exact h
      have HF := Lib.hid F
      clear F hi
      simp only [Int.ofNat_one, Int.natCast_one]
      go_wp2
      go_loopg [11, 12, 13, 14, 34, 36, 37, 38, 39, 40, 41, 42, 43, 44, 45, 46] 2 (fun kq v11 v12 v13 v14 v34 v36 v37 v38 v39 v40 v41 v42 v43 v44 v45 v46 w' => ∃ i : Nat, v34 = .int .i64 i ∧ Hid (kq = 2 - i ∧ ((i = 0 ∧ Full w' D 1 n1) ∨ (i = 1 ∧ Vac w' D 1) ∨ (i = 2 ∧ Full w' D 2 n2))) ∧ Hid (Upd w w' (fun g => D ≤ g)))
      case atStart => exact ⟨0, rfl, Lib.hid ⟨rfl, Or.inl ⟨rfl, HF.out⟩⟩, HU⟩
      case round =>
        obtain ⟨i, rfl, HJ2, HU2⟩ := hrel
        have hR := HH.out.2.2.2.1
        obtain ⟨a', c', ak', ck', xs', hcs, _⟩ := HH.out.2.2.2.2.1.parts
        simp only [List.length_nil] at hcs
        rw [hcs] at hR
        obtain ⟨lg, loff, lc', el, hlc, l0⟩ := hR.at_ (j := 0) rfl
        simp only [Value.slice.injEq] at el
        obtain ⟨rfl, _, rfl⟩ := el
        have hlt : lg < w.heap.size := World.block_lt_of_cell? w _ l0
        have rd : ∀ (j : Nat) (u : Value), (Df.delRow 4294967297 ++ Df.insRow [.int .i64 1, .string n2, .slice a' 0 c', .string t2, .slice ak' 0 ck'])[j]? = some u → wr.cell? ⟨lg, loff + j, none⟩ = some u := fun j u hu => by
          obtain ⟨g', o', c', e, _, h1⟩ := hR.at_ hu
          simp only [Value.slice.injEq, Option.some.injEq, Addr.mk.injEq] at e
          obtain ⟨⟨rfl, rfl, _⟩, _, _⟩ := e
          exact (HU2.out.cell (p := ⟨lg, _, none⟩) hlt (by have := H2.out.2.2; show ¬ D ≤ lg; omega)).trans h1
        by_cases hi : i = 0
        · subst hi
          have c0 := rd 0 _ rfl
          have c1 := rd 1 _ rfl
          have c2 := rd 2 _ rfl
          have c3 := rd 3 _ rfl
          have c4 := rd 4 _ rfl
          have c5 := rd 5 _ rfl
          have c6 := rd 6 _ rfl
          have c7 := rd 7 _ rfl
          have c8 := rd 8 _ rfl
          have c9 := rd 9 _ rfl
          have c10 := rd 10 _ rfl
          rw [Nat.add_zero] at c0
          have F : Full wr D 1 n1 := by
            rcases HJ2.out.2 with ⟨_, h⟩ | ⟨h, _⟩ | ⟨h, _⟩
            · exact h
            · cases h
            · cases h
          obtain ⟨Bx, hBx⟩ : ∃ o, o = Obj.cells (Df.delRow 4294967297).toArray 106 := ⟨_, rfl⟩
          have UA : Upd wr (wr.alloc Bx) (fun _ => False) := (Upd.refl wr (fun _ => False)).alloc Bx
          have C := do_del D n1 (wr.alloc Bx) (F.none UA)
          have UB : Upd w (wr.alloc Bx) (fun g => D ≤ g) := HU2.out.trans UA (fun _ _ h => h.elim)
          rw [hBx] at C UB
          unfold Df.delRow at C UB
          have HB := Lib.hid UB
          have HC := Lib.hid C
          have HI := Lib.hid hlc
          clear F hBx UA C UB hR hcs l0 hlt rd hlc
          simp only [Int.ofNat_zero, Int.natCast_zero]
          go_wp2_with fail
          refine HC.out.mono ?_
          rintro e w3 ⟨v, rfl, F3, U3⟩
          have H3 := Lib.hid (And.intro F3 U3)
          clear F3 U3 HC c0 c1 c2 c3 c4 c5 c6 c7 c8 c9 c10
          go_wp2
          go_roundg 1
          case measure => have := HJ2.out; omega
          case rel => exact ⟨1, rfl, Lib.hid ⟨rfl, Or.inr (Or.inl ⟨rfl, H3.out.1⟩)⟩, Lib.hid (HB.out.trans H3.out.2 (fun _ _ e => e))⟩
        · by_cases hi1 : i = 1
          · subst hi1
            have c0 := rd 11 _ rfl
            have c1 := rd 12 _ rfl
            have c2 := rd 13 _ rfl
            have c3 := rd 14 _ rfl
            have c4 := rd 15 _ rfl
            have c5 := rd 16 _ rfl
            have c6 := rd 17 _ rfl
            have c7 := rd 18 _ rfl
            have c8 := rd 19 _ rfl
            have c9 := rd 20 _ rfl
            have c10 := rd 21 _ rfl
            have F : Vac wr D 1 := by
              rcases HJ2.out.2 with ⟨h, _⟩ | ⟨_, h⟩ | ⟨h, _⟩
              · cases h
              · exact h
              · cases h
            have Uw : Upd w wr (fun g => w.heap.size ≤ g) := HU2.out.mono (fun g _ e => Nat.le_trans H2.out.2.2 e)
            have hQ : TreeAt wr (· < w.heap.size) (.mk 1 n2 [] t2 []) cs := HH.out.2.2.2.2.1.keep Uw (fun g hg e => by have hg : g < w.heap.size := hg; have e : w.heap.size ≤ g := e; omega)
            obtain ⟨Bx, hBx⟩ : ∃ o, o = Obj.cells (Df.insRow [.int .i64 1, .string n2, .slice a' 0 c', .string t2, .slice ak' 0 ck']).toArray 106 := ⟨_, rfl⟩
            have UA : Upd wr (wr.alloc Bx) (fun _ => False) := (Upd.refl wr (fun _ => False)).alloc Bx
            have C := do_ins w.heap.size D 1 n2 t2 _ (wr.alloc Bx) (F.none UA) (by omega) (Nat.lt_of_lt_of_le F.lt UA.size) (hQ.keep UA (fun _ _ h => h)) HH.out.2.2.2.2.2.2.1 HH.out.2.2.2.2.2.1 (Nat.le_trans Uw.size UA.size)
              (HH.out.2.2.2.2.2.2.2.2.below ((Uw.trans UA (fun _ _ h => h.elim)).below (Nat.le_refl _) (fun g hg e => by have e : w.heap.size ≤ g := e; omega)))
            have UB : Upd w (wr.alloc Bx) (fun g => D ≤ g) := HU2.out.trans UA (fun _ _ h => h.elim)
            rw [hBx] at C UB
            rw [hcs] at C
            unfold Df.insRow at C UB
            simp only [List.cons_append, List.nil_append] at C UB
            have HB := Lib.hid UB
            have HC := Lib.hid C
            have HI := Lib.hid hlc
            clear F hBx UA C UB hR hcs l0 hlt rd hlc hi Uw hQ
            simp only [Int.ofNat_one, Int.natCast_one]
            go_wp2_with fail
            refine HC.out.mono ?_
            rintro e w3 ⟨v, rfl, F3, U3⟩
            have H3 := Lib.hid (And.intro F3 U3)
            clear F3 U3 HC c0 c1 c2 c3 c4 c5 c6 c7 c8 c9 c10
            go_wp2
            go_roundg 0
            case measure => have := HJ2.out; omega
            case rel => exact ⟨2, rfl, Lib.hid ⟨rfl, Or.inr (Or.inr ⟨rfl, H3.out.1⟩)⟩, Lib.hid (HB.out.trans H3.out.2 (fun _ _ e => e))⟩
          · obtain ⟨rfl, F⟩ : i = 2 ∧ Full wr D 2 n2 := by
              rcases HJ2.out.2 with ⟨h, _⟩ | ⟨h, _⟩ | h
              · exact absurd h hi
              · exact absurd h hi1
              · exact h
            have HC := Lib.hid (forest_leaf D 2 n2 wr F)
            clear F hR hcs l0 hlt rd hlc hi hi1
            simp only [show ((2 : Nat) : Int) = 2 from rfl]
            go_wp2_with fail
            refine HC.out.mono ?_
            rintro e w3 ⟨a3, c3, rfl, F3, E3⟩
            have H3 := Lib.hid (And.intro F3 E3)
            clear F3 E3 HC
            go_wp2
            go_ret3
            exact ⟨a3, c3, rfl, H3.out.1, (HU2.out.trans (Upd.ofBelow (F := fun _ => False) H3.out.2) (fun _ _ h => h.elim)).below (Nat.le_refl _) (fun g hg e => by have := H2.out.2.2; have e : D ≤ g := e; omega)⟩

end Pt
end Go.Proofs.YtemmkobgpciflaaDoor
