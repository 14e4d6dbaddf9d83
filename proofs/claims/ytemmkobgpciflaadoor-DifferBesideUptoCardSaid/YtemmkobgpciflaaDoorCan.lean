/- What is wrong with a forest: the program's test, walked. -/
import Derived.Test.YtemmkobgpciflaaDoorDistP
import Derived.Test.YtemmkobgpciflaaDoorLook
namespace Go.Proofs.YtemmkobgpciflaaDoor
open Go.RowKit
namespace Ch

/-- A forest that reads: a slice of trees. -/
def Forest (w : World) (P : Nat → Prop) (ks : List T) (ak : Option Addr) (ck : Nat) : Prop := ∃ xs, RdP w P 5 (.slice ak ks.length ck) ks.length xs ∧ ForestAt w P ks xs
theorem Forest.keep {w w' : World} {P : Nat → Prop} {ks : List T} {ak : Option Addr} {ck : Nat} (h : Forest w P ks ak ck) {F : Nat → Prop} (hU : Upd w w' F) (hF : ∀ g, P g → ¬ F g) : Forest w' P ks ak ck := by
  obtain ⟨xs, h1, h2⟩ := h
  exact ⟨xs, h1.keep hU hF, h2.keep hU hF⟩
theorem Forest.below {w w' : World} {P : Nat → Prop} {ks : List T} {ak : Option Addr} {ck : Nat} (h : Forest w P ks ak ck) (hB : Below w.heap.size w w') : Forest w' P ks ak ck := h.keep (Upd.ofBelow (F := fun _ => False) hB) (fun _ _ h => h)
theorem Forest.mono {w : World} {P Q : Nat → Prop} {ks : List T} {ak : Option Addr} {ck : Nat} (h : Forest w P ks ak ck) (hP : ∀ g, P g → Q g) : Forest w Q ks ak ck := by
  obtain ⟨xs, h1, h2⟩ := h
  exact ⟨xs, h1.mono hP, ForestIs.mono (fun _ _ _ h => RdP.mono h hP) (fun _ _ _ h => RdP.mono h hP) h2⟩
theorem Forest.kid {w : World} {P : Nat → Prop} {ks : List T} {ak : Option Addr} {ck : Nat} (h : Forest w P ks ak ck) {i : Nat} {x : T} (hx : ks[i]? = some x) :
    ∃ g off k n aa la ca t kk lk kc, ak = some ⟨g, off, none⟩ ∧ ks.length ≤ ck ∧ w.cell? ⟨g, off + i * 5, none⟩ = some (.int .i64 k) ∧ w.cell? ⟨g, off + i * 5 + 1, none⟩ = some (.string n) ∧ w.cell? ⟨g, off + i * 5 + 2, none⟩ = some (.slice aa la ca) ∧
      w.cell? ⟨g, off + i * 5 + 3, none⟩ = some (.string t) ∧ w.cell? ⟨g, off + i * 5 + 4, none⟩ = some (.slice kk lk kc) ∧ TreeAt w P x [.int .i64 k, .string n, .slice aa la ca, .string t, .slice kk lk kc] := by
  obtain ⟨xs, h1, h2⟩ := h
  exact h2.kid h1.1 hx
/-- The children of a tree are a forest. -/
theorem TreeAt.forest {w : World} {P : Nat → Prop} {k : Int} {n : ByteArray} {al : List Att} {t : ByteArray} {ks : List T} {cs : List Value} (h : TreeAt w P (.mk k n al t ks) cs) :
    ∃ aa ca ak ck, cs = [.int .i64 k, .string n, .slice aa al.length ca, .string t, .slice ak ks.length ck] ∧ RdP w P 2 (.slice aa al.length ca) al.length (atc al) ∧ Forest w P ks ak ck := by
  obtain ⟨aa, ca, ak, ck, xs, e, h1, h2, h3⟩ := h.parts
  exact ⟨aa, ca, ak, ck, e, h1, xs, h2, h3⟩

theorem sizeL_le {l : List T} {i : Nat} : T.sizeL (l.take i) ≤ T.sizeL l := by
  have := T.sizeL_append (l.take i) (l.drop i)
  rw [List.take_append_drop] at this
  omega
theorem size_mem {l : List T} {x : T} {i : Nat} (h : l[i]? = some x) : T.sizeL (l.take i) + T.size x ≤ T.sizeL l := by
  rw [← sizeL_at h]
  exact sizeL_le

set_option maxRecDepth 100000 in
set_option maxHeartbeats 2000000 in
theorem count_any (P : Nat → Prop) : ∀ t, ∀ (cs : List Value) (w : World), TreeAt w P t cs → Fits t → T.size t ≤ 4096 → Calls Tryd.prog 59 #[.agg cs.toArray] w fun e w' => e = .returned (.int .i64 (T.size t)) ∧ Below w.heap.size w w' := by
  refine T.ind ?_
  intro k nm al tx ks ih cs w hA hF hS
  obtain ⟨aa, ca, ak, ck, rfl, _, hFo⟩ := TreeAt.forest hA
  rw [T.size] at hS ⊢
  have B0 : ∀ o, Below w.heap.size w (w.alloc o) := fun o => below_al (Below.refl _ _) (Nat.le_refl _) o
  by_cases h1 : k = 1
  · subst h1
    rw [if_pos rfl] at hS ⊢
    have HH := Lib.hid (And.intro hFo (And.intro hF (And.intro ih hS)))
    obtain ⟨S, hSz⟩ : ∃ S, T.sizeL ks + 1 = S := ⟨_, rfl⟩
    rw [hSz]
    have HS := Lib.hid hSz
    clear hFo hF ih hS hA hSz
    go_enter Tryd.func59, Tryd.ntmps59
    go_wp2
    generalize hW : World.alloc _ _ = W
    have BW : Below w.heap.size w W := by rw [← hW]; exact B0 _
    have HW := Lib.hid BW
    clear hW BW B0
    go_loopg [3, 12] ks.length (fun kq v3 v w' => ∃ i : Nat, v = .int .i64 i ∧ v3 = .int .i64 ((1 + T.sizeL (ks.take i) : Nat) : Int) ∧ Hid (kq = ks.length - i ∧ i ≤ ks.length) ∧ Hid (Below w.heap.size w w'))
    case atStart => exact ⟨0, rfl, by simp [T.sizeL], Lib.hid ⟨rfl, Nat.zero_le _⟩, HW⟩
    case round =>
      obtain ⟨i, rfl, rfl, HI, HB⟩ := hrel
      have hi0 : (0 : Int) ≤ (i : Int) := by omega
      by_cases hi : i < ks.length
      · have hi1 : (i : Int) < (ks.length : Int) := by omega
        have hi2 : decide (i < ks.length) = true := decide_eq_true hi
        obtain ⟨x, hx⟩ : ∃ x, ks[i]? = some x := ⟨ks[i], List.getElem?_eq_getElem hi⟩
        have hsx := size_mem hx
        have hFr : Forest wr P ks ak ck := HH.out.1.keep (Upd.ofBelow (F := fun _ => False) HB.out) (fun _ _ h => h)
        obtain ⟨g, off, xk, xn, xa, xla, xca, xt, xkk, xlk, xkc, rfl, hck, y0, y1, y2, y3, y4, hxA⟩ := hFr.kid hx
        obtain ⟨Bx, hBx⟩ : ∃ o, o = Obj.cells #[Value.int .i64 xk, .string xn, .slice xa xla xca, .string xt, .slice xkk xlk xkc] 25 := ⟨_, rfl⟩
        have IH := HH.out.2.2.1 x (List.mem_of_getElem? hx) _ (wr.alloc Bx) (hxA.keep ((Upd.refl wr (fun _ => False)).alloc Bx) (fun _ _ h => h)) (HH.out.2.1.kid x (List.mem_of_getElem? hx)) (by have := HH.out.2.2.2; omega)
        rw [hBx] at IH
        obtain ⟨m, hm⟩ : ∃ m, 1 + T.sizeL (ks.take i) = m := ⟨_, rfl⟩
        obtain ⟨z, hz⟩ : ∃ z, T.size x = z := ⟨_, rfl⟩
        rw [hm]
        rw [hz] at IH
        have hmz : (m : Int) + (z : Int) ≤ 4097 := by have := HH.out.2.2.2; omega
        have HX := Lib.hid (And.intro hx (And.intro hi (And.intro hm hz)))
        clear hBx hxA hFr hx hi hm hz hsx
        go_wp2_with fail
        refine IH.mono ?_
        rintro e w3 ⟨rfl, hB3⟩
        have HU := Lib.hid (below_tr HB.out (below_tr (below_al (Below.refl _ _) (Nat.le_refl _) _) hB3))
        clear hB3 IH y0 y1 y2 y3 y4
        go_wp2
        go_roundg (ks.length - (i + 1))
        case measure => have := HI.out; have := HX.out; omega
        case rel =>
          refine ⟨i + 1, v64s HX.out.2.1 (by have := HH.out.2.1.small; unfold Small at this; omega), ?_, Lib.hid ⟨rfl, HX.out.2.1⟩, HU⟩
          have h1 := HX.out.2.2.1
          have h2 := HX.out.2.2.2
          have h3 := sizeL_at HX.out.1
          have : (1 + T.sizeL (ks.take (i + 1)) : Nat) = m + z := by omega
          rw [this]
          go_num
      · have hi1 : ¬ (i : Int) < (ks.length : Int) := by omega
        have hi2 : decide (i < ks.length) = false := decide_eq_false hi
        have ei : i = ks.length := by have := HI.out; omega
        clear hi
        go_wp2
        go_ret
        refine ⟨?_, HB.out⟩
        exact ret_int (by have := HS.out; omega)
  · have h1b : (k == 1) = false := beq_eq_false_iff_ne.2 h1
    rw [if_neg h1]
    clear h1 hA hF hS ih hFo
    go_enter Tryd.func59, Tryd.ntmps59
    go_wp2
    go_ret
    exact ⟨rfl, B0 _⟩

set_option maxRecDepth 100000 in
set_option maxHeartbeats 2000000 in
/-- differ.can. -/
theorem dcan_any (ks : List T) (ak : Option Addr) (ck : Nat) (w : World) (B : Nat) (hFo : Forest w (· < B) ks ak ck) (hF : ∀ x ∈ ks, Fits x) (hks : ks.length * 88 ≤ 140737488351232) (hB : B ≤ w.heap.size) (hT : Tabs w) :
    Calls Tryd.prog 54 #[.slice ak ks.length ck] w fun e w' => e = .returned (.int .i64 (canE ks)) ∧ Below w.heap.size w w' := by
  obtain ⟨r, hr⟩ : ∃ r, canE ks = r := ⟨_, rfl⟩
  rw [hr]
  unfold canE at hr
  have HH := Lib.hid (And.intro hFo (And.intro hF (And.intro hB (And.intro hT (And.intro hr hks)))))
  clear hFo hF hB hT hr hks
  go_enter Tryd.func54, Tryd.ntmps54
  go_wp2
  go_loopg [3, 9] ks.length (fun kq v3 v w' => ∃ i m : Nat, v = .int .i64 i ∧ v3 = .int .i64 m ∧ Hid (kq = ks.length - i ∧ i ≤ ks.length) ∧ Hid (canGo ks 0 = canGo (ks.drop i) m ∧ m ≤ 8192) ∧ Hid (Below w.heap.size w w'))
  case atStart => exact ⟨0, 0, rfl, rfl, Lib.hid ⟨rfl, Nat.zero_le _⟩, Lib.hid ⟨rfl, by omega⟩, Lib.hid (Below.refl _ _)⟩
  case round =>
    obtain ⟨i, m, rfl, rfl, HI, HM, HB⟩ := hrel
    have hi0 : (0 : Int) ≤ (i : Int) := by omega
    by_cases hi : i < ks.length
    · have hi1 : (i : Int) < (ks.length : Int) := by omega
      have hi2 : decide (i < ks.length) = true := decide_eq_true hi
      obtain ⟨x, hx⟩ : ∃ x, ks[i]? = some x := ⟨ks[i], List.getElem?_eq_getElem hi⟩
      have hFr : Forest wr (· < B) ks ak ck := HH.out.1.below HB.out
      obtain ⟨g, off, xk, xn, xa, xla, xca, xt, xkk, xlk, xkc, rfl, hck, y0, y1, y2, y3, y4, hxA⟩ := hFr.kid hx
      obtain ⟨Bx, hBx⟩ : ∃ o, o = Obj.cells #[Value.int .i64 xk, .string xn, .slice xa xla xca, .string xt, .slice xkk xlk xkc] 25 := ⟨_, rfl⟩
      have hxA2 := hxA.keep ((Upd.refl wr (fun _ => False)).alloc Bx) (fun _ _ h => h)
      have hBw : B ≤ wr.heap.size := Nat.le_trans HH.out.2.2.1 HB.out.size
      have C := check_any x _ (wr.alloc Bx) B hxA2 (HH.out.2.1 x (List.mem_of_getElem? hx)) (by simp; omega) (HH.out.2.2.2.1.below (below_al HB.out (Nat.le_refl _) Bx))
      have HA := Lib.hid hxA2
      rw [hBx] at C HA
      obtain ⟨e0, he⟩ : ∃ e0, chkT x = e0 := ⟨_, rfl⟩
      rw [he] at C
      have HX := Lib.hid (And.intro hx (And.intro hi he))
      clear hBx hxA hxA2 hFr hx hi he hBw
      go_wp2_with fail
      refine C.mono ?_
      rintro e w3 ⟨rfl, hB3⟩
      obtain ⟨Wa, hWa⟩ : ∃ W, wr.alloc (Obj.cells #[Value.int .i64 xk, .string xn, .slice xa xla xca, .string xt, .slice xkk xlk xkc] 25) = W := ⟨_, rfl⟩
      rw [hWa] at hB3
      have X3 : Blk w3 wr.heap.size [.int .i64 xk, .string xn, .slice xa xla xca, .string xt, .slice xkk xlk xkc] 25 := (Upd.ofBelow (F := fun _ => False) hB3).blk (by rw [← hWa]; exact Blk.new wr _ _) (fun h => h)
      have B3 : Below wr.heap.size wr w3 := by
        refine below_tr ?_ hB3
        rw [← hWa]
        exact below_al (Below.refl _ _) (Nat.le_refl _) _
      have x0 := X3.cell 0
      have x1 := X3.cell 1
      have x2 := X3.cell 2
      have x3 := X3.cell 3
      have x4 := X3.cell 4
      simp only [List.getElem?_cons_zero, List.getElem?_cons_succ] at x0 x1 x2 x3 x4
      have A3 := HA.out.keep (Upd.ofBelow (F := fun _ => False) (by rw [hWa]; exact hB3)) (fun _ _ h => h)
      have H3 := Lib.hid (And.intro B3 A3)
      clear hB3 hWa X3 B3 A3 C y0 y1 y2 y3 y4
      have hgo : canGo ks 0 = if e0 ≠ 0 then e0 else canGo (ks.drop (i + 1)) (m + T.size x) := by rw [HM.out.1, canGo_at HX.out.1, show chk x 1 0 = e0 from HX.out.2.2]
      have HG := Lib.hid hgo
      clear hgo
      by_cases h0 : e0 = 0
      · subst h0
        have hs := (chk_size x 1 0 HX.out.2.2).1
        by_cases hm : m ≤ 4096
        · have hm1 : (m : Int) ≤ 4096 := by omega
          have D := count_any (· < B) x _ w3 H3.out.2 (HH.out.2.1 x (List.mem_of_getElem? HX.out.1)) (by omega)
          obtain ⟨z, hz⟩ : ∃ z, T.size x = z := ⟨_, rfl⟩
          rw [hz] at D hs
          have hz1 : (z : Int) ≤ 4096 := by omega
          have HZ := Lib.hid (And.intro hz hs)
          clear hz hs hm
          go_wp2_with fail
          refine D.mono ?_
          rintro e w4 ⟨rfl, hB4⟩
          have HU := Lib.hid (below_tr HB.out (below_tr H3.out.1 hB4))
          clear hB4 D x0 x1 x2 x3 x4
          go_wp2
          go_roundg (ks.length - (i + 1))
          case measure => have := HI.out; have := HX.out; omega
          case rel =>
            refine ⟨i + 1, m + z, v64s HX.out.2.1 (by have := HH.out; omega), by go_num, Lib.hid ⟨rfl, HX.out.2.1⟩, Lib.hid ⟨?_, by omega⟩, HU⟩
            have hg := HG.out
            rw [if_neg (by simp), HZ.out.1] at hg
            exact hg
        · have hm1 : ¬ (m : Int) ≤ 4096 := by omega
          have HZ := Lib.hid hm
          clear hm x0 x1 x2 x3 x4
          go_wp2
          go_roundg (ks.length - (i + 1))
          case measure => have := HI.out; have := HX.out; omega
          case rel =>
            refine ⟨i + 1, m, v64s HX.out.2.1 (by have := HH.out; omega), rfl, Lib.hid ⟨rfl, HX.out.2.1⟩, Lib.hid ⟨?_, HM.out.2⟩, Lib.hid (below_tr HB.out H3.out.1)⟩
            have hg := HG.out
            rw [if_neg (by simp), canGo_over (ks.drop (i + 1)) (m + T.size x) m (by have := HZ.out; omega) (by have := HZ.out; omega)] at hg
            exact hg
      · have h0b : (e0 == 0) = false := beq_eq_false_iff_ne.2 h0
        have Hr0 := Lib.hid h0
        clear h0 x0 x1 x2 x3 x4
        go_wp2
        go_ret
        refine ⟨ret_int ?_, below_tr HB.out H3.out.1⟩
        have hg := HG.out
        rw [if_pos Hr0.out] at hg
        rw [← hg]
        exact HH.out.2.2.2.2.1
    · have hi1 : ¬ (i : Int) < (ks.length : Int) := by omega
      have hi2 : decide (i < ks.length) = false := decide_eq_false hi
      have H1 := Lib.hid hi
      clear hi
      have hgo := HM.out.1
      rw [canGo_end H1.out] at hgo
      by_cases hm : m ≤ 4096
      · have hm1 : ¬ (4096 : Int) < (m : Int) := by omega
        rw [if_neg (by omega)] at hgo
        have HG := Lib.hid hgo
        clear hgo hm
        go_wp2
        go_ret
        exact ⟨ret_int (by rw [← HG.out]; exact HH.out.2.2.2.2.1), HB.out⟩
      · have hm1 : (4096 : Int) < (m : Int) := by omega
        rw [if_pos (by omega)] at hgo
        have HG := Lib.hid hgo
        clear hgo hm
        go_wp2
        go_ret
        exact ⟨ret_int (by rw [← HG.out]; exact HH.out.2.2.2.2.1), HB.out⟩

end Ch
end Go.Proofs.YtemmkobgpciflaaDoor
