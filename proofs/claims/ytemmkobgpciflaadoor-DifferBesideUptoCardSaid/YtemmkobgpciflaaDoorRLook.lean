/- What is wrong with a tree: the document's test, walked. -/
import Derived.Test.YtemmkobgpciflaaDoorROwn2
namespace Go.Proofs.YtemmkobgpciflaaDoor
open Go.RowKit
namespace Ch

set_option maxRecDepth 100000 in
theorem kids_any (k : Int) (n t : ByteArray) (va : Value) (ak : Option Addr) (m ck : Nat) (w : World) :
    Calls Tryd.prog 96 #[.agg #[.int .i64 k, .string n, va, .string t, .slice ak m ck]] w fun e w' => e = .returned (if k = 1 then .slice ak m ck else .slice none 0 0) ∧ Below w.heap.size w w' := by
  have B0 : ∀ o, Below w.heap.size w (w.alloc o) := fun o => below_al (Below.refl _ _) (Nat.le_refl _) o
  by_cases h1 : k = 1
  · subst h1
    rw [if_pos rfl]
    go_enter Tryd.func96, Tryd.ntmps96
    go_wp2
    go_ret
    exact ⟨rfl, B0 _⟩
  · have h1b : (k == 1) = false := beq_eq_false_iff_ne.2 h1
    rw [if_neg h1]
    clear h1
    go_enter Tryd.func96, Tryd.ntmps96
    go_wp2
    go_ret
    exact ⟨rfl, B0 _⟩

def CheckPost (w : World) (t : T) (deep n : Nat) (e : Ending) (w' : World) : Prop :=
  (∃ n' : Nat, e = .returned (.tuple #[.int .i64 n', .int .i64 (chk t deep n)]) ∧ (chk t deep n = 0 → n' = n + T.size t)) ∧ Below w.heap.size w w'

set_option maxRecDepth 100000 in
set_option maxHeartbeats 4000000 in
theorem rcheck_any (P : Nat → Prop) : ∀ t, ∀ (cs : List Value) (w : World) (deep n : Nat), TreeAt w P t cs → Fits t → n ≤ 4096 → deep ≤ 65 →
    Calls Tryd.prog 53 #[.agg cs.toArray, .int .i64 deep, .int .i64 n] w (CheckPost w t deep n) := by
  refine T.ind ?_
  intro k nm al tx ks ih cs w deep n hA hF hn hd
  obtain ⟨aa, ca, ak, ck, xs, rfl, hAl, hKs, hFo⟩ := hA.parts
  obtain ⟨r, hr⟩ : ∃ r, chk (.mk k nm al tx ks) deep n = r := ⟨_, rfl⟩
  have hpost : ∀ e w', ((∃ n' : Nat, e = .returned (.tuple #[.int .i64 n', .int .i64 r]) ∧ (r = 0 → n' = n + T.size (.mk k nm al tx ks))) ∧ Below w.heap.size w w') → CheckPost w (.mk k nm al tx ks) deep n e w' := by
    intro e w' h
    unfold CheckPost
    rw [hr]
    exact h
  refine Calls.mono ?_ hpost
  clear hpost
  have B0 : ∀ o, Below w.heap.size w (w.alloc o) := fun o => below_al (Below.refl _ _) (Nat.le_refl _) o
  rw [chk] at hr
  by_cases hg : 64 < deep ∨ 4096 ≤ n
  · rw [if_pos hg] at hr
    have Hr := Lib.hid hr
    clear hr
    by_cases hg1 : 64 < deep
    · have z1 : (64 : Int) < (deep : Int) := by omega
      clear hg hg1 hA hF hAl hKs hFo ih
      go_enter Tryd.func53, Tryd.ntmps53
      go_wp2
      go_ret2
      exact ⟨⟨n, ret_ii rfl Hr.out, fun h => absurd (Hr.out.trans h) (by decide)⟩, B0 _⟩
    · have z1 : ¬ (64 : Int) < (deep : Int) := by omega
      have z2 : (4096 : Int) ≤ (n : Int) := by omega
      clear hg hg1 hA hF hAl hKs hFo ih
      go_enter Tryd.func53, Tryd.ntmps53
      go_wp2
      go_ret2
      exact ⟨⟨n, ret_ii rfl Hr.out, fun h => absurd (Hr.out.trans h) (by decide)⟩, B0 _⟩
  · rw [if_neg hg] at hr
    have z1 : ¬ (64 : Int) < (deep : Int) := by omega
    have z2 : ¬ (4096 : Int) ≤ (n : Int) := by omega
    have HG := Lib.hid hg
    clear hg
    have O := fun o => rown_any k nm al tx aa ak ca ks.length ck (w.alloc o) (hAl.1.keep ((Upd.refl w (fun _ => False)).alloc o) (fun _ _ h => h))
    obtain ⟨E0, hE⟩ : ∃ p, ownE k nm al tx = p := ⟨_, rfl⟩
    rw [hE] at O hr
    have HH := Lib.hid (And.intro hF (And.intro hKs (And.intro hFo (And.intro ih hE))))
    clear hA hF hAl hKs hFo ih hE
    by_cases he : E0 = 0
    · subst he
      rw [if_neg (by simp)] at hr
      have Hr := Lib.hid hr
      clear hr
      go_enter Tryd.func53, Tryd.ntmps53
      go_wp2_with fail
      refine (O _).mono ?_
      rintro e w2 ⟨rfl, hB2⟩
      obtain ⟨W, hW⟩ : ∃ W, w.alloc (.cells #[Value.int .i64 k, .string nm, .slice aa al.length ca, .string tx, .slice ak ks.length ck] 25) = W := ⟨_, rfl⟩
      rw [hW] at hB2
      have BW : Below w.heap.size w W := by rw [← hW]; exact B0 _
      have hX : Blk W w.heap.size [.int .i64 k, .string nm, .slice aa al.length ca, .string tx, .slice ak ks.length ck] 25 := by
        rw [← hW]
        exact Blk.new w _ _
      have hX2 := (Upd.ofBelow (F := fun _ => False) hB2).blk hX (fun h => h)
      have B2 := below_tr BW hB2
      have x0 := hX2.cell 0
      have x1 := hX2.cell 1
      have x2 := hX2.cell 2
      have x3 := hX2.cell 3
      have x4 := hX2.cell 4
      simp only [List.getElem?_cons_zero, List.getElem?_cons_succ] at x0 x1 x2 x3 x4
      have HB2 := Lib.hid B2
      clear hW hB2 BW hX hX2 B2 O B0
      have K := kids_any k nm tx (.slice aa al.length ca) ak ks.length ck
      go_wp2_with fail
      refine (K _).mono ?_
      rintro e w3 ⟨rfl, hB3⟩
      have HB3 := Lib.hid (below_tr HB2.out hB3)
      clear hB3 K x0 x1 x2 x3 x4
      rcases own_kind HH.out.2.2.2.2 with rfl | rfl
      · rw [if_pos rfl]
        go_wp2
        go_loopg [2, 10] ks.length (fun kq v2 v w' => ∃ i : Nat, v = .int .i64 i ∧ v2 = .int .i64 ((n + 1 + T.sizeL (ks.take i) : Nat) : Int) ∧ Hid (kq = ks.length - i ∧ i ≤ ks.length) ∧ Hid (chkL ks (deep + 1) (n + 1) = chkL (ks.drop i) (deep + 1) (n + 1 + T.sizeL (ks.take i)) ∧ n + 1 + T.sizeL (ks.take i) ≤ 4096) ∧
          Hid (Below w.heap.size w w'))
        case atStart =>
          refine ⟨0, rfl, ?_, Lib.hid ⟨rfl, Nat.zero_le _⟩, Lib.hid ⟨rfl, ?_⟩, Lib.hid HB3.out⟩
          · simp [T.sizeL]
          · have := HG.out; simp [T.sizeL]; omega
        case round =>
          obtain ⟨i, rfl, rfl, HI, HK, HB⟩ := hrel
          have hi0 : (0 : Int) ≤ (i : Int) := by omega
          by_cases hi : i < ks.length
          · have hi1 : (i : Int) < (ks.length : Int) := by omega
            have hi2 : decide (i < ks.length) = true := decide_eq_true hi
            obtain ⟨x, hx⟩ : ∃ x, ks[i]? = some x := ⟨ks[i], List.getElem?_eq_getElem hi⟩
            have hFr : ForestAt wr P ks xs := HH.out.2.2.1.keep (Upd.ofBelow (F := fun _ => False) HB.out) (fun _ _ h => h)
            have hRr := HH.out.2.1.keep (Upd.ofBelow (F := fun _ => False) HB.out) (fun _ _ h => h)
            obtain ⟨g, off, xk, xn, xa, xla, xca, xt, xkk, xlk, xkc, rfl, hck, y0, y1, y2, y3, y4, hxA⟩ := hFr.kid hRr.1 hx
            obtain ⟨m, hm⟩ : ∃ m, n + 1 + T.sizeL (ks.take i) = m := ⟨_, rfl⟩
            have IH := HH.out.2.2.2.1 x (List.mem_of_getElem? hx) _ wr (deep + 1) (n + 1 + T.sizeL (ks.take i)) hxA (HH.out.1.kid x (List.mem_of_getElem? hx)) HK.out.2 (by have := HG.out; omega)
            have hdi : ((deep + 1 : Nat) : Int) = (deep : Int) + 1 := by omega
            rw [hdi, hm] at IH
            rw [hm]
            have HX := Lib.hid (And.intro hx (And.intro hi hm))
            clear hxA hRr hFr hx hi hdi hm
            go_wp2_with fail
            refine IH.mono ?_
            rintro e w3 ⟨⟨n', rfl, hs3⟩, hB3⟩
            obtain ⟨r1, hr1⟩ : ∃ r1, chk x (deep + 1) m = r1 := ⟨_, rfl⟩
            rw [hr1] at hs3
            have H3 := Lib.hid (And.intro hr1 hs3)
            rw [hr1]
            have HU := Lib.hid (below_tr HB.out hB3)
            clear hr1 hB3 hs3 IH y0 y1 y2 y3 y4
            have hkl : chkL ks (deep + 1) (n + 1) = if r1 ≠ 0 then r1 else chkL (ks.drop (i + 1)) (deep + 1) (n + 1 + T.sizeL (ks.take (i + 1))) := by
              rw [HK.out.1, HX.out.2.2, chkL_at HX.out.1, H3.out.1, sizeL_at HX.out.1]
              congr 2
              have := HX.out.2.2
              omega
            have HL := Lib.hid hkl
            clear hkl
            by_cases h0 : r1 = 0
            · subst h0
              go_wp2
              go_roundg (ks.length - (i + 1))
              case measure => have := HI.out; have := HX.out; omega
              case rel =>
                have hn' := H3.out.2 (by trivial)
                obtain ⟨s1, s2⟩ := chk_size x (deep + 1) m H3.out.1
                have hL := HL.out
                rw [if_neg (by simp)] at hL
                have e1 : n' = n + 1 + T.sizeL (ks.take (i + 1)) := by have := HX.out.2.2; rw [sizeL_at HX.out.1]; omega
                refine ⟨i + 1, v64s HX.out.2.1 (by have := HH.out.1.small; unfold Small at this; omega), by rw [e1], Lib.hid ⟨rfl, HX.out.2.1⟩, Lib.hid ⟨hL, ?_⟩, HU⟩
                have := HX.out.2.2
                rw [sizeL_at HX.out.1]; omega
            · have h0b : (r1 == 0) = false := beq_eq_false_iff_ne.2 h0
              have Hr0 := Lib.hid h0
              clear h0
              go_wp2
              go_ret2
              have er : r1 = r := by
                have hr := Hr.out
                simp only [if_true] at hr
                rw [← hr, HL.out, if_pos Hr0.out]
              exact ⟨⟨n', ret_ii rfl er, fun h => absurd (er.trans h) Hr0.out⟩, HU.out⟩
          · have hi1 : ¬ (i : Int) < (ks.length : Int) := by omega
            have hi2 : decide (i < ks.length) = false := decide_eq_false hi
            have H1 := Lib.hid hi
            clear hi
            go_wp2
            go_ret2
            have ei : i = ks.length := by have := H1.out; have := HI.out; omega
            have hk := HK.out
            rw [ei, List.take_length] at hk
            rw [ei, List.take_length]
            refine ⟨⟨n + 1 + T.sizeL ks, ret_ii rfl ?_, fun _ => ?_⟩, HB.out⟩
            · have hr := Hr.out
              simp only [if_true] at hr
              rw [← hr, hk.1, chkL_end (by omega)]
            · rw [T.size, if_pos rfl]; omega
      · rw [if_neg (by decide)]
        go_wp2
        go_loopg [2, 10] 1 (fun kq v2 v w' => v = .int .i64 0 ∧ v2 = .int .i64 ((n : Int) + 1) ∧ Hid (Below w.heap.size w w'))
        case atStart => exact ⟨rfl, rfl, Lib.hid HB3.out⟩
        case round =>
          obtain ⟨rfl, rfl, HB⟩ := hrel
          go_wp2
          go_ret2
          refine ⟨⟨n + 1, ret_ii (by omega) ?_, fun _ => ?_⟩, HB.out⟩
          · rw [← Hr.out, if_neg (by decide)]
          · rw [T.size, if_neg (by decide)]
    · have heb : (E0 == 0) = false := beq_eq_false_iff_ne.2 he
      rw [if_pos (by simpa using he)] at hr
      have Hr := Lib.hid hr
      clear hr
      have He := Lib.hid he
      clear he
      go_enter Tryd.func53, Tryd.ntmps53
      go_wp2_with (go_at_call 95; refine (O _).mono ?_; rintro e w2 ⟨rfl, hB2⟩)
      go_ret2
      exact ⟨⟨n, ret_ii rfl Hr.out, fun h => absurd (Hr.out.trans h) He.out⟩, below_tr (B0 _) hB2⟩

set_option maxRecDepth 100000 in
set_option maxHeartbeats 1000000 in
/-- The document's Check. -/
theorem rCheck_any (t : T) (cs : List Value) (w : World) (P : Nat → Prop) (hA : TreeAt w P t cs) (hF : Fits t) :
    Calls Tryd.prog 13 #[.agg cs.toArray] w fun e w' => e = .returned (.int .i64 (chk t 1 0)) ∧ Below w.heap.size w w' := by
  cases t with
  | mk k nm al tx ks =>
  obtain ⟨aa, ca, ak, ck, xs, rfl, _, _, _⟩ := hA.parts
  have L := rcheck_any P (.mk k nm al tx ks) _ (w.alloc (.cells #[.int .i64 k, .string nm, .slice aa al.length ca, .string tx, .slice ak ks.length ck] 25)) 1 0
    (hA.keep ((Upd.refl w (fun _ => False)).alloc _) (fun _ _ h => h)) hF (by omega) (by omega)
  unfold CheckPost at L
  have B0 : ∀ o, Below w.heap.size w (w.alloc o) := fun o => below_al (Below.refl _ _) (Nat.le_refl _) o
  generalize chk (.mk k nm al tx ks) 1 0 = E0 at L ⊢
  clear hA hF
  go_enter Tryd.func13, Tryd.ntmps13
  go_wp2_with fail
  refine L.mono ?_
  rintro e w' ⟨⟨n', rfl, _⟩, hB⟩
  have hbl := below_tr (B0 _) hB
  clear L hB
  go_wp2
  go_ret
  exact ⟨rfl, hbl⟩

end Ch
end Go.Proofs.YtemmkobgpciflaaDoor
