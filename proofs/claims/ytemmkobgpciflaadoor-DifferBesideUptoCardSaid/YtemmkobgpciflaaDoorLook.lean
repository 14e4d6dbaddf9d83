/- What is wrong with a tree: the program's look, walked. -/
import Derived.Test.YtemmkobgpciflaaDoorOwn2
namespace Go.Proofs.YtemmkobgpciflaaDoor
open Go.RowKit
namespace Ch

theorem tabs_ne {w : World} (h : Tabs w) {q : Nat} {a : Int} {r : List Value} {ty : TypeId} (hq : Blk w q (.int .i64 a :: r) ty) {F : Nat → Prop} (hF : ∀ g, F g → g = q) {w' : World} (hU : Upd w w' F) : Tabs w' := by
  have hc := hq.cell 0
  refine h.keep hU (fun e => ?_) (fun e => ?_)
  · have h0 := h.1 0 (by omega)
    obtain rfl := hF _ e
    have e2 := h0.symm.trans hc
    simp at e2
  · have h0 := (h.2 0 (by omega)).1
    obtain rfl := hF _ e
    have e2 := h0.symm.trans hc
    simp at e2

def LookPost (w : World) (q : Nat) (t : T) (deep n d : Nat) (e : Ending) (w' : World) : Prop :=
  e = .returned (.int .i64 (chk t deep n)) ∧ Upd w w' (· = q) ∧ ∃ n' d' : Nat, Blk w' q [.int .i64 n', .int .i64 d'] 88 ∧ (chk t deep n = 0 → n' = n + T.size t ∧ d' = max d (deep - 1 + T.height t))

set_option maxRecDepth 100000 in
set_option maxHeartbeats 4000000 in
theorem look_any (B : Nat) : ∀ t, ∀ (cs : List Value) (w : World) (q deep n d : Nat), TreeAt w (· < B) t cs → Fits t → B ≤ q → Blk w q [.int .i64 n, .int .i64 d] 88 → Tabs w → n ≤ 4096 → 1 ≤ deep → deep ≤ 65 → d ≤ 64 →
    Calls Tryd.prog 52 #[.pointer (some ⟨q, 0, none⟩), .agg cs.toArray, .int .i64 deep] w (LookPost w q t deep n d) := by
  refine T.ind ?_
  intro k nm al tx ks ih cs w q deep n d hA hF hBq hq hT hn hd1 hd hdd
  obtain ⟨aa, ca, ak, ck, xs, rfl, hAl, hKs, hFo⟩ := hA.parts
  obtain ⟨r, hr⟩ : ∃ r, chk (.mk k nm al tx ks) deep n = r := ⟨_, rfl⟩
  have hpost : ∀ e w', (e = .returned (.int .i64 r) ∧ Upd w w' (· = q) ∧ ∃ n' d' : Nat, Blk w' q [.int .i64 n', .int .i64 d'] 88 ∧ (r = 0 → n' = n + T.size (.mk k nm al tx ks) ∧ d' = max d (deep - 1 + T.height (.mk k nm al tx ks)))) → LookPost w q (.mk k nm al tx ks) deep n d e w' := by
    intro e w' h
    unfold LookPost
    rw [hr]
    exact h
  refine Calls.mono ?_ hpost
  clear hpost
  have c0 := hq.cell 0
  have c1 := hq.cell 1
  have f0 := hq.free 0
  have f1 := hq.free 1
  simp only [List.getElem?_cons_zero, List.getElem?_cons_succ] at c0 c1
  have hql := hq.lt
  have hqn : q ≠ w.heap.size := by omega
  have U0 : ∀ o, Upd w (w.alloc o) (· = q) := fun o => (Upd.refl w _).alloc o
  rw [chk] at hr
  by_cases hg : 64 < deep ∨ 4096 ≤ n
  · rw [if_pos hg] at hr
    have Hr := Lib.hid hr
    have HQ := Lib.hid hq
    clear hr
    by_cases hg1 : 64 < deep
    · have z1 : (64 : Int) < (deep : Int) := by omega
      clear hg hg1 hA hF hT hAl hKs hFo ih hq
      go_enter Tryd.func52, Tryd.ntmps52
      go_wp2
      go_ret
      exact ⟨ret_int Hr.out, U0 _, n, d, HQ.out.alloc _, fun h => absurd (Hr.out.trans h) (by decide)⟩
    · have z1 : ¬ (64 : Int) < (deep : Int) := by omega
      have z2 : (4096 : Int) ≤ (n : Int) := by omega
      clear hg hg1 hA hF hT hAl hKs hFo ih hq
      go_enter Tryd.func52, Tryd.ntmps52
      go_wp2
      go_ret
      exact ⟨ret_int Hr.out, U0 _, n, d, HQ.out.alloc _, fun h => absurd (Hr.out.trans h) (by decide)⟩
  · rw [if_neg hg] at hr
    have z1 : ¬ (64 : Int) < (deep : Int) := by omega
    have z2 : ¬ (4096 : Int) ≤ (n : Int) := by omega
    have HG := Lib.hid hg
    clear hg
    have O := fun o => own_any k nm al tx aa ak ca ks.length ck (w.alloc o) (hAl.1.keep ((Upd.refl w (fun _ => False)).alloc o) (fun _ _ h => h)) (hT.keep ((Upd.refl w (fun _ => False)).alloc o) (fun h => h) (fun h => h))
    obtain ⟨E0, hE⟩ : ∃ p, ownE k nm al tx = p := ⟨_, rfl⟩
    rw [hE] at O hr
    have HH := Lib.hid (And.intro hA (And.intro hF (And.intro hKs (And.intro hFo (And.intro hq (And.intro hT (And.intro ih hE)))))))
    clear hA hF hAl hKs hFo hq hT ih hE
    by_cases he : E0 = 0
    · subst he
      rw [if_neg (by simp)] at hr
      have Hr := Lib.hid hr
      clear hr
      go_enter Tryd.func52, Tryd.ntmps52
      go_wp2_with fail
      refine (O _).mono ?_
      rintro e w2 ⟨rfl, hB2⟩
      have hW1 : ∃ W, w.alloc (.cells #[Value.int .i64 k, .string nm, .slice aa al.length ca, .string tx, .slice ak ks.length ck] 25) = W := ⟨_, rfl⟩
      obtain ⟨W, hW⟩ := hW1
      rw [hW] at hB2
      have U2 : Upd w w2 (· = q) := by
        have h1 := U0 (.cells #[Value.int .i64 k, .string nm, .slice aa al.length ca, .string tx, .slice ak ks.length ck] 25)
        rw [hW] at h1
        exact h1.trans (Upd.ofBelow (F := fun _ => False) hB2) (fun _ _ h => h.elim)
      have UW : Upd W w2 (fun _ => False) := Upd.ofBelow hB2
      have hX : Blk W w.heap.size [.int .i64 k, .string nm, .slice aa al.length ca, .string tx, .slice ak ks.length ck] 25 := by
        rw [← hW]
        exact Blk.new w _ _
      have hX2 := UW.blk hX (fun h => h)
      have hq2 : Blk w2 q [.int .i64 n, .int .i64 d] 88 := UW.blk (hW ▸ HH.out.2.2.2.2.1.alloc _) (fun h => h)
      have c0 := hq2.cell 0
      have c1 := hq2.cell 1
      have f0 := hq2.free 0
      have f1 := hq2.free 1
      have x0 := hX2.cell 0
      have x4 := hX2.cell 4
      simp only [List.getElem?_cons_zero, List.getElem?_cons_succ] at c0 c1 x0 x4
      have H2 := Lib.hid (And.intro U2 (And.intro hq2 hX2))
      clear hW hB2 UW hX hX2 hq2 U2 O U0
      have hmn : max (d : Int) (deep : Int) = ((max d deep : Nat) : Int) := by omega
      have S3 : ∀ (p z : Int), Blk ((w2.setCell ⟨q, 0, none⟩ (.int .i64 p)).setCell ⟨q, 1, none⟩ (.int .i64 z)) q [.int .i64 p, .int .i64 z] 88 ∧ Upd w ((w2.setCell ⟨q, 0, none⟩ (.int .i64 p)).setCell ⟨q, 1, none⟩ (.int .i64 z)) (· = q) := fun p z =>
        ⟨(H2.out.2.1.set 0 (.int .i64 p)).set 1 (.int .i64 z), (H2.out.1.set ⟨q, 0, none⟩ _ (fun _ => rfl)).set ⟨q, 1, none⟩ _ (fun _ => rfl)⟩
      have HS3 := Lib.hid S3
      clear S3
      rcases own_kind HH.out.2.2.2.2.2.2.2 with rfl | rfl
      · go_wp2
        generalize hW3 : World.setCell (World.setCell w2 _ _) _ _ = W3
        have HW3 : Hid (Blk W3 q [.int .i64 ((n + 1 : Nat) : Int), .int .i64 ((max d deep : Nat) : Int)] 88 ∧ Upd w W3 (· = q)) := Lib.hid (by rw [← hW3]; exact HS3.out _ _)
        clear hW3 HS3
        clear c0 c1 f0 f1 x0 x4
        have HC := Lib.hid (And.intro hn (And.intro hd1 (And.intro hd hdd)))
        clear hn hd1 hdd
        go_loopg [47] ks.length (fun kq v w' => ∃ i : Nat, v = .int .i64 i ∧ Hid (kq = ks.length - i ∧ i ≤ ks.length) ∧ Hid (chkL ks (deep + 1) (n + 1) = chkL (ks.drop i) (deep + 1) (n + 1 + T.sizeL (ks.take i)) ∧ n + 1 + T.sizeL (ks.take i) ≤ 4096 ∧ deep + T.heightL (ks.take i) ≤ 64) ∧
          Hid (Blk w' q [.int .i64 ((n + 1 + T.sizeL (ks.take i) : Nat) : Int), .int .i64 ((max d (deep + T.heightL (ks.take i)) : Nat) : Int)] 88 ∧ Upd w w' (· = q)))
        case atStart =>
          refine ⟨0, rfl, Lib.hid ⟨rfl, Nat.zero_le _⟩, Lib.hid ⟨rfl, ?_, ?_⟩, Lib.hid ?_⟩
          · have := HG.out; simp [T.sizeL]; omega
          · have := HG.out; simp [T.heightL]; omega
          · have := HW3.out; simpa [T.sizeL, T.heightL] using this
        case round =>
          obtain ⟨i, rfl, HI, HK, HB⟩ := hrel
          have hi0 : (0 : Int) ≤ (i : Int) := by omega
          by_cases hi : i < ks.length
          · have hi1 : (i : Int) < (ks.length : Int) := by omega
            have hi2 : decide (i < ks.length) = true := decide_eq_true hi
            obtain ⟨x, hx⟩ : ∃ x, ks[i]? = some x := ⟨ks[i], List.getElem?_eq_getElem hi⟩
            have hFr : ForestAt wr (· < B) ks xs := HH.out.2.2.2.1.keep HB.out.2 (fun g hg e => by have : g = q := e; omega)
            have hRr := HH.out.2.2.1.keep HB.out.2 (fun g hg e => by have : g = q := e; omega)
            obtain ⟨g, off, xk, xn, xa, xla, xca, xt, xkk, xlk, xkc, rfl, hck, y0, y1, y2, y3, y4, hxA⟩ := hFr.kid hRr.1 hx
            have hTr : Tabs wr := tabs_ne HH.out.2.2.2.2.2.1 HH.out.2.2.2.2.1 (fun _ h => h) HB.out.2
            obtain ⟨Bx, hBx⟩ : ∃ o, o = Obj.cells #[Value.int .i64 xk, .string xn, .slice xa xla xca, .string xt, .slice xkk xlk xkc] 25 := ⟨_, rfl⟩
            have hqr := HB.out.1.lt
            have IH := HH.out.2.2.2.2.2.2.1 x (List.mem_of_getElem? hx) _ (wr.alloc Bx) q (deep + 1) (n + 1 + T.sizeL (ks.take i)) (max d (deep + T.heightL (ks.take i))) (hxA.keep ((Upd.refl wr (fun _ => False)).alloc Bx) (fun _ _ h => h)) (HH.out.2.1.kid x (List.mem_of_getElem? hx)) hBq (HB.out.1.alloc _) (hTr.keep ((Upd.refl wr (fun _ => False)).alloc Bx) (fun h => h) (fun h => h)) HK.out.2.1 (by omega) (by have := HG.out; omega) (by have := HK.out.2.2; have := HC.out; omega)
            rw [hBx] at IH
            have hdi : ((deep + 1 : Nat) : Int) = (deep : Int) + 1 := by omega
            rw [hdi] at IH
            have HX := Lib.hid (And.intro hx hi)
            clear hBx hxA hTr hRr hFr hx hi hdi
            go_wp2_with fail
            refine IH.mono ?_
            rintro e w3 ⟨rfl, hU3, n', d', hb3, hs3⟩
            obtain ⟨r1, hr1⟩ : ∃ r1, chk x (deep + 1) (n + 1 + T.sizeL (ks.take i)) = r1 := ⟨_, rfl⟩
            rw [hr1] at hs3
            have H3 := Lib.hid (And.intro hr1 (And.intro hU3 (And.intro hb3 hs3)))
            rw [hr1]
            clear hr1 hU3 hb3 hs3 IH y0 y1 y2 y3 y4
            have hU : Upd w w3 (· = q) := HB.out.2.trans (((Upd.refl wr (· = q)).alloc _).trans H3.out.2.1 (fun _ _ h => h)) (fun _ _ h => h)
            have HU := Lib.hid hU
            clear hU
            have hkl : chkL ks (deep + 1) (n + 1) = if r1 ≠ 0 then r1 else chkL (ks.drop (i + 1)) (deep + 1) (n + 1 + T.sizeL (ks.take (i + 1))) := by
              rw [HK.out.1, chkL_at HX.out.1, H3.out.1, sizeL_at HX.out.1]
              congr 2
              omega
            have HL := Lib.hid hkl
            clear hkl
            by_cases h0 : r1 = 0
            · subst h0
              go_wp2
              go_roundg (ks.length - (i + 1))
              case measure => have := HI.out; have := HX.out; omega
              case rel =>
                obtain ⟨hn', hd'⟩ := H3.out.2.2.2 (by trivial)
                obtain ⟨s1, s2⟩ := chk_size x (deep + 1) (n + 1 + T.sizeL (ks.take i)) H3.out.1
                have hL := HL.out
                rw [if_neg (by simp)] at hL
                have hb := H3.out.2.2.1
                have e1 : n' = n + 1 + T.sizeL (ks.take (i + 1)) := by rw [sizeL_at HX.out.1]; omega
                have e2 : d' = max d (deep + T.heightL (ks.take (i + 1))) := by rw [heightL_at HX.out.1]; omega
                rw [e1, e2] at hb
                refine ⟨i + 1, v64s HX.out.2 (by have := HH.out.2.1.small; unfold Small at this; omega), Lib.hid ⟨rfl, HX.out.2⟩, Lib.hid ⟨hL, ?_, ?_⟩, Lib.hid ⟨hb, HU.out⟩⟩
                · rw [sizeL_at HX.out.1]; omega
                · have := HK.out.2.2
                  rw [heightL_at HX.out.1]; omega
            · have h0b : (r1 == 0) = false := beq_eq_false_iff_ne.2 h0
              have Hr0 := Lib.hid h0
              clear h0
              go_wp2
              go_ret
              have er : r1 = r := by
                have hr := Hr.out
                simp only [if_true] at hr
                rw [← hr, HL.out, if_pos Hr0.out]
              exact ⟨ret_int er, HU.out, n', d', H3.out.2.2.1, fun h => absurd (er.trans h) Hr0.out⟩
          · have hi1 : ¬ (i : Int) < (ks.length : Int) := by omega
            have hi2 : decide (i < ks.length) = false := decide_eq_false hi
            have H1 := Lib.hid hi
            clear hi
            go_wp2
            go_ret
            have ei : i = ks.length := by have := H1.out; have := HI.out; omega
            have hk := HK.out
            have hb := HB.out
            rw [ei, List.take_length] at hk hb
            refine ⟨ret_int ?_, hb.2, _, _, hb.1, fun _ => ⟨?_, ?_⟩⟩
            · have hr := Hr.out
              simp only [if_true] at hr
              rw [← hr, hk.1, chkL_end (by omega)]
            · rw [T.size, if_pos rfl]; omega
            · rw [T.height, if_pos rfl]; congr 1; have := HC.out; omega
      · go_wp2
        go_ret
        refine ⟨ret_int ?_, (HS3.out _ _).2, n + 1, max d deep, ?_, fun _ => ⟨?_, ?_⟩⟩
        · rw [← Hr.out, if_neg (by decide)]
        · exact (HS3.out _ _).1
        · rw [T.size, if_neg (by decide)]
        · rw [T.height, if_neg (by decide)]; congr 1; omega
    · have heb : (E0 == 0) = false := beq_eq_false_iff_ne.2 he
      rw [if_pos (by simpa using he)] at hr
      have Hr := Lib.hid hr
      clear hr
      have He := Lib.hid he
      clear he
      go_enter Tryd.func52, Tryd.ntmps52
      go_wp2_with (go_at_call 94; refine (O _).mono ?_; rintro e w2 ⟨rfl, hB2⟩)
      go_ret
      have U2 := ((U0 (.cells #[Value.int .i64 k, .string nm, .slice aa al.length ca, .string tx, .slice ak ks.length ck] 25)).trans (Upd.ofBelow (F := fun _ => False) hB2) (fun _ _ h => h.elim))
      refine ⟨ret_int Hr.out, U2, n, d, ?_, fun h => absurd (Hr.out.trans h) He.out⟩
      exact (Upd.ofBelow (F := fun _ => False) hB2).blk (HH.out.2.2.2.2.1.alloc _) (fun h => h)

def chkT (t : T) : Int := chk t 1 0

set_option maxRecDepth 100000 in
set_option maxHeartbeats 1000000 in
/-- tree.Check. -/
theorem check_any (t : T) (cs : List Value) (w : World) (B : Nat) (hA : TreeAt w (· < B) t cs) (hF : Fits t) (hB : B ≤ w.heap.size) (hT : Tabs w) :
    Calls Tryd.prog 11 #[.agg cs.toArray] w fun e w' => e = .returned (.int .i64 (chkT t)) ∧ Below w.heap.size w w' := by
  unfold chkT
  cases t with
  | mk k nm al tx ks =>
  obtain ⟨aa, ca, ak, ck, xs, rfl, _, _, _⟩ := hA.parts
  have L := look_any B (.mk k nm al tx ks) _ ((w.alloc (.cells #[.int .i64 k, .string nm, .slice aa al.length ca, .string tx, .slice ak ks.length ck] 25)).alloc (.cells #[.int .i64 0, .int .i64 0] 88)) (w.heap.size + 1) 1 0 0
    (hA.keep (((Upd.refl w (fun _ => False)).alloc _).alloc _) (fun _ _ h => h)) hF (by omega) (Blk.new' (by simp)) (hT.keep (((Upd.refl w (fun _ => False)).alloc _).alloc _) (fun h => h) (fun h => h)) (by omega) (by omega) (by omega) (by omega)
  have HB := Lib.hid hB
  unfold LookPost at L
  generalize chk (.mk k nm al tx ks) 1 0 = E0 at L ⊢
  clear hA hF hT hB
  go_enter Tryd.func11, Tryd.ntmps11
  go_wp2_with fail
  refine L.mono ?_
  rintro e w' ⟨rfl, hU, _⟩
  have hbl : Below w.heap.size w w' := by
    refine (below_al (below_al (Below.refl w.heap.size w) (Nat.le_refl _) _) (Nat.le_refl _) _).trans (hU.below (by simp; omega) (fun i hi e => ?_))
    have e' : i = w.heap.size + 1 := e
    omega
  clear L hU
  go_wp2
  go_ret
  exact ⟨rfl, hbl⟩

end Ch
end Go.Proofs.YtemmkobgpciflaaDoor
