/- Trees compared: the document's Same and Forests (layer 3), walked. -/
import Derived.Test.YtemmkobgpciflaaDoorOne
namespace Go.Proofs.YtemmkobgpciflaaDoor
open Go.RowKit
open Ch
namespace Df

mutual
/-- Whether two trees are the same, as the document's layer 3 says. -/
def same3 : T → T → Bool
  | .mk k n al t ks, b => decide (k = b.kind) && (if k = 2 then t == b.text else (n == b.name && al == b.atts) && same3L ks b.kids)
def same3L : List T → List T → Bool
  | [], l => l.isEmpty
  | x :: r, l => match l with
    | [] => false
    | y :: l' => same3 x y && same3L r l'
end
theorem same3L_iff : ∀ (a b : List T), same3L a b = true ↔ a.length = b.length ∧ ∀ (i : Nat) (x y : T), a[i]? = some x → b[i]? = some y → same3 x y = true
  | [], b => by
    rw [same3L]
    cases b with
    | nil => simp
    | cons y b => simp
  | x :: a, [] => by simp [same3L]
  | x :: a, y :: b => by
    rw [same3L]
    simp only [Bool.and_eq_true, same3L_iff a b, List.length_cons]
    constructor
    · rintro ⟨h1, h2, h3⟩
      refine ⟨by omega, fun i u v hu hv => ?_⟩
      cases i with
      | zero => simp at hu hv; rw [← hu, ← hv]; exact h1
      | succ i => exact h3 i u v (by simpa using hu) (by simpa using hv)
    · rintro ⟨h1, h2⟩
      exact ⟨h2 0 x y rfl rfl, by omega, fun i u v hu hv => h2 (i + 1) u v (by simpa using hu) (by simpa using hv)⟩
theorem same3_kind {a b : T} (h : a.kind ≠ b.kind) : same3 a b = false := by
  cases a with
  | mk k n al t ks => rw [same3, decide_eq_false (show ¬ k = b.kind from h), Bool.false_and]
theorem same3_text {a b : T} (h : a.kind = b.kind) (h2 : a.kind = 2) : same3 a b = (a.text == b.text) := by
  cases a with
  | mk k n al t ks =>
    have h2 : k = 2 := h2
    rw [same3, decide_eq_true (show k = b.kind from h), Bool.true_and, if_pos h2]
    rfl
theorem same3_rest {a b : T} (h : a.kind = b.kind) (h2 : a.kind ≠ 2) : same3 a b = ((a.name == b.name && a.atts == b.atts) && same3L a.kids b.kids) := by
  cases a with
  | mk k n al t ks =>
    have h2 : k ≠ 2 := h2
    rw [same3, decide_eq_true (show k = b.kind from h), Bool.true_and, if_neg h2]
    rfl

theorem cell_lt0 {w : World} {a : Addr} {v : Value} (h : w.cell? a = some v) : a.block < w.heap.size := by
  rcases Nat.lt_or_ge a.block w.heap.size with h' | h'
  · exact h'
  · simp [World.cell?, Array.getElem?_eq_none h'] at h

def SPost (w : World) (r : Bool) (e : Ending) (w' : World) : Prop := e = .returned (.bool r) ∧ Below w.heap.size w w'

set_option maxRecDepth 100000 in
set_option maxHeartbeats 4000000 in
theorem forests_step (P : Nat → Prop) (f : List T) (ih : ∀ x ∈ f, ∀ (y : T) (cx cy : List Value) (w : World), TreeAt w P x cx → TreeAt w P y cy → Fits x → Calls Tryd.prog 62 #[.agg cx.toArray, .agg cy.toArray] w (SPost w (same3 x y)))
    (g : List T) (ak bk : Option Addr) (ck dk : Nat) (w : World) (hf : Forest w P f ak ck) (hg : Forest w P g bk dk) (ff : ∀ x ∈ f, Fits x) (lf : f.length * 88 ≤ 140737488351232) : Calls Tryd.prog 19 #[.slice ak f.length ck, .slice bk g.length dk] w (SPost w (same3L f g)) := by
  obtain ⟨r, hr⟩ : ∃ r, r = same3L f g := ⟨_, rfl⟩
  rw [← hr]
  have HH := Lib.hid (And.intro hf (And.intro hg (And.intro ff (And.intro lf (And.intro hr ih)))))
  clear hf hg ff lf ih hr
  by_cases hl : f.length = g.length
  · obtain ⟨m, hm⟩ : ∃ m, m = g.length := ⟨_, rfl⟩
    have HL := Lib.hid (And.intro hl hm)
    rw [← hm] at hl ⊢
    rw [hl]
    clear hl hm
    go_enter Tryd.func19, Tryd.ntmps19
    go_wp2
    go_loopg [5] m (fun kq v5 w' => ∃ i : Nat, v5 = .int .i64 i ∧ Hid (kq = m - i ∧ i ≤ m ∧ ∀ (j : Nat) (x y : T), j < i → f[j]? = some x → g[j]? = some y → same3 x y = true) ∧ Hid (Below w.heap.size w w'))
    case atStart => exact ⟨0, rfl, Lib.hid ⟨rfl, Nat.zero_le _, fun j _ _ hj => by omega⟩, Lib.hid (Below.refl _ _)⟩
    case round =>
      obtain ⟨i, rfl, HJ, HB⟩ := hrel
      have hi0 : (0 : Int) ≤ (i : Int) := by omega
      by_cases hi : i < m
      · have hi1 : (i : Int) < (m : Int) := by omega
        have hi2 : decide (i < m) = true := decide_eq_true hi
        obtain ⟨x, hx⟩ : ∃ x, f[i]? = some x := ⟨f[i]'(by have := HL.out; omega), List.getElem?_eq_getElem _⟩
        obtain ⟨y, hy⟩ : ∃ y, g[i]? = some y := ⟨g[i]'(by have := HL.out; omega), List.getElem?_eq_getElem _⟩
        have U := Upd.ofBelow (F := fun _ => False) HB.out
        obtain ⟨g1, o1, k1, n1, a1, l1, c1, t1, q1, ql1, r1, rfl, hc1, v0, v1, v2, v3, v4, xT⟩ := (HH.out.1.keep U (fun _ _ h => h)).kid hx
        obtain ⟨g2, o2, k2, n2, a2, l2, c2, t2, q2, ql2, r2, rfl, hc2, u0, u1, u2, u3, u4, yT⟩ := (HH.out.2.1.keep U (fun _ _ h => h)).kid hy
        have hca : m ≤ ck := by have := HL.out; omega
        have hcb : m ≤ dk := by have := HL.out; omega
        have C := HH.out.2.2.2.2.2 x (List.mem_of_getElem? hx) y _ _ wr.drew (xT.keep ((Upd.refl wr (fun _ => False)).drew) (fun _ _ h => h)) (yT.keep ((Upd.refl wr (fun _ => False)).drew) (fun _ _ h => h)) (HH.out.2.2.1 x (List.mem_of_getElem? hx))
        obtain ⟨s, hs⟩ : ∃ s, s = same3 x y := ⟨_, rfl⟩
        rw [← hs] at C
        have HX := Lib.hid (And.intro hx (And.intro hy (And.intro hi hs)))
        have HC := Lib.hid C
        clear hx hy hi hs hc1 hc2 U C xT yT
        obtain ⟨SP, hSP⟩ : ∃ SP : World → Prop, ∀ w' : World, SP w' ↔ ((w'.cell? ⟨g1, o1 + i * 5, none⟩ = some (.int .i64 k1) ∧ w'.cell? ⟨g1, o1 + i * 5 + 1, none⟩ = some (.string n1) ∧ w'.cell? ⟨g1, o1 + i * 5 + 2, none⟩ = some (.slice a1 l1 c1) ∧ w'.cell? ⟨g1, o1 + i * 5 + 3, none⟩ = some (.string t1) ∧ w'.cell? ⟨g1, o1 + i * 5 + 4, none⟩ = some (.slice q1 ql1 r1)) ∧ w'.cell? ⟨g2, o2 + i * 5, none⟩ = some (.int .i64 k2) ∧ w'.cell? ⟨g2, o2 + i * 5 + 1, none⟩ = some (.string n2) ∧ w'.cell? ⟨g2, o2 + i * 5 + 2, none⟩ = some (.slice a2 l2 c2) ∧ w'.cell? ⟨g2, o2 + i * 5 + 3, none⟩ = some (.string t2) ∧ w'.cell? ⟨g2, o2 + i * 5 + 4, none⟩ = some (.slice q2 ql2 r2)) := ⟨fun w' => (w'.cell? ⟨g1, o1 + i * 5, none⟩ = some (.int .i64 k1) ∧ w'.cell? ⟨g1, o1 + i * 5 + 1, none⟩ = some (.string n1) ∧ w'.cell? ⟨g1, o1 + i * 5 + 2, none⟩ = some (.slice a1 l1 c1) ∧ w'.cell? ⟨g1, o1 + i * 5 + 3, none⟩ = some (.string t1) ∧ w'.cell? ⟨g1, o1 + i * 5 + 4, none⟩ = some (.slice q1 ql1 r1)) ∧ w'.cell? ⟨g2, o2 + i * 5, none⟩ = some (.int .i64 k2) ∧ w'.cell? ⟨g2, o2 + i * 5 + 1, none⟩ = some (.string n2) ∧ w'.cell? ⟨g2, o2 + i * 5 + 2, none⟩ = some (.slice a2 l2 c2) ∧ w'.cell? ⟨g2, o2 + i * 5 + 3, none⟩ = some (.string t2) ∧ w'.cell? ⟨g2, o2 + i * 5 + 4, none⟩ = some (.slice q2 ql2 r2), fun _ => Iff.rfl⟩
        have hSk : ∀ w' : World, Upd wr w' (fun _ => False) → SP w' := by
          intro w' hU
          have hh : ∀ g j v, wr.cell? ⟨g, j, none⟩ = some v → w'.cell? ⟨g, j, none⟩ = some v := fun g j v h => (hU.cell (p := ⟨g, j, none⟩) (cell_lt0 h) (fun h => h)).trans h
          exact (hSP _).2 ⟨⟨hh _ _ _ v0, hh _ _ _ v1, hh _ _ _ v2, hh _ _ _ v3, hh _ _ _ v4⟩, hh _ _ _ u0, hh _ _ _ u1, hh _ _ _ u2, hh _ _ _ u3, hh _ _ _ u4⟩
        have S0 := hSk wr.drew (Upd.refl wr _).drew
        have HSK := Lib.hid hSk
        have HSP := Lib.hid hSP
        clear hSk hSP v0 v1 v2 v3 v4 u0 u1 u2 u3 u4
        go_wp2
        apply wp_reg SP [0, 1, 2, 3, 4, 5, 6, 7] [8, 9] [] (by kernel_rfl) (by kernel_rfl) (fun _ _ d _ _ h => by cases d <;> exact h) S0
        · iterate 8 (apply reads_consL rfl rfl; (· intro w0 hS; have hS := (HSP.out w0).1 hS; obtain ⟨⟨hx0, hx1, hx2, hx3, hx4⟩, hy0, hy1, hy2, hy3, hy4⟩ := hS; go_simp; try rfl); simp only [Act.put, List.setIfInBounds_toArray, List.set_cons_zero, List.set_cons_succ])
          exact rfl
        clear S0
        refine tail_consL rfl ?_
        go_wp2_with fail
        refine HC.out.mono ?_
        rintro e w2 ⟨rfl, B2⟩
        have U2 : Upd wr w2 (fun _ => False) := (Upd.refl wr (fun _ => False)).drew.trans (Upd.ofBelow (F := fun _ => False) B2) (fun _ _ h => h)
        have S2 := HSK.out _ U2
        have BB : Below w.heap.size w w2 := below_tr HB.out.drew B2
        have H2 := Lib.hid BB
        clear U2 B2 BB
        go_wp2_with fail
        refine ⟨S2, tail_consL rfl ?_⟩
        go_wp2_with fail
        refine ⟨S2, tail_zero ?_⟩
        clear S2
        cases s with
        | true =>
          go_wp2
          go_roundg (m - (i + 1))
          case measure => have := HJ.out; have := HX.out; omega
          case rel =>
            refine ⟨i + 1, v64s HX.out.2.2.1 (by have := HL.out; have := HH.out; omega), Lib.hid ⟨rfl, HX.out.2.2.1, fun j x' y' hj h1 h2 => ?_⟩, H2⟩
            by_cases ej : j < i
            · exact HJ.out.2.2 j x' y' ej h1 h2
            · obtain rfl : j = i := by omega
              rw [HX.out.1] at h1
              rw [HX.out.2.1] at h2
              rw [← Option.some.inj h1, ← Option.some.inj h2]
              exact HX.out.2.2.2.symm
        | false =>
          go_wp2
          go_ret
          refine ⟨ret_bool ?_, H2.out⟩
          rw [HH.out.2.2.2.2.1]
          cases h : same3L f g with
          | true =>
            have := ((same3L_iff f g).1 h).2 i x y HX.out.1 HX.out.2.1
            rw [← HX.out.2.2.2] at this
            cases this
          | false => rfl
      · have hi1 : ¬ (i : Int) < (m : Int) := by omega
        have hi2 : decide (i < m) = false := decide_eq_false hi
        have HE := Lib.hid (And.intro hi HJ.out)
        clear hi
        go_wp2
        go_ret
        have h := HE.out
        refine ⟨ret_bool ?_, HB.out⟩
        rw [HH.out.2.2.2.2.1]
        exact ((same3L_iff f g).2 ⟨HL.out.1, fun j x y hx hy => h.2.2.2 j x y (by have := (List.getElem?_eq_some_iff.1 hx).1; have := HL.out; omega) hx hy⟩).symm
  · have hl2 : (f.length : Int) ≠ (g.length : Int) := by omega
    have HL := Lib.hid hl
    clear hl
    go_enter Tryd.func19, Tryd.ntmps19
    go_wp2
    go_ret
    refine ⟨ret_bool ?_, Below.refl _ _⟩
    rw [HH.out.2.2.2.2.1]
    cases h : same3L f g with
    | true => exact absurd ((same3L_iff f g).1 h).1 HL.out
    | false => rfl

set_option maxRecDepth 100000 in
set_option maxHeartbeats 4000000 in
theorem same_any (P : Nat → Prop) : ∀ (a b : T) (ca cb : List Value) (w : World), TreeAt w P a ca → TreeAt w P b cb → Fits a → Calls Tryd.prog 62 #[.agg ca.toArray, .agg cb.toArray] w (SPost w (same3 a b)) := by
  refine T.ind ?_
  intro k n al t ks ih b ca cb w hA hB fa
  cases b with
  | mk k' n' al' t' ks' =>
  obtain ⟨aa, xa, ak, xk, rfl, hAl, hAk⟩ := TreeAt.forest hA
  obtain ⟨ba, ya, bk, yk, rfl, hBl, hBk⟩ := TreeAt.forest hB
  have hs := fa.small.2.2.2
  have fk := fa.kid
  clear hA hB fa
  obtain ⟨r, hr⟩ : ∃ r, r = same3 (.mk k n al t ks) (.mk k' n' al' t' ks') := ⟨_, rfl⟩
  rw [← hr]
  have B0 : ∀ o o' : Obj, Below w.heap.size w ((w.alloc o).alloc o') := fun o o' => below_al (below_al (Below.refl _ _) (Nat.le_refl _) _) (Nat.le_refl _) _
  by_cases hk : k = k'
  · subst hk
    by_cases h2 : k = 2
    · subst h2
      have hr' : r = (t == t') := hr.trans (same3_text rfl rfl)
      obtain ⟨q, hq⟩ : ∃ q, q = (t.toList == t'.toList) := ⟨_, rfl⟩
      have hqr : r = q := by
        rw [hr', hq]
        by_cases ht : t = t'
        · subst ht; simp
        · rw [beq_eq_false_iff_ne.2 ht, beq_eq_false_iff_ne.2 (fun h => ht (toList_inj'.1 h))]
      have HC := Lib.hid (And.intro hqr (And.intro B0 hq))
      clear hr hr' hqr hq B0 hAl hBl hAk hBk hs fk ih
      go_enter Tryd.func62, Tryd.ntmps62
      go_wp2
      go_ret
      exact ⟨ret_bool (HC.out.1.trans HC.out.2.2).symm, HC.out.2.1 _ _⟩
    · have hr' : r = ((n == n' && al == al') && same3L ks ks') := hr.trans (same3_rest rfl h2)
      have h2' : (k == 2) = false := beq_eq_false_iff_ne.2 h2
      by_cases hn : n = n'
      · subst hn
        obtain ⟨Bx, hBx⟩ : ∃ o, o = Obj.cells #[Value.int .i64 k, .string n, .slice aa al.length xa, .string t, .slice ak ks.length xk] 25 := ⟨_, rfl⟩
        obtain ⟨By, hBy⟩ : ∃ o, o = Obj.cells #[Value.int .i64 k, .string n, .slice ba al'.length ya, .string t', .slice bk ks'.length yk] 25 := ⟨_, rfl⟩
        have U : Upd w ((w.alloc Bx).alloc By) (fun _ => False) := Upd.ofBelow (B0 _ _)
        have C := eqA_any al al' aa ba xa ya ((w.alloc Bx).alloc By) (hAl.1.keep U (fun _ _ h => h)) (hBl.1.keep U (fun _ _ h => h)) hs.1
        have X1 : Blk ((w.alloc Bx).alloc By) w.heap.size [.int .i64 k, .string n, .slice aa al.length xa, .string t, .slice ak ks.length xk] 25 := by rw [hBx]; exact (Blk.new w _ _).alloc _
        have Y1 : Blk ((w.alloc Bx).alloc By) (w.heap.size + 1) [.int .i64 k, .string n, .slice ba al'.length ya, .string t', .slice bk ks'.length yk] 25 := by rw [hBy]; exact Blk.new' (by simp)
        have BB := B0 Bx By
        rw [hBx, hBy] at C BB X1 Y1
        have HC := Lib.hid (And.intro C (And.intro hr' (And.intro BB (And.intro X1 (And.intro Y1 (And.intro hAk (And.intro hBk (And.intro hs (And.intro fk ih)))))))))
        clear C hr' hr BB U hBx hBy B0 hAl hBl hAk hBk hs X1 Y1 fk ih h2
        go_enter Tryd.func62, Tryd.ntmps62
        go_wp2_with fail
        refine HC.out.1.mono ?_
        rintro e w3 ⟨r3, rfl, h3, b3⟩
        have hal : (al == al') = r3 := by
          cases r3 with
          | true => rw [h3.1 rfl]; simp
          | false =>
            have : al ≠ al' := fun h => by have := h3.2 h; cases this
            simp [this]
        have U3 := Upd.ofBelow (F := fun _ => False) b3
        have BB := below_tr HC.out.2.2.1 b3
        cases r3 with
        | false =>
          have H3 := Lib.hid (And.intro hal BB)
          clear h3 b3 hal U3 BB
          go_wp2
          go_ret
          exact ⟨ret_bool (by rw [HC.out.2.1, H3.out.1]; simp), H3.out.2⟩
        | true =>
          have X3 := U3.blk HC.out.2.2.2.1 (fun h => h)
          have Y3 := U3.blk HC.out.2.2.2.2.1 (fun h => h)
          have x4 := X3.cell 4
          have y4 := Y3.cell 4
          simp only [List.getElem?_cons_zero, List.getElem?_cons_succ] at x4 y4
          have Uw := Upd.ofBelow (F := fun _ => False) BB
          have CF := forests_step P ks (fun x hx => HC.out.2.2.2.2.2.2.2.2.2 x hx) ks' ak bk xk yk w3 (HC.out.2.2.2.2.2.1.keep Uw (fun _ _ h => h)) (HC.out.2.2.2.2.2.2.1.keep Uw (fun _ _ h => h)) HC.out.2.2.2.2.2.2.2.2.1 HC.out.2.2.2.2.2.2.2.1.2
          obtain ⟨r4, hr4⟩ : ∃ r4, r4 = same3L ks ks' := ⟨_, rfl⟩
          rw [← hr4] at CF
          have H3 := Lib.hid (And.intro hal (And.intro BB hr4))
          have HCF := Lib.hid CF
          clear h3 b3 hal U3 BB X3 Y3 Uw CF hr4
          go_wp2_with fail
          refine HCF.out.mono ?_
          rintro e w4 ⟨rfl, b4⟩
          have H4 := Lib.hid b4
          clear b4
          go_wp2
          go_ret
          refine ⟨ret_bool ?_, below_tr H3.out.2.1 H4.out⟩
          rw [HC.out.2.1, H3.out.1, ← H3.out.2.2]
          simp
      · have hr2 : r = false := by rw [hr']; simp [hn]
        have hnl : (n.toList == n'.toList) = false := by
          rw [beq_eq_false_iff_ne]
          exact fun h => hn (toList_inj'.1 h)
        have hnl' : ¬ n.toList = n'.toList := fun h => hn (toList_inj'.1 h)
        have HC := Lib.hid (And.intro hr2 B0)
        clear hr hr' hr2 hn B0 hAl hBl hAk hBk hs fk ih h2
        go_enter Tryd.func62, Tryd.ntmps62
        go_wp2
        go_ret
        exact ⟨ret_bool HC.out.1.symm, HC.out.2 _ _⟩
  · have hr' : r = false := hr.trans (same3_kind hk)
    have hk1 : (k == k') = false := beq_eq_false_iff_ne.2 hk
    have hk2 : (k != k') = true := by simp [hk]
    have HC := Lib.hid (And.intro hr' B0)
    clear hr hr' B0 hAl hBl hAk hBk hs fk ih
    go_enter Tryd.func62, Tryd.ntmps62
    go_wp2
    go_ret
    exact ⟨ret_bool HC.out.1.symm, HC.out.2 _ _⟩
theorem forests_any (P : Nat → Prop) (f g : List T) (ak bk : Option Addr) (ck dk : Nat) (w : World) (hf : Forest w P f ak ck) (hg : Forest w P g bk dk) (ff : ∀ x ∈ f, Fits x) (lf : f.length * 88 ≤ 140737488351232) : Calls Tryd.prog 19 #[.slice ak f.length ck, .slice bk g.length dk] w (SPost w (same3L f g)) :=
  forests_step P f (fun x _ => same_any P x) g ak bk ck dk w hf hg ff lf

end Df
end Go.Proofs.YtemmkobgpciflaaDoor
