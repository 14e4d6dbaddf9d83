/- A node and all around it, as an axis; the nearest node around two: the document's, walked. -/
import Derived.Test.YtemmkobgpciflaaDoorNearR
namespace Go.Proofs.YtemmkobgpciflaaDoor
open Go.RowKit
open Ch
namespace Df

theorem own_of_blk {w : World} {g n sz : Nat} {xs : List Value} {e : TypeId} (h : Blk w g xs e) (hl : xs.length = n * sz) (hm : n ≤ maxLen) : w.ownsRow 0 e sz (.slice (some ⟨g, 0, none⟩) n n) n xs :=
  ⟨hl, Or.inr ⟨g, n, xs.toArray, rfl, Nat.zero_le _, h, Nat.le_refl _, hm, by simp [hl], by simp [← hl]⟩⟩
theorem kids_len {S : List Im.Sl} {roots : List Nat} {ts : List Im.LT} (h : Im.Valid S roots ts) {a i : Nat} {s : Im.Sl} (ha : Im.atP S a = some i) (hs : S[i]? = some s) : s.ks.length ≤ 4096 := by
  obtain ⟨u, q, l, e, h1, _, _, h4, _⟩ := h.find ha
  cases u with
  | mk j ks =>
  have e : j = i := e
  subst e
  rw [Im.Sd] at h1
  obtain ⟨s', g1, _, _, g4, _⟩ := h1
  rw [hs] at g1
  rw [Option.some.inj g1, g4, List.length_map]
  have := len_preL ks
  rw [Im.pre, List.length_cons] at h4
  omega
/-- The list under the parent of a live node. -/
theorem list_up {B d : Nat} {S : List Im.Sl} {roots : List Nat} {ts : List Im.LT} (h : Im.Valid S roots ts) {p : Nat} {l : List Nat} (hC : Im.Climb S p l) : ∃ L : List Nat, L.length ≤ 4096 ∧ ListC B d p L S roots ts := by
  rcases Climb.ne hC with ⟨rfl, _⟩ | ⟨i, s, l', _, _, ha, hs, _⟩
  · refine ⟨roots, ?_, list_root⟩
    rw [h.rt, List.length_map]
    have := len_preL ts
    have := h.count
    omega
  · refine ⟨s.ks, kids_len h ha hs, ?_⟩
    obtain ⟨s', h1, h2, _⟩ := Im.atP_some ha
    rw [hs] at h1
    rw [Im.atP_eq ha]
    exact list_node hs (by rw [Option.some.inj h1]; exact h2)

set_option maxRecDepth 100000 in
set_option maxHeartbeats 4000000 in
theorem axis6_any (B d : Nat) (S : List Im.Sl) (roots : List Nat) (ts : List Im.LT) (n : Nat) (up : List Nat) (w : World) (hD : RDoc w B d S roots ts) (hC : Im.Climb S n (n :: up)) (hl : up.length ≤ 64) :
    Calls Tryd.prog 77 #[.pointer (some ⟨d, 0, none⟩), .int .i64 6, .int .u64 (n : Nat)] w (fun e w' => ∃ v, e = .returned v ∧ MList w' w.heap.size v (n :: up) ∧ Below w.heap.size w w') := by
  have hV := hD.val
  obtain ⟨i, s, l', _, e, ha, hs, hup⟩ : ∃ i s l', n ≠ 0 ∧ n :: up = n :: l' ∧ Im.atP S n = some i ∧ S[i]? = some s ∧ Im.Climb S s.p l' := by
    rcases Climb.ne hC with ⟨_, h⟩ | h
    · cases h
    · exact h
  simp only [List.cons.injEq, true_and] at e
  subst e
  obtain ⟨u, q, _, hui, hsd, _, _, hul, hne⟩ := hV.find ha
  obtain ⟨L1, hL1⟩ : ∃ L1, L1 = (Im.pre u).map (Im.hdl S) := ⟨_, rfl⟩
  obtain ⟨L2, hL2⟩ : ∃ L2, L2 = (Im.preL ts).map (Im.hdl S) := ⟨_, rfl⟩
  have hl2 : L2.length ≤ 4096 := by rw [hL2, List.length_map]; exact hV.count
  obtain ⟨L3, hl3, hLC⟩ := list_up (B := B) (d := d) hV hup
  have A1 : AllIs S ts n L1 := Or.inr ⟨u, q, by rw [hui]; exact hne, hsd, hL1, hul⟩
  have A2 : AllIs S ts 0 L2 := Or.inl ⟨rfl, hL2⟩
  have C := allR_any B d S roots ts n L1 w hD A1
  have HC := Lib.hid C
  obtain ⟨P, hP⟩ : ∃ P : Ending → World → Prop, P = fun e w' => ∃ v, e = .returned v ∧ MList w' w.heap.size v (n :: up) ∧ Below w.heap.size w w' := ⟨_, rfl⟩
  rw [← hP]
  have HP := Lib.hid hP
  have HH := Lib.hid (And.intro hD (And.intro hC (And.intro hl (And.intro ha (And.intro hs (And.intro A2 (And.intro hl2 (And.intro hl3 hLC))))))))
  clear hV hD hC hl ha hs hup hsd hul hne hL1 hL2 hl2 hl3 hLC A1 A2 C hP hui
  go_enter Tryd.func77, Tryd.ntmps77
  go_wp2_with fail
  refine HC.out.mono ?_
  rintro e w1 ⟨v1, rfl, ⟨a1, c1, rfl, O1, _⟩, B1⟩
  have H1 := Lib.hid B1
  have C := allR_any B d S roots ts 0 L2 w1 (HH.out.1.below (B1.mono HH.out.1.le)) HH.out.2.2.2.2.2.1
  have HC := Lib.hid C
  clear O1 B1 C
  go_wp2_with fail
  refine HC.out.mono ?_
  rintro e w2 ⟨v2, rfl, ⟨a2, c2, rfl, O2, _⟩, B2⟩
  have H2 := Lib.hid (below_tr H1.out B2)
  have HO2 := Lib.hid O2
  have C := around_any B d S roots ts n up w2 (HH.out.1.below (H2.out.mono HH.out.1.le)) HH.out.2.1 HH.out.2.2.1
  have HC := Lib.hid C
  clear O2 B2 C H1
  go_wp2_with fail
  refine HC.out.mono ?_
  rintro e w3 ⟨v3, rfl, ⟨a3, c3, rfl, O3, G3⟩, B3⟩
  have H3 := Lib.hid (below_tr H2.out B3)
  have HO3 := Lib.hid (And.intro O3 (fun g hg => Nat.le_trans H2.out.size (G3 g hg)))
  have HO2' := Lib.hid (own_keep HO2.out (Upd.ofBelow (F := fun _ => False) B3) (fun _ _ h => h))
  have C := parentR_any B d S roots ts n i s w3 (HH.out.1.below (H3.out.mono HH.out.1.le)) HH.out.2.2.2.1 HH.out.2.2.2.2.1
  obtain ⟨p, hp⟩ : ∃ p, p = s.p := ⟨_, rfl⟩
  rw [← hp] at C
  have HC := Lib.hid C
  have HPp := Lib.hid hp
  clear O3 B3 G3 C H2 HO2 hp
  go_wp2_with fail
  refine HC.out.mono ?_
  rintro e w4 ⟨rfl, B4⟩
  have H4 := Lib.hid (below_tr H3.out B4)
  have U4 := Upd.ofBelow (F := fun _ => False) B4
  have HO2 := Lib.hid (own_keep HO2'.out U4 (fun _ _ h => h))
  have HO3' := Lib.hid (And.intro (own_keep HO3.out.1 U4 (fun _ _ h => h)) HO3.out.2)
  have C := sides_any L2 a2 c2 n w4.heap.size w4 ⟨Rd.ofOwn HO2.out, fun _ g hg => own_lt HO2.out hg⟩ (by have := HH.out.2.2.2.2.2.2.1; omega)
  have HC := Lib.hid C
  clear B4 U4 C H3 HO3 HO2'
  go_wp2_with fail
  refine HC.out.mono ?_
  rintro e w5 ⟨⟨s1, s2, rfl⟩, B5⟩
  have H5 := Lib.hid (below_tr H4.out B5)
  have U5 := Upd.ofBelow (F := fun _ => False) B5
  have HO3 := Lib.hid (And.intro (own_keep HO3'.out.1 U5 (fun _ _ h => h)) HO3'.out.2)
  have C := HH.out.2.2.2.2.2.2.2.2 w5 (HH.out.1.below (H5.out.mono HH.out.1.le))
  rw [← HPp.out] at C
  have HC := Lib.hid C
  clear B5 U5 C H4 HO3' HO2
  go_wp2_with fail
  refine HC.out.mono ?_
  rintro e w6 ⟨v6, rfl, ⟨a6, c6, rfl, R6⟩, B6⟩
  have H6 := Lib.hid (below_tr H5.out B6)
  have U6 := Upd.ofBelow (F := fun _ => False) B6
  have HO3' := Lib.hid (And.intro (own_keep HO3.out.1 U6 (fun _ _ h => h)) HO3.out.2)
  have C := sides_any L3 a6 c6 n B w6 R6 (by have := HH.out.2.2.2.2.2.2.2.1; omega)
  have HC := Lib.hid C
  clear B6 U6 C H5 HO3 R6
  go_wp2_with fail
  refine HC.out.mono ?_
  rintro e w7 ⟨⟨s3, s4, rfl⟩, B7⟩
  have H7 := Lib.hid (below_tr H6.out B7)
  have U7 := Upd.ofBelow (F := fun _ => False) B7
  have HO3 := Lib.hid (And.intro (own_keep HO3'.out.1 U7 (fun _ _ h => h)) HO3'.out.2)
  clear B7 U7 H6 HO3' HC
  obtain ⟨q, hq⟩ : ∃ q, q = w7.heap.size := ⟨_, rfl⟩
  have HQ := Lib.hid hq
  clear hq
  go_wp2_with (at_builtin; refine halt_mk ?_)
  refine halt_go ?_
  rw [← HQ.out]
  generalize hW : World.alloc _ _ = W8
  have U8 : Upd w7 W8 (fun _ => False) := by rw [← hW]; exact (Upd.refl w7 _).alloc _
  have X8 : Blk W8 q [.int .u64 (n : Nat)] 46 := by rw [← hW]; exact Blk.new' HQ.out
  have O8 : W8.ownsRow 0 46 1 (.slice (some ⟨q, 0, none⟩) 1 1) 1 [.int .u64 (n : Nat)] := own_of_blk X8 rfl (by unfold maxLen; omega)
  have R8 := (Rd.ofOwn (own_keep HO3.out.1 U8 (fun _ _ h => h)))
  obtain ⟨k, hk⟩ : ∃ k, k = up.length := ⟨_, rfl⟩
  rw [← hk] at R8
  have hk64 : k ≤ 64 := by rw [hk]; exact HH.out.2.2.1
  refine wpl_app (n := 1) (m := k) rfl rfl elemHd Tryd.underlying42 rfl O8 (by rw [hk]; rfl) R8 (hcv_one up) (by omega) ?_
  rintro v9 w9 ⟨O9, U9, b9⟩
  obtain ⟨a9, c9, rfl, _⟩ := (Rd.ofOwn O9).form
  have hq7 : w.heap.size ≤ q := by rw [HQ.out]; exact H7.out.size
  have B8 : Below w.heap.size w W8 := H7.out.trans (U8.below H7.out.size (fun _ _ h => h))
  have B9 : Below w.heap.size w w9 := B8.trans (U9.below B8.size (fun g hg e => by have := ob_eq e; omega))
  have H9 := Lib.hid (And.intro O9 B9)
  have hlk : k = up.length := hk
  have HK := Lib.hid (And.intro hlk hk64)
  clear hW U8 X8 O8 R8 O9 U9 b9 hq7 B8 B9 hk hk64 hlk HQ H7 HO3
  obtain ⟨z, hz⟩ : ∃ z, z = w9.heap.size := ⟨_, rfl⟩
  have HZ := Lib.hid hz
  clear hz
  go_wp2_with (at_builtin; refine halt_mk ?_)
  refine halt_go ?_
  rw [← HZ.out]
  generalize hW : World.alloc _ _ = W10
  have U10 : Upd w9 W10 (fun _ => False) := by rw [← hW]; exact (Upd.refl w9 _).alloc _
  have O10 : W10.ownsRow 0 46 1 (.slice (some ⟨z, 0, none⟩) 0 0) 0 [] := by rw [← hW]; exact own_lit_sz HZ.out
  have R10 := Rd.ofOwn (own_keep H9.out.1 U10 (fun _ _ h => h))
  refine wpl_app (n := 0) (m := 1 + k) rfl rfl elemHd Tryd.underlying42 rfl O10 rfl R10 (by intro u hu; rcases List.mem_append.1 hu with hu | hu; simp at hu; subst hu; rfl; exact hcv_one up u hu) (by have := HK.out.2; omega) ?_
  rintro v11 w11 ⟨O11, U11, b11⟩
  rw [Nat.zero_add, List.nil_append] at O11
  obtain ⟨a11, c11, rfl, _⟩ := (Rd.ofOwn O11).form
  have hz9 : w.heap.size ≤ z := by rw [HZ.out]; exact H9.out.2.size
  have B10 : Below w.heap.size w W10 := H9.out.2.trans (U10.below H9.out.2.size (fun _ _ h => h))
  have B11 : Below w.heap.size w w11 := B10.trans (U11.below B10.size (fun g hg e => by have := ob_eq e; omega))
  have G11 : ∀ g, (Value.slice a11 (1 + k) c11).ownBlock = some g → w.heap.size ≤ g := fun g hg => by
    rcases b11 with e | e
    · have := ob_eq (e.symm.trans hg); omega
    · have := ob_some (e.symm.trans hg); have := B10.size; omega
  have H11 := Lib.hid (And.intro O11 (And.intro B11 G11))
  clear hW U10 O10 R10 O11 U11 b11 hz9 B10 B11 G11 HZ H9
  go_wp2
  rw [HP.out]
  obtain ⟨O11, B11, G11⟩ := H11.out
  have hl : 1 + k = (n :: up).length := by rw [List.length_cons, HK.out.1]; omega
  have he : [Value.int .u64 (n : Nat)] ++ hcv up = hcv (n :: up) := rfl
  rw [he, hl] at O11
  rw [hl] at G11 ⊢
  exact ⟨_, rfl, ⟨a11, c11, rfl, O11, G11⟩, B11⟩

/-- The nearest node around two. -/
def nearL (la lb : List Nat) : Nat × Bool := match la.find? (fun x => decide (x ∈ lb)) with
  | some x => (x, true)
  | none => (0, false)

set_option maxRecDepth 100000 in
set_option maxHeartbeats 4000000 in
theorem nearR_any (B d : Nat) (S : List Im.Sl) (roots : List Nat) (ts : List Im.LT) (a b : Nat) (ua ub : List Nat) (w : World) (hD : RDoc w B d S roots ts) (hCa : Im.Climb S a (a :: ua)) (hCb : Im.Climb S b (b :: ub)) (hla : ua.length ≤ 64) (hlb : ub.length ≤ 64) (ha : (Im.atP S a).isSome = true) (hb : (Im.atP S b).isSome = true) :
    Calls Tryd.prog 28 #[.pointer (some ⟨d, 0, none⟩), .int .u64 (a : Nat), .int .u64 (b : Nat)] w (fun e w' => e = .returned (.tuple #[.int .u64 ((nearL (a :: ua) (b :: ub)).1 : Nat), .bool (nearL (a :: ua) (b :: ub)).2, .int .i64 0]) ∧ Below w.heap.size w w') := by
  have C := hD.atI a
  rw [ha] at C
  have HC := Lib.hid C
  obtain ⟨P, hP⟩ : ∃ P : Ending → World → Prop, P = fun e w' => e = .returned (.tuple #[.int .u64 ((nearL (a :: ua) (b :: ub)).1 : Nat), .bool (nearL (a :: ua) (b :: ub)).2, .int .i64 0]) ∧ Below w.heap.size w w' := ⟨_, rfl⟩
  rw [← hP]
  have HP := Lib.hid hP
  have HH := Lib.hid (And.intro hD (And.intro hCa (And.intro hCb (And.intro hla (And.intro hlb hb)))))
  clear hD hCa hCb hla hlb ha hb C hP
  go_enter Tryd.func28, Tryd.ntmps28
  go_wp2_with fail
  refine HC.out.mono ?_
  rintro e w1 ⟨rfl, B1⟩
  have H1 := Lib.hid B1
  have C := (HH.out.1.below (B1.mono HH.out.1.le)).atI b
  rw [HH.out.2.2.2.2.2] at C
  have HC := Lib.hid C
  clear B1 C
  go_wp2_with fail
  refine HC.out.mono ?_
  rintro e w2 ⟨rfl, B2⟩
  have H2 := Lib.hid (below_tr H1.out B2)
  have C := axis6_any B d S roots ts a ua w2 (HH.out.1.below (H2.out.mono HH.out.1.le)) HH.out.2.1 HH.out.2.2.2.1
  have HC := Lib.hid C
  clear B2 C H1
  go_wp2_with fail
  refine HC.out.mono ?_
  rintro e w3 ⟨v3, rfl, M3, B3⟩
  have H3 := Lib.hid (below_tr H2.out B3)
  have HM3 := Lib.hid M3
  have C := axis6_any B d S roots ts b ub w3 (HH.out.1.below (H3.out.mono HH.out.1.le)) HH.out.2.2.1 HH.out.2.2.2.2.1
  have HC := Lib.hid C
  clear B3 M3 C H2
  go_wp2_with fail
  refine HC.out.mono ?_
  rintro e w4 ⟨v4, rfl, M4, B4⟩
  have H4 := Lib.hid (below_tr H3.out B4)
  obtain ⟨a3, c3, rfl, O3, _⟩ := HM3.out.keep B4
  obtain ⟨a4, c4, rfl, O4, _⟩ := M4
  obtain ⟨la, hla⟩ : ∃ la, la = a :: ua := ⟨_, rfl⟩
  obtain ⟨lb, hlb⟩ : ∃ lb, lb = b :: ub := ⟨_, rfl⟩
  have hl1 : la.length ≤ 65 := by rw [hla, List.length_cons]; have := HH.out.2.2.2.1; omega
  have hl2 : lb.length ≤ 65 := by rw [hlb, List.length_cons]; have := HH.out.2.2.2.2.1; omega
  rw [← hla] at O3 ⊢
  rw [← hlb] at O4 ⊢
  rw [← hla, ← hlb] at HP
  have HO := Lib.hid (And.intro O3 (And.intro O4 (And.intro hl1 hl2)))
  clear O3 O4 B4 hl1 hl2 hla hlb HM3 H3 HC
  obtain ⟨m, hm⟩ : ∃ m, m = la.length := ⟨_, rfl⟩
  rw [← hm]
  have HM := Lib.hid hm
  clear hm
  go_wp2
  go_loopg [11] m (fun kq v11 w' => ∃ i : Nat, v11 = .int .i64 i ∧ Hid (kq = m - i ∧ i ≤ m) ∧ Hid (∀ j x, j < i → la[j]? = some x → x ∉ lb) ∧ w' = w4)
  case atStart => exact ⟨0, rfl, Lib.hid ⟨rfl, Nat.zero_le _⟩, Lib.hid (fun j x hj => by omega), rfl⟩
  case round =>
    obtain ⟨i, rfl, HI, HN, rfl⟩ := hrel
    have hi0 : (0 : Int) ≤ (i : Int) := by omega
    by_cases hi : i < m
    · have hi1 : (i : Int) < (m : Int) := by omega
      have hi2 : decide (i < m) = true := decide_eq_true hi
      obtain ⟨x, hx⟩ : ∃ x, la[i]? = some x := ⟨la[i]'(by have := HM.out; omega), List.getElem?_eq_getElem _⟩
      obtain ⟨lg, loff, lc', el, hlc, hcell⟩ := (Rd.ofOwn HO.out.1).at_ (hcv_at hx)
      simp only [Value.slice.injEq] at el
      obtain ⟨rfl, _, rfl⟩ := el
      rw [← HM.out] at hlc
      have C := has_any lb a4 c4 x wr.heap.size wr ⟨Rd.ofOwn HO.out.2.1, fun _ g hg => own_lt HO.out.2.1 hg⟩ (by have := HO.out.2.2.2; omega)
      obtain ⟨bb, hbb⟩ : ∃ bb, bb = decide (x ∈ lb) := ⟨_, rfl⟩
      rw [← hbb] at C
      have HC := Lib.hid C
      have HX := Lib.hid (And.intro hx (And.intro hi hbb))
      clear hx hi hbb C
      go_wp2_with fail
      refine HC.out.mono ?_
      rintro e w5 ⟨rfl, rfl⟩
      cases hb : bb with
      | true =>
        subst hb
        go_wp2
        go_ret3
        rw [HP.out]
        have hf : nearL la lb = (x, true) := by
          unfold nearL
          have h1 : la.find? (fun x => decide (x ∈ lb)) = some x := by
            rw [List.find?_eq_some_iff_getElem]
            obtain ⟨hx, hi, hbb⟩ := HX.out
            obtain ⟨h1, h2⟩ := List.getElem?_eq_some_iff.1 hx
            refine ⟨hbb.symm, i, h1, h2, fun j hj => ?_⟩
            have := HN.out j _ hj (List.getElem?_eq_getElem (by omega))
            simpa using this
          rw [h1]
        exact ⟨by rw [hf]; rfl, H4.out⟩
      | false =>
        subst hb
        go_wp2
        go_roundg (m - (i + 1))
        case measure => have := HI.out; have := HX.out; omega
        case rel =>
          refine ⟨i + 1, v64s HX.out.2.1 (by have := HM.out; have := HO.out.2.2.1; omega), Lib.hid ⟨rfl, HX.out.2.1⟩, Lib.hid (fun j y hj hy => ?_), rfl⟩
          by_cases ej : j < i
          · exact HN.out j y ej hy
          · obtain rfl : j = i := by omega
            rw [HX.out.1] at hy
            rw [← Option.some.inj hy]
            exact of_decide_eq_false HX.out.2.2.symm
    · have hi1 : ¬ (i : Int) < (m : Int) := by omega
      have hi2 : decide (i < m) = false := decide_eq_false hi
      have ei : i = la.length := by have := HI.out; have := HM.out; omega
      have hf : nearL la lb = (0, false) := by
        unfold nearL
        have h1 : la.find? (fun x => decide (x ∈ lb)) = none := by
          rw [List.find?_eq_none]
          intro x hx
          obtain ⟨j, hj⟩ := List.getElem?_of_mem hx
          have := HN.out j x (by rw [ei]; exact (List.getElem?_eq_some_iff.1 hj).1) hj
          simpa using this
        rw [h1]
      have HF := Lib.hid hf
      clear hi ei hf
      go_wp2
      go_ret3
      rw [HP.out]
      exact ⟨by rw [HF.out]; rfl, H4.out⟩

set_option maxRecDepth 100000 in
set_option maxHeartbeats 4000000 in
/-- One of two isn't live. -/
theorem nearR_none (B d : Nat) (S : List Im.Sl) (roots : List Nat) (ts : List Im.LT) (a b : Nat) (w : World) (hD : RDoc w B d S roots ts) (h : Im.atP S a = none ∨ Im.atP S b = none) :
    Calls Tryd.prog 28 #[.pointer (some ⟨d, 0, none⟩), .int .u64 (a : Nat), .int .u64 (b : Nat)] w (fun e w' => e = .returned (.tuple #[.int .u64 0, .bool false, .int .i64 8]) ∧ Below w.heap.size w w') := by
  have C := hD.atI a
  obtain ⟨la, hla⟩ : ∃ la, la = (Im.atP S a).isSome := ⟨_, rfl⟩
  rw [← hla] at C
  have HC := Lib.hid C
  have HH := Lib.hid (And.intro hD (And.intro h hla))
  clear hD h C hla
  go_enter Tryd.func28, Tryd.ntmps28
  go_wp2_with fail
  refine HC.out.mono ?_
  rintro e w1 ⟨rfl, B1⟩
  have H1 := Lib.hid B1
  by_cases hl : la = true
  case neg =>
    have hl0 : la = false := by simpa using hl
    subst hl0
    clear hl B1
    go_wp2
    go_ret3
    exact ⟨rfl, H1.out⟩
  subst hl
  have hb : Im.atP S b = none := by
    rcases HH.out.2.1 with h | h
    · have := HH.out.2.2
      rw [h] at this
      cases this
    · exact h
  have C := (HH.out.1.below (B1.mono HH.out.1.le)).atI b
  rw [hb] at C
  have HC := Lib.hid C
  clear B1 C hb
  go_wp2_with fail
  refine HC.out.mono ?_
  rintro e w2 ⟨rfl, B2⟩
  have H2 := Lib.hid (below_tr H1.out B2)
  clear B2
  go_wp2
  go_ret3
  exact ⟨rfl, H2.out⟩

end Df
end Go.Proofs.YtemmkobgpciflaaDoor
