/- The nodes around one, the two sides of a list, the node that a number means: the document's, walked. -/
import Derived.Test.YtemmkobgpciflaaDoorAllT
import Derived.Deep.QuietTactic
import Derived.BigQuiet
namespace Go.Proofs.YtemmkobgpciflaaDoor
open Go.RowKit
open Ch
namespace Df

set_option maxRecDepth 100000 in
set_option maxHeartbeats 1600000 in
/-- sides: some two lists. -/
theorem sides_any (L : List Nat) (a : Option Addr) (c n B : Nat) (w : World) (hR : RdP w (· < B) 1 (.slice a L.length c) L.length (hcv L)) (hl : L.length ≤ 1099511627776) :
    Calls Tryd.prog 123 #[.slice a L.length c, .int .u64 (n : Nat)] w (fun e w' => (∃ v1 v2, e = .returned (.tuple #[v1, v2])) ∧ Below w.heap.size w w') := by
  obtain ⟨m, hm⟩ : ∃ m, m = L.length := ⟨_, rfl⟩
  have HH := Lib.hid (And.intro hR (And.intro hl hm))
  rw [← hm]
  clear hR hl hm
  go_enter Tryd.func123, Tryd.ntmps123
  go_wp2
  go_loopg [6] m (fun kq v6 w' => ∃ i : Nat, v6 = .int .i64 i ∧ Hid (kq = m - i ∧ i ≤ m) ∧ w' = w)
  case atStart => exact ⟨0, rfl, Lib.hid ⟨rfl, Nat.zero_le _⟩, rfl⟩
  case round =>
    obtain ⟨i, rfl, HI, rfl⟩ := hrel
    have hi0 : (0 : Int) ≤ (i : Int) := by omega
    by_cases hi : i < m
    · have hi1 : (i : Int) < (m : Int) := by omega
      have hi2 : decide (i < m) = true := decide_eq_true hi
      obtain ⟨x, hx⟩ : ∃ x, L[i]? = some x := ⟨L[i]'(by have := HH.out.2.2; omega), List.getElem?_eq_getElem _⟩
      obtain ⟨lg, loff, lc', el, hlc, hcell⟩ := HH.out.1.1.at_ (hcv_at hx)
      simp only [Value.slice.injEq] at el
      obtain ⟨rfl, _, rfl⟩ := el
      rw [← HH.out.2.2] at hlc
      have HX := Lib.hid (And.intro hx hi)
      have hR := HH.out.1.1
      rw [← HH.out.2.2] at hR
      obtain ⟨s1, q1, _, _⟩ := hR.cutH elemHd Tryd.underlying42 (Nat.le_of_lt hi) .i64
      obtain ⟨s2, q2, _, _⟩ := hR.cutL elemHd Tryd.underlying42 (k := i + 1) hi .i64
      have ei : ((i + 1 : Nat) : Int) = (i : Int) + 1 := by omega
      rw [ei] at q2
      have hw1 : wrap64 ((i : Int) + 1) = (i : Int) + 1 := Go.IntWalk.wrap64_in _ (by have := HH.out.2; omega)
      clear hx hi hR ei
      by_cases hxn : x = n
      · have b1 : ((x : Int) == (n : Int)) = true := beq_iff_eq.2 (by omega)
        have b2 : (x == n) = true := beq_iff_eq.2 hxn
        subst hxn
        go_wp2
        go_quiet (fail)
        go_wp2
        go_ret2
        exact ⟨⟨_, _, rfl⟩, below_dn (Below.refl _ _) _⟩
      · have b1 : ((x : Int) == (n : Int)) = false := beq_eq_false_iff_ne.2 (by omega)
        have b2 : (x == n) = false := beq_eq_false_iff_ne.2 hxn
        clear hxn
        go_wp2
        go_roundg (m - (i + 1))
        case measure => have := HI.out; have := HX.out; omega
        case rel => exact ⟨i + 1, by first | rfl | exact v64s HX.out.2 (by have := HH.out; omega), Lib.hid ⟨rfl, HX.out.2⟩, rfl⟩
    · have hi1 : ¬ (i : Int) < (m : Int) := by omega
      have hi2 : decide (i < m) = false := decide_eq_false hi
      clear hi
      go_wp2
      go_ret2
      exact ⟨⟨_, _, rfl⟩, Below.refl _ _⟩

theorem Climb.ne {S : List Im.Sl} {p : Nat} {l : List Nat} (h : Im.Climb S p l) : (p = 0 ∧ l = []) ∨ ∃ i s l', p ≠ 0 ∧ l = p :: l' ∧ Im.atP S p = some i ∧ S[i]? = some s ∧ Im.Climb S s.p l' := by
  cases h with
  | top => exact Or.inl ⟨rfl, rfl⟩
  | up e hs hp => exact Or.inr ⟨_, _, _, (fun h => by rw [h, Im.atP_zero] at e; cases e), rfl, e, hs, hp⟩

set_option maxRecDepth 100000 in
set_option maxHeartbeats 1600000 in
theorem around_any (B d : Nat) (S : List Im.Sl) (roots : List Nat) (ts : List Im.LT) (n : Nat) (up : List Nat) (w : World) (hD : RDoc w B d S roots ts) (hC : Im.Climb S n (n :: up)) (hl : up.length ≤ 64) :
    Calls Tryd.prog 121 #[.pointer (some ⟨d, 0, none⟩), .int .u64 (n : Nat)] w (fun e w' => ∃ v, e = .returned v ∧ MList w' w.heap.size v up ∧ Below w.heap.size w w') := by
  obtain ⟨i, s, l', _, e, ha, hs, hup⟩ : ∃ i s l', n ≠ 0 ∧ n :: up = n :: l' ∧ Im.atP S n = some i ∧ S[i]? = some s ∧ Im.Climb S s.p l' := by
    rcases Climb.ne hC with ⟨_, h⟩ | h
    · cases h
    · exact h
  simp only [List.cons.injEq, true_and] at e
  subst e
  have C := parentR_any B d S roots ts n i s w hD ha hs
  have HC := Lib.hid C
  obtain ⟨p0, hp0⟩ : ∃ p0, p0 = s.p := ⟨_, rfl⟩
  rw [← hp0] at HC hup
  obtain ⟨P, hP⟩ : ∃ P : Ending → World → Prop, P = fun e w' => ∃ v, e = .returned v ∧ MList w' w.heap.size v up ∧ Below w.heap.size w w' := ⟨_, rfl⟩
  rw [← hP]
  have HP := Lib.hid hP
  have HH := Lib.hid (And.intro hD (And.intro hup hl))
  clear hD hC hl ha hs hup hp0 C hP
  go_enter Tryd.func121, Tryd.ntmps121
  go_wp2_with fail
  refine HC.out.mono ?_
  rintro e w1 ⟨rfl, B1⟩
  have HB1 := Lib.hid B1
  clear B1 HC
  go_wp2
  go_loopg [5, 6] up.length (fun kq v5 v6 w' => ∃ (dn rs : List Nat) (p : Nat) (a : Option Addr) (k c : Nat), v5 = .slice a k c ∧ v6 = .int .u64 (p : Nat) ∧ Hid (kq = rs.length) ∧ Hid (up = dn ++ rs ∧ k = dn.length ∧ Im.Climb S p rs) ∧ Hid (w'.ownsRow 0 46 1 (.slice a k c) k (hcv dn)) ∧ Hid (∀ g, (Value.slice a k c).ownBlock = some g → w.heap.size ≤ g) ∧ Hid (Below w.heap.size w w'))
  case atStart => exact ⟨[], up, p0, none, 0, 0, rfl, rfl, Lib.hid rfl, Lib.hid ⟨rfl, rfl, HH.out.2.1⟩, Lib.hid own_none, Lib.hid (fun g hg => by cases hg), HB1⟩
  case round =>
    obtain ⟨dn, rs, p, a, k, c, rfl, rfl, HK, HS, HO, HG, HB⟩ := hrel
    rcases Climb.ne HS.out.2.2 with ⟨h0, hr0⟩ | ⟨i', s', l', h0, hr0, ha', hs', hup'⟩
    · subst h0
      have hfin : up = dn := by rw [HS.out.1, hr0, List.append_nil]
      have HF := Lib.hid hfin
      clear hr0 hfin
      go_wp2
      rw [HP.out]
      have hk : k = up.length := by rw [HF.out]; exact HS.out.2.1
      have hO := HO.out
      have hG := HG.out
      rw [← HF.out] at hO
      rw [hk] at hO hG ⊢
      exact ⟨_, rfl, ⟨a, c, rfl, hO, hG⟩, HB.out⟩
    · have b1 : ((p : Int) == 0) = false := beq_eq_false_iff_ne.2 (by omega)
      have b2 : ((p : Int) != 0) = true := bne_iff_ne.2 (by omega)
      have b3 : (p == 0) = false := beq_eq_false_iff_ne.2 h0
      have hD := HH.out.1.below (HB.out.mono HH.out.1.le)
      have hkl : k + 1 ≤ 64 := by have h1 := HS.out.1; have h2 := HS.out.2.1; have h3 := HH.out.2.2; rw [h1, List.length_append, hr0, List.length_cons] at h3; omega
      obtain ⟨q, hq⟩ : ∃ q, q = wr.heap.size := ⟨_, rfl⟩
      have HX := Lib.hid (And.intro hr0 (And.intro ha' (And.intro hs' (And.intro hup' (And.intro hD (And.intro hq hkl))))))
      clear h0 hr0 ha' hs' hup' hD hq hkl
      go_wp2_with (at_builtin; refine halt_mk ?_)
      refine halt_go ?_
      rw [← HX.out.2.2.2.2.2.1]
      generalize hW : World.alloc _ _ = W1
      have U1 : Upd wr W1 (fun _ => False) := by rw [← hW]; exact (Upd.refl wr _).alloc _
      have X1 : Blk W1 q [.int .u64 (p : Nat)] 46 := by rw [← hW]; exact Blk.new' HX.out.2.2.2.2.2.1
      have O1 := own_keep HO.out U1 (fun _ _ h => h)
      refine wpl_app (n := k) (m := 1) rfl rfl elemHd Tryd.underlying42 rfl O1 rfl (Rd.ofBlk X1 1 1 rfl) (by intro u hu; simp at hu; subst hu; rfl) (by have := HX.out; omega) ?_
      rintro v2 W2 ⟨O2, U2, b4⟩
      obtain ⟨a2, c2, rfl, _⟩ := (Rd.ofOwn O2).form
      have hwr := HB.out.size
      have G2 : ∀ g, (Value.slice a2 (k + 1) c2).ownBlock = some g → w.heap.size ≤ g := fun g hg => by
        rcases b4 with e | e
        · exact HG.out g (e.symm.trans hg)
        · have := ob_some (e.symm.trans hg)
          have := U1.size
          omega
      have B2 : Below w.heap.size wr W2 := (U1.below hwr (fun _ _ h => h)).trans (U2.below (Nat.le_trans hwr U1.size) (fun g hg e => by have := HG.out g e; omega))
      have C := parentR_any B d S roots ts p i' s' W2 (HX.out.2.2.2.2.1.below (B2.mono HH.out.1.le)) HX.out.2.1 HX.out.2.2.1
      have HC := Lib.hid C
      obtain ⟨p2, hp2⟩ : ∃ p2, p2 = s'.p := ⟨_, rfl⟩
      rw [← hp2] at HC
      have HF := Lib.hid (And.intro O2 (And.intro G2 (And.intro B2 hp2)))
      clear hW U1 X1 O1 O2 U2 b4 hwr G2 B2 C hp2
      go_wp2_with fail
      refine HC.out.mono ?_
      rintro e w3 ⟨rfl, B3⟩
      have H3 := Lib.hid B3
      clear B3 HC
      go_wp2
      go_roundg (rs.length - 1)
      case measure => have := HK.out; have h1 := congrArg List.length HX.out.1; rw [List.length_cons] at h1; omega
      case rel =>
        obtain ⟨O2, G2, B2, hp2⟩ := HF.out
        obtain ⟨hr0, ha', hs', hup', hD, hq, hkl⟩ := HX.out
        refine ⟨dn ++ [p], _, p2, a2, k + 1, c2, rfl, rfl, Lib.hid ?_, Lib.hid ⟨?_, ?_, by rw [hp2]; exact hup'⟩, Lib.hid ?_, Lib.hid G2, Lib.hid ((HB.out.trans B2).trans (H3.out.mono (HB.out.trans B2).size))⟩
        · rw [hr0]; rfl
        · rw [HS.out.1, hr0, List.append_assoc]; rfl
        · rw [List.length_append, HS.out.2.1]; rfl
        · rw [hcv_app]
          exact own_keep O2 (Upd.ofBelow (F := fun _ => False) H3.out) (fun _ _ h => h)

/-- The node that a number means. -/
def meantN (S : List Im.Sl) (ts : List Im.LT) (n : Nat) (how : Bool) : Nat := if how = true ∧ 0 < (Im.preL ts).length then ((Im.preL ts).map (Im.hdl S)).getD (n % (Im.preL ts).length) 0 else n

set_option maxRecDepth 100000 in
set_option maxHeartbeats 1600000 in
theorem meant_any (B d : Nat) (S : List Im.Sl) (roots : List Nat) (ts : List Im.LT) (n : Nat) (how : Bool) (w : World) (hD : RDoc w B d S roots ts) (hn : n < 18446744073709551616) :
    Calls Tryd.prog 26 #[.pointer (some ⟨d, 0, none⟩), .int .u64 (n : Nat), .bool how] w (fun e w' => e = .returned (.int .u64 (meantN S ts n how : Nat)) ∧ Below w.heap.size w w') := by
  have C := allR_any B d S roots ts 0 ((Im.preL ts).map (Im.hdl S)) w hD (Or.inl ⟨rfl, rfl⟩)
  have hc := hD.val.count
  obtain ⟨L, hL⟩ : ∃ L, L = (Im.preL ts).map (Im.hdl S) := ⟨_, rfl⟩
  have hLl : L.length = (Im.preL ts).length := by rw [hL, List.length_map]
  rw [← hL] at C
  obtain ⟨z, hz⟩ : ∃ z, z = meantN S ts n how := ⟨_, rfl⟩
  rw [← hz]
  unfold meantN at hz
  rw [← hLl, ← hL] at hz
  have HC := Lib.hid C
  have HZ := Lib.hid hz
  have HH := Lib.hid (And.intro hn (show L.length ≤ 4096 by omega))
  clear C hz hn hc hL hLl hD
  go_enter Tryd.func26, Tryd.ntmps26
  go_wp2_with fail
  refine HC.out.mono ?_
  rintro e w1 ⟨v, rfl, ⟨a, c, rfl, O, _⟩, B1⟩
  obtain ⟨m, hm⟩ : ∃ m, m = L.length := ⟨_, rfl⟩
  rw [← hm]
  have HO := Lib.hid (And.intro O (And.intro B1 hm))
  clear O B1 HC hm
  cases how with
  | false =>
    have hz := HZ.out
    rw [if_neg (by simp)] at hz
    have HZ2 := Lib.hid hz
    clear hz
    go_wp2
    go_ret
    exact ⟨by rw [HZ2.out]; rfl, HO.out.2.1⟩
  | true =>
    by_cases hm0 : m = 0
    · have hz := HZ.out
      rw [if_neg (by have := HO.out.2.2; omega)] at hz
      have HZ2 := Lib.hid hz
      subst hm0
      clear hz
      go_wp2
      go_ret
      exact ⟨by rw [HZ2.out]; rfl, HO.out.2.1⟩
    · have hm1 : (0 : Int) < (m : Int) := by omega
      have hm2 : decide (0 < m) = true := decide_eq_true (by omega)
      have hlt := Nat.mod_lt n (show 0 < m by omega)
      have hz := HZ.out
      obtain ⟨r, hr⟩ : ∃ r, r = n % m := ⟨_, rfl⟩
      rw [if_pos ⟨rfl, by have := HO.out.2.2; omega⟩, ← HO.out.2.2, ← hr] at hz
      rw [← hr] at hlt
      obtain ⟨x, hx⟩ : ∃ x, L[r]? = some x := ⟨L[r]'(by have := HO.out.2.2; omega), List.getElem?_eq_getElem _⟩
      have hzx : z = x := by rw [hz, List.getD_eq_getElem?_getD, hx]; rfl
      obtain ⟨lg, loff, lc', el, hlc, hcell⟩ := (Rd.ofOwn HO.out.1).at_ (hcv_at hx)
      simp only [Value.slice.injEq] at el
      obtain ⟨rfl, _, rfl⟩ := el
      rw [← HO.out.2.2] at hlc
      have k1 : IntKind.u64.wrap (m : Int) = (m : Int) := by
        have := HH.out.2
        have := HO.out.2.2
        rw [IntKind.wrap_u64]
        omega
      have k2 : Int.tmod (n : Int) (m : Int) = (r : Int) := by rw [hr, Int.tmod_eq_emod_of_nonneg (by omega)]; omega
      have k3 : ((n : Int) % (m : Int)) = (r : Int) := by rw [hr]; omega
      have r0 : (0 : Int) ≤ (r : Int) := by omega
      have r1 : (r : Int) < (m : Int) := by omega
      have k4 : ((m : Int) == 0) = false := beq_eq_false_iff_ne.2 (by omega)
      have HX := Lib.hid hzx
      clear hz hzx hx hlt hr hm0
      go_wp2
      go_ret
      exact ⟨by rw [HX.out]; rfl, HO.out.2.1⟩

end Df
end Go.Proofs.YtemmkobgpciflaaDoor
