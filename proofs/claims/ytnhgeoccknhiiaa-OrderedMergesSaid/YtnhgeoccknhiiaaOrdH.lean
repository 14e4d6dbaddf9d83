/- What the laws of lists in an order are told with: items, some, turned. -/
import Derived.Test.YtnhgeoccknhiiaaDrop
namespace Go.Proofs.Ytnhgeoccknhiiaa
open Go.RowKit
namespace OrdI

def someL (L : List It) (stop : Int) : List It := if 0 < stop ∧ stop < (L.length : Int) then L.take stop.toNat else L

set_option maxRecDepth 20000 in
theorem items_any (va vb : Value) (A B : List It) (w : World) (ha : Rd w va A.length 2 (cells A)) (hb : Rd w vb B.length 2 (cells B)) (hA : A.length ≤ 9000000000000) (hB : B.length ≤ 9000000000000) :
    Calls Try.prog 33 #[va, vb] w fun e w' => e = .returned (.bool (decide (A = B))) ∧ Below w.heap.size w w' := by
  obtain ⟨a, c, rfl, _⟩ := ha.form
  obtain ⟨b, d, rfl, _⟩ := hb.form
  have HR := Lib.hid (And.intro ha hb)
  clear ha hb
  go_enter Try.func33, Try.ntmps33
  by_cases hl : A.length = B.length
  · have dl : ((A.length : Int) != (B.length : Int)) = false := by rw [hl]; simp
    have hle := Lib.hid hl
    have hd2 : ((B.length : Int) != (B.length : Int)) = false := by simp
    go_wp2_with fail
    go_loopg [5] A.length (fun kq v5 w' => ∃ i : Nat, v5 = .int .i64 i ∧ Hid (kq = A.length - i ∧ i ≤ A.length) ∧ Hid (∀ t, t < i → A[t]? = B[t]?) ∧ Hid (Below w.heap.size w w'))
    case atStart => exact ⟨0, rfl, Lib.hid ⟨rfl, Nat.zero_le _⟩, Lib.hid (fun t h => by omega), Lib.hid (Below.refl _ _)⟩
    case round =>
      obtain ⟨i, rfl, HI, HK, HB⟩ := hrel
      have hi0 : (0 : Int) ≤ (i : Int) := by omega
      by_cases hi : i < A.length
      · obtain ⟨x, hx⟩ : ∃ x, A[i]? = some x := ⟨A[i], List.getElem?_eq_getElem hi⟩
        obtain ⟨y, hy⟩ : ∃ y, B[i]? = some y := ⟨B[i]'(by omega), List.getElem?_eq_getElem _⟩
        have U : Upd w wr (fun _ => False) := Upd.ofBelow HB.out
        obtain ⟨g, off, c', e1, _, x0, x1⟩ := it_at (HR.out.1.keep U (fun _ _ h => h)) hx
        cases e1
        obtain ⟨g2, off2, c2', e2, _, y0, y1⟩ := it_at (HR.out.2.keep U (fun _ _ h => h)) hy
        cases e2
        have hi1 : (i : Int) < (A.length : Int) := by omega
        have hi2 : decide ((i : Int) < (A.length : Int)) = true := decide_eq_true hi1
        have hi3 : (i : Int) < (B.length : Int) := by omega
        have HXY := Lib.hid (And.intro hx hy)
        clear hx hy U
        by_cases hxy : x = y
        · have HE := Lib.hid hxy
          have ek : x.k = y.k := by rw [hxy]
          have em : x.m = y.m := by rw [hxy]
          clear hxy
          go_wp2_with fail
          go_quiet (fail)
          go_wp2_with fail
          go_roundg (A.length - (i + 1))
          case rel =>
            refine ⟨i + 1, by go_num, Lib.hid ⟨rfl, by omega⟩, Lib.hid (fun t ht => ?_), Lib.hid (HB.out.trans (((Upd.refl wr (fun _ => False)).drewN _).below HB.out.size (fun _ _ h => h)))⟩
            by_cases e : t = i
            · subst e
              rw [HXY.out.1, HXY.out.2, HE.out]
            · exact HK.out t (by omega)
          case measure => have := HI.out; omega
        · have HE := Lib.hid hxy
          by_cases hk : x.k = y.k
          · have hm : ¬ x.m = y.m := fun h => hxy (by cases x; cases y; simp_all)
            clear hxy
            go_wp2_with fail
            go_quiet (fail)
            go_wp2
            go_ret
            have hne : A ≠ B := fun e => HE.out (by
              have h1 := HXY.out.1
              rw [e, HXY.out.2] at h1
              exact (Option.some.inj h1).symm)
            exact ⟨by rw [decide_eq_false hne]; rfl, HB.out.trans (((Upd.refl wr (fun _ => False)).drewN _).below HB.out.size (fun _ _ h => h))⟩
          · clear hxy
            go_wp2_with fail
            go_quiet (fail)
            go_wp2
            go_ret
            have hne : A ≠ B := fun e => HE.out (by
              have h1 := HXY.out.1
              rw [e, HXY.out.2] at h1
              exact (Option.some.inj h1).symm)
            exact ⟨by rw [decide_eq_false hne]; rfl, HB.out.trans (((Upd.refl wr (fun _ => False)).drewN _).below HB.out.size (fun _ _ h => h))⟩
      · have hi1 : ¬ (i : Int) < (A.length : Int) := by omega
        have hi2 : decide ((i : Int) < (A.length : Int)) = false := decide_eq_false hi1
        go_wp2
        go_ret
        have hee : A = B := by
          apply List.ext_getElem?
          intro t
          by_cases ht : t < i
          · exact HK.out t ht
          · rw [List.getElem?_eq_none (by omega), List.getElem?_eq_none (by omega)]
        exact ⟨by rw [decide_eq_true hee]; rfl, HB.out⟩
  · have dl : ((A.length : Int) != (B.length : Int)) = true := by rw [bne_iff_ne]; omega
    go_wp2
    go_ret
    have hne : A ≠ B := fun e => hl (by rw [e])
    exact ⟨by rw [decide_eq_false hne]; rfl, Below.refl _ _⟩

theorem some_any (v : Value) (L : List It) (stop : Int) (w : World) (h : Rd w v L.length 2 (cells L)) :
    Calls Try.prog 81 #[v, .int .i64 stop] w fun e w' => ∃ v', e = .returned v' ∧ Rd w v' (someL L stop).length 2 (cells (someL L stop)) ∧ w' = w := by
  obtain ⟨a, c, rfl, hc⟩ := h.form
  by_cases h1 : 0 < stop
  · by_cases h2 : stop < (L.length : Int)
    · have e : someL L stop = L.take stop.toNat := by unfold someL; rw [if_pos ⟨h1, h2⟩]
      rw [e]
      obtain ⟨n, rfl⟩ : ∃ n : Nat, stop = (n : Int) := ⟨stop.toNat, by omega⟩
      obtain ⟨s, r, R, _⟩ := h.cutH elem Try.underlying30 (k := n) (by omega) .i64
      rw [cells_take] at R
      have hl : (L.take n).length = n := by rw [List.length_take]; omega
      have HR := Lib.hid (And.intro R hl)
      have d1 : decide ((n : Int) > 0) = true := decide_eq_true h1
      have d2 : decide ((n : Int) < (L.length : Int)) = true := decide_eq_true h2
      clear h R e hl
      go_enter Try.func81, Try.ntmps81
      go_wp2
      go_ret
      exact ⟨_, rfl, by
        have := HR.out.1
        rw [show ((n : Int)).toNat = n by omega, HR.out.2]
        exact this, rfl⟩
    · have e : someL L stop = L := by unfold someL; rw [if_neg (fun h => h2 h.2)]
      rw [e]
      have HR := Lib.hid h
      have d1 : decide (stop > 0) = true := decide_eq_true h1
      have d2 : decide (stop < (L.length : Int)) = false := decide_eq_false h2
      clear h e
      go_enter Try.func81, Try.ntmps81
      go_wp2
      go_ret
      exact ⟨_, rfl, HR.out, rfl⟩
  · have e : someL L stop = L := by unfold someL; rw [if_neg (fun h => h1 h.1)]
    rw [e]
    have HR := Lib.hid h
    have d1 : decide (stop > 0) = false := decide_eq_false h1
    clear h e
    go_enter Try.func81, Try.ntmps81
    go_wp2
    go_ret
    exact ⟨_, rfl, HR.out, rfl⟩

end OrdI
end Go.Proofs.Ytnhgeoccknhiiaa
