/- Lists of attributes compared: the document's Attrs. -/
import Derived.Test.YtemmkobgpciflaaDoorEqS
namespace Go.Proofs.YtemmkobgpciflaaDoor
open Go.RowKit

def EqPost (w : World) (al bl : List Att) (e : Ending) (w' : World) : Prop := ∃ r, e = .returned (.bool r) ∧ (r = true ↔ al = bl) ∧ Below w.heap.size w w'

theorem eq_atts {al bl : List Att} (hl : al.length = bl.length) (h : ∀ j, j < al.length → al[j]? = bl[j]?) : al = bl := by
  apply List.ext_getElem? 
  intro j
  by_cases hj : j < al.length
  · exact h j hj
  · rw [List.getElem?_eq_none (by omega), List.getElem?_eq_none (by omega)]

set_option maxRecDepth 100000 in
set_option maxHeartbeats 4000000 in
theorem eqA_any (al bl : List Att) (aa ab : Option Addr) (ca cb : Nat) (w : World) (h1 : Rd w (.slice aa al.length ca) al.length 2 (atc al)) (h2 : Rd w (.slice ab bl.length cb) bl.length 2 (atc bl)) (hs : al.length * 32 ≤ 140737488351232) : Calls Tryd.prog 63 #[.slice aa al.length ca, .slice ab bl.length cb] w (EqPost w al bl) := by
  have HH := Lib.hid (And.intro h1 (And.intro h2 hs))
  clear h1 h2 hs
  by_cases hl : al.length = bl.length
  · have hl1 : decide ((al.length : Int) ≠ (bl.length : Int)) = false := decide_eq_false (by omega)
    obtain ⟨m, hm⟩ : ∃ m, m = bl.length := ⟨_, rfl⟩
    have HL := Lib.hid (And.intro hl hm)
    rw [← hm] at hl ⊢
    rw [hl]
    clear hl hl1 hm
    go_enter Tryd.func63, Tryd.ntmps63
    go_wp2
    go_loopg [5] m (fun kq v5 w' => ∃ i : Nat, v5 = .int .i64 i ∧ Hid (kq = m - i ∧ i ≤ m ∧ ∀ j, j < i → al[j]? = bl[j]?) ∧ Hid (Below w.heap.size w w'))
    case atStart => exact ⟨0, rfl, Lib.hid ⟨rfl, Nat.zero_le _, fun j hj => by omega⟩, Lib.hid (Below.refl _ _)⟩
    case round =>
      obtain ⟨i, rfl, HJ, HB⟩ := hrel
      have hi0 : (0 : Int) ≤ (i : Int) := by omega
      by_cases hi : i < m
      · have hi1 : (i : Int) < (m : Int) := by omega
        have hi2 : decide (i < m) = true := decide_eq_true hi
        obtain ⟨x, hx⟩ : ∃ x, al[i]? = some x := ⟨al[i]'(by have := HL.out; omega), List.getElem?_eq_getElem _⟩
        obtain ⟨y, hy⟩ : ∃ y, bl[i]? = some y := ⟨bl[i]'(by have := HL.out; omega), List.getElem?_eq_getElem _⟩
        have U := Upd.ofBelow (F := fun _ => False) HB.out
        obtain ⟨g, off, rfl, hca, k0, k1⟩ := atts_at (HH.out.1.keep U (fun _ _ h => h)) hx
        obtain ⟨g2, off2, rfl, hcb, k2, k3⟩ := atts_at (HH.out.2.1.keep U (fun _ _ h => h)) hy
        have hca' : m ≤ ca := by have := HL.out; omega
        have hcb' : m ≤ cb := by have := HL.out; omega
        have HX := Lib.hid (And.intro hx (And.intro hy hi))
        clear hx hy hi hca hcb U
        obtain ⟨n1, t1⟩ := x
        obtain ⟨n2, t2⟩ := y
        simp only at k0 k1 k2 k3
        by_cases he : (n1, t1) = (n2, t2)
        · obtain ⟨rfl, rfl⟩ := Prod.mk.inj he
          go_wp2
          apply wp_reg (fun w' : World => w'.cell? ⟨g, off + i * 2, none⟩ = some (.string n1) ∧ w'.cell? ⟨g, off + i * 2 + 1, none⟩ = some (.string t1) ∧ w'.cell? ⟨g2, off2 + i * 2, none⟩ = some (.string n1) ∧ w'.cell? ⟨g2, off2 + i * 2 + 1, none⟩ = some (.string t1)) [0, 1, 2, 3, 4, 5, 6, 7, 8] [] [] (by kernel_rfl) (by kernel_rfl) (fun _ _ d _ _ h => by cases d <;> exact h) ⟨k0, k1, k2, k3⟩
          · iterate 9 (apply reads_consL rfl rfl; (· intro w0 hS; obtain ⟨hS1, hS2, hS3, hS4⟩ := hS; go_simp; try rfl); simp only [Act.put, List.setIfInBounds_toArray, List.set_cons_zero, List.set_cons_succ])
            exact rfl
          refine tail_zero ?_
          go_wp2
          go_roundg (m - (i + 1))
          case measure => have := HJ.out; have := HX.out; omega
          case rel =>
            refine ⟨i + 1, v64s HX.out.2.2 (by have := HL.out; have := HH.out; omega), Lib.hid ⟨rfl, HX.out.2.2, fun j hj => ?_⟩, Lib.hid ?_⟩
            · by_cases ej : j < i
              · exact HJ.out.2.2 j ej
              · obtain rfl : j = i := by omega
                rw [HX.out.1, HX.out.2.1]
            · exact HB.out.drew
        · by_cases hn : n1 = n2
          · subst hn
            have ht : ¬ t1.toList = t2.toList := fun h => he (by rw [toList_inj'.1 h])
            have HE := Lib.hid he
            clear he
            go_wp2
            apply wp_reg (fun w' : World => w'.cell? ⟨g, off + i * 2, none⟩ = some (.string n1) ∧ w'.cell? ⟨g, off + i * 2 + 1, none⟩ = some (.string t1) ∧ w'.cell? ⟨g2, off2 + i * 2, none⟩ = some (.string n1) ∧ w'.cell? ⟨g2, off2 + i * 2 + 1, none⟩ = some (.string t2)) [0, 1, 2, 3, 4, 5, 6, 7, 8] [] [] (by kernel_rfl) (by kernel_rfl) (fun _ _ d _ _ h => by cases d <;> exact h) ⟨k0, k1, k2, k3⟩
            · iterate 9 (apply reads_consL rfl rfl; (· intro w0 hS; obtain ⟨hS1, hS2, hS3, hS4⟩ := hS; go_simp; try rfl); simp only [Act.put, List.setIfInBounds_toArray, List.set_cons_zero, List.set_cons_succ])
              exact rfl
            refine tail_zero ?_
            go_wp2
            go_ret
            refine ⟨false, rfl, ⟨fun h => (by cases h), fun h => ?_⟩, HB.out.drew⟩
            have h1 := HX.out.1
            rw [h, HX.out.2.1] at h1
            exact absurd (Option.some.inj h1).symm HE.out
          · have hn' : ¬ n1.toList = n2.toList := fun h => hn (toList_inj'.1 h)
            have HE := Lib.hid he
            clear he hn
            go_wp2
            apply wp_reg (fun w' : World => w'.cell? ⟨g, off + i * 2, none⟩ = some (.string n1) ∧ w'.cell? ⟨g, off + i * 2 + 1, none⟩ = some (.string t1) ∧ w'.cell? ⟨g2, off2 + i * 2, none⟩ = some (.string n2) ∧ w'.cell? ⟨g2, off2 + i * 2 + 1, none⟩ = some (.string t2)) [0, 1, 2, 3, 4, 5, 6, 7, 8] [] [] (by kernel_rfl) (by kernel_rfl) (fun _ _ d _ _ h => by cases d <;> exact h) ⟨k0, k1, k2, k3⟩
            · iterate 9 (apply reads_consL rfl rfl; (· intro w0 hS; obtain ⟨hS1, hS2, hS3, hS4⟩ := hS; go_simp; try rfl); simp only [Act.put, List.setIfInBounds_toArray, List.set_cons_zero, List.set_cons_succ])
              exact rfl
            refine tail_zero ?_
            go_wp2
            go_ret
            refine ⟨false, rfl, ⟨fun h => (by cases h), fun h => ?_⟩, HB.out.drew⟩
            have h1 := HX.out.1
            rw [h, HX.out.2.1] at h1
            exact absurd (Option.some.inj h1).symm HE.out
      · have hi1 : ¬ (i : Int) < (m : Int) := by omega
        have hi2 : decide (i < m) = false := decide_eq_false hi
        have HE := Lib.hid (And.intro hi HJ.out)
        clear hi
        go_wp2
        go_ret
        have h := HE.out
        exact ⟨true, rfl, ⟨fun _ => eq_atts (HL.out.1) (fun j hj => h.2.2.2 j (by have := HL.out; omega)), fun _ => rfl⟩, HB.out⟩
  · have hl1 : decide ((al.length : Int) ≠ (bl.length : Int)) = true := decide_eq_true (by omega)
    have hl2 : (al.length : Int) ≠ (bl.length : Int) := by omega
    have HL := Lib.hid hl
    clear hl
    go_enter Tryd.func63, Tryd.ntmps63
    go_wp2
    go_ret
    exact ⟨false, rfl, ⟨fun h => (by cases h), fun h => absurd (congrArg List.length h) HL.out⟩, Below.refl _ _⟩

end Go.Proofs.YtemmkobgpciflaaDoor
