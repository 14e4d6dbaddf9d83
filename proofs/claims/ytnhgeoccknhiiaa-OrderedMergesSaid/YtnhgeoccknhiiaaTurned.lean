/- The items of a list the other way about. -/
import Derived.Test.YtnhgeoccknhiiaaOrdH
import Derived.Test.YtnhgeoccknhiiaaBackI
namespace Go.Proofs.Ytnhgeoccknhiiaa
open Go.RowKit Go.Shelf
namespace OrdI

theorem OwnNew.snoc {w w' W w'' : World} {v v'' : Value} {M : List It} {y : It} (h : OwnNew w w' v M) (T : Upd w' W (fun _ => False)) (hA : AppPost W 36 2 v M.length (cells M) 1 (icells y) v'' w'') : OwnNew w w'' v'' (M ++ [y]) := by
  obtain ⟨O, U, hv⟩ := h
  obtain ⟨O2, U2, b2⟩ := hA
  have e : cells (M ++ [y]) = cells M ++ icells y := by rw [cells_append, cells_cons, cells_nil, List.append_nil]
  refine ⟨by rw [e, List.length_append]; exact O2, (U.trans T (fun _ _ h => h)).trans U2 (fun i hi e => by have := hv i e; omega), fun g hg => ?_⟩
  rcases b2 with e2 | e2
  · exact hv g (e2 ▸ hg)
  · have := ob_some (e2.symm.trans hg)
    have := U.size
    have := T.size
    omega
theorem OwnNew.rd {w w' : World} {v : Value} {M : List It} (h : OwnNew w w' v M) : Rd w' v M.length 2 (cells M) := Rd.ofOwn h.1

set_option maxRecDepth 20000 in
theorem turned_any (v : Value) (L : List It) (w : World) (h : Rd w v L.length 2 (cells L)) (hl : L.length ≤ 8192) :
    Calls Try.prog 82 #[v] w fun e w' => ∃ v', e = .returned v' ∧ OwnNew w w' v' L.reverse := by
  obtain ⟨a, c, rfl, _⟩ := h.form
  have HR := Lib.hid h
  clear h
  go_enter Try.func82, Try.ntmps82
  obtain ⟨g0, hg0⟩ : ∃ g0, g0 = w.heap.size := ⟨_, rfl⟩
  go_wp2_with fail
  rw [← hg0]
  have S0 : Hid (OwnNew w (w.alloc (.cells #[] 36)) (.slice (some ⟨g0, 0, none⟩) 0 0) []) := Lib.hid ⟨own_lit_sz hg0, (Upd.refl w _).alloc _, fun g hg => by have := ob_eq hg; omega⟩
  clear hg0
  generalize World.alloc _ _ = W0 at S0 ⊢
  go_loopg [3, 4] L.length (fun kq v3 v4 w' => ∃ k : Nat, v4 = .int .i64 ((L.length : Int) - 1 - (k : Int)) ∧ Hid (kq = L.length - k ∧ k ≤ L.length) ∧ Hid (OwnNew w w' v3 (L.reverse.take k)))
  case atStart => exact ⟨0, by first | rfl | simp, Lib.hid ⟨by omega, Nat.zero_le _⟩, S0⟩
  case round =>
    obtain ⟨k, rfl, HI, HO⟩ := hrel
    by_cases hk : k < L.length
    · obtain ⟨i, hi⟩ : ∃ i : Nat, i = L.length - 1 - k := ⟨_, rfl⟩
      have hi2 : (L.length : Int) - 1 - (k : Int) = (i : Int) := by omega
      have hi3 : (0 : Int) ≤ (i : Int) := by omega
      have hi4 : (i : Int) < (L.length : Int) := by omega
      obtain ⟨y, hy⟩ : ∃ y, L[i]? = some y := ⟨L[i]'(by omega), List.getElem?_eq_getElem _⟩
      have hyr : L.reverse[k]? = some y := by rw [List.getElem?_reverse hk, ← hi]; exact hy
      obtain ⟨g, off, c', e1, _, c0, c1⟩ := it_at (HR.out.keep HO.out.2.1 (fun _ _ h => h)) hy
      cases e1
      obtain ⟨a3, c3, e3, _⟩ := HO.out.rd.form
      subst e3
      have lk : (L.reverse.take k).length = k := by rw [List.length_take, List.length_reverse]; omega
      have HY := Lib.hid (And.intro hyr hi2)
      rw [hi2]
      have d0 : decide ((i : Int) ≥ 0) = true := decide_eq_true hi3
      clear hy hyr hi hi2
      go_wp2_with (at_builtin; refine halt_mk ?_)
      refine halt_go ?_
      generalize hW : World.alloc _ _ = W
      have T1 : Upd wr W (fun _ => False) := by rw [← hW]; exact (Upd.refl wr _).alloc _
      have X1 : Blk W wr.heap.size (icells y) 36 := by rw [← hW]; exact Blk.new' rfl
      clear hW
      refine wpl_app rfl rfl elem Try.underlying30 rfl (own_keep HO.out.1 T1 (fun _ _ h => h)) rfl (Rd.ofBlk X1 1 2 rfl) (by simp [icells, Value.oneCell']) (by omega) ?_
      intro v2 w5 hA
      have HO2 : Hid (OwnNew w w5 v2 (L.reverse.take k ++ [y])) := Lib.hid (HO.out.snoc T1 hA)
      clear hA T1 X1
      go_wp2
      go_roundg (L.length - (k + 1))
      case rel =>
        refine ⟨k + 1, by have := HY.out.2; go_num, Lib.hid ⟨rfl, by omega⟩, ?_⟩
        rw [← take_next HY.out.1]
        exact HO2
      case measure => have := HI.out; omega
    · obtain rfl : k = L.length := by have := HI.out; omega
      have hn : (L.length : Int) - 1 - (L.length : Int) = -1 := by omega
      rw [hn]
      go_wp2
      go_ret
      refine ⟨_, rfl, ?_⟩
      have := HO.out
      rw [List.take_of_length_le (by rw [List.length_reverse]; exact Nat.le_refl _)] at this
      exact this

end OrdI
end Go.Proofs.Ytnhgeoccknhiiaa
