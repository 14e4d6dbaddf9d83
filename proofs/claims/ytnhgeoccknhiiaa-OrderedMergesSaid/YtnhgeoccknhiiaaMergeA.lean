/- Merge: what both sides do; what holds between two rounds. -/
import Derived.Test.YtnhgeoccknhiiaaRises2
namespace Go.Proofs.Ytnhgeoccknhiiaa
open Go.RowKit
namespace OrdI

def MergePost (w : World) (ls : List (List It)) (e : Ending) (w' : World) : Prop :=
  (8192 < total ls ∧ e = .returned (.tuple #[.slice none 0 0, .int .i64 2]) ∧ Below w.heap.size w w') ∨
  (total ls ≤ 8192 ∧ (¬ ∀ l ∈ ls, Rises l) ∧ e = .returned (.tuple #[.slice none 0 0, .int .i64 71]) ∧ Below w.heap.size w w') ∨
  (total ls ≤ 8192 ∧ (∀ l ∈ ls, Rises l) ∧ ∃ v, e = .returned (.tuple #[v, .int .i64 0]) ∧ OwnNew w w' v (mergeAll ls))

theorem elemN : Elem Try.prog 3 1 8 (.int .i64 0) := Elem.mk' (by kernel_rfl) rfl (by omega) (by omega)
theorem own_whole {w : World} {b e g n : Nat} {xs : List Value} (h : w.ownsRow b e 1 (.slice (some ⟨g, 0, none⟩) n n) n xs) : Blk w g xs e := by
  obtain ⟨hl, ⟨h1, _⟩ | ⟨g', cap, cur, h1, _, hg, _, _, hs, ht⟩⟩ := h
  · cases h1
  · cases h1
    rw [List.take_of_length_le (by simp; omega)] at ht
    unfold Blk
    rw [hg, ← ht]
def nints (N : List Nat) : List Value := N.map fun n : Nat => Value.int .i64 (n : Int)
theorem made_nints (n : Nat) : (madeCells (Value.int .i64 0).cells (n * 1)).toList = nints (List.replicate n 0) := by
  unfold nints
  rw [List.map_replicate, Nat.mul_one]
  apply List.ext_getElem?
  intro i
  by_cases h : i < n
  · simp [madeCells, Value.cells, List.getElem?_replicate, h, Nat.mod_one]
  · simp [madeCells, List.getElem?_replicate, h]
theorem nints_get {N : List Nat} {j n : Nat} (h : N[j]? = some n) : (nints N)[j]? = some (.int .i64 (n : Int)) := by
  unfold nints
  rw [List.getElem?_map, h]
  rfl
theorem nints_set (N : List Nat) (j n : Nat) : (nints N).set j (.int .i64 (n : Int)) = nints (N.set j n) := by
  unfold nints
  rw [List.map_set]

/-- Between two rounds. -/
structure Ms (w : World) (ls : List (List It)) (ag : Nat) (O : List It) (N : List Nat) (v : Value) (W : World) : Prop where
  len : N.length = ls.length
  fit : ∀ (j : Nat) (l : List It) (n : Nat), ls[j]? = some l → N[j]? = some n → n ≤ l.length
  sum : O ++ mergeAll (rests ls N) = mergeAll ls
  at_ : Blk W ag (nints N) 3
  own : W.ownsRow 0 36 2 v O.length (cells O)
  new : ∀ g, v.ownBlock = some g → w.heap.size ≤ g
  low : w.heap.size ≤ ag
  upd : Upd w W (fun _ => False)
section
variable {w W W' : World} {ls : List (List It)} {ag : Nat} {O : List It} {N : List Nat} {v : Value}
theorem Ms.grow (h : Ms w ls ag O N v W) (U : Upd W W' (fun _ => False)) : Ms w ls ag O N v W' :=
  ⟨h.len, h.fit, h.sum, U.blk h.at_ (fun h => h), own_keep h.own U (fun _ _ h => h), h.new, h.low, h.upd.trans U (fun _ _ h => h)⟩
theorem Ms.below (h : Ms w ls ag O N v W) : Below w.heap.size w W := h.upd.below (Nat.le_refl _) (fun _ _ h => h)
theorem Ms.more (h : Ms w ls ag O N v W) (hO : O.length < total ls) : ¬ NoneOf (rests ls N) ls.length := by
  intro hn
  have e := h.sum
  rw [NoneOf.done (by rw [rests_len h.len]; exact hn)] at e
  have := congrArg List.length e
  rw [List.append_nil, mergeAll_len] at this
  omega
theorem Ms.done (h : Ms w ls ag O N v W) (hO : ¬ O.length < total ls) : O = mergeAll ls := by
  have e := h.sum
  have hl := congrArg List.length e
  rw [List.length_append, mergeAll_len ls] at hl
  have : mergeAll (rests ls N) = [] := List.eq_nil_of_length_eq_zero (by omega)
  rw [this, List.append_nil] at e
  exact e
theorem Ms.le (h : Ms w ls ag O N v W) : O.length ≤ total ls := by
  have hl := congrArg List.length h.sum
  rw [List.length_append, mergeAll_len ls] at hl
  omega
/-- The best one is appended. -/
theorem Ms.app {W8 W9 : World} {v2 : Value} {b n : Nat} {l : List It} {x : It} (h : Ms w ls ag O N v W) (hl : ls[b]? = some l) (hn : N[b]? = some n) (hx : l[n]? = some x) (hb : BestOf (rests ls N) ls.length b x (l.drop (n + 1)))
    (T1 : Upd W W8 (fun _ => False)) (hA : AppPost W8 36 2 v O.length (cells O) 1 (icells x) v2 W9) :
    Blk W9 ag (nints N) 3 ∧ Below w.heap.size w W9 ∧ Ms w ls ag (O ++ [x]) (N.set b (n + 1)) v2 (W9.setCell ⟨ag, b, none⟩ (.int .i64 ((n + 1 : Nat) : Int))) := by
  obtain ⟨O9, U9, b9⟩ := hA
  have hag : ¬ v.ownBlock = some ag := fun e => by
    obtain ⟨us, hv⟩ := own_ty h.own e
    exact hv.ty h.at_ (by decide) rfl
  have U8 := h.upd.trans T1 (fun _ _ h => h)
  have U : Upd w W9 (fun _ => False) := U8.trans U9 (fun k hk e => by have := h.new k e; omega)
  have A9 : Blk W9 ag (nints N) 3 := U9.blk (T1.blk h.at_ (fun h => h)) hag
  have Us : Upd W9 (W9.setCell ⟨ag, b, none⟩ (.int .i64 ((n + 1 : Nat) : Int))) (· = ag) := (Upd.refl W9 _).set _ _ (fun _ => rfl)
  have ec : cells (O ++ [x]) = cells O ++ icells x := by rw [cells_append, cells_cons, cells_nil, List.append_nil]
  have hbl := (List.getElem?_eq_some_iff.1 hn).1
  refine ⟨A9, U.below (Nat.le_refl _) (fun _ _ h => h), ⟨by rw [List.length_set]; exact h.len, fun j l' n' hl' hn' => ?_, ?_, ?_, ?_, fun g hg => ?_, h.low, U.trans Us (fun k hk e => by have := h.low; have e : k = ag := e; omega)⟩⟩
  · rw [List.getElem?_set] at hn'
    by_cases e : b = j
    · subst e
      rw [if_pos rfl, if_pos hbl] at hn'
      rw [hl] at hl'
      cases hn'
      cases hl'
      exact (List.getElem?_eq_some_iff.1 hx).1
    · rw [if_neg e] at hn'
      exact h.fit j l' n' hl' hn'
  · have hb' : BestOf (rests ls N) (rests ls N).length b x (l.drop (n + 1)) := by rw [rests_len h.len]; exact hb
    rw [← h.sum, hb'.step, rests_set hl hn]
    simp
  · have := A9.set b (.int .i64 ((n + 1 : Nat) : Int))
    rw [nints_set] at this
    exact this
  · rw [ec, List.length_append]
    refine own_keep O9 Us (fun g hg e => ?_)
    obtain ⟨us, hv⟩ := own_ty O9 hg
    exact hv.ty A9 (by decide) e
  · rcases b9 with e | e
    · exact h.new g (e ▸ hg)
    · have := ob_some (e.symm.trans hg)
      have := U8.size
      omega
end
theorem drop_cons {α : Type} {l : List α} {n : Nat} {y : α} (h : l[n]? = some y) : l.drop n = y :: l.drop (n + 1) := by
  obtain ⟨hn, e⟩ := List.getElem?_eq_some_iff.1 h
  rw [← e]
  exact List.drop_eq_getElem_cons hn

/-- What the inner loop has found. -/
def Found (ls : List (List It)) (N : List Nat) (i : Nat) (z : Int) : Prop :=
  (z = -1 ∧ NoneOf (rests ls N) i) ∨ ∃ (b n : Nat) (l : List It) (x : It), z = (b : Int) ∧ ls[b]? = some l ∧ N[b]? = some n ∧ l[n]? = some x ∧ BestOf (rests ls N) i b x (l.drop (n + 1))

end OrdI
end Go.Proofs.Ytnhgeoccknhiiaa
