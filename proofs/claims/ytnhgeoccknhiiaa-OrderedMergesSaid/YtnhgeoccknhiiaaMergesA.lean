/- What Merge and Both answer, as functions of what comes in; their answers to nil. -/
import Derived.Test.YtnhgeoccknhiiaaMerge
import Derived.Test.YtnhgeoccknhiiaaRMerge
import Derived.Test.YtnhgeoccknhiiaaBothP
namespace Go.Proofs.Ytnhgeoccknhiiaa
open Go.RowKit
namespace OrdI

theorem mergeN_none (w : World) : Calls Try.prog 34 #[.nilFunc, .slice none 0 0] w fun e w' => e = .returned (.tuple #[.slice none 0 0, .int .i64 1]) ∧ w' = w := by
  have qn : ∀ (w : World), (binOp .eql 28 .nilFunc .nilFunc).run Try.prog w = .ok (.bool true) w := fun _ => by kernel_rfl
  go_enter Try.func34, Try.ntmps34
  go_wp2
  go_ret2
  exact ⟨rfl, rfl⟩
theorem bothN_none (w : World) : Calls Try.prog 35 #[.nilFunc, .slice none 0 0, .slice none 0 0] w fun e w' => e = .returned (.tuple #[.slice none 0 0, .int .i64 1]) ∧ w' = w := by
  have qn : ∀ (w : World), (binOp .eql 28 .nilFunc .nilFunc).run Try.prog w = .ok (.bool true) w := fun _ => by kernel_rfl
  go_enter Try.func35, Try.ntmps35
  go_wp2
  go_ret2
  exact ⟨rfl, rfl⟩

open Classical in
noncomputable def mcode (ls : List (List It)) : Int := if 8192 < total ls then 2 else if ∀ l ∈ ls, Rises l then 0 else 71
open Classical in
noncomputable def mlist (ls : List (List It)) : List It := if 8192 < total ls then [] else if ∀ l ∈ ls, Rises l then mergeAll ls else []
theorem mlist_len (ls : List (List It)) : (mlist ls).length ≤ 8192 := by
  unfold mlist
  split
  · simp
  · split
    · rw [mergeAll_len]
      omega
    · simp
theorem ownNew_nil {w w' : World} (h : Below w.heap.size w w') : OwnNew w w' (.slice none 0 0) [] := ⟨World.ownsRow_nil _ _ _ _, Upd.ofBelow h, fun g hg => by cases hg⟩
theorem merge_res {w w' : World} {ls : List (List It)} {e : Ending} (h : MergePost w ls e w') : ∃ v, e = .returned (.tuple #[v, .int .i64 (mcode ls)]) ∧ OwnNew w w' v (mlist ls) := by
  unfold mcode mlist
  rcases h with ⟨h1, rfl, hb⟩ | ⟨h1, h2, rfl, hb⟩ | ⟨h1, h2, v, rfl, ho⟩
  · rw [if_pos h1, if_pos h1]
    exact ⟨_, rfl, ownNew_nil hb⟩
  · have hn : ¬ 8192 < total ls := by omega
    simp only [if_neg hn, if_neg h2]
    exact ⟨_, rfl, ownNew_nil hb⟩
  · have hn : ¬ 8192 < total ls := by omega
    simp only [if_neg hn, if_pos h2]
    exact ⟨v, rfl, ho⟩
open Classical in
noncomputable def bcode (a b : List It) : Int := if 8192 < a.length ∨ 8192 < b.length then 2 else if Rises a ∧ Rises b then 0 else 71
open Classical in
noncomputable def blist (a b : List It) : List It := if 8192 < a.length ∨ 8192 < b.length then [] else if Rises a ∧ Rises b then bothL a b else []
theorem blist_len (a b : List It) : (blist a b).length ≤ 8192 := by
  unfold blist
  split
  · simp
  · split
    · have := bothL_len a b
      omega
    · simp
theorem both_res {w w' : World} {a b : List It} {e : Ending} (h : BothPost w a b e w') : ∃ v, e = .returned (.tuple #[v, .int .i64 (bcode a b)]) ∧ OwnNew w w' v (blist a b) := by
  unfold bcode blist
  rcases h with ⟨h1, rfl, hb⟩ | ⟨h1, h2, rfl, hb⟩ | ⟨h1, h2, v, rfl, ho⟩
  · rw [if_pos h1, if_pos h1]
    exact ⟨_, rfl, ownNew_nil hb⟩
  · have hn : ¬ (8192 < a.length ∨ 8192 < b.length) := by omega
    simp only [if_neg hn, if_neg h2]
    exact ⟨_, rfl, ownNew_nil hb⟩
  · have hn : ¬ (8192 < a.length ∨ 8192 < b.length) := by omega
    simp only [if_neg hn, if_pos h2]
    exact ⟨v, rfl, ho⟩

theorem rises_one (x : It) : Rises [x] := by
  intro i a b ha hb
  have := (List.getElem?_eq_some_iff.1 hb).1
  simp at this
theorem mcode_pair : mcode [[⟨2, 0⟩], [⟨1, 0⟩]] = 0 := by
  unfold mcode
  rw [if_neg (by decide), if_pos (fun l hl => by
    simp at hl
    rcases hl with rfl | rfl <;> exact rises_one _)]
theorem mlist_pair : mlist [[⟨2, 0⟩], [⟨1, 0⟩]] = [⟨1, 0⟩, ⟨2, 0⟩] := by
  unfold mlist
  rw [if_neg (by decide), if_pos (fun l hl => by
    simp at hl
    rcases hl with rfl | rfl <;> exact rises_one _)]
  unfold mergeAll
  rw [List.foldl_cons, List.foldl_cons, List.foldl_nil, merge2_left, merge2_gt (by decide), merge2_nil]

/-- A row that this call laid: it can be written. -/
theorem own_block {w : World} {g n c : Nat} {xs : List Value} (h : w.ownsRow 0 36 2 (.slice (some ⟨g, 0, none⟩) n c) n xs) : ∃ us, Blk w g us 36 ∧ n * 2 ≤ us.length := by
  obtain ⟨us, hu⟩ := own_ty h rfl
  refine ⟨us, hu, ?_⟩
  have hl := h.1
  rcases Nat.eq_zero_or_pos n with e | e
  · omega
  · have hR := Rd.ofOwn h
    have hlt : n * 2 - 1 < xs.length := by omega
    obtain ⟨g', off, c', e1, _, hc⟩ := hR.at_ (List.getElem?_eq_getElem hlt)
    cases e1
    rw [Nat.zero_add, hu.cell] at hc
    have := (List.getElem?_eq_some_iff.1 hc).1
    omega

end OrdI
end Go.Proofs.Ytnhgeoccknhiiaa
