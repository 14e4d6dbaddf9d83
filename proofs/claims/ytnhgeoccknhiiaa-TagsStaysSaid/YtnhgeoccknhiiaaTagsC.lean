/- After: a further tag behind one. -/
import Derived.Test.YtnhgeoccknhiiaaTagsB
import Derived.StillTailTactics
import Derived.OwnWalk
namespace Go.Proofs.Ytnhgeoccknhiiaa
open Go.RowKit

theorem len_old (p m : Nat) (hd : Nd) (N : List Nd) (g nw : Nat) (w : World) (h : TagsAt w p m hd N g nw) (hN : N.length ≤ 8192) :
    Calls Try.prog 40 #[ptrTo p] w fun e w' => e = .returned (.int .i64 N.length) ∧ w = w' := by
  have HB := Lib.hid (begin_old p m hd N g nw w h)
  have h0 : w.cell? ⟨p, 0, none⟩ = some (.map (some m)) := h.top.cell 0
  obtain ⟨L, hM, hL⟩ := h.map
  have hlen : L.length = N.length + 1 := by simpa using hL.length_eq
  have hrun := fun ty => run_len_mapIs (P := Try.prog) (ty := ty) Try.underlying69 hM
  rw [hlen] at hrun
  clear hM hL hlen h
  unfold ptrTo at *
  go_enter Try.func40, Try.ntmps40
  go_wp2_with fail
  refine HB.out.mono ?_
  rintro e w1 ⟨rfl, rfl⟩
  go_wp2
  go_ret
  exact ⟨ret_int (by omega), rfl⟩

/-- What is behind an insertion. -/
theorem TagsAt.ins {w w' : World} {p m : Nat} {hd : Nd} {N : List Nd} {g nw g' nw' : Nat} (h : TagsAt w p m hd N g nw) {k : Nat} {x new : Nd} (hk : (hd :: N)[k]? = some x) (hg : ∀ n ∈ hd :: N, n.name ≠ new.name)
    (top : Blk w' p [.map (some m), ptrTo hd.blk, .int .u64 g', .int .u64 nw'] 73)
    (hnew : Blk w' new.blk (ndCells new (some x) (hd :: N)[k + 1]?) 130)
    (hx : Blk w' x.blk (ndCells x (if k = 0 then none else (hd :: N)[k - 1]?) (some new)) 130)
    (hy : ∀ y, (hd :: N)[k + 1]? = some y → Blk w' y.blk (ndCells y (some new) (hd :: N)[k + 2]?) 130)
    (ho : ∀ j n, (hd :: N)[j]? = some n → j ≠ k → j ≠ k + 1 → Blk w' n.blk (ndCells n (if j = 0 then none else (hd :: N)[j - 1]?) (hd :: N)[j + 1]?) 130)
    (hm : ∃ L, MapIs w' m L ∧ L.Perm (((hd :: N).map fun n => (Value.int .u64 n.name, ptrTo n.blk)) ++ [(.int .u64 new.name, ptrTo new.blk)])) :
    TagsAt w' p m hd (N.insertIdx k new) g' nw' := by
  have lk : k ≤ N.length := by have := (List.getElem?_eq_some_iff.1 hk).1; simp at this; omega
  have ei : hd :: N.insertIdx k new = (hd :: N).insertIdx (k + 1) new := by simp
  have g1 : ∀ j, j ≤ k → ((hd :: N).insertIdx (k + 1) new)[j]? = (hd :: N)[j]? := fun j hj => by rw [List.getElem?_insertIdx, if_pos (by omega)]
  have g2 : ((hd :: N).insertIdx (k + 1) new)[k + 1]? = some new := by rw [List.getElem?_insertIdx_self, if_pos (by simp; omega)]
  have g3 : ∀ j, k + 1 < j → ((hd :: N).insertIdx (k + 1) new)[j]? = (hd :: N)[j - 1]? := fun j hj => by rw [List.getElem?_insertIdx, if_neg (by omega), if_neg (by omega)]
  refine ⟨top, ?_, ?_, ?_, h.zero⟩
  · rw [ei]
    intro j a ha
    by_cases c1 : j < k
    · rw [g1 j (by omega)] at ha
      rw [g1 (j - 1) (by omega), g1 (j + 1) (by omega)]
      exact ho j a ha (by omega) (by omega)
    · by_cases c2 : j = k
      · subst c2
        rw [g1 j (by omega), hk] at ha
        cases ha
        rw [g1 (j - 1) (by omega), g2]
        exact hx
      · by_cases c3 : j = k + 1
        · subst c3
          rw [g2] at ha
          cases ha
          rw [if_neg (by omega), show k + 1 - 1 = k by omega, g1 k (by omega), hk, g3 (k + 1 + 1) (by omega)]
          exact hnew
        · rw [g3 j (by omega)] at ha
          rw [if_neg (by omega), g3 (j + 1) (by omega), show j + 1 - 1 = (j - 1) + 1 by omega]
          by_cases c4 : j = k + 2
          · subst c4
            rw [show k + 2 - 1 = k + 1 by omega] at ha ⊢
            rw [g2]
            exact hy a ha
          · rw [g3 (j - 1) (by omega)]
            have := ho (j - 1) a ha (by omega) (by omega)
            rw [if_neg (by omega)] at this
            exact this
  · rw [ei]
    unfold Names
    have hp := (List.perm_insertIdx new (hd :: N) (i := k + 1) (by simp; omega)).map (fun n : Nd => n.name)
    refine hp.nodup_iff.2 ?_
    rw [List.map_cons, List.nodup_cons]
    refine ⟨fun hc => ?_, h.names⟩
    obtain ⟨n, hn, e⟩ := List.mem_map.1 hc
    exact hg n hn e
  · rw [ei]
    obtain ⟨L, h1, h2⟩ := hm
    refine ⟨L, h1, h2.trans ?_⟩
    refine (List.perm_append_comm (l₂ := [(Value.int .u64 (new.name : Int), ptrTo new.blk)])).trans ?_
    exact ((List.perm_insertIdx new (hd :: N) (i := k + 1) (by simp; omega)).map (fun n : Nd => ((Value.int .u64 (n.name : Int)), ptrTo n.blk))).symm

end Go.Proofs.Ytnhgeoccknhiiaa
