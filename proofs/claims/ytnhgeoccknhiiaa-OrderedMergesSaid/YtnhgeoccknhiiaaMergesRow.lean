/- OrderedMerges: whatever the lists are, it returns true, and the lists read as they did. No condition. -/
import Derived.Test.YtnhgeoccknhiiaaMerges
import Derived.Test.YtnhgeoccknhiiaaOpenL
import Derived.Test.YtnhgeoccknhiiaaRowKit
namespace Go.Proofs.Ytnhgeoccknhiiaa
open Go.ChangeShapes Go.WideShapes Go.ChangeAt Go.RowKit Go.Deep

set_option maxRecDepth 100000 in
theorem orderedMerges_lifted (os : Os) (started : os.Started) (H : Type) (enc : TypeId × Value → H) :
    ReturnsInHanded {} Try.checked os 5 .any (Rows.orderedMergesSpec.pre6 enc Try.prog Try.f5 Rows.orderedMergesRow.domain false) (Rows.orderedMergesSpec.post enc Try.prog Try.f5 false true false false) := by
  refine returnsInHanded_of_change_sized (C := Try.checked) Try.own started (by kernel_rfl) Try.func5
    (ChangeSpec.witness6 (enc := enc) (C := Try.checked) false ⟨#[], #[.slice none 0 0, .slice none 0 0, .slice none 0 0], []⟩ 8 (by kernel_rfl) (by kernel_rfl) (by kernel_rfl) (by kernel_rfl)) ?_
  intro W base args ds gs before hval0 hW _ hsz0 _
  have hsz : (DataW.weightsEach Try.prog (Try.f5.params.toList ++ Rows.orderedMergesSpec.plain.varTypes Try.prog) (ds ++ gs)).all (· ≤ reachBytes) = true := hsz0
  clear hsz0
  have hval : ∀ (j : Nat) t v, Try.f5.params[j]? = some t → args[j]? = some v → Value.okWide Try.prog W .any base t v := hval0
  have hW' := hW
  obtain ⟨p, q, hA0, hV, rfl, _, _⟩ := hW
  have hA : DataW.TrodAll enc Try.prog W 0 (fun _ => true) true Try.f5.params.toList args.toList ds p := hA0
  rw [Try.params5] at hA hval hsz
  obtain ⟨v0, v1, v2, d0, d1, d2, p0, p1, p2, rfl, rfl, rfl, h0, h1, h2⟩ := trodAll_three hA
  obtain ⟨rfl, rfl⟩ := trodVars_none hV
  obtain ⟨a0, len0, cap0, rfl⟩ := okWide_slice Try.underlying54 (hval 0 54 v0 rfl rfl)
  obtain ⟨a1, len1, cap1, rfl⟩ := okWide_slice Try.underlying30 (hval 1 30 v1 rfl rfl)
  obtain ⟨a2, len2, cap2, rfl⟩ := okWide_slice Try.underlying30 (hval 2 30 v2 rfl rfl)
  clear hA0 hval0
  simp only [List.append_nil] at hW'
  have hlt : ∀ x, x ∈ p0 ∨ x ∈ p1 ∨ x ∈ p2 → x.block < W.heap.size := fun x hx => hW'.lt x (by simp only [List.mem_append]; rcases hx with h | h | h <;> simp [h])
  have bT : Try.prog.bytesOf 36 = 16 := by kernel_rfl
  have bS : Try.prog.bytesOf 30 = 24 := by kernel_rfl
  obtain ⟨ls, hls, hd⟩ := OrdI.open_lists h0 ⟨a0, len0, cap0, rfl⟩
  obtain ⟨la, hla, hda⟩ := OrdI.open_items h1 ⟨a1, len1, cap1, rfl⟩
  obtain ⟨lb, hlb, hdb⟩ := OrdI.open_items h2 ⟨a2, len2, cap2, rfl⟩
  have r0 : ls.length * 24 ≤ 140737488351232 := by
    rcases hd with ⟨rfl, _⟩ | ⟨xs, ys, rfl, hxs, _⟩
    · simp
    · have := sized_slice hsz (j := 0) (t := 54) (e := 30) rfl rfl Try.underlying54
      rw [bS] at this
      simp only [reachBytes] at this
      omega
  have rl : ∀ l ∈ ls, l.length * 16 ≤ 140737488351232 := by
    rcases hd with ⟨rfl, _⟩ | ⟨xs, ys, rfl, hxs, hin⟩
    · simp
    · intro l hl
      rcases hin l hl with rfl | ⟨e', sp', he, hle⟩
      · simp
      · have := OrdI.sized_inner hsz (j := 0) (t := 54) (e := 30) (q := 36) rfl rfl Try.underlying54 Try.underlying30 he
        rw [bT] at this
        simp only [reachBytes] at this
        omega
  have ra : la.length * 16 ≤ 140737488351232 := by
    rcases hda with ⟨rfl, _⟩ | ⟨xs, ys, rfl, hxs⟩
    · simp
    · have := sized_slice hsz (j := 1) (t := 30) (e := 36) rfl rfl Try.underlying30
      rw [bT] at this
      simp only [reachBytes] at this
      omega
  have rb : lb.length * 16 ≤ 140737488351232 := by
    rcases hdb with ⟨rfl, _⟩ | ⟨xs, ys, rfl, hxs⟩
    · simp
    · have := sized_slice hsz (j := 2) (t := 30) (e := 36) rfl rfl Try.underlying30
      rw [bT] at this
      simp only [reachBytes] at this
      omega
  refine (OrdI.merges_calls W _ _ _ ls la lb hls hla hlb r0 rl ra rb).mono fun e W' ⟨he, hn⟩ => ?_
  subst he
  exact ⟨_, rfl, _, _, _, [], _, [], hW', trodAll_mk1 (shut_bool Try.underlying4 true), trodAll_mk3 (Below.trod Try.laidOut (by kernel_rfl) (of_decide_eq_true (by kernel_rfl)) h0 hn (fun x h => hlt x (Or.inl h))) (Below.trod Try.laidOut (by kernel_rfl) (of_decide_eq_true (by kernel_rfl)) h1 hn (fun x h => hlt x (Or.inr (Or.inl h)))) (Below.trod Try.laidOut (by kernel_rfl) (of_decide_eq_true (by kernel_rfl)) h2 hn (fun x h => hlt x (Or.inr (Or.inr h)))), rfl, hn.frame _, fun h => by cases h⟩

/-- THE ROW. -/
theorem orderedMerges_holds : Rows.OrderedMergesSaid :=
  OpenClaim.holds_of_wide 5 Try.f5 rfl rfl rfl rfl rfl rfl rfl ⟨rfl, rfl, rfl, rfl, rfl⟩ rfl rfl rfl rfl rfl (by kernel_rfl) Try.func5 (by kernel_rfl)
    (of_decide_eq_true (by kernel_rfl)) (by unfold Func.isWrapper; first | (rw [if_pos (by decide +kernel)]; kernel_rfl) | (rw [if_neg (by decide +kernel)]; exact ⟨rfl, rfl⟩))
    (fun os started H enc _ => orderedMerges_lifted os started H enc)

end Go.Proofs.Ytnhgeoccknhiiaa
