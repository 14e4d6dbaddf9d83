/- OrderedWhile: whatever the acts are, it returns true, and the acts read as they did. No condition. -/
import Derived.Test.YtnhgeoccknhiiaaWhile
import Derived.Test.YtnhgeoccknhiiaaOpenI
import Derived.Test.YtnhgeoccknhiiaaRowKit
namespace Go.Proofs.Ytnhgeoccknhiiaa
open Go.ChangeShapes Go.WideShapes Go.ChangeAt Go.RowKit Go.Deep

set_option maxRecDepth 100000 in
theorem orderedWhile_lifted (os : Os) (started : os.Started) (H : Type) (enc : TypeId × Value → H) :
    ReturnsInHanded {} Try.checked os 11 .any (Rows.orderedWhileSpec.pre6 enc Try.prog Try.f11 Rows.orderedWhileRow.domain false) (Rows.orderedWhileSpec.post enc Try.prog Try.f11 false true false false) := by
  refine returnsInHanded_of_change_sized (C := Try.checked) Try.own started (by kernel_rfl) Try.func11
    (ChangeSpec.witness6 (enc := enc) (C := Try.checked) false ⟨#[], #[.slice none 0 0, .slice none 0 0], []⟩ 8 (by kernel_rfl) (by kernel_rfl) (by kernel_rfl) (by kernel_rfl)) ?_
  intro W base args ds gs before hval0 hW _ hsz0 _
  have hsz : (DataW.weightsEach Try.prog (Try.f11.params.toList ++ Rows.orderedWhileSpec.plain.varTypes Try.prog) (ds ++ gs)).all (· ≤ reachBytes) = true := hsz0
  clear hsz0
  have hval : ∀ (j : Nat) t v, Try.f11.params[j]? = some t → args[j]? = some v → Value.okWide Try.prog W .any base t v := hval0
  have hW' := hW
  obtain ⟨p, q, hA0, hV, rfl, _, _⟩ := hW
  have hA : DataW.TrodAll enc Try.prog W 0 (fun _ => true) true Try.f11.params.toList args.toList ds p := hA0
  rw [Try.params11] at hA hval hsz
  obtain ⟨v0, v1, d0, d1, p0, p1, rfl, rfl, rfl, h0, h1⟩ := trodAll_two hA
  obtain ⟨rfl, rfl⟩ := trodVars_none hV
  obtain ⟨a0, len, cap, rfl⟩ := okWide_slice Try.underlying98 (hval 0 98 v0 rfl rfl)
  obtain ⟨a1, len1, cap1, rfl⟩ := okWide_slice Try.underlying98 (hval 1 98 v1 rfl rfl)
  clear hA0 hval0
  simp only [List.append_nil] at hW'
  have hlt : ∀ x ∈ p0, x.block < W.heap.size := fun x hx => by simpa using hW'.lt x (List.mem_append_left _ hx)
  have hlt1 : ∀ x ∈ p1, x.block < W.heap.size := fun x hx => by simpa using hW'.lt x (List.mem_append_right _ hx)
  have bA : Try.prog.bytesOf 104 = 32 := by kernel_rfl
  obtain ⟨l, hl, hd⟩ := OrdI.open_acts h0 ⟨a0, len, cap, rfl⟩
  obtain ⟨l1, hl1, hd1⟩ := OrdI.open_acts h1 ⟨a1, len1, cap1, rfl⟩
  have hreach : l.length * 32 ≤ 140737488351232 := by
    rcases hd with ⟨rfl, _⟩ | ⟨xs, ys, rfl, hxs⟩
    · simp
    · have := sized_slice hsz (j := 0) (t := 98) (e := 104) rfl rfl Try.underlying98
      rw [bA] at this
      simp only [reachBytes] at this
      omega
  have hreach1 : l1.length * 32 ≤ 140737488351232 := by
    rcases hd1 with ⟨rfl, _⟩ | ⟨xs, ys, rfl, hxs⟩
    · simp
    · have := sized_slice hsz (j := 1) (t := 98) (e := 104) rfl rfl Try.underlying98
      rw [bA] at this
      simp only [reachBytes] at this
      omega
  refine (OrdI.while_calls W _ _ l l1 hl hl1 hreach hreach1).mono fun e W' ⟨he, hn⟩ => ?_
  subst he
  exact ⟨_, rfl, _, _, _, [], _, [], hW', trodAll_mk1 (shut_bool Try.underlying4 true), trodAll_mk2 (Below.trod Try.laidOut (by kernel_rfl) (of_decide_eq_true (by kernel_rfl)) h0 hn hlt) (Below.trod Try.laidOut (by kernel_rfl) (of_decide_eq_true (by kernel_rfl)) h1 hn hlt1), rfl, hn.frame _, fun h => by cases h⟩

/-- THE ROW. -/
theorem orderedWhile_holds : Rows.OrderedWhileSaid :=
  OpenClaim.holds_of_wide 11 Try.f11 rfl rfl rfl rfl rfl rfl rfl ⟨rfl, rfl, rfl, rfl, rfl⟩ rfl rfl rfl rfl rfl (by kernel_rfl) Try.func11 (by kernel_rfl)
    (of_decide_eq_true (by kernel_rfl)) (by unfold Func.isWrapper; first | (rw [if_pos (by decide +kernel)]; kernel_rfl) | (rw [if_neg (by decide +kernel)]; exact ⟨rfl, rfl⟩))
    (fun os started H enc _ => orderedWhile_lifted os started H enc)

end Go.Proofs.Ytnhgeoccknhiiaa
