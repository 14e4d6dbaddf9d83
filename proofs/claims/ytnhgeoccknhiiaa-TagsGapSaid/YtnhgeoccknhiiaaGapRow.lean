/- TagsGap: whatever the two numbers and the slice are, it returns true, and the slice reads as it did. No condition. -/
import Derived.Test.YtnhgeoccknhiiaaTagGap
import Derived.Test.YtnhgeoccknhiiaaRowKit
namespace Go.Proofs.Ytnhgeoccknhiiaa
open Go.ChangeShapes Go.WideShapes Go.ChangeAt Go.RowKit Go.Deep

set_option maxRecDepth 100000 in
theorem tagsGap_lifted (os : Os) (started : os.Started) (H : Type) (enc : TypeId × Value → H) :
    ReturnsInHanded {} Try.checked os 9 .any (Rows.tagsGapSpec.pre6 enc Try.prog Try.f9 Rows.tagsGapRow.domain false) (Rows.tagsGapSpec.post enc Try.prog Try.f9 false true false false) := by
  refine returnsInHanded_of_change_sized (C := Try.checked) Try.own started (by kernel_rfl) Try.func9
    (ChangeSpec.witness6 (enc := enc) (C := Try.checked) false ⟨#[], #[.int .u16 0, .slice none 0 0, .int .u8 0], []⟩ 8 (by kernel_rfl) (by kernel_rfl) (by kernel_rfl) (by kernel_rfl)) ?_
  intro W base args ds gs before hval0 hW _ hsz0 _
  have hsz : (DataW.weightsEach Try.prog (Try.f9.params.toList ++ Rows.tagsGapSpec.plain.varTypes Try.prog) (ds ++ gs)).all (· ≤ reachBytes) = true := hsz0
  clear hsz0
  have hval : ∀ (j : Nat) t v, Try.f9.params[j]? = some t → args[j]? = some v → Value.okWide Try.prog W .any base t v := hval0
  have hW' := hW
  obtain ⟨p, q, hA0, hV, rfl, _, _⟩ := hW
  have hA : DataW.TrodAll enc Try.prog W 0 (fun _ => true) true Try.f9.params.toList args.toList ds p := hA0
  rw [Try.params9] at hA hval hsz
  obtain ⟨v0, v1, v2, d0, d1, d2, p0, p1, p2, rfl, rfl, rfl, h0, h1, h2⟩ := trodAll_three hA
  obtain ⟨rfl, rfl⟩ := trodVars_none hV
  obtain ⟨a, rfl, rfl, rfl, wa⟩ := open_int Try.underlying67 (hval 0 67 v0 rfl rfl) h0
  obtain ⟨a0, len, cap, rfl⟩ := okWide_slice Try.underlying22 (hval 1 22 v1 rfl rfl)
  obtain ⟨b, rfl, rfl, rfl, wb⟩ := open_int Try.underlying5 (hval 2 5 v2 rfl rfl) h2
  clear hA0 hval0
  simp only [List.append_nil, List.nil_append] at hW'
  have hlt : ∀ x ∈ p1, x.block < W.heap.size := fun x hx => by simpa using hW'.lt x hx
  obtain ⟨a1, a2⟩ := wf_u16 wa
  obtain ⟨b1, b2⟩ := wf_u8 wb
  have bA : Try.prog.bytesOf 5 = 1 := by kernel_rfl
  have cA : Try.prog.cellsOf 5 = 1 := by kernel_rfl
  obtain ⟨zs, hl, hz, hd⟩ := open_nums Try.underlying22 Try.underlying5 cA h1 ⟨a0, len, cap, rfl⟩
  have hreach : zs.length ≤ 140737488351232 := by
    rcases hd with ⟨rfl, _⟩ | ⟨xs, ys, rfl, hxs⟩
    · simp
    · have := sized_slice hsz (j := 1) (t := 22) (e := 5) rfl rfl Try.underlying22
      rw [bA] at this
      simp only [reachBytes] at this
      omega
  have hU : U8sAt W (.slice a0 len cap) (zs.map Int.toNat) := by
    refine ⟨?_, fun n hn => ?_⟩
    · rw [List.length_map, List.map_map]
      rw [show (zs.map ((fun n : Nat => Value.int .u8 (n : Int)) ∘ Int.toNat)) = zs.map (fun z => Value.int .u8 z) from List.map_congr_left fun z hz' => by
        show Value.int .u8 ((z.toNat : Nat) : Int) = _
        rw [Int.toNat_of_nonneg (wf_u8 (hz z hz')).1]]
      exact hl
    · obtain ⟨z, hz', rfl⟩ := List.mem_map.1 hn
      have := wf_u8 (hz z hz')
      omega
  have hc := tagsGap_calls W a.toNat b.toNat _ _ hU (by rw [List.length_map]; exact hreach) (by omega) (by omega)
  rw [Int.toNat_of_nonneg a1, Int.toNat_of_nonneg b1] at hc
  refine hc.mono fun e W' ⟨he, hn⟩ => ?_
  subst he
  exact ⟨_, rfl, _, _, _, [], _, [], hW', trodAll_mk1 (shut_bool Try.underlying4 true), trodAll_mk3 (shut_int Try.underlying67 wa) (Below.trod Try.laidOut (by kernel_rfl) (of_decide_eq_true (by kernel_rfl)) h1 hn hlt) (shut_int Try.underlying5 wb), rfl, hn.frame _, fun h => by cases h⟩

/-- THE ROW. -/
theorem tagsGap_holds : Rows.TagsGapSaid :=
  OpenClaim.holds_of_wide 9 Try.f9 rfl rfl rfl rfl rfl rfl rfl ⟨rfl, rfl, rfl, rfl, rfl⟩ rfl rfl rfl rfl rfl (by kernel_rfl) Try.func9 (by kernel_rfl)
    (of_decide_eq_true (by kernel_rfl)) (by unfold Func.isWrapper; first | (rw [if_pos (by decide +kernel)]; kernel_rfl) | (rw [if_neg (by decide +kernel)]; exact ⟨rfl, rfl⟩))
    (fun os started H enc _ => tagsGap_lifted os started H enc)

end Go.Proofs.Ytnhgeoccknhiiaa
