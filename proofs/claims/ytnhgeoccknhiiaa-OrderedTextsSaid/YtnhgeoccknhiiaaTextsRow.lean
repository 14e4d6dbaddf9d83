/- OrderedTexts: whatever the texts are, it returns true, and the slice reads as it did. No condition. -/
import Derived.Test.YtnhgeoccknhiiaaTexts
import Derived.Test.YtnhgeoccknhiiaaRowKit
import Derived.SliceStrings
import Derived.ChangeMaps5
namespace Go.Proofs.Ytnhgeoccknhiiaa
open Go.ChangeShapes Go.WideShapes Go.ChangeAt Go.RowKit Go.Deep

section
variable {H : Type} {enc : TypeId × Value → H} {w : World} {base : Nat} {held : Bool}

/-- A slice of texts that comes in as an argument: it reads as a list of texts. -/
theorem open_texts {t e : TypeId} {v : Value} {d : DataW H} {ps : List MemPlace} (ht : Try.prog.underlying t = some (.slice e)) (he : Try.prog.underlying e = some .string) (hc : Try.prog.cellsOf e = 1)
    (h : DataW.Trod enc Try.prog w base (fun _ => true) held t v d ps) (hval : ∃ a n c, v = .slice a n c) :
    ∃ zs : List ByteArray, Rd w v zs.length 1 (zs.map Value.string) ∧ (∀ z ∈ zs, z.size ≤ maxLen) ∧ ((zs = [] ∧ d = .nil) ∨ ∃ xs ys, d = .slice xs ys ∧ xs.length = zs.length) := by
  obtain ⟨fuel, h⟩ := h
  obtain ⟨a0, n0, c0, rfl⟩ := hval
  rcases open_strings ht he hc h with ⟨h0, hx⟩ | ⟨a, len, cap, zs, hcs, hb, hl, hm, hz, hx, hcell, hwf⟩
  · simp [Value.cells] at h0
    obtain ⟨rfl, rfl, rfl⟩ := h0
    simp only [Prod.mk.injEq] at hx
    exact ⟨[], Rd.nil w 1, (fun _ h => nomatch h), Or.inl ⟨rfl, hx.1⟩⟩
  · simp [Value.cells] at hcs
    obtain ⟨rfl, rfl, rfl⟩ := hcs
    simp only [if_true] at hz
    simp only [Prod.mk.injEq] at hx
    have hlen : (zs.take n0).length = n0 := by simp; omega
    refine ⟨zs.take n0, ?_, fun z hz => hwf z (List.mem_of_mem_take hz), Or.inr ⟨_, _, hx.1, by simp [strs]⟩⟩
    rw [hlen]
    refine ⟨by simp; omega, some a, c0, rfl, hl, (fun h => nomatch h), ?_⟩
    by_cases hn0 : n0 = 0
    · exact Or.inl hn0
    · right
      have hs := World.cell?_spot (hcell 0 (by omega))
      obtain ⟨b, off, spot⟩ := a
      have hspot : spot = none := by simpa [Addr.add] using hs
      subst hspot
      refine ⟨b, off, rfl, fun j u hu => ?_⟩
      have hj := (List.getElem?_eq_some_iff.1 hu).1
      rw [List.length_map, hlen] at hj
      have h1 := hcell j (by omega)
      rw [add_plain] at h1
      rw [h1, ← hu]
      simp [List.getElem?_take, hj, List.getD, List.getElem?_eq_getElem (show j < zs.length by omega)]

end

set_option maxRecDepth 100000 in
theorem orderedTexts_lifted (os : Os) (started : os.Started) (H : Type) (enc : TypeId × Value → H) :
    ReturnsInHanded {} Try.checked os 4 .any (Rows.orderedTextsSpec.pre6 enc Try.prog Try.f4 Rows.orderedTextsRow.domain false) (Rows.orderedTextsSpec.post enc Try.prog Try.f4 false true false false) := by
  refine returnsInHanded_of_change_sized (C := Try.checked) Try.own started (by kernel_rfl) Try.func4
    (ChangeSpec.witness6 (enc := enc) (C := Try.checked) false ⟨#[], #[.slice none 0 0], []⟩ 8 (by kernel_rfl) (by kernel_rfl) (by kernel_rfl) (by kernel_rfl)) ?_
  intro W base args ds gs before hval0 hW _ hsz0 _
  have hsz : (DataW.weightsEach Try.prog (Try.f4.params.toList ++ Rows.orderedTextsSpec.plain.varTypes Try.prog) (ds ++ gs)).all (· ≤ reachBytes) = true := hsz0
  clear hsz0
  have hval : ∀ (j : Nat) t v, Try.f4.params[j]? = some t → args[j]? = some v → Value.okWide Try.prog W .any base t v := hval0
  have hW' := hW
  obtain ⟨p, q, hA0, hV, rfl, _, _⟩ := hW
  have hA : DataW.TrodAll enc Try.prog W 0 (fun _ => true) true Try.f4.params.toList args.toList ds p := hA0
  rw [Try.params4] at hA hval hsz
  obtain ⟨v0, d0, rfl, rfl, h0⟩ := trodAll_one hA
  obtain ⟨rfl, rfl⟩ := trodVars_none hV
  obtain ⟨a0, len, cap, rfl⟩ := okWide_slice Try.underlying43 (hval 0 43 v0 rfl rfl)
  clear hA0 hval0
  simp only [List.append_nil, List.nil_append] at hW'
  have hlt : ∀ x ∈ p, x.block < W.heap.size := fun x hx => by simpa using hW'.lt x hx
  have bA : Try.prog.bytesOf 9 = 16 := by kernel_rfl
  have cA : Try.prog.cellsOf 9 = 1 := by kernel_rfl
  obtain ⟨zs, hl, hz, hd⟩ := open_texts Try.underlying43 Try.underlying9 cA h0 ⟨a0, len, cap, rfl⟩
  have hreach : zs.length * 16 ≤ 140737488351232 := by
    rcases hd with ⟨rfl, _⟩ | ⟨xs, ys, rfl, hxs⟩
    · simp
    · have := sized_slice hsz (j := 0) (t := 43) (e := 9) rfl rfl Try.underlying43
      rw [bA] at this
      simp only [reachBytes] at this
      omega
  have hc := OrdS.texts_calls W _ zs hl hreach (fun b hb => by have := hz b hb; simp only [maxLen] at this; exact this)
  refine hc.mono fun e W' ⟨he, hn⟩ => ?_
  subst he
  exact ⟨_, rfl, _, _, _, [], _, [], hW', trodAll_mk1 (shut_bool Try.underlying4 true), trodAll_mk1 (Below.trod Try.laidOut (by kernel_rfl) (of_decide_eq_true (by kernel_rfl)) h0 hn hlt), rfl, hn.frame _, fun h => by cases h⟩

/-- THE ROW. -/
theorem orderedTexts_holds : Rows.OrderedTextsSaid :=
  OpenClaim.holds_of_wide 4 Try.f4 rfl rfl rfl rfl rfl rfl rfl ⟨rfl, rfl, rfl, rfl, rfl⟩ rfl rfl rfl rfl rfl (by kernel_rfl) Try.func4 (by kernel_rfl)
    (of_decide_eq_true (by kernel_rfl)) (by unfold Func.isWrapper; first | (rw [if_pos (by decide +kernel)]; kernel_rfl) | (rw [if_neg (by decide +kernel)]; exact ⟨rfl, rfl⟩))
    (fun os started H enc _ => orderedTexts_lifted os started H enc)

end Go.Proofs.Ytnhgeoccknhiiaa
