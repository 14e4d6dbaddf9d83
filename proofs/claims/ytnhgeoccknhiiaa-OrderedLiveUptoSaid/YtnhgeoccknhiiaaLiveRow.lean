/- OrderedLive: where what comes in is of bulk at most 1048576: it returns true, and the slices read as they did. -/
import Derived.Test.YtnhgeoccknhiiaaLive
import Derived.Test.YtnhgeoccknhiiaaRowKit
import Derived.JoinedCond
namespace Go.Proofs.Ytnhgeoccknhiiaa
open Go.ChangeShapes Go.WideShapes Go.ChangeAt Go.RowKit Go.Deep

theorem bulk_pos {H : Type} : ∀ d : DataW H, 1 ≤ Rows.uptoBulk d
  | .lit (.string _) => by simp [Rows.uptoBulk]
  | .lit (.int ..) => by simp [Rows.uptoBulk]
  | .lit (.bool _) => by simp [Rows.uptoBulk]
  | .lit _ => by unfold Rows.uptoBulk; split <;> omega
  | .nil => by simp [Rows.uptoBulk]
  | .ptr _ => by simp [Rows.uptoBulk]
  | .slice .. => by simp [Rows.uptoBulk]
  | .agg _ => by simp [Rows.uptoBulk]
  | .iface .. => by simp [Rows.uptoBulk]
  | .map _ => by simp [Rows.uptoBulk]
  | .held _ => by simp [Rows.uptoBulk]
theorem bulk_len {H : Type} (l : List (DataW H)) : l.length ≤ Rows.uptoBulkAll l := by
  induction l with
  | nil => simp [Rows.uptoBulkAll]
  | cons d l ih =>
    have := bulk_pos d
    simp only [Rows.uptoBulkAll, List.length_cons]
    omega
theorem bulk_slice {H : Type} (xs ys : List (DataW H)) : xs.length ≤ Rows.uptoBulk (.slice xs ys : DataW H) := by
  have := bulk_len xs
  simp only [Rows.uptoBulk]
  omega
theorem nats_of {zs : List Int} {k : IntKind} (hz : ∀ z ∈ zs, 0 ≤ z) : (zs.map fun z => Value.int k z) = (zs.map Int.toNat).map fun x : Nat => Value.int k (x : Int) := by
  rw [List.map_map]
  refine List.map_congr_left fun z hz' => ?_
  show _ = Value.int k ((z.toNat : Nat) : Int)
  rw [Int.toNat_of_nonneg (hz z hz')]

set_option maxRecDepth 100000 in
theorem orderedLive_lifted (os : Os) (started : os.Started) (H : Type) (enc : TypeId × Value → H) (F : Stop.Interp) :
    ReturnsInHanded {} Try.checked os 3 .any ((Rows.OpenSpec.upto Rows.orderedLiveSpec).pre6 enc Try.prog Try.f3 Rows.orderedLiveUptoRow.domain false) (((Rows.OpenSpec.upto Rows.orderedLiveSpec).at F).post enc Try.prog Try.f3 false true false false) := by
  refine returnsInHanded_of_cond (k := Rows.uptoSmall) (C := Try.checked) rfl Try.own started (by kernel_rfl) Try.func3
    (OpenSpec.witness (k := Rows.uptoSmall) (C := Try.checked) rfl false ⟨#[], #[.slice none 0 0, .slice none 0 0, .int .u8 0], []⟩ 8 (x := ([.nil, .nil, .lit (.int .u8 0)], [], [])) (by kernel_rfl) (by kernel_rfl) (by kernel_rfl) (by kernel_rfl) (by kernel_rfl) (by kernel_rfl)) ?_
  intro W base args ds gs before hval0 hW _ hk0 _
  have hval : ∀ (j : Nat) t v, Try.f3.params[j]? = some t → args[j]? = some v → Value.okWide Try.prog W .any base t v := hval0
  have hW' := hW
  obtain ⟨p, q, hA0, hV, rfl, _, _⟩ := hW
  have hA : DataW.TrodAll enc Try.prog W 0 (fun _ => true) true Try.f3.params.toList args.toList ds p := hA0
  rw [Try.params3] at hA hval
  obtain ⟨v0, v1, v2, d0, d1, d2, p0, p1, p2, rfl, rfl, rfl, h0, h1, h2⟩ := trodAll_three hA
  obtain ⟨rfl, rfl⟩ := trodVars_none hV
  obtain ⟨a0, n0, c0, rfl⟩ := okWide_slice Try.underlying22 (hval 0 22 v0 rfl rfl)
  obtain ⟨a1, n1, c1, rfl⟩ := okWide_slice Try.underlying22 (hval 1 22 v1 rfl rfl)
  obtain ⟨b, rfl, rfl, rfl, wb⟩ := open_int Try.underlying5 (hval 2 5 v2 rfl rfl) h2
  clear hA0 hval0
  simp only [List.append_nil, List.nil_append] at hW'
  have hlt : ∀ x ∈ p0 ++ p1, x.block < W.heap.size := fun x hx => by simpa using hW'.lt x (by simpa using hx)
  obtain ⟨b1, b2⟩ := wf_u8 wb
  have cA : Try.prog.cellsOf 5 = 1 := by kernel_rfl
  obtain ⟨zs, hl, hz, hd⟩ := open_nums Try.underlying22 Try.underlying5 cA h0 ⟨a0, n0, c0, rfl⟩
  obtain ⟨ys, hl2, hz2, hd2⟩ := open_nums Try.underlying22 Try.underlying5 cA h1 ⟨a1, n1, c1, rfl⟩
  have hk : Rows.uptoBulk d0 + (Rows.uptoBulk d1 + (Rows.uptoBulk (.lit (.int .u8 b) : DataW H) + 0)) ≤ 1048576 := by
    have := hk0
    simpa [Rows.uptoSmall, Rows.uptoBulkAll] using this
  have hr1 : zs.length ≤ 1048576 := by
    rcases hd with ⟨rfl, _⟩ | ⟨xs, us, rfl, hxs⟩
    · simp
    · have := bulk_slice xs us
      omega
  have hr2 : ys.length ≤ 1048576 := by
    rcases hd2 with ⟨rfl, _⟩ | ⟨xs, us, rfl, hxs⟩
    · simp
    · have := bulk_slice xs us
      omega
  have n1 : ∀ z ∈ zs, 0 ≤ z := fun z hz' => (wf_u8 (hz z hz')).1
  have n2 : ∀ z ∈ ys, 0 ≤ z := fun z hz' => (wf_u8 (hz2 z hz')).1
  rw [nats_of n1] at hl
  rw [nats_of n2] at hl2
  have hc := OrdN.live_calls W _ _ (zs.map Int.toNat) (ys.map Int.toNat) b.toNat (by rw [List.length_map]; exact hl) (by rw [List.length_map]; exact hl2)
    (fun x hx => by obtain ⟨z, hz', rfl⟩ := List.mem_map.1 hx; have := wf_u8 (hz z hz'); omega) (fun x hx => by obtain ⟨z, hz', rfl⟩ := List.mem_map.1 hx; have := wf_u8 (hz2 z hz'); omega)
    (by omega) (by rw [List.length_map]; omega) (by rw [List.length_map]; omega)
  rw [Int.toNat_of_nonneg b1] at hc
  refine hc.mono fun e W' ⟨he, hn⟩ => ?_
  subst he
  exact ⟨_, rfl, _, _, _, [], _, [], hW', trodAll_mk1 (shut_bool Try.underlying4 true), trodAll_mk3 (Below.trod Try.laidOut (by kernel_rfl) (of_decide_eq_true (by kernel_rfl)) h0 hn (fun x hx => hlt x (List.mem_append_left _ hx))) (Below.trod Try.laidOut (by kernel_rfl) (of_decide_eq_true (by kernel_rfl)) h1 hn (fun x hx => hlt x (List.mem_append_right _ hx))) (shut_int Try.underlying5 wb), rfl, hn.frame _, fun h => by cases h⟩

/-- THE ROW. -/
theorem orderedLive_holds : Rows.OrderedLiveUptoSaid :=
  OpenClaim.holds_of_cond 3 Try.f3 rfl rfl rfl rfl rfl rfl rfl ⟨rfl, rfl, rfl, rfl, rfl⟩ rfl rfl rfl rfl rfl (by kernel_rfl) Try.func3 (by kernel_rfl)
    (of_decide_eq_true (by kernel_rfl)) (by unfold Func.isWrapper; first | (rw [if_pos (by decide +kernel)]; kernel_rfl) | (rw [if_neg (by decide +kernel)]; exact ⟨rfl, rfl⟩))
    (fun os started H enc _ F => orderedLive_lifted os started H enc F)

end Go.Proofs.Ytnhgeoccknhiiaa
