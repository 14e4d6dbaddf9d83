/- DifferMetric: for every three forests it returns true, and the forests read as they did. The two tables of UTF-8 hold what the library's text lays: the card ties that. -/
import Derived.Test.YtemmkobgpciflaaDoorMetL
import Derived.Test.YtemmkobgpciflaaDoorOpenT
import Derived.Test.YtemmkobgpciflaaDoorLaid
import Derived.Test.YtemmkobgpciflaaDoorCards
import Derived.Test.YtemmkobgpciflaaDoorTie
namespace Go.Proofs.YtemmkobgpciflaaDoor
open Go.ChangeShapes Go.WideShapes Go.ChangeAt Go.RowKit Go.Deep

section
variable {H : Type} {enc : TypeId × Value → H} {w : World} {base : Nat} {held : Bool}
theorem open_in {v : Value} {d : DataW H} {ps : List MemPlace} (hval : ∃ a len cap, v = .slice a len cap) (h : DataW.Trod enc Tryd.prog w base (fun _ => true) held 23 v d ps) (hz : InReach Tryd.prog 23 d) :
    ∃ (ks : List T) (ak : Option Addr) (ck : Nat), v = .slice ak ks.length ck ∧ Pt.In w (· < w.heap.size) ks ak ck := by
  obtain ⟨a, len, cap, rfl⟩ := hval
  obtain ⟨fuel, h⟩ := h
  have e : (Value.slice a len cap).cells.toList = [.slice a len cap] := rfl
  rw [e] at h
  obtain ⟨ks, ak, ck, xs, e, h1, h2, h3, h4⟩ := open_trees h hz
  rw [e] at h1
  exact ⟨ks, ak, ck, e, ⟨xs, h1, h2⟩, h4, h3⟩
end

theorem differMetric_met (os : Os) : laidMet Tryd.prog Rows.differMetricRow.laid ((laidWorld os).forCall (fun _ _ => 0) ⟨#[], #[.slice none 0 0, .slice none 0 0, .slice none 0 0], []⟩).memory :=
  laidMet_of_run' 8 (by kernel_rfl) (by kernel_rfl)
theorem differMetric_reads (os : Os) {H : Type} (enc : TypeId × Value → H) : ∃ places, DataW.whole enc Tryd.prog ((laidWorld os).forCall (fun _ _ => 0) ⟨#[], #[.slice none 0 0, .slice none 0 0, .slice none 0 0], []⟩).memory Tryd.f9.params.toList Rows.differMetricSpec.vars false #[.slice none 0 0, .slice none 0 0, .slice none 0 0].toList 8 = some ([.nil, .nil, .nil], [], places) :=
  ⟨[], by kernel_rfl⟩

set_option maxRecDepth 100000 in
set_option maxHeartbeats 4000000 in
theorem differMetric_lifted (os : Os) (started : os.Started) (H : Type) (enc : TypeId × Value → H) (F : Stop.Interp) :
    ReturnsInHanded {} Tryd.checked os 9 .any ((OpenSpec.ofChange Rows.differMetricSpec).preRow enc Tryd.prog Tryd.f9 Rows.differMetricRow.domain false Rows.differMetricRow.laid) (((OpenSpec.ofChange Rows.differMetricSpec).at F).post enc Tryd.prog Tryd.f9 false true false false) := by
  obtain ⟨places, hx⟩ := differMetric_reads os enc
  refine returnsInHanded_of_row (C := Tryd.checked) (s := OpenSpec.ofChange Rows.differMetricSpec) Tryd.own started (by kernel_rfl) Tryd.func9
    (witness_row_at (enc := enc) (C := Tryd.checked) false (laidWorld os) #[.slice none 0 0, .slice none 0 0, .slice none 0 0] rfl (by kernel_rfl) (by kernel_rfl) (by kernel_rfl)
      (OpenSpec.preRow_of_cond 8 hx (by kernel_rfl) (fun k hk => by cases hk) (by kernel_rfl) (differMetric_met os))) ?_
  intro W base args ds gs before hval0 hW _ _ hsz hL _ _
  have hval : ∀ (j : Nat) t v, Tryd.f9.params[j]? = some t → args[j]? = some v → Value.okWide Tryd.prog W .any base t v := hval0
  have hW' := hW
  obtain ⟨p, q, hA0, hV, rfl, _, _⟩ := hW
  have hA : DataW.TrodAll enc Tryd.prog W 0 (fun _ => true) true Tryd.f9.params.toList args.toList ds p := hA0
  rw [Tryd.params9] at hA hval hsz
  obtain ⟨v0, v1, v2, d0, d1, d2, p0, p1, p2, rfl, rfl, rfl, h0, h1, h2⟩ := trodAll_three hA
  obtain ⟨rfl, rfl⟩ := trodVars_none hV
  clear hA0
  simp only [List.append_nil] at hW' hsz
  have hlt : ∀ x ∈ p0 ++ p1 ++ p2, x.block < W.heap.size := fun x hx => by simpa using hW'.lt x hx
  obtain ⟨f, ak, ck, rfl, hF⟩ := open_in (okWide_slice Tryd.underlying23 (hval 0 23 v0 rfl rfl)) h0 (reach_arg hsz (j := 0) rfl rfl)
  obtain ⟨g, bk, dk, rfl, hG⟩ := open_in (okWide_slice Tryd.underlying23 (hval 1 23 v1 rfl rfl)) h1 (reach_arg hsz (j := 1) rfl rfl)
  obtain ⟨h, hk, ek, rfl, hH⟩ := open_in (okWide_slice Tryd.underlying23 (hval 2 23 v2 rfl rfl)) h2 (reach_arg hsz (j := 2) rfl rfl)
  refine (Pt.met_any f g h ak bk hk ck dk ek W hF hG hH (tabs_of hL)).mono fun e W' ⟨he, hn⟩ => ?_
  subst he
  exact ⟨_, rfl, _, _, _, [], _, [], hW', trodAll_mk1 (shut_bool Tryd.underlying4 true),
    trodAll_mk3 (Below.trod Tryd.laidOut (by kernel_rfl) (of_decide_eq_true (by kernel_rfl)) h0 hn (fun x hx => hlt x (List.mem_append_left _ (List.mem_append_left _ hx)))) (Below.trod Tryd.laidOut (by kernel_rfl) (of_decide_eq_true (by kernel_rfl)) h1 hn (fun x hx => hlt x (List.mem_append_left _ (List.mem_append_right _ hx))))
      (Below.trod Tryd.laidOut (by kernel_rfl) (of_decide_eq_true (by kernel_rfl)) h2 hn (fun x hx => hlt x (List.mem_append_right _ hx))), rfl, hn.frame _, fun h => by cases h⟩

theorem differMetric_said : Rows.DifferMetricSaid :=
  OpenClaim.holds_of_cond 9 Tryd.f9 rfl rfl rfl rfl rfl rfl rfl ⟨rfl, rfl, rfl, rfl, rfl⟩ rfl rfl rfl rfl rfl (by kernel_rfl) Tryd.func9 (by kernel_rfl)
    (of_decide_eq_true (by kernel_rfl)) (by unfold Func.isWrapper; first | (rw [if_pos (by decide +kernel)]; kernel_rfl) | (rw [if_neg (by decide +kernel)]; exact ⟨rfl, rfl⟩))
    (fun os started H enc _ F => by rw [OpenClaim.pre_eq_preRow]; exact differMetric_lifted os started H enc F)

theorem differMetric_plain (f : FuncId) (fn : Func) (hf : Tryd.pinned.checked.prog.funcNamed "espalier/espalierlaw18.DifferMetric" = some f) (hfn : Tryd.pinned.checked.prog.funcs[f]? = some fn) :
    false = Tryd.pinned.checked.prog.looks [] ∧ ∀ (j : Nat) t, fn.params[j]? = some t → Tryd.pinned.checked.prog.wantsStandIn t = false := by
  obtain rfl : f = 9 := Option.some.inj ((show Tryd.prog.funcNamed "espalier/espalierlaw18.DifferMetric" = some 9 by kernel_rfl).symm.trans hf) |>.symm
  obtain rfl : fn = Tryd.f9 := (Option.some.inj (Tryd.func9.symm.trans hfn)).symm
  refine ⟨by kernel_rfl, fun j t ht => ?_⟩
  rw [Tryd.params9] at ht
  obtain rfl : t = 23 := by simpa using Array.mem_of_getElem? ht
  exact (show Tryd.prog.wantsStandIn 23 = false by kernel_rfl)

/-- THE CARD. -/
theorem differMetric_card : Rows.DifferMetricCardSaid :=
  Claim7.holds_tied_plain_at .later [] _ _ _ _ differMetric_said (fun _ h => by cases h) (by kernel_rfl) (fun _ h => by cases h) differMetric_row_tie rfl ⟨rfl, rfl⟩ (by kernel_rfl) rfl differMetric_plain (by kernel_rfl)

end Go.Proofs.YtemmkobgpciflaaDoor
