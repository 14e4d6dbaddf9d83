/- DifferScripts: for every two forests of bulk at most 1048576 it returns true, and the forests read as they did. The two tables of UTF-8 hold what the library's text lays: the card ties that. -/
import Derived.Test.YtmmjmfadipmfiaaDoorScrL
import Derived.Test.YtmmjmfadipmfiaaDoorOpenT
import Derived.Test.YtmmjmfadipmfiaaDoorLaid
import Derived.Test.YtmmjmfadipmfiaaDoorCards
import Derived.Test.YtmmjmfadipmfiaaDoorTie
namespace Go.Proofs.YtmmjmfadipmfiaaDoor
open Go.ChangeShapes Go.WideShapes Go.ChangeAt Go.RowKit Go.Deep

section
variable {H : Type} {enc : TypeId × Value → H} {w : World} {base : Nat} {held : Bool}
theorem open_trees_arg {v : Value} {d : DataW H} {ps : List MemPlace} (hval : ∃ a len cap, v = .slice a len cap) (h : DataW.Trod enc Tryd.prog w base (fun _ => true) held 23 v d ps) (hz : InReach Tryd.prog 23 d) :
    ∃ (ks : List T) (ak : Option Addr) (ck : Nat), v = .slice ak ks.length ck ∧ Ch.Forest w (· < w.heap.size) ks ak ck ∧ ks.length * 88 ≤ 140737488351232 ∧ ∀ x ∈ ks, Fits x := by
  obtain ⟨a, len, cap, rfl⟩ := hval
  obtain ⟨fuel, h⟩ := h
  have e : (Value.slice a len cap).cells.toList = [.slice a len cap] := rfl
  rw [e] at h
  obtain ⟨ks, ak, ck, xs, e, h1, h2, h3, h4⟩ := open_trees h hz
  rw [e] at h1
  exact ⟨ks, ak, ck, e, ⟨xs, h1, h2⟩, h3, h4⟩
end

theorem differScripts_met (os : Os) : laidMet Tryd.prog Rows.differScriptsUptoRow.laid ((laidWorld os).forCall (fun _ _ => 0) ⟨#[], #[.slice none 0 0, .slice none 0 0], []⟩).memory :=
  laidMet_of_run' 8 (by kernel_rfl) (by kernel_rfl)
theorem differScripts_reads (os : Os) {H : Type} (enc : TypeId × Value → H) : ∃ places, DataW.whole enc Tryd.prog ((laidWorld os).forCall (fun _ _ => 0) ⟨#[], #[.slice none 0 0, .slice none 0 0], []⟩).memory Tryd.f5.params.toList Rows.differScriptsSpec.vars false #[.slice none 0 0, .slice none 0 0].toList 8 = some ([.nil, .nil], [], places) :=
  ⟨[], by kernel_rfl⟩

set_option maxRecDepth 100000 in
set_option maxHeartbeats 4000000 in
theorem differScripts_lifted (os : Os) (started : os.Started) (H : Type) (enc : TypeId × Value → H) (F : Stop.Interp) :
    ReturnsInHanded {} Tryd.checked os 5 .any ((Rows.OpenSpec.upto Rows.differScriptsSpec).preRow enc Tryd.prog Tryd.f5 Rows.differScriptsUptoRow.domain false Rows.differScriptsUptoRow.laid) (((Rows.OpenSpec.upto Rows.differScriptsSpec).at F).post enc Tryd.prog Tryd.f5 false true false false) := by
  obtain ⟨places, hx⟩ := differScripts_reads os enc
  refine returnsInHanded_of_row (C := Tryd.checked) (s := Rows.OpenSpec.upto Rows.differScriptsSpec) Tryd.own started (by kernel_rfl) Tryd.func5
    (witness_row_at (enc := enc) (C := Tryd.checked) false (laidWorld os) #[.slice none 0 0, .slice none 0 0] rfl (by kernel_rfl) (by kernel_rfl) (by kernel_rfl)
      (OpenSpec.preRow_of_cond 8 hx (by kernel_rfl) (fun k hk => by cases hk; kernel_rfl) (by kernel_rfl) (differScripts_met os))) ?_
  intro W base args ds gs before hval0 hW _ _ hsz hL _ _
  have hval : ∀ (j : Nat) t v, Tryd.f5.params[j]? = some t → args[j]? = some v → Value.okWide Tryd.prog W .any base t v := hval0
  have hW' := hW
  obtain ⟨p, q, hA0, hV, rfl, _, _⟩ := hW
  have hA : DataW.TrodAll enc Tryd.prog W 0 (fun _ => true) true Tryd.f5.params.toList args.toList ds p := hA0
  rw [Tryd.params5] at hA hval hsz
  obtain ⟨v0, v1, d0, d1, p0, p1, rfl, rfl, rfl, h0, h1⟩ := trodAll_two hA
  obtain ⟨rfl, rfl⟩ := trodVars_none hV
  clear hA0
  simp only [List.append_nil] at hW' hsz
  have hlt : ∀ x ∈ p0 ++ p1, x.block < W.heap.size := fun x hx => by simpa using hW'.lt x hx
  obtain ⟨f, ak, ck, rfl, hF, lf, ff⟩ := open_trees_arg (okWide_slice Tryd.underlying23 (hval 0 23 v0 rfl rfl)) h0 (reach_arg hsz (j := 0) rfl rfl)
  obtain ⟨g, bk, dk, rfl, hG, lg, fg⟩ := open_trees_arg (okWide_slice Tryd.underlying23 (hval 1 23 v1 rfl rfl)) h1 (reach_arg hsz (j := 1) rfl rfl)
  refine (Df.scr_any f g ak bk ck dk W hF hG ff fg lf lg (tabs_of hL)).mono fun e W' ⟨he, hn⟩ => ?_
  subst he
  exact ⟨_, rfl, _, _, _, [], _, [], hW', trodAll_mk1 (shut_bool Tryd.underlying4 true),
    trodAll_mk2 (Below.trod Tryd.laidOut (by kernel_rfl) (of_decide_eq_true (by kernel_rfl)) h0 hn (fun x hx => hlt x (List.mem_append_left _ hx))) (Below.trod Tryd.laidOut (by kernel_rfl) (of_decide_eq_true (by kernel_rfl)) h1 hn (fun x hx => hlt x (List.mem_append_right _ hx))), rfl, hn.frame _, fun h => by cases h⟩

theorem differScripts_said : Rows.DifferScriptsUptoSaid :=
  OpenClaim.holds_of_cond 5 Tryd.f5 rfl rfl rfl rfl rfl rfl rfl ⟨rfl, rfl, rfl, rfl, rfl⟩ rfl rfl rfl rfl rfl (by kernel_rfl) Tryd.func5 (by kernel_rfl)
    (of_decide_eq_true (by kernel_rfl)) (by unfold Func.isWrapper; first | (rw [if_pos (by decide +kernel)]; kernel_rfl) | (rw [if_neg (by decide +kernel)]; exact ⟨rfl, rfl⟩))
    (fun os started H enc _ F => by rw [OpenClaim.pre_eq_preRow]; exact differScripts_lifted os started H enc F)

theorem differScripts_plain (f : FuncId) (fn : Func) (hf : Tryd.pinned.checked.prog.funcNamed "espalier/espalierlaw18.DifferScripts" = some f) (hfn : Tryd.pinned.checked.prog.funcs[f]? = some fn) :
    false = Tryd.pinned.checked.prog.looks [] ∧ ∀ (j : Nat) t, fn.params[j]? = some t → Tryd.pinned.checked.prog.wantsStandIn t = false := by
  obtain rfl : f = 5 := Option.some.inj ((show Tryd.prog.funcNamed "espalier/espalierlaw18.DifferScripts" = some 5 by kernel_rfl).symm.trans hf) |>.symm
  obtain rfl : fn = Tryd.f5 := (Option.some.inj (Tryd.func5.symm.trans hfn)).symm
  refine ⟨by kernel_rfl, fun j t ht => ?_⟩
  rw [Tryd.params5] at ht
  obtain rfl : t = 23 := by simpa using Array.mem_of_getElem? ht
  exact (show Tryd.prog.wantsStandIn 23 = false by kernel_rfl)

/-- THE CARD. -/
theorem differScripts_cardUpto : Rows.DifferScriptsUptoCardSaid :=
  Claim7.holds_tied_plain_at .later [] _ _ _ _ differScripts_said (fun _ h => by cases h) (by kernel_rfl) (fun _ h => by cases h) differScriptsUpto_row_tie rfl ⟨rfl, rfl⟩ (by kernel_rfl) rfl differScripts_plain (by kernel_rfl)

end Go.Proofs.YtmmjmfadipmfiaaDoor
