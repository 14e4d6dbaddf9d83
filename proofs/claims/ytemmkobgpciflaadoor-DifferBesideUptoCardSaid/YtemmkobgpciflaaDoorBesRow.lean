/- DifferBeside: for every four forests and every name, together of bulk at most 1048576, it returns true, and what comes in reads as it did. The two tables of UTF-8 hold what the library's text lays: the card ties that. -/
import Derived.Test.YtemmkobgpciflaaDoorBesL
import Derived.Test.YtemmkobgpciflaaDoorOpenT
import Derived.Test.YtemmkobgpciflaaDoorLaid
import Derived.Test.YtemmkobgpciflaaDoorCards
import Derived.Test.YtemmkobgpciflaaDoorTie
import Derived.OpenShut
namespace Go.Proofs.YtemmkobgpciflaaDoor
open Go.ChangeShapes Go.WideShapes Go.ChangeAt Go.RowKit Go.Deep
open Go.ChangeMaps (open_string shut_string)

theorem bulk_one {H : Type} (d : DataW H) : 1 ≤ Rows.uptoBulk d := by
  cases d with
  | lit l => cases l <;> simp [Rows.uptoBulk]
  | nil => simp [Rows.uptoBulk]
  | ptr d => simp [Rows.uptoBulk]
  | slice elems spare => simp [Rows.uptoBulk]
  | agg parts => simp [Rows.uptoBulk]
  | iface t d => simp [Rows.uptoBulk]
  | map entries => simp [Rows.uptoBulk]
  | held h => simp [Rows.uptoBulk]
theorem bulk_len {H : Type} (l : List (DataW H)) : l.length ≤ Rows.uptoBulkAll l := by
  induction l with
  | nil => simp [Rows.uptoBulkAll]
  | cons x r ih => have := bulk_one x; simp only [Rows.uptoBulkAll, List.length_cons]; omega

section
variable {H : Type} {enc : TypeId × Value → H} {w : World} {base : Nat} {held : Bool}
theorem open_in {v : Value} {d : DataW H} {ps : List MemPlace} (hval : ∃ a len cap, v = .slice a len cap) (h : DataW.Trod enc Tryd.prog w base (fun _ => true) held 23 v d ps) (hz : InReach Tryd.prog 23 d) :
    ∃ (ks : List T) (ak : Option Addr) (ck : Nat), v = .slice ak ks.length ck ∧ Pt.In w (· < w.heap.size) ks ak ck := by
  obtain ⟨a, len, cap, rfl⟩ := hval
  obtain ⟨fuel, h⟩ := h
  have e : (Value.slice a len cap).cells.toList = [.slice a len cap] := rfl
  rw [e] at h
  obtain ⟨ks, ak, ck, xs, e, h1, h2, h3, h4⟩ := open_trees h hz
  rw [e] at h1
  exact ⟨ks, ak, ck, e, ⟨xs, h1, h2⟩, h4, h3⟩
theorem trees_bulk {a : Option Addr} {n c : Nat} {d : DataW H} {ps : List MemPlace} (h : DataW.Trod enc Tryd.prog w base (fun _ => true) held 23 (.slice a n c) d ps) : n ≤ Rows.uptoBulk d := by
  obtain ⟨fuel, h⟩ := h
  have e : (Value.slice a n c).cells.toList = [.slice a n c] := rfl
  rw [e] at h
  rcases DataW.trod_slice Tryd.underlying23 h with ⟨h0, hx⟩ | ⟨a', len, cap, elems, rest, m, hn, hcs, hx, hb, hl, hm, hlen, hel, _, _⟩
  · simp at h0
    obtain ⟨_, rfl, _⟩ := h0
    exact Nat.zero_le _
  · simp at hcs
    obtain ⟨_, rfl, _⟩ := hcs
    simp only [Prod.mk.injEq] at hx
    obtain ⟨rfl, _⟩ := hx
    have h1 := bulk_len (elems.map (·.1))
    rw [List.length_map, hlen] at h1
    simp only [Rows.uptoBulk]
    omega
end

theorem differBeside_met (os : Os) : laidMet Tryd.prog Rows.differBesideUptoRow.laid ((laidWorld os).forCall (fun _ _ => 0) ⟨#[], #[.slice none 0 0, .slice none 0 0, .slice none 0 0, .slice none 0 0, .string .empty], []⟩).memory :=
  laidMet_of_run' 8 (by kernel_rfl) (by kernel_rfl)
theorem differBeside_reads (os : Os) {H : Type} (enc : TypeId × Value → H) : ∃ places, DataW.whole enc Tryd.prog ((laidWorld os).forCall (fun _ _ => 0) ⟨#[], #[.slice none 0 0, .slice none 0 0, .slice none 0 0, .slice none 0 0, .string .empty], []⟩).memory Tryd.f10.params.toList Rows.differBesideSpec.vars false #[.slice none 0 0, .slice none 0 0, .slice none 0 0, .slice none 0 0, .string .empty].toList 8 = some ([.nil, .nil, .nil, .nil, .lit (.string [])], [], places) :=
  ⟨[], by kernel_rfl⟩

set_option maxRecDepth 100000 in
set_option maxHeartbeats 4000000 in
theorem differBeside_lifted (os : Os) (started : os.Started) (H : Type) (enc : TypeId × Value → H) (F : Stop.Interp) :
    ReturnsInHanded {} Tryd.checked os 10 .any ((Rows.OpenSpec.upto Rows.differBesideSpec).preRow enc Tryd.prog Tryd.f10 Rows.differBesideUptoRow.domain false Rows.differBesideUptoRow.laid) (((Rows.OpenSpec.upto Rows.differBesideSpec).at F).post enc Tryd.prog Tryd.f10 false true false false) := by
  obtain ⟨places, hx⟩ := differBeside_reads os enc
  refine returnsInHanded_of_row (C := Tryd.checked) (s := Rows.OpenSpec.upto Rows.differBesideSpec) Tryd.own started (by kernel_rfl) Tryd.func10
    (witness_row_at (enc := enc) (C := Tryd.checked) false (laidWorld os) #[.slice none 0 0, .slice none 0 0, .slice none 0 0, .slice none 0 0, .string .empty] rfl (by kernel_rfl) (by kernel_rfl) (by kernel_rfl)
      (OpenSpec.preRow_of_cond 8 hx (by kernel_rfl) (fun k hk => by cases hk; kernel_rfl) (by kernel_rfl) (differBeside_met os))) ?_
  intro W base args ds gs before hval0 hW _ hcond hsz hL _ _
  have hk := hcond _ rfl
  have hval : ∀ (j : Nat) t v, Tryd.f10.params[j]? = some t → args[j]? = some v → Value.okWide Tryd.prog W .any base t v := hval0
  have hW' := hW
  obtain ⟨p, q, hA0, hV, rfl, _, _⟩ := hW
  have hA : DataW.TrodAll enc Tryd.prog W 0 (fun _ => true) true Tryd.f10.params.toList args.toList ds p := hA0
  rw [Tryd.params10] at hA hval hsz
  obtain ⟨v0, vs0, d0, ds0, p0, q0, hargs, rfl, rfl, h0, r0⟩ := trodAll_cons hA
  obtain ⟨v1, vs1, d1, ds1, p1, q1, rfl, rfl, rfl, h1, r1⟩ := trodAll_cons r0
  obtain ⟨v2, vs2, d2, ds2, p2, q2, rfl, rfl, rfl, h2, r2⟩ := trodAll_cons r1
  obtain ⟨v3, vs3, d3, ds3, p3, q3, rfl, rfl, rfl, h3, r3⟩ := trodAll_cons r2
  obtain ⟨v4, vs4, d4, ds4, p4, q4, rfl, rfl, rfl, h4, r4⟩ := trodAll_cons r3
  obtain ⟨rfl, rfl, rfl⟩ := trodAll_nil r4
  obtain rfl : args = #[v0, v1, v2, v3, v4] := by cases args; simp_all
  obtain ⟨rfl, rfl⟩ := trodVars_none hV
  clear hA0
  simp only [List.append_nil] at hW' hsz hk
  obtain ⟨nm, rfl, rfl, rfl, hmax⟩ := open_string Tryd.underlying9 (hval 4 9 v4 rfl rfl) h4
  have hlt : ∀ x ∈ p0 ++ (p1 ++ (p2 ++ p3)), x.block < W.heap.size := fun x hx => by simpa using hW'.lt x (by simpa using hx)
  obtain ⟨f, ak, ck, rfl, hF⟩ := open_in (okWide_slice Tryd.underlying23 (hval 0 23 v0 rfl rfl)) h0 (reach_arg hsz (j := 0) rfl rfl)
  obtain ⟨g, bk, dk, rfl, hG⟩ := open_in (okWide_slice Tryd.underlying23 (hval 1 23 v1 rfl rfl)) h1 (reach_arg hsz (j := 1) rfl rfl)
  obtain ⟨h, hk', ek, rfl, hH⟩ := open_in (okWide_slice Tryd.underlying23 (hval 2 23 v2 rfl rfl)) h2 (reach_arg hsz (j := 2) rfl rfl)
  obtain ⟨k, kk, gk, rfl, hK⟩ := open_in (okWide_slice Tryd.underlying23 (hval 3 23 v3 rfl rfl)) h3 (reach_arg hsz (j := 3) rfl rfl)
  have hb : Rows.uptoBulkAll _ ≤ 1048576 := of_decide_eq_true hk
  simp only [Rows.uptoBulkAll] at hb
  have b0 := trees_bulk h0
  have b1 := trees_bulk h1
  have b2 := trees_bulk h2
  have b3 := trees_bulk h3
  refine (Pt.bes_any f g h k ak bk hk' kk ck dk ek gk nm W hF hG hH hK (by unfold maxLen at hmax; omega) (by unfold Pt.Small2; rw [List.length_append]; omega) (by unfold Pt.Small2; rw [List.length_append]; omega) (tabs_of hL)).mono fun e W' ⟨he, hn⟩ => ?_
  subst he
  exact ⟨_, rfl, _, _, _, [], _, [], hW', trodAll_mk1 (shut_bool Tryd.underlying4 true),
    trodAll_cons_mk (Below.trod Tryd.laidOut (by kernel_rfl) (of_decide_eq_true (by kernel_rfl)) h0 hn (fun x hx => hlt x (by simp [hx]))) (trodAll_cons_mk (Below.trod Tryd.laidOut (by kernel_rfl) (of_decide_eq_true (by kernel_rfl)) h1 hn (fun x hx => hlt x (by simp [hx])))
      (trodAll_cons_mk (Below.trod Tryd.laidOut (by kernel_rfl) (of_decide_eq_true (by kernel_rfl)) h2 hn (fun x hx => hlt x (by simp [hx]))) (trodAll_cons_mk (Below.trod Tryd.laidOut (by kernel_rfl) (of_decide_eq_true (by kernel_rfl)) h3 hn (fun x hx => hlt x (by simp [hx])))
        (trodAll_cons_mk (shut_string Tryd.underlying9 hmax) trodAll_mk0)))), rfl, hn.frame _, fun h => by cases h⟩

theorem differBeside_said : Rows.DifferBesideUptoSaid :=
  OpenClaim.holds_of_cond 10 Tryd.f10 rfl rfl rfl rfl rfl rfl rfl ⟨rfl, rfl, rfl, rfl, rfl⟩ rfl rfl rfl rfl rfl (by kernel_rfl) Tryd.func10 (by kernel_rfl)
    (of_decide_eq_true (by kernel_rfl)) (by unfold Func.isWrapper; first | (rw [if_pos (by decide +kernel)]; kernel_rfl) | (rw [if_neg (by decide +kernel)]; exact ⟨rfl, rfl⟩))
    (fun os started H enc _ F => by rw [OpenClaim.pre_eq_preRow]; exact differBeside_lifted os started H enc F)

theorem differBeside_plain (f : FuncId) (fn : Func) (hf : Tryd.pinned.checked.prog.funcNamed "espalier/espalierlaw18.DifferBeside" = some f) (hfn : Tryd.pinned.checked.prog.funcs[f]? = some fn) :
    false = Tryd.pinned.checked.prog.looks [] ∧ ∀ (j : Nat) t, fn.params[j]? = some t → Tryd.pinned.checked.prog.wantsStandIn t = false := by
  obtain rfl : f = 10 := Option.some.inj ((show Tryd.prog.funcNamed "espalier/espalierlaw18.DifferBeside" = some 10 by kernel_rfl).symm.trans hf) |>.symm
  obtain rfl : fn = Tryd.f10 := (Option.some.inj (Tryd.func10.symm.trans hfn)).symm
  refine ⟨by kernel_rfl, fun j t ht => ?_⟩
  rw [Tryd.params10] at ht
  have ht : t = 23 ∨ t = 9 := by simpa using Array.mem_of_getElem? ht
  rcases ht with rfl | rfl
  · exact (show Tryd.prog.wantsStandIn 23 = false by kernel_rfl)
  · exact (show Tryd.prog.wantsStandIn 9 = false by kernel_rfl)

/-- THE CARD. -/
theorem differBeside_cardUpto : Rows.DifferBesideUptoCardSaid :=
  Claim7.holds_tied_plain_at .later [] _ _ _ _ differBeside_said (fun _ h => by cases h) (by kernel_rfl) (fun _ h => by cases h) differBesideUpto_row_tie rfl ⟨rfl, rfl⟩ (by kernel_rfl) rfl differBeside_plain (by kernel_rfl)

end Go.Proofs.YtemmkobgpciflaaDoor
