/- WalkAll: for every image, two handles, a switch and a number it returns true, and the image reads as it did. The two tables of UTF-8 hold what the library's text lays: the card ties that. -/
import Derived.Test.YtemmkobgpciflaaDoorWkL
import Derived.Test.YtemmkobgpciflaaDoorOpenT
import Derived.Test.YtemmkobgpciflaaDoorLaid
import Derived.Test.YtemmkobgpciflaaDoorCards
import Derived.Test.YtemmkobgpciflaaDoorTie
import Derived.OpenShut
namespace Go.Proofs.YtemmkobgpciflaaDoor
open Go.ChangeShapes Go.WideShapes Go.ChangeAt Go.RowKit Go.Deep

section
variable {H : Type} {enc : TypeId × Value → H} {w : World} {base : Nat} {held : Bool}
theorem open_image_arg {v : Value} {d : DataW H} {ps : List MemPlace} (hval : ∃ cs, v = .agg cs ∧ cs.size = Tryd.prog.cellsOf 44) (h : DataW.Trod enc Tryd.prog w base (fun _ => true) held 44 v d ps) (hz : InReach Tryd.prog 44 d) :
    ∃ (S : List Im.Sl) (R : List Df.Row) (roots : List Nat) (sa : Option Addr) (sc : Nat) (ra : Option Addr) (rc : Nat), v = .agg #[.slice sa S.length sc, .slice ra roots.length rc] ∧ ImIn w (· < w.heap.size) S R roots sa sc ra rc := by
  obtain ⟨cs, rfl, _⟩ := hval
  obtain ⟨fuel, h⟩ := h
  have e : (Value.agg cs).cells.toList = cs.toList := rfl
  rw [e] at h
  obtain ⟨S, R, roots, sa, sc, ra, rc, e, hI⟩ := open_image h hz
  exact ⟨S, R, roots, sa, sc, ra, rc, by rw [← Array.toArray_toList (xs := cs), e], hI⟩
end

abbrev imZ : Value := .agg #[.slice none 0 0, .slice none 0 0]

theorem walkAll_met (os : Os) : laidMet Tryd.prog Rows.walkAllRow.laid ((laidWorld os).forCall (fun _ _ => 0) ⟨#[], #[imZ, .int .u64 0, .int .u64 0, .bool false, .int .i64 0], []⟩).memory :=
  laidMet_of_run' 8 (by kernel_rfl) (by kernel_rfl)
theorem walkAll_reads (os : Os) {H : Type} (enc : TypeId × Value → H) : ∃ places, DataW.whole enc Tryd.prog ((laidWorld os).forCall (fun _ _ => 0) ⟨#[], #[imZ, .int .u64 0, .int .u64 0, .bool false, .int .i64 0], []⟩).memory Tryd.f6.params.toList Rows.walkAllSpec.vars false #[imZ, .int .u64 0, .int .u64 0, .bool false, .int .i64 0].toList 8 = some ([.agg [.nil, .nil], .lit (.int .u64 0), .lit (.int .u64 0), .lit (.bool false), .lit (.int .i64 0)], [], places) :=
  ⟨[], by kernel_rfl⟩

set_option maxRecDepth 100000 in
set_option maxHeartbeats 4000000 in
theorem walkAll_lifted (os : Os) (started : os.Started) (H : Type) (enc : TypeId × Value → H) (F : Stop.Interp) :
    ReturnsInHanded {} Tryd.checked os 6 .any ((OpenSpec.ofChange Rows.walkAllSpec).preRow enc Tryd.prog Tryd.f6 Rows.walkAllRow.domain false Rows.walkAllRow.laid) (((OpenSpec.ofChange Rows.walkAllSpec).at F).post enc Tryd.prog Tryd.f6 false true false false) := by
  obtain ⟨places, hx⟩ := walkAll_reads os enc
  refine returnsInHanded_of_row (C := Tryd.checked) (s := OpenSpec.ofChange Rows.walkAllSpec) Tryd.own started (by kernel_rfl) Tryd.func6
    (witness_row_at (enc := enc) (C := Tryd.checked) false (laidWorld os) #[imZ, .int .u64 0, .int .u64 0, .bool false, .int .i64 0] rfl (by kernel_rfl) (by kernel_rfl) (by kernel_rfl)
      (OpenSpec.preRow_of_cond 8 hx (by kernel_rfl) (fun k hk => by cases hk) (by kernel_rfl) (walkAll_met os))) ?_
  intro W base args ds gs before hval0 hW _ _ hsz hL _ _
  have hval : ∀ (j : Nat) t v, Tryd.f6.params[j]? = some t → args[j]? = some v → Value.okWide Tryd.prog W .any base t v := hval0
  have hW' := hW
  obtain ⟨p, q, hA0, hV, rfl, _, _⟩ := hW
  have hA : DataW.TrodAll enc Tryd.prog W 0 (fun _ => true) true Tryd.f6.params.toList args.toList ds p := hA0
  rw [Tryd.params6] at hA hval hsz
  obtain ⟨v0, vs0, d0, ds0, p0, q0, hargs, rfl, rfl, h0, r0⟩ := trodAll_cons hA
  obtain ⟨v1, vs1, d1, ds1, p1, q1, rfl, rfl, rfl, h1, r1⟩ := trodAll_cons r0
  obtain ⟨v2, vs2, d2, ds2, p2, q2, rfl, rfl, rfl, h2, r2⟩ := trodAll_cons r1
  obtain ⟨v3, vs3, d3, ds3, p3, q3, rfl, rfl, rfl, h3, r3⟩ := trodAll_cons r2
  obtain ⟨v4, vs4, d4, ds4, p4, q4, rfl, rfl, rfl, h4, r4⟩ := trodAll_cons r3
  obtain ⟨rfl, rfl, rfl⟩ := trodAll_nil r4
  obtain rfl : args = #[v0, v1, v2, v3, v4] := by cases args; simp_all
  obtain ⟨rfl, rfl⟩ := trodVars_none hV
  clear hA0
  simp only [List.append_nil] at hW' hsz
  obtain ⟨a, rfl, rfl, rfl, wa⟩ := open_int Tryd.underlying46 (hval 1 46 v1 rfl rfl) h1
  obtain ⟨b, rfl, rfl, rfl, wb⟩ := open_int Tryd.underlying46 (hval 2 46 v2 rfl rfl) h2
  obtain ⟨c, rfl, rfl, rfl⟩ := open_bool Tryd.underlying4 (hval 3 4 v3 rfl rfl) h3
  obtain ⟨m, rfl, rfl, rfl, wm⟩ := open_int Tryd.underlying3 (hval 4 3 v4 rfl rfl) h4
  have hlt : ∀ x ∈ p0, x.block < W.heap.size := fun x hx => by simpa using hW'.lt x (by simpa using hx)
  obtain ⟨S, R, roots, sa, sc, ra, rc, rfl, hI⟩ := open_image_arg (okWide_struct Tryd.underlying44 (hval 0 44 v0 rfl rfl)) h0 (reach_arg hsz (j := 0) rfl rfl)
  obtain ⟨a', rfl, ha⟩ := wf_u64 wa
  obtain ⟨b', rfl, hb⟩ := wf_u64 wb
  refine (Wk.walk_any S R roots sa ra sc rc a' b' c m W hI ha hb (tabs_of hL)).mono fun e W' ⟨he, hn⟩ => ?_
  subst he
  exact ⟨_, rfl, _, _, _, [], _, [], hW', trodAll_mk1 (shut_bool Tryd.underlying4 true),
    trodAll_cons_mk (Below.trod Tryd.laidOut (by kernel_rfl) (of_decide_eq_true (by kernel_rfl)) h0 hn (fun x hx => hlt x (by simp [hx]))) (trodAll_cons_mk (shut_int Tryd.underlying46 wa)
      (trodAll_cons_mk (shut_int Tryd.underlying46 wb) (trodAll_cons_mk (shut_bool Tryd.underlying4 c)
        (trodAll_cons_mk (shut_int Tryd.underlying3 wm) trodAll_mk0)))), rfl, hn.frame _, fun h => by cases h⟩

theorem walkAll_said : Rows.WalkAllSaid :=
  OpenClaim.holds_of_cond 6 Tryd.f6 rfl rfl rfl rfl rfl rfl rfl ⟨rfl, rfl, rfl, rfl, rfl⟩ rfl rfl rfl rfl rfl (by kernel_rfl) Tryd.func6 (by kernel_rfl)
    (of_decide_eq_true (by kernel_rfl)) (by unfold Func.isWrapper; first | (rw [if_pos (by decide +kernel)]; kernel_rfl) | (rw [if_neg (by decide +kernel)]; exact ⟨rfl, rfl⟩))
    (fun os started H enc _ F => by rw [OpenClaim.pre_eq_preRow]; exact walkAll_lifted os started H enc F)

theorem walkAll_plain (f : FuncId) (fn : Func) (hf : Tryd.pinned.checked.prog.funcNamed "espalier/espalierlaw10.WalkAll" = some f) (hfn : Tryd.pinned.checked.prog.funcs[f]? = some fn) :
    false = Tryd.pinned.checked.prog.looks [] ∧ ∀ (j : Nat) t, fn.params[j]? = some t → Tryd.pinned.checked.prog.wantsStandIn t = false := by
  obtain rfl : f = 6 := Option.some.inj ((show Tryd.prog.funcNamed "espalier/espalierlaw10.WalkAll" = some 6 by kernel_rfl).symm.trans hf) |>.symm
  obtain rfl : fn = Tryd.f6 := (Option.some.inj (Tryd.func6.symm.trans hfn)).symm
  refine ⟨by kernel_rfl, fun j t ht => ?_⟩
  rw [Tryd.params6] at ht
  have ht : t = 44 ∨ t = 46 ∨ t = 4 ∨ t = 3 := by simpa using Array.mem_of_getElem? ht
  rcases ht with rfl | rfl | rfl | rfl
  · exact (show Tryd.prog.wantsStandIn 44 = false by kernel_rfl)
  · exact (show Tryd.prog.wantsStandIn 46 = false by kernel_rfl)
  · exact (show Tryd.prog.wantsStandIn 4 = false by kernel_rfl)
  · exact (show Tryd.prog.wantsStandIn 3 = false by kernel_rfl)

/-- THE CARD. -/
theorem walkAll_card : Rows.WalkAllCardSaid :=
  Claim7.holds_tied_plain_at .later [] _ _ _ _ walkAll_said (fun _ h => by cases h) (by kernel_rfl) (fun _ h => by cases h) walkAll_row_tie rfl ⟨rfl, rfl⟩ (by kernel_rfl) rfl walkAll_plain (by kernel_rfl)

end Go.Proofs.YtemmkobgpciflaaDoor
