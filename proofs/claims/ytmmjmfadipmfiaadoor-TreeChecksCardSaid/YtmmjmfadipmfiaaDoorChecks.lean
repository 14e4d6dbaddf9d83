/- TreeChecks, walked. -/
import Derived.Test.YtmmjmfadipmfiaaDoorCopy
import Derived.Test.YtmmjmfadipmfiaaDoorLook
import Derived.Test.YtmmjmfadipmfiaaDoorRLook
namespace Go.Proofs.YtmmjmfadipmfiaaDoor
open Go.RowKit
open Ch

theorem leaf_at (w : World) (P : Nat → Prop) (k : Int) (n : ByteArray) : TreeAt w P (.mk k n [] ⟨#[]⟩ []) [.int .i64 k, .string n, .slice none 0 0, .string ⟨#[]⟩, .slice none 0 0] := by
  unfold TreeAt
  rw [TreeIs]
  exact ⟨none, 0, none, 0, [], rfl, ⟨Rd.nil w 2, fun h => absurd rfl h⟩, ⟨Rd.nil w 5, fun h => absurd rfl h⟩, by rw [ForestIs]⟩
theorem leaf_fits (k : Int) (n : ByteArray) (h : n.size ≤ 9223372036854775807) : Fits (.mk k n [] ⟨#[]⟩ []) := by
  rw [Fits, FitsL]
  exact ⟨⟨h, by decide, fun _ h => (nomatch h), by decide, by decide⟩, trivial⟩
theorem leaf_a : chkT (.mk 1 ⟨#[97]⟩ [] ⟨#[]⟩ []) = 0 := by
  unfold chkT
  rw [chk, chkL]
  have h : ownE 1 ⟨#[97]⟩ [] ⟨#[]⟩ = 0 := by decide +kernel
  rw [h]
  rfl
theorem leaf_0 : chkT (.mk 0 ⟨#[]⟩ [] ⟨#[]⟩ []) = 1 := by
  unfold chkT
  rw [chk]
  have h : ownE 0 ⟨#[]⟩ [] ⟨#[]⟩ = 1 := by decide +kernel
  rw [h]
  rfl

set_option maxRecDepth 100000 in
set_option maxHeartbeats 4000000 in
theorem checks_any (P : Nat → Prop) (t : T) (cs : List Value) (w : World) (hA : TreeAt w P t cs) (hF : Fits t) (hT : Tabs w) :
    Calls Tryd.prog 3 #[.agg cs.toArray] w fun e w' => e = .returned (.bool true) ∧ Below w.heap.size w w' := by
  cases t with
  | mk k nm al tx ks =>
  obtain ⟨aa, ca, ak, ck, xs, rfl, _, _, _⟩ := hA.parts
  obtain ⟨E0, hE⟩ : ∃ E0, chkT (.mk k nm al tx ks) = E0 := ⟨_, rfl⟩
  have HH := Lib.hid (And.intro hA (And.intro hF (And.intro hT hE)))
  clear hA hF hT hE
  go_enter Tryd.func3, Tryd.ntmps3
  go_wp2
  generalize hW : World.alloc _ _ = W
  have B1 : Below w.heap.size w W := by rw [← hW]; exact below_al (Below.refl _ _) (Nat.le_refl _) _
  have X1 : Blk W w.heap.size [.int .i64 k, .string nm, .slice aa al.length ca, .string tx, .slice ak ks.length ck] 25 := by rw [← hW]; exact Blk.new w _ _
  clear hW
  have hX : ∀ w', Upd W w' (fun _ => False) → w'.cell? ⟨w.heap.size, 0, none⟩ = some (.int .i64 k) ∧ w'.cell? ⟨w.heap.size, 1, none⟩ = some (.string nm) ∧ w'.cell? ⟨w.heap.size, 2, none⟩ = some (.slice aa al.length ca) ∧ w'.cell? ⟨w.heap.size, 3, none⟩ = some (.string tx) ∧ w'.cell? ⟨w.heap.size, 4, none⟩ = some (.slice ak ks.length ck) := fun w' hU => by
    have X2 := hU.blk X1 (fun h => h)
    exact ⟨X2.cell 0, X2.cell 1, X2.cell 2, X2.cell 3, X2.cell 4⟩
  have HX := Lib.hid (And.intro hX B1)
  clear hX X1 B1
  apply wp_reg (fun w' : World => w'.cell? ⟨w.heap.size, 0, none⟩ = some (.int .i64 k) ∧ w'.cell? ⟨w.heap.size, 1, none⟩ = some (.string nm) ∧ w'.cell? ⟨w.heap.size, 2, none⟩ = some (.slice aa al.length ca) ∧ w'.cell? ⟨w.heap.size, 3, none⟩ = some (.string tx) ∧ w'.cell? ⟨w.heap.size, 4, none⟩ = some (.slice ak ks.length ck)) [0, 3] [1, 2, 4, 5, 6, 7, 8, 9, 10, 11, 12, 13, 14, 15] [16] (by kernel_rfl) (by kernel_rfl) (fun _ _ d _ _ h => by cases d <;> exact h) (HX.out.1 W.drew ((Upd.refl W _).drew))
  · iterate 2 (apply reads_consL rfl rfl; (· intro w0 hS; obtain ⟨hS1, hS2, hS3, hS4, hS5⟩ := hS; go_simp; try rfl); simp only [Act.put, List.setIfInBounds_toArray, List.set_cons_zero, List.set_cons_succ])
    exact rfl
  refine tail_consL rfl ?_
  have BW : Below w.heap.size w W.drew := HX.out.2.drew
  have C1 := copied_any P (.mk k nm al tx ks) _ W.drew (HH.out.1.keep (Upd.ofBelow (F := fun _ => False) BW) (fun _ _ h => h)) HH.out.2.1
  have HBW := Lib.hid BW
  clear BW
  go_wp2_with fail
  refine C1.mono ?_
  rintro e w1 ⟨cs1, rfl, hO, hB1⟩
  have UW1 : Upd W w1 (fun _ => False) := ((Upd.refl W _).drew).trans (Upd.ofBelow hB1) (fun _ _ h => h)
  have S1 := HX.out.1 w1 UW1
  have BW1 : Below w.heap.size w w1 := below_tr HBW.out hB1
  have C2 := check_any (.mk k nm al tx ks) cs1 w1 w1.heap.size ((OTree.at_ _ _ _ _ hO).mono (fun g hg => hg.2)) HH.out.2.1 (Nat.le_refl _) (HH.out.2.2.1.below BW1)
  rw [HH.out.2.2.2] at C2
  have H1 := Lib.hid (And.intro UW1 BW1)
  clear hO hB1 UW1 BW1 C1
  go_wp2_with fail
  refine ⟨S1, tail_consL rfl ?_⟩
  go_wp2_with fail
  refine C2.mono ?_
  rintro e w2 ⟨rfl, hB2⟩
  have UW2 : Upd W w2 (fun _ => False) := H1.out.1.trans (Upd.ofBelow hB2) (fun _ _ h => h)
  have BW2 := below_tr H1.out.2 hB2
  have S2 := HX.out.1 w2 UW2
  have C3 := rCheck_any (.mk k nm al tx ks) _ w2 P (HH.out.1.keep (Upd.ofBelow (F := fun _ => False) BW2) (fun _ _ h => h)) HH.out.2.1
  have e3 : chk (.mk k nm al tx ks) 1 0 = E0 := HH.out.2.2.2
  rw [e3] at C3
  have H2 := Lib.hid (And.intro UW2 BW2)
  clear hB2 UW2 BW2 C2 S1 H1 e3
  go_wp2_with fail
  refine ⟨S2, tail_consL rfl ?_⟩
  go_wp2_with fail
  refine C3.mono ?_
  rintro e w3 ⟨rfl, hB3⟩
  have UW3 : Upd W w3 (fun _ => False) := H2.out.1.trans (Upd.ofBelow hB3) (fun _ _ h => h)
  have BW3 := below_tr H2.out.2 hB3
  have S3 := HX.out.1 w3 UW3
  have C4 := check_any (.mk 1 ⟨#[97]⟩ [] ⟨#[]⟩ []) _ w3 w3.heap.size (leaf_at w3 _ 1 ⟨#[97]⟩) (leaf_fits 1 ⟨#[97]⟩ (by decide)) (Nat.le_refl _) (HH.out.2.2.1.below BW3)
  rw [leaf_a] at C4
  have H3 := Lib.hid (And.intro UW3 BW3)
  clear hB3 UW3 BW3 C3 S2 H2
  go_wp2_with fail
  refine ⟨S3, tail_consL rfl ?_⟩
  iterate 3 (go_wp2_with fail; refine ⟨S3, tail_consL rfl ?_⟩)
  go_wp2_with fail
  refine C4.mono ?_
  rintro e w4 ⟨rfl, hB4⟩
  have UW4 : Upd W w4 (fun _ => False) := H3.out.1.trans (Upd.ofBelow hB4) (fun _ _ h => h)
  have BW4 := below_tr H3.out.2 hB4
  have S4 := HX.out.1 w4 UW4
  have C5 := check_any (.mk 0 ⟨#[]⟩ [] ⟨#[]⟩ []) _ w4 w4.heap.size (leaf_at w4 _ 0 ⟨#[]⟩) (leaf_fits 0 ⟨#[]⟩ (by decide)) (Nat.le_refl _) (HH.out.2.2.1.below BW4)
  rw [leaf_0] at C5
  have H4 := Lib.hid (And.intro UW4 BW4)
  clear hB4 UW4 BW4 C4 S3 H3
  go_wp2_with fail
  refine ⟨S4, tail_consL rfl ?_⟩
  iterate 4 (go_wp2_with fail; refine ⟨S4, tail_consL rfl ?_⟩)
  go_wp2_with fail
  refine C5.mono ?_
  rintro e w5 ⟨rfl, hB5⟩
  have BW5 := below_tr H4.out.2 hB5
  have UW5 : Upd W w5 (fun _ => False) := H4.out.1.trans (Upd.ofBelow hB5) (fun _ _ h => h)
  have S5 := HX.out.1 w5 UW5
  have H5 := Lib.hid BW5
  clear hB5 UW5 BW5 C5 S4 H4
  go_wp2_with fail
  refine ⟨S5, tail_consL rfl ?_⟩
  iterate 1 (go_wp2_with fail; refine ⟨S5, tail_consL rfl ?_⟩)
  go_wp2_with fail
  refine ⟨S5, tail_oneL rfl ?_⟩
  go_wp2
  go_ret
  exact ⟨rfl, H5.out⟩

end Go.Proofs.YtmmjmfadipmfiaaDoor
