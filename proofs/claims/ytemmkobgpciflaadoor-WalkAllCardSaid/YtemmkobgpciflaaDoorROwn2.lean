/- What is wrong with a node itself: the document's test, walked (own). -/
import Derived.Test.YtemmkobgpciflaaDoorROwn
namespace Go.Proofs.YtemmkobgpciflaaDoor
open Go.RowKit
namespace Ch

set_option maxRecDepth 100000 in
set_option maxHeartbeats 1000000 in
theorem rown_any (k : Int) (n : ByteArray) (al : List Att) (t : ByteArray) (aa ak : Option Addr) (ca m ck : Nat) (w : World) (hR : Rd w (.slice aa al.length ca) al.length 2 (atc al)) :
    Calls Tryd.prog 95 #[.agg #[.int .i64 k, .string n, .slice aa al.length ca, .string t, .slice ak m ck]] w fun e w' => e = .returned (.int .i64 (ownE k n al t)) ∧ Below w.heap.size w w' := by
  obtain ⟨E0, hE⟩ : ∃ p, ownE k n al t = p := ⟨_, rfl⟩
  rw [hE]
  unfold ownE at hE
  have U : ∀ o, Upd w (w.alloc o) (fun _ => False) := fun o => (Upd.refl w _).alloc o
  have B0 : ∀ o, Below w.heap.size w (w.alloc o) := fun o => below_al (Below.refl _ _) (Nat.le_refl _) o
  by_cases h1 : k = 1
  · subst h1
    rw [if_pos rfl] at hE
    have N := rname_any n
    obtain ⟨b, hb⟩ : ∃ b, nameB n = b := ⟨_, rfl⟩
    rw [hb] at N hE
    cases b
    · rw [if_neg (by simp)] at hE
      subst hE
      clear hb hR U
      go_enter Tryd.func95, Tryd.ntmps95
      go_wp2_with (go_at_call 142; refine (N _).mono ?_; rintro e w' ⟨rfl, rfl⟩)
      go_ret
      exact ⟨rfl, B0 _⟩
    · rw [if_pos rfl] at hE
      have A := fun o => rattrs_any al aa ca (w.alloc o) (hR.keep (U o) (fun _ _ h => h))
      rw [hE] at A
      clear hb hR U hE
      go_enter Tryd.func95, Tryd.ntmps95
      go_wp2_with (first | (go_at_call 142; refine (N _).mono ?_; rintro e w' ⟨rfl, rfl⟩) | (go_at_call 143; refine (A _).mono ?_; rintro e w' ⟨rfl, hB⟩))
      go_ret
      exact ⟨rfl, below_tr (B0 _) hB⟩
  · have h1b : (k == 1) = false := beq_eq_false_iff_ne.2 h1
    rw [if_neg h1] at hE
    by_cases h2 : k = 2
    · subst h2
      rw [if_pos rfl] at hE
      have A := fun o => rtext_any t (w.alloc o)
      rw [hE] at A
      generalize textP t = p at A
      clear hR U hE
      go_enter Tryd.func95, Tryd.ntmps95
      go_wp2_with (go_at_call 144; refine (A _).mono ?_; rintro e w' ⟨rfl, hB⟩)
      go_ret
      exact ⟨rfl, below_tr (B0 _) hB⟩
    · have h2b : (k == 2) = false := beq_eq_false_iff_ne.2 h2
      rw [if_neg h2] at hE
      subst hE
      clear hR U
      go_enter Tryd.func95, Tryd.ntmps95
      go_wp2
      go_ret
      exact ⟨rfl, B0 _⟩

end Ch
end Go.Proofs.YtemmkobgpciflaaDoor
