/- DifferDistances, walked: true for every two forests. -/
import Derived.Test.YtemmkobgpciflaaDoorDistB
namespace Go.Proofs.YtemmkobgpciflaaDoor
open Go.RowKit
open Ch
namespace Df

set_option maxRecDepth 100000 in
set_option maxHeartbeats 4000000 in
theorem law_any (f g : List T) (ak bk : Option Addr) (ck dk : Nat) (w : World) (hf : Forest w (· < w.heap.size) f ak ck) (hg : Forest w (· < w.heap.size) g bk dk) (ff : ∀ x ∈ f, Fits x) (fg : ∀ x ∈ g, Fits x) (lf : f.length * 88 ≤ 140737488351232) (lg : g.length * 88 ≤ 140737488351232) (hT : Tabs w) :
    Calls Tryd.prog 4 #[.slice ak f.length ck, .slice bk g.length dk] w fun e w' => e = .returned (.bool true) ∧ Below w.heap.size w w' := by
  have C := copyF_any _ f ak ck w hf ff lf
  have HH := Lib.hid (And.intro hf (And.intro hg (And.intro ff (And.intro fg (And.intro lf (And.intro lg hT))))))
  have HC := Lib.hid C
  clear hf hg ff fg lf lg hT C
  go_enter Tryd.func4, Tryd.ntmps4
  go_wp2_with fail
  refine HC.out.mono ?_
  rintro e w1 ⟨l1, c1, rfl, O1, B1⟩
  have C2 := copyF_any _ g bk dk w1 (HH.out.2.1.below B1) HH.out.2.2.2.1 HH.out.2.2.2.2.2.1
  have F1 := O1.forest
  have H1 := Lib.hid (And.intro F1 B1)
  have HC2 := Lib.hid C2
  clear O1 B1 C2 F1
  go_wp2_with fail
  refine HC2.out.mono ?_
  rintro e w2 ⟨l2, c2, rfl, O2, B2⟩
  have F2 := O2.forest
  have F1 := H1.out.1.below B2
  have hs := B2.size
  have BB := below_tr H1.out.2 B2
  have C3 := distA_any w2.heap.size f g l1 l2 c1 c2 w2 (F1.mono (fun g h => by have := h.2; omega)) (F2.mono (fun g h => h.2)) HH.out.2.2.1 HH.out.2.2.2.1 HH.out.2.2.2.2.1 HH.out.2.2.2.2.2.1 (Nat.le_refl _) (HH.out.2.2.2.2.2.2.below BB)
  have H2 := Lib.hid BB
  have HC3 := Lib.hid C3
  clear O2 B2 C3 F1 F2 hs BB
  go_wp2_with fail
  refine HC3.out.mono ?_
  rintro e w3 ⟨r, c, rfl, HR, B3⟩
  have BB := below_tr H2.out B3
  have U3 := Upd.ofBelow (F := fun _ => False) BB
  have C4 := distB_any w.heap.size f g ak bk ck dk w3 (HH.out.1.keep U3 (fun _ _ h => h)) (HH.out.2.1.keep U3 (fun _ _ h => h)) HH.out.2.2.1 HH.out.2.2.2.1 HH.out.2.2.2.2.1 HH.out.2.2.2.2.2.1 BB.size (HH.out.2.2.2.2.2.2.below BB)
  have H3 := Lib.hid BB
  have HC4 := Lib.hid C4
  clear B3 BB U3 C4
  go_wp2_with fail
  refine HC4.out.mono ?_
  rintro e w4 ⟨r', c', rfl, HR', B4⟩
  have hrr := HR.out.trans HR'.out.symm
  simp only [Prod.mk.injEq] at hrr
  obtain ⟨rfl, rfl⟩ := hrr
  have H4 := Lib.hid B4
  clear B4 HR HR'
  go_wp2
  go_ret
  exact ⟨rfl, below_tr H3.out H4.out⟩

end Df
end Go.Proofs.YtemmkobgpciflaaDoor
