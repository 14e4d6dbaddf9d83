/- Both documents of an image, or, if it can't be, of nothing: walked. -/
import Derived.Test.YtemmkobgpciflaaDoorCopyI
import Derived.Test.YtemmkobgpciflaaDoorPLoad
import Derived.Test.YtemmkobgpciflaaDoorPDs
import Derived.Test.YtemmkobgpciflaaDoorAllT
namespace Go.Proofs.YtemmkobgpciflaaDoor
open Go.RowKit
open Ch
open Df

theorem ImIn.keep {w w' : World} {P : Nat → Prop} {S : List Im.Sl} {R : List Row} {roots : List Nat} {sa ra : Option Addr} {sc rc : Nat} (h : ImIn w P S R roots sa sc ra rc) (hU : Upd w w' (fun _ => False)) : ImIn w' P S R roots sa sc ra rc :=
  ⟨h.s.keep hU (fun _ _ h => h), h.r.keep hU (fun _ _ h => h), h.h.keep hU (fun _ _ h => h), h.f, h.sl, h.rl, h.rf⟩
theorem tidy_fit {s : Im.Sl} (h : FitS s) : (Im.tidy s).g < 4294967296 ∧ (Im.tidy s).al.length * 32 ≤ 140737488351232 := by
  refine ⟨by rw [(Pd.tidy_same s).1]; exact h.g, ?_⟩
  unfold Im.tidy Im.dead1
  split
  · split
    · simp
    · exact h.al
  · simp

def BeginsPost (w : World) (e : Ending) (w' : World) : Prop := Below w.heap.size w w' ∧ ∃ p d B S roots ts, e = .returned (.tuple #[Pd.ptr p, .pointer (some ⟨d, 0, none⟩), .bool true]) ∧ Pd.PD w' w'.heap.size p B S roots ts ∧ RDoc w' w'.heap.size d S roots ts

theorem pd_nil {w : World} {p : Nat} (h : Blk w p [.slice none 0 0, .slice none 0 0, .int .i64 0, .int .i64 0, .int .i64 0] 120) : Pd.PD w w.heap.size p [] [] [] [] := by
  refine ⟨fun g => if g = p then .doc else .free, fun _ => False, 0, 0, 0, _, _, ⟨h, if_pos rfl, ⟨own_none, fun g hg => by cases hg⟩, ⟨own_none, fun g hg => by cases hg⟩, rfl, fun i b s h => by simp at h, fun g hg => ?_⟩, fun g hg => ?_, fun s h => (by cases h), Nat.le_refl _, Im.valid_nil⟩
  · by_cases e : g = p
    · rw [e]; exact h.lt
    · exact absurd (if_neg e) hg
  · by_cases e : g = p
    · rw [e]; exact h.lt
    · exact absurd (if_neg e) hg
theorem rd_nil {w : World} {d : Nat} (h : Blk w d [.slice none 0 0, .slice none 0 0] 122) : RDoc w w.heap.size d [] [] [] :=
  ⟨_, _, [], ⟨h, own_none⟩, ⟨rfl, fun i r s h => by simp at h⟩, own_none, h.lt, (fun g hg => by cases hg), (fun g hg => by cases hg), (fun r h => by cases h), Nat.le_refl _, Im.valid_nil⟩

set_option maxRecDepth 100000 in
set_option maxHeartbeats 1600000 in
theorem begins_any (S : List Im.Sl) (R0 : List Row) (roots : List Nat) (sa ra : Option Addr) (sc rc : Nat) (w : World) (hI : ImIn w (· < w.heap.size) S R0 roots sa sc ra rc) (hT : Tabs w) :
    Calls Tryd.prog 23 #[.agg #[.slice sa S.length sc, .slice ra roots.length rc]] w (BeginsPost w) := by
  obtain ⟨X, hX⟩ : ∃ X, X = w.heap.size := ⟨_, rfl⟩
  obtain ⟨n, hn⟩ : ∃ n, n = S.length := ⟨_, rfl⟩
  obtain ⟨rn, hrn⟩ : ∃ rn, rn = roots.length := ⟨_, rfl⟩
  obtain ⟨Po, hPo⟩ : ∃ Po : Ending → World → Prop, Po = BeginsPost w := ⟨_, rfl⟩
  have HP := Lib.hid hPo
  obtain ⟨W1, hW1⟩ : ∃ W1, W1 = w.alloc (.cells #[Value.slice sa n sc, .slice ra rn rc] 44) := ⟨_, rfl⟩
  have U1 : Upd w W1 (fun _ => False) := by rw [hW1]; exact (Upd.refl w _).alloc _
  have X1 : Blk W1 X [.slice sa n sc, .slice ra rn rc] 44 := by rw [hW1]; exact Blk.new' hX
  have x0 := X1.cell 0
  have x1 := X1.cell 1
  simp only [List.getElem?_cons_zero, List.getElem?_cons_succ] at x0 x1
  have C := copyI_any (· < w.heap.size) S R0 roots sa ra sc rc W1 (hI.keep U1)
  rw [← hn, ← hrn] at C
  have HC := Lib.hid C
  have HH := Lib.hid (And.intro hI (And.intro hT (And.intro U1 (And.intro X1 (And.intro hX (And.intro hn (And.intro hrn hW1)))))))
  rw [← hn, ← hrn, ← hPo]
  clear hI hT U1 X1 C hX hn hrn hPo hW1
  go_enter Tryd.func23, Tryd.ntmps23
  go_upto_region 1 with fail
  rw [← HH.out.2.2.2.2.1]
  have hWq := HH.out.2.2.2.2.2.2.2
  rw [← hWq]
  clear hWq
  go_wp2_with fail
  refine HC.out.mono ?_
  rintro e w2 ⟨B2, sa2, sc2, ra2, rc2, R2, rfl, hI2⟩
  have U2 := Upd.ofBelow (F := fun _ => False) B2
  have U02 := HH.out.2.2.1.trans U2 (fun _ _ h => h)
  have B02 : Below w.heap.size w w2 := U02.below (F := fun _ => False) (Nat.le_refl _) (fun _ _ h => h)
  have hf := hI2.f
  have C := Pd.loadP_any _ S R2 roots sa2 ra2 sc2 rc2 w2 hI2.s hI2.r hI2.h (fun g hg => hg.2) (fun s hs => (hf s hs).g) (fun s hs => ⟨by have := (hf s hs).kl; omega, (hf s hs).h⟩) (fun s hs => (hf s hs).al) (by have := hI2.rl; omega) hI2.rf (HH.out.2.1.below B02)
  rw [← HH.out.2.2.2.2.2.1, ← HH.out.2.2.2.2.2.2.1] at C ⊢
  have HC2 := Lib.hid C
  have H2 := Lib.hid (And.intro B02 (U2.blk HH.out.2.2.2.1 (fun h => h)))
  clear B2 hI2 U2 U02 B02 hf C HC x0 x1
  go_wp2_with fail
  refine HC2.out.mono ?_
  rintro e w3 ⟨B3, hres⟩
  have B03 := H2.out.1.trans (B3.mono H2.out.1.size)
  have X3 := (Upd.ofBelow (F := fun _ => False) B3).blk H2.out.2 (fun h => h)
  have x0 := X3.cell 0
  have x1 := X3.cell 1
  simp only [List.getElem?_cons_zero, List.getElem?_cons_succ] at x0 x1
  have hI3 := HH.out.1.keep (Upd.ofBelow (F := fun _ => False) B03)
  have hf := hI3.f
  have C := loadR_any (· < w.heap.size) S R0 roots sa ra sc rc w3 hI3.s hI3.r hI3.h (fun g hg => Nat.lt_of_lt_of_le hg B03.size) (fun r hr => by
    obtain ⟨i, hi⟩ := List.getElem?_of_mem hr
    have hil := (List.getElem?_eq_some_iff.1 hi).1
    have hs := List.getElem?_eq_getElem (l := S) (i := i) (by rw [← hI3.r.1]; exact hil)
    rw [(hI3.r.2 i r _ hi hs).g]
    exact (hf _ (List.mem_of_getElem? hs)).g) (fun s hs => by have := (hf s hs).kl; omega) (by have := hI3.rl; omega)
  rw [← HH.out.2.2.2.2.2.1, ← HH.out.2.2.2.2.2.2.1] at C
  have HC3 := Lib.hid C
  have H3 := Lib.hid B03
  have HW2 := Lib.hid H2.out.1.size
  clear B3 B03 X3 hI3 hf C HC2 H2
  rcases hres with ⟨hn, rfl⟩ | ⟨S', ts, p, B, ρ, hu, Nv, Rv, hl, rfl, hD, hρ⟩
  · have HN := Lib.hid hn
    clear hn
    go_wp2_with fail
    refine HC3.out.mono ?_
    rintro e w4 ⟨B4, hres⟩
    have H4 := Lib.hid (H3.out.trans (B4.mono H3.out.size))
    rcases hres with ⟨hn2, rfl⟩ | ⟨S', ts, _, _, _, _, hl, _⟩
    · clear hn2 B4 HC3
      obtain ⟨p, hp⟩ : ∃ p, p = w4.heap.size := ⟨_, rfl⟩
      obtain ⟨d, hd⟩ : ∃ d, d = p + 1 := ⟨_, rfl⟩
      have HPD := Lib.hid (And.intro hp hd)
      clear hp hd
      go_wp2
      go_ret3
      rw [HP.out]
      generalize hW : World.alloc _ _ = W5
      have P5 : Blk W5 w4.heap.size [.slice none 0 0, .slice none 0 0, .int .i64 0, .int .i64 0, .int .i64 0] 120 := by rw [← hW]; exact (Blk.new w4 _ _).alloc _
      have D5 : Blk W5 (w4.heap.size + 1) [.slice none 0 0, .slice none 0 0] 122 := by rw [← hW]; exact Blk.new' (by simp)
      have U5 : Upd w4 W5 (fun _ => False) := by rw [← hW]; exact ((Upd.refl w4 _).alloc _).alloc _
      exact ⟨H4.out.trans (U5.below H4.out.size (fun _ _ h => h)), _, _, [], [], [], [], rfl, pd_nil P5, rd_nil D5⟩
    · rw [HN.out] at hl; cases hl
  · have HN := Lib.hid (And.intro hl (And.intro hD hρ))
    unfold Pd.ptr
    clear hl hD hρ
    go_wp2_with fail
    refine HC3.out.mono ?_
    rintro e w4 ⟨B4, hres⟩
    have H4 := Lib.hid (H3.out.trans (B4.mono H3.out.size))
    have U4 := Upd.ofBelow (F := fun _ => False) B4
    rcases hres with ⟨hn2, rfl⟩ | ⟨S2, ts2, d, Sv, Rv2, R, hl2, rfl, hdw, hSv, hRv, hDI, hRI, hRo⟩
    · rw [HN.out.1] at hn2; cases hn2
    · have e2 := HN.out.1.symm.trans hl2
      simp only [Option.some.injEq, Prod.mk.injEq] at e2
      obtain ⟨rfl, rfl⟩ := e2
      obtain ⟨hS', hV⟩ := Im.load_valid hl2
      have hfit : ∀ s ∈ S', s.g < 4294967296 ∧ s.al.length * 32 ≤ 140737488351232 := fun s hs => by
        rw [hS'] at hs
        obtain ⟨y, hy, rfl⟩ := List.mem_map.1 hs
        exact tidy_fit (HH.out.1.f y hy)
      have hPD : Pd.PD w4 w4.heap.size p B S' roots ts := ⟨ρ, hu, _, _, _, Nv, Rv, HN.out.2.1.none U4, fun g hg => Nat.lt_of_lt_of_le (HN.out.2.1.lt g hg) U4.size, hfit, Nat.le_refl _, hV⟩
      have hRD : RDoc w4 w4.heap.size d S' roots ts := ⟨Sv, Rv2, R, hDI, hRI.mono (fun g hg => Nat.lt_of_lt_of_le hg H4.out.size), hRo, hDI.blk.lt, fun g hg => own_lt hDI.own hg, fun g hg => own_lt hRo hg, fun r hr => by
        obtain ⟨i, hi⟩ := List.getElem?_of_mem hr
        have hil := (List.getElem?_eq_some_iff.1 hi).1
        have hs := List.getElem?_eq_getElem (l := S') (i := i) (by rw [← hRI.1]; exact hil)
        rw [(hRI.2 i r _ hi hs).g]
        exact (hfit _ (List.mem_of_getElem? hs)).1, Nat.le_refl _, hV⟩
      have HZ := Lib.hid (And.intro hPD hRD)
      clear B4 U4 hdw hSv hRv hDI hRI hRo hl2 hS' hV hfit hPD hRD HC3
      go_wp2
      go_ret3
      rw [HP.out]
      exact ⟨H4.out, p, d, B, S', roots, ts, rfl, HZ.out.1, HZ.out.2⟩

end Go.Proofs.YtemmkobgpciflaaDoor
