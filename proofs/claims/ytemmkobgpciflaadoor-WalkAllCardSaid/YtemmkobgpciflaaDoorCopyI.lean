/- An image copied into memory of its own: walked. -/
import Derived.Test.YtemmkobgpciflaaDoorOpenG
import Derived.Test.YtemmkobgpciflaaDoorReg4
import Derived.Test.YtemmkobgpciflaaDoorDoc
import Derived.Test.YtemmkobgpciflaaDoorNearS
import Derived.Laws.ResultCell
namespace Go.Proofs.YtemmkobgpciflaaDoor
open Go.RowKit
open Ch
open Df

def CopyIPost (w : World) (S : List Im.Sl) (roots : List Nat) (e : Ending) (w' : World) : Prop := Below w.heap.size w w' ∧ ∃ sa sc ra rc R, e = .returned (.agg #[.slice sa S.length sc, .slice ra roots.length rc]) ∧ ImIn w' (fun g => w.heap.size ≤ g ∧ g < w'.heap.size) S R roots sa sc ra rc

/-- Rows that have been copied, in blocks of K. -/
def CSt (w' : World) (K : Nat → Prop) (Y : Nat) (sv : Value) (R : List Row) (S : List Im.Sl) : Prop := w'.ownsRow 0 153 8 sv R.length (rowsC R) ∧ RowsIs w' K R S ∧ (∀ g, K g → Y < g ∧ g < w'.heap.size ∧ sv.ownBlock ≠ some g) ∧ (∀ g, sv.ownBlock = some g → Y < g)

theorem elemAttrI : Elem Tryd.prog 146 2 32 (.agg #[.string ⟨#[]⟩, .string ⟨#[]⟩]) := Elem.mk' (by kernel_rfl) rfl (by omega) (by omega)

theorem rowsIs_snoc {w : World} {K : Nat → Prop} {R : List Row} {S : List Im.Sl} {r : Row} {s : Im.Sl} (h : RowsIs w K R S) (k : RowIs w K r s) : RowsIs w K (R ++ [r]) (S ++ [s]) := by
  refine ⟨by rw [List.length_append, List.length_append, h.1]; rfl, fun i r' s' h1 h2 => ?_⟩
  by_cases hi : i < R.length
  · rw [List.getElem?_append_left hi] at h1
    rw [List.getElem?_append_left (by rw [← h.1]; exact hi)] at h2
    exact h.2 i r' s' h1 h2
  · rw [List.getElem?_append_right (by omega)] at h1
    rw [List.getElem?_append_right (by rw [← h.1]; omega), ← h.1] at h2
    have h0 : i - R.length = 0 := by
      have := (List.getElem?_eq_some_iff.1 h1).1
      simp at this
      omega
    rw [h0] at h1 h2
    cases h1
    cases h2
    exact k
theorem app_new {W5 W W' : World} {A n : Nat} {e sz : Nat} {xs : List Value} {v : Value} (UW : Upd W5 W (fun _ => False)) (hA : W5.heap.size ≤ A) (h : AppPost W e sz (.slice (some ⟨A, 0, none⟩) 0 0) 0 [] n xs v W') : W'.ownsRow 0 e sz v n xs ∧ Upd W5 W' (fun _ => False) ∧ (∀ g, v.ownBlock = some g → W5.heap.size ≤ g) ∧ Upd W W' (fun g => g = A) := by
  obtain ⟨O, U, b⟩ := h
  rw [Nat.zero_add, List.nil_append] at O
  refine ⟨O, UW.trans U (fun g hg e => by have := ob_eq e; omega), fun g hg => ?_, U.mono (fun g _ e => (ob_eq e).symm)⟩
  rcases b with e | e
  · have := ob_eq (e.symm.trans hg); omega
  · have := ob_some (e.symm.trans hg); have := UW.size; omega

set_option maxRecDepth 100000 in
set_option maxHeartbeats 1600000 in
theorem copyI_any (P : Nat → Prop) (S : List Im.Sl) (R0 : List Row) (roots : List Nat) (sa ra : Option Addr) (sc rc : Nat) (w : World) (hI : ImIn w P S R0 roots sa sc ra rc) :
    Calls Tryd.prog 68 #[.agg #[.slice sa S.length sc, .slice ra roots.length rc]] w (CopyIPost w S roots) := by
  obtain ⟨X, hX⟩ : ∃ X, X = w.heap.size := ⟨_, rfl⟩
  obtain ⟨n, hn⟩ : ∃ n, n = S.length := ⟨_, rfl⟩
  obtain ⟨rn, hrn⟩ : ∃ rn, rn = roots.length := ⟨_, rfl⟩
  obtain ⟨Po, hPo⟩ : ∃ Po : Ending → World → Prop, Po = CopyIPost w S roots := ⟨_, rfl⟩
  have HP := Lib.hid hPo
  have HH := Lib.hid (And.intro hI (And.intro hX (And.intro hn hrn)))
  rw [← hn, ← hrn, ← hPo]
  clear hI hX hn hrn hPo
  go_enter Tryd.func68, Tryd.ntmps68
  go_upto_region 1 with fail
  rw [← HH.out.2.1]
  generalize hW : World.alloc _ _ = W1
  have U1 : Upd w W1 (fun _ => False) := by
    rw [← hW]; exact ((Upd.refl w _).alloc _).alloc _
  have X1 : Blk W1 X [.slice sa n sc, .slice ra rn rc] 44 := by
    rw [← hW]; exact (Blk.new' HH.out.2.1).alloc _
  obtain ⟨Z, hZ⟩ : ∃ Z, Z = X + 1 := ⟨_, rfl⟩
  have Z1 : Blk W1 Z [.slice none 0 0, .slice none 0 0] 44 := by
    rw [← hW]
    exact Blk.new' (by rw [hZ, HH.out.2.1]; simp)
  rw [← hZ]
  obtain ⟨E, hE⟩ : ∃ E, E = W1.heap.size := ⟨_, rfl⟩
  have hXZ : X ≠ Z := by omega
  have x1 : ∀ o, (W1.alloc o).cell? ⟨X, 1, none⟩ = some (.slice ra rn rc) := fun o => (X1.alloc o).cell 1
  have H1 := Lib.hid (And.intro U1 (And.intro X1 (And.intro Z1 (And.intro hXZ (And.intro hE hZ)))))
  have hXE : X ≠ W1.heap.size := Nat.ne_of_lt X1.lt
  clear hW U1 X1 Z1 hXZ hE hZ
  go_wp2_with (at_builtin; refine halt_mk ?_)
  refine halt_go ?_
  rw [← H1.out.2.2.2.2.1]
  generalize hW : World.alloc _ _ = W2
  have U2 : Upd w W2 (fun _ => False) := by rw [← hW]; exact H1.out.1.alloc _
  have O2 : W2.ownsRow 0 46 1 (.slice (some ⟨E, 0, none⟩) 0 0) 0 [] := by rw [← hW]; exact own_lit_sz H1.out.2.2.2.2.1
  have X2 : Blk W2 X [.slice sa n sc, .slice ra rn rc] 44 := by rw [← hW]; exact H1.out.2.1.alloc _
  have Z2 : Blk W2 Z [.slice none 0 0, .slice none 0 0] 44 := by rw [← hW]; exact H1.out.2.2.1.alloc _
  have hro := HH.out.1.h.keep U2 (fun _ _ h => h)
  rw [← HH.out.2.2.2] at hro
  have hEw : w.heap.size ≤ E := by rw [H1.out.2.2.2.2.1]; exact H1.out.1.size
  have H2 := Lib.hid (And.intro U2 (And.intro X2 (And.intro Z2 hEw)))
  clear hW U2 X2 Z2 hEw hXE x1
  refine wpl_app (n := 0) (m := rn) rfl rfl elemHd Tryd.underlying42 rfl O2 rfl hro.1 (by intro u hu; unfold hcv at hu; obtain ⟨y, _, rfl⟩ := List.mem_map.1 hu; rfl) (by have := HH.out.1.rl; have := HH.out.2.2.2; omega) ?_
  rintro v3 w3 ⟨O3, U3, b3⟩
  rw [Nat.zero_add, List.nil_append] at O3
  obtain ⟨a3, c3, rfl, _⟩ := (Rd.ofOwn O3).form
  have hv3 : ∀ g, (Value.slice a3 rn c3).ownBlock = some g → w.heap.size ≤ g := fun g hg => by
    rcases b3 with e | e
    · have := ob_eq (e.symm.trans hg); have := H2.out.2.2.2; omega
    · have := ob_some (e.symm.trans hg); have := H2.out.1.size; omega
  have U03 : Upd w w3 (fun _ => False) := H2.out.1.trans U3 (fun i hi e => by have := ob_eq e; have := H2.out.2.2.2; omega)
  have notE : ∀ b vs, Blk W2 b vs 44 → ¬ (Value.slice (some ⟨E, 0, none⟩) 0 0).ownBlock = some b := fun b vs hb e => by
    obtain ⟨_, hv⟩ := own_ty O2 e
    exact hb.ty hv (by decide) rfl
  have X3 := U3.blk H2.out.2.1 (notE X _ H2.out.2.1)
  have Z3 := U3.blk H2.out.2.2.1 (notE Z _ H2.out.2.2.1)
  obtain ⟨Y, hY⟩ : ∃ Y, Y = w3.heap.size := ⟨_, rfl⟩
  have H3 := Lib.hid (And.intro O3 (And.intro hv3 (And.intro U03 (And.intro X3 (And.intro Z3 hY)))))
  clear O2 hro O3 U3 b3 hv3 U03 notE X3 Z3 hY
  go_upto_region 2 with fail
  rw [← H3.out.2.2.2.2.2]
  generalize hW : World.alloc _ _ = W4
  have U4 : Upd w3 W4 (fun _ => False) := by rw [← hW]; exact (Upd.refl w3 _).alloc _
  have Y4 : Blk W4 Y [.slice none 0 0, .slice a3 rn c3] 44 := by rw [← hW]; exact Blk.new' H3.out.2.2.2.2.2
  have hYX : X < Y ∧ Z < Y := by have h1 := H3.out.2.2.2.1.lt; have h2 := H3.out.2.2.2.2.1.lt; have := H3.out.2.2.2.2.2; omega
  have hYw : w.heap.size ≤ Y := by rw [H3.out.2.2.2.2.2]; exact H3.out.2.2.1.size
  have H4 := Lib.hid (And.intro Y4 (And.intro (own_keep H3.out.1 U4 (fun _ _ h => h)) (And.intro (H3.out.2.2.1.trans U4 (fun _ _ h => h)) (And.intro (U4.blk H3.out.2.2.2.1 (fun h => h)) (U4.blk H3.out.2.2.2.2.1 (fun h => h))))))
  have HY := Lib.hid (And.intro hYX.1 (And.intro hYX.2 (And.intro hYw H3.out.2.1)))
  clear hW U4 Y4 hYX hYw H3 H2
  go_wp2
  go_loopg [4, 5] n (fun kq v4 v5 w' => ∃ (i : Nat) (sv : Value) (R : List Row) (K : Nat → Prop), v4 = .int .i64 i ∧ Hid (kq = n - i ∧ i ≤ n ∧ R.length = i) ∧ Hid (CSt w' K Y sv R (S.take i)) ∧ Hid (Blk w' Y [sv, .slice a3 rn c3] 44) ∧ Hid (w'.ownsRow 0 46 1 (.slice a3 rn c3) rn (hcv roots)) ∧ Hid (Upd w w' (fun _ => False)) ∧ Hid (Blk w' X [.slice sa n sc, .slice ra rn rc] 44) ∧ Hid (Blk w' Z [.slice none 0 0, .slice none 0 0] 44))
  case atStart =>
    exact ⟨0, .slice none 0 0, [], fun _ => False, rfl, Lib.hid ⟨rfl, Nat.zero_le _, rfl⟩, Lib.hid ⟨own_none, ⟨rfl, fun i r s h => by simp at h⟩, fun g h => h.elim, fun g hg => by cases hg⟩, Lib.hid H4.out.1, Lib.hid H4.out.2.1, Lib.hid H4.out.2.2.1, Lib.hid H4.out.2.2.2.1, Lib.hid H4.out.2.2.2.2⟩
  case round =>
    obtain ⟨i, sv, R, K, rfl, HI, HC, HYb, HO, HU, HX, HZ⟩ := hrel
    have hi0 : (0 : Int) ≤ (i : Int) := by omega
    have x0 := HX.out.cell 0
    simp only [List.getElem?_cons_zero] at x0
    by_cases hi : i < n
    · have hi1 : (i : Int) < (n : Int) := by omega
      have hi2 : decide (i < n) = true := decide_eq_true hi
      obtain ⟨s, hs⟩ : ∃ s, S[i]? = some s := ⟨S[i]'(by have := HH.out.2.2.1; omega), List.getElem?_eq_getElem _⟩
      obtain ⟨r, hr, hrs⟩ := HH.out.1.r.get hs
      have hSr := HH.out.1.s.keep HU.out (fun _ _ h => h)
      rw [← HH.out.2.2.1] at hSr
      obtain ⟨g, off, rfl, hsc, r0, r1, r2, r3, r4, r5, r6, r7⟩ := row_at hSr hr
      obtain ⟨q, hq⟩ : ∃ q, q = wr.heap.size := ⟨_, rfl⟩
      have hxq : X ≠ wr.heap.size := Nat.ne_of_lt HX.out.lt
      have HQ := Lib.hid (And.intro hs (And.intro hr (And.intro hrs (And.intro hq hi))))
      clear hs hr hrs hSr hq hi
      go_upto_region 6 with fail
      rw [← HQ.out.2.2.2.1]
      generalize hW : World.alloc _ _ = W5
      have U5 : Upd wr W5 (fun _ => False) := by rw [← hW]; exact (Upd.refl wr _).alloc _
      have S5 : Blk W5 q r.cells 153 := by rw [← hW]; exact Blk.new' HQ.out.2.2.2.1
      have y4 := S5.cell 4
      have y7 := S5.cell 7
      unfold Row.cells at y4 y7
      simp only [List.getElem?_cons_zero, List.getElem?_cons_succ] at y4 y7
      have hkl := HQ.out.2.2.1.kl
      have hA := (HQ.out.2.2.1.al.keep HU.out (fun _ _ h => h)).keep U5 (fun _ _ h => h)
      have hK := (HQ.out.2.2.1.ks.keep HU.out (fun _ _ h => h)).keep U5 (fun _ _ h => h)
      have hF := HH.out.1.f s (List.mem_of_getElem? HQ.out.1)
      rw [← hkl.2] at hA
      rw [← hkl.1] at hK
      have HS : Hid (∀ W, Upd W5 W (fun _ => False) → W.cell? ⟨q, 4, none⟩ = some (.slice r.aa r.al r.ac) ∧ W.cell? ⟨q, 7, none⟩ = some (.slice r.ka r.kl r.kc)) := Lib.hid (fun W hW => ⟨(hW.blk S5 (fun h => h)).cell 4, (hW.blk S5 (fun h => h)).cell 7⟩)
      have H5 := Lib.hid (And.intro U5 (And.intro S5 (And.intro hA (And.intro hK (And.intro hF hkl)))))
      have hb1 : (0 + r.al) * 32 ≤ 140737488355328 := by have := hF.al; have := hkl.2; omega
      have hb2 : (0 + r.kl) * 8 ≤ 140737488355328 := by have := hF.kl; have := hkl.1; omega
      have HBd := Lib.hid (And.intro hb1 hb2)
      clear hW U5 S5 r0 r1 r2 r3 r4 r5 r6 r7 x0 hxq hkl hA hK hF hb1 hb2 y4 y7
      apply wp_regT (fun w' : World => w'.cell? ⟨q, 4, none⟩ = some (.slice r.aa r.al r.ac) ∧ w'.cell? ⟨q, 7, none⟩ = some (.slice r.ka r.kl r.kc)) [] [1, 2, 5, 6] [8] [0, 3] 4 [7] [9, 10, 11] (by kernel_rfl) (by kernel_rfl) (fun _ _ d _ _ h => by cases d <;> exact h)
        (fun (x : Value) (A : Nat) (H : Nat) (w' : World) => Hid (w'.ownsRow 0 146 2 x r.al (atc s.al) ∧ w'.ownsRow 0 46 1 (.slice (some ⟨H, 0, none⟩) 0 0) 0 [] ∧ Upd W5 w' (fun _ => False) ∧ (∀ g, x.ownBlock = some g → W5.heap.size ≤ g) ∧ W5.heap.size ≤ H)) _ _ _ (HS.out W5.drew (Upd.refl W5 _).drew)
      · exact rfl
      · iterate 4 (apply reads_consL rfl rfl; (· intro w0 hS; obtain ⟨hS1, hS2⟩ := hS; go_simp; try rfl); simp only [Act.put, List.setIfInBounds_toArray, List.set_cons_zero, List.set_cons_succ])
        exact rfl
      · have V0 : Upd W5 W5.drew (fun _ => False) := (Upd.refl W5 _).drew
        generalize W5.drew = w0 at V0 ⊢
        have H0 := Lib.hid V0
        clear V0
        refine shufC_consL rfl rfl ?_ ?_
        · obtain ⟨A, hAe⟩ : ∃ A, A = w0.heap.size := ⟨_, rfl⟩
          have HA := Lib.hid hAe
          go_wp2_with fail
          rw [← hAe]
          generalize hW : World.alloc w0 _ = W6
          have V6 : Upd W5 W6 (fun _ => False) := by rw [← hW]; exact H0.out.alloc _
          have O6 : W6.ownsRow 0 146 2 (.slice (some ⟨A, 0, none⟩) 0 0) 0 [] := by rw [← hW]; exact own_lit_sz hAe
          have hA5 : W5.heap.size ≤ A := by rw [hAe]; exact H0.out.size
          have H6 := Lib.hid (And.intro V6 (And.intro O6 hA5))
          clear hW hAe V6 O6 hA5
          refine ⟨HS.out _ H6.out.1, ?_⟩
          refine shufC_consL rfl rfl ?_ ?_
          · refine wpl_app rfl rfl elemAttr Tryd.underlying22 rfl H6.out.2.1 rfl (H5.out.2.2.1.1.keep H6.out.1 (fun _ _ h => h)) (atc_one s.al) HBd.out.1 ?_
            intro x W7 hx
            obtain ⟨O7, V7, L7, _⟩ := app_new H6.out.1 H6.out.2.2 hx
            have H7 := Lib.hid (And.intro O7 (And.intro V7 L7))
            have S7 := HS.out _ V7
            clear hx O7 V7 L7
            go_wp2_with fail
            refine ⟨S7, ?_⟩
            apply shufC_nilL rfl
            · iterate 1 (apply reads_consL rfl rfl; (· intro w0 hS; go_simp; try rfl); simp only [Act.put, List.setIfInBounds_toArray, List.set_cons_zero, List.set_cons_succ])
              exact rfl
            obtain ⟨H, hH⟩ : ∃ H, H = W7.heap.size := ⟨_, rfl⟩
            have HHH := Lib.hid hH
            clear S7
            go_wp2_with fail
            rw [← hH]
            generalize hW : World.alloc _ _ = W8
            have V8 : Upd W5 W8 (fun _ => False) := by rw [← hW]; exact H7.out.2.1.alloc _
            have V78 : Upd W7 W8 (fun _ => False) := by rw [← hW]; exact (Upd.refl W7 _).alloc _
            have O8 : W8.ownsRow 0 46 1 (.slice (some ⟨H, 0, none⟩) 0 0) 0 [] := by rw [← hW]; exact own_lit_sz hH
            exact ⟨HS.out _ V8, x, A, H, rfl, Lib.hid ⟨own_keep H7.out.1 V78 (fun _ _ h => h), O8, V8, H7.out.2.2, by rw [hH]; exact H7.out.2.1.size⟩⟩
          · obtain ⟨H, hH⟩ : ∃ H, H = W6.heap.size := ⟨_, rfl⟩
            have HHH := Lib.hid hH
            go_wp2_with fail
            rw [← hH]
            generalize hW : World.alloc W6 _ = W7
            have V7 : Upd W5 W7 (fun _ => False) := by rw [← hW]; exact H6.out.1.alloc _
            have O7 : W7.ownsRow 0 146 2 (.slice (some ⟨A, 0, none⟩) 0 0) 0 [] := own_keep H6.out.2.1 (by rw [← hW]; exact (Upd.refl W6 (fun _ => False)).alloc _) (fun _ _ h => h)
            have P7 : W7.ownsRow 0 46 1 (.slice (some ⟨H, 0, none⟩) 0 0) 0 [] := by rw [← hW]; exact own_lit_sz hH
            have hAH : A ≠ H := by have := own_lt H6.out.2.1 (g := A) rfl; omega
            have H7 := Lib.hid (And.intro V7 (And.intro O7 (And.intro P7 (And.intro hAH (by rw [hH]; exact H6.out.1.size : W5.heap.size ≤ H)))))
            clear hW hH V7 O7 P7 hAH
            refine ⟨HS.out _ H7.out.1, pre_consL rfl ?_⟩
            refine wpl_app rfl rfl elemAttr Tryd.underlying22 rfl H7.out.2.1 rfl (H5.out.2.2.1.1.keep H7.out.1 (fun _ _ h => h)) (atc_one s.al) HBd.out.1 ?_
            intro x W8 hx
            obtain ⟨O8, V8, L8, A8⟩ := app_new H7.out.1 H6.out.2.2 hx
            have P8 := own_keep H7.out.2.2.1 A8 (fun g hg e => H7.out.2.2.2.1 (by have := ob_eq hg; omega))
            have H8 := Lib.hid (And.intro O8 (And.intro P8 (And.intro V8 L8)))
            have S8 := HS.out _ V8
            clear hx O8 V8 L8 A8 P8
            go_wp2_with fail
            refine ⟨S8, ?_⟩
            apply pure_then
            · iterate 1 (apply reads_consL rfl rfl; (· intro w0 hS; go_simp; try rfl); simp only [Act.put, List.setIfInBounds_toArray, List.set_cons_zero, List.set_cons_succ])
              exact rfl
            · exact ⟨x, A, H, rfl, Lib.hid ⟨H8.out.1, H8.out.2.1, H8.out.2.2.1, H8.out.2.2.2, H7.out.2.2.2.2⟩⟩
        · obtain ⟨H, hH⟩ : ∃ H, H = w0.heap.size := ⟨_, rfl⟩
          have HHH := Lib.hid hH
          go_wp2_with fail
          rw [← hH]
          generalize hW : World.alloc w0 _ = W6
          have V6 : Upd W5 W6 (fun _ => False) := by rw [← hW]; exact H0.out.alloc _
          have P6 : W6.ownsRow 0 46 1 (.slice (some ⟨H, 0, none⟩) 0 0) 0 [] := by rw [← hW]; exact own_lit_sz hH
          have hH5 : W5.heap.size ≤ H := by rw [hH]; exact H0.out.size
          have H6 := Lib.hid (And.intro V6 (And.intro P6 hH5))
          clear hW hH V6 P6 hH5
          refine ⟨HS.out _ H6.out.1, pre_consL rfl ?_⟩
          obtain ⟨A, hAe⟩ : ∃ A, A = W6.heap.size := ⟨_, rfl⟩
          have HA := Lib.hid hAe
          go_wp2_with fail
          rw [← hAe]
          generalize hW : World.alloc W6 _ = W7
          have V7 : Upd W5 W7 (fun _ => False) := by rw [← hW]; exact H6.out.1.alloc _
          have O7 : W7.ownsRow 0 146 2 (.slice (some ⟨A, 0, none⟩) 0 0) 0 [] := by rw [← hW]; exact own_lit_sz hAe
          have P7 : W7.ownsRow 0 46 1 (.slice (some ⟨H, 0, none⟩) 0 0) 0 [] := own_keep H6.out.2.1 (by rw [← hW]; exact (Upd.refl W6 (fun _ => False)).alloc _) (fun _ _ h => h)
          have hAH : A ≠ H := by have := own_lt H6.out.2.1 (g := H) rfl; omega
          have hA5 : W5.heap.size ≤ A := by rw [hAe]; exact H6.out.1.size
          have H7 := Lib.hid (And.intro V7 (And.intro O7 (And.intro P7 (And.intro hAH hA5))))
          clear hW hAe V7 O7 P7 hAH hA5
          refine ⟨HS.out _ H7.out.1, pre_consL rfl ?_⟩
          refine wpl_app rfl rfl elemAttr Tryd.underlying22 rfl H7.out.2.1 rfl (H5.out.2.2.1.1.keep H7.out.1 (fun _ _ h => h)) (atc_one s.al) HBd.out.1 ?_
          intro x W8 hx
          obtain ⟨O8, V8, L8, A8⟩ := app_new H7.out.1 H7.out.2.2.2.2 hx
          have P8 := own_keep H7.out.2.2.1 A8 (fun g hg e => H7.out.2.2.2.1 (by have := ob_eq hg; omega))
          have H8 := Lib.hid (And.intro O8 (And.intro P8 (And.intro V8 L8)))
          have S8 := HS.out _ V8
          clear hx O8 V8 L8 A8 P8
          go_wp2_with fail
          refine ⟨S8, ?_⟩
          apply pure_then
          · iterate 1 (apply reads_consL rfl rfl; (· intro w0 hS; go_simp; try rfl); simp only [Act.put, List.setIfInBounds_toArray, List.set_cons_zero, List.set_cons_succ])
            exact rfl
          · exact ⟨x, A, H, rfl, Lib.hid ⟨H8.out.1, H8.out.2.1, H8.out.2.2.1, H8.out.2.2.2, H6.out.2.2⟩⟩
      · intro x A H w6 hS6 hK6
        obtain ⟨a1, c1, rfl, _⟩ := (Rd.ofOwn hK6.out.1).form
        have HK6 := hK6
        clear hK6
        refine tail_consL rfl ?_
        refine wpl_app rfl rfl elemHd Tryd.underlying42 rfl HK6.out.2.1 rfl (H5.out.2.2.2.1.1.keep HK6.out.2.2.1 (fun _ _ h => h)) (hcv_one s.ks) HBd.out.2 ?_
        intro v7 W7 h7
        obtain ⟨O7, V7, L7, A7⟩ := app_new HK6.out.2.2.1 HK6.out.2.2.2.2 h7
        obtain ⟨a2, c2, rfl, _⟩ := (Rd.ofOwn O7).form
        have S7 := HS.out _ V7
        have P7 := own_keep HK6.out.1 A7 (fun g hg e => by
          obtain ⟨_, h1⟩ := own_ty HK6.out.1 hg
          obtain ⟨_, h2⟩ := own_ty HK6.out.2.1 (g := H) rfl
          have e : g = H := e
          rw [e] at h1
          exact h1.ty h2 (by decide) rfl)
        have Q7 := V7.blk H5.out.2.1 (fun h => h)
        have f4 := Q7.free 4
        have f7 := Q7.free 7
        have H7 := Lib.hid (And.intro O7 (And.intro P7 (And.intro V7 (And.intro L7 Q7))))
        clear h7 O7 V7 L7 A7 P7 Q7 hS6
        go_wp2_with fail
        refine ⟨S7, tail_threeL rfl rfl rfl ?_⟩
        obtain ⟨y4, y7⟩ := S7
        go_upto_region 7 with fail
        generalize hW : World.setCell _ _ _ = W8
        have hkl := H5.out.2.2.2.2.2
        obtain ⟨r', hr'⟩ : ∃ r' : Row, r' = { r with aa := a1, ac := c1, ka := a2, kc := c2 } := ⟨_, rfl⟩
        have Q8 : Blk W8 q r'.cells 153 := by
          rw [← hW, hr']
          exact (H7.out.2.2.2.2.set 4 _).set 7 _
        have U78 : Upd W7 W8 (fun g => g = q) := by
          rw [← hW]
          exact ((Upd.refl W7 (fun g => g = q)).set ⟨q, 4, none⟩ _ (fun _ => rfl)).set ⟨q, 7, none⟩ _ (fun _ => rfl)
        have U08 : Upd wr W8 (fun _ => False) := (H5.out.1.trans H7.out.2.2.1 (fun _ _ h => h)).trans U78 (fun g hg e => by have h1 := HQ.out.2.2.2.1; have e : g = q := e; omega)
        have P8 := own_keep H7.out.2.1 U78 (fun g hg e => by
          obtain ⟨_, h1⟩ := own_ty H7.out.2.1 hg
          have e : g = q := e
          rw [e] at h1
          exact h1.ty H7.out.2.2.2.2 (by decide) rfl)
        have O8 := own_keep H7.out.1 U78 (fun g hg e => by
          obtain ⟨_, h1⟩ := own_ty H7.out.1 hg
          have e : g = q := e
          rw [e] at h1
          exact h1.ty H7.out.2.2.2.2 (by decide) rfl)
        have Y8 := U08.blk HYb.out (fun h => h)
        have V8 := own_keep HC.out.1 U08 (fun _ _ h => h)
        rw [HI.out.2.2] at V8
        obtain ⟨sva, svc, hsv, _⟩ := (Rd.ofOwn V8).form
        have hlow8 : ∀ g, sv.ownBlock = some g → g < wr.heap.size := fun g hg => own_lt HC.out.1 hg
        subst hsv
        have b0 := Y8.cell 0
        have e0 := Y8.free 0
        have q0 := Q8.cell 0
        have q1 := Q8.cell 1
        have q2 := Q8.cell 2
        have q3 := Q8.cell 3
        have q4 := Q8.cell 4
        have q5 := Q8.cell 5
        have q6 := Q8.cell 6
        have q7 := Q8.cell 7
        rw [hr'] at q0 q1 q2 q3 q4 q5 q6 q7
        unfold Row.cells at q0 q1 q2 q3 q4 q5 q6 q7
        simp only [List.getElem?_cons_zero, List.getElem?_cons_succ] at b0 q0 q1 q2 q3 q4 q5 q6 q7
        obtain ⟨t, ht⟩ : ∃ t, t = W8.heap.size := ⟨_, rfl⟩
        have H8 := Lib.hid (And.intro Q8 (And.intro U08 (And.intro P8 (And.intro O8 (And.intro Y8 (And.intro V8 (And.intro hlow8 (And.intro hr' (And.intro ht hkl)))))))))
        have hYt : Y ≠ W8.heap.size := Nat.ne_of_lt Y8.lt
        clear hW hkl Q8 U78 U08 P8 O8 Y8 V8 hlow8 hr' ht f4 f7 y4 y7
        go_wp2_with (at_builtin; refine halt_mk ?_)
        refine halt_go ?_
        rw [← H8.out.2.2.2.2.2.2.2.2.1]
        generalize hW : World.alloc _ _ = W9
        have U89 : Upd W8 W9 (fun _ => False) := by rw [← hW]; exact (Upd.refl W8 _).alloc _
        have T9 : Blk W9 t r'.cells 153 := by rw [← hW, H8.out.2.2.2.2.2.2.2.1]; exact Blk.new' H8.out.2.2.2.2.2.2.2.2.1
        have O9 := own_keep H8.out.2.2.2.2.2.1 U89 (fun _ _ h => h)
        have Y9 := U89.blk H8.out.2.2.2.2.1 (fun h => h)
        have H9 := Lib.hid (And.intro U89 (And.intro T9 Y9))
        clear hW U89 b0 e0 q0 q1 q2 q3 q4 q5 q6 q7 hYt Y9
        refine wpl_app (n := i) (m := 1) rfl rfl elemSlot Tryd.underlying41 rfl O9 rfl (Rd.ofBlk T9 1 8 rfl) (by intro u hu; unfold Row.cells at hu; simp at hu; rcases hu with rfl | rfl | rfl | rfl | rfl | rfl | rfl | rfl <;> rfl) (by have := HH.out.1.sl; have := HQ.out.2.2.2.2; have := HH.out.2.2.1; omega) ?_
        rintro v10 W10 hA10
        obtain ⟨a10, c10, rfl, _⟩ := (Rd.ofOwn hA10.1).form
        have Y10 := hA10.2.1.blk H9.out.2.2 (fun e => by
          obtain ⟨_, h1⟩ := own_ty O9 e
          exact h1.ty H9.out.2.2 (by decide) rfl)
        have b0 := Y10.cell 0
        have e0 := Y10.free 0
        simp only [List.getElem?_cons_zero] at b0
        have H10 := Lib.hid (And.intro hA10 Y10)
        clear O9 T9 hA10 Y10
        go_upto_region 4 with fail
        generalize hW : World.setCell _ _ _ = W11
        have Y11 := H10.out.2.set 0 (.slice a10 (i + 1) c10)
        rw [hW] at Y11
        have U11 : Upd W10 W11 (fun g => g = Y) := by rw [← hW]; exact (Upd.refl W10 (fun g => g = Y)).set ⟨Y, 0, none⟩ _ (fun _ => rfl)
        have HZZ := Lib.hid (And.intro Y11 U11)
        clear hW b0 e0 Y11 U11
        go_wp2
        go_roundg (n - (i + 1))
        case measure => have := HI.out; have := HQ.out; omega
        case rel =>
          obtain ⟨Y11, U11⟩ := HZZ.out
          obtain ⟨⟨O10, U10, b10⟩, Y10⟩ := H10.out
          obtain ⟨U89, T9, Y9⟩ := H9.out
          obtain ⟨Q8, U08, P8, O8, Y8, V8, hlow8, hr', ht, hkl⟩ := H8.out
          obtain ⟨c1', c2', c3', c4'⟩ := HC.out
          have U09 := U08.trans U89 (fun _ _ h => h)
          have hYr : Y < wr.heap.size := HYb.out.lt
          have UW : Upd wr W11 (fun g => g = Y ∨ (Value.slice sva i svc).ownBlock = some g) := ((U09.mono (fun _ _ h => h.elim)).trans U10 (fun g _ e => Or.inr e)).trans U11 (fun g _ e => Or.inl e)
          have hs5 : wr.heap.size ≤ W5.heap.size := H5.out.1.size
          have hx1 : ∀ g, (Value.slice a1 r.al c1).ownBlock = some g → W5.heap.size ≤ g ∧ g < W8.heap.size := fun g hg => ⟨HK6.out.2.2.2.1 g hg, own_lt P8 hg⟩
          have hx2 : ∀ g, (Value.slice a2 r.kl c2).ownBlock = some g → W5.heap.size ≤ g ∧ g < W8.heap.size := fun g hg => ⟨H7.out.2.2.2.1 g hg, own_lt O8 hg⟩
          have hsz := U89.size
          have hsz2 := U10.size
          have hsz3 := U11.size
          have carry : ∀ {e sz n' : Nat} {v : Value} {xs : List Value}, W8.ownsRow 0 e sz v n' xs → (∀ g, v.ownBlock = some g → W5.heap.size ≤ g) → W11.ownsRow 0 e sz v n' xs := fun ho hb => by
            have o1 := own_keep ho U89 (fun _ _ h => h)
            have o2 := own_keep o1 U10 (fun g hg e => by have := hb g hg; have := hlow8 g e; omega)
            exact own_keep o2 U11 (fun g hg e => by have := hb g hg; have e : g = Y := e; omega)
          have P11 := carry P8 (fun g hg => (hx1 g hg).1)
          have O11 := carry O8 (fun g hg => (hx2 g hg).1)
          have hb10 : ∀ g, (Value.slice a10 (i + 1) c10).ownBlock = some g → (Value.slice sva i svc).ownBlock = some g ∨ g = W9.heap.size := fun g hg => by
            rcases b10 with e | e
            · exact Or.inl (e.symm.trans hg)
            · exact Or.inr (ob_some (e.symm.trans hg)).symm
          obtain ⟨K', hK'⟩ : ∃ K' : Nat → Prop, K' = fun g => K g ∨ (Value.slice a1 r.al c1).ownBlock = some g ∨ (Value.slice a2 r.kl c2).ownBlock = some g := ⟨_, rfl⟩
          have hrow : RowIs W11 K' r' s := by
            have h := HQ.out.2.2.1
            rw [hr', hK']
            refine ⟨h.g, h.lv, h.k, h.n, h.t, h.p, ?_, ?_⟩
            · rw [← hkl.2]; exact ⟨Rd.ofOwn P11, fun _ g hg => Or.inr (Or.inl hg)⟩
            · rw [← hkl.1]; exact ⟨Rd.ofOwn O11, fun _ g hg => Or.inr (Or.inr hg)⟩
          have hR11 : RowsIs W11 K' R (S.take i) := (c2'.keep UW (fun g hg e => by
            have h1 := c3' g hg
            rcases e with e | e
            · omega
            · exact h1.2.2 e)).mono (fun g hg => by rw [hK']; exact Or.inl hg)
          have hT : S.take (i + 1) = S.take i ++ [s] := take_at HQ.out.1
          have hRl : (R ++ [r']).length = i + 1 := by rw [List.length_append, HI.out.2.2]; rfl
          refine ⟨i + 1, .slice a10 (i + 1) c10, R ++ [r'], K', by first | rfl | exact v64s HQ.out.2.2.2.2 (by have := HH.out.1.sl; have := HH.out.2.2.1; omega), Lib.hid ⟨rfl, HQ.out.2.2.2.2, hRl⟩, Lib.hid ⟨?_, by rw [hT]; exact rowsIs_snoc hR11 hrow, fun g hg => ?_, fun g hg => ?_⟩, Lib.hid Y11, Lib.hid ?_, Lib.hid ?_, Lib.hid ?_, Lib.hid ?_⟩
          · rw [hRl, rowsC_app]
            have : rowsC [r'] = r'.cells := by unfold rowsC; simp
            rw [this]
            exact own_keep O10 U11 (fun g hg e => by
              have e : g = Y := e
              rcases hb10 g hg with h | h
              · have := c4' g h; omega
              · have := U09.size; omega)
          · rw [hK'] at hg
            refine ⟨?_, ?_, fun e => ?_⟩
            · rcases hg with hg | hg | hg
              · exact (c3' g hg).1
              · have := (hx1 g hg).1; omega
              · have := (hx2 g hg).1; omega
            · rcases hg with hg | hg | hg
              · exact Nat.lt_of_lt_of_le (c3' g hg).2.1 UW.size
              · have := (hx1 g hg).2; omega
              · have := (hx2 g hg).2; omega
            · rcases hb10 g e with h | h
              · have h3 := hlow8 g h
                rcases hg with hg | hg | hg
                · exact (c3' g hg).2.2 h
                · have := (hx1 g hg).1; omega
                · have := (hx2 g hg).1; omega
              · rcases hg with hg | hg | hg
                · have := (c3' g hg).2.1; have := U09.size; omega
                · have := (hx1 g hg).2; omega
                · have := (hx2 g hg).2; omega
          · rcases hb10 g hg with h | h
            · exact c4' g h
            · have := U09.size; omega
          · exact own_keep HO.out UW (fun g hg e => by
              obtain ⟨_, h1⟩ := own_ty HO.out hg
              rcases e with e | e
              · rw [e] at h1; exact h1.ty HYb.out (by decide) rfl
              · obtain ⟨_, h2⟩ := own_ty c1' e
                exact h1.ty h2 (by decide) rfl)
          · exact HU.out.trans UW (fun g hg e => by
              rcases e with e | e
              · have := HY.out.2.2.1; omega
              · have := c4' g e; have := HY.out.2.2.1; omega)
          · exact UW.blk HX.out (fun e => by
              rcases e with e | e
              · have := HY.out.1; omega
              · have := c4' X e; have := HY.out.1; omega)
          · exact UW.blk HZ.out (fun e => by
              rcases e with e | e
              · have := HY.out.2.1; omega
              · have := c4' Z e; have := HY.out.2.1; omega)
    · have hi1 : ¬ (i : Int) < (n : Int) := by omega
      have hi2 : decide (i < n) = false := decide_eq_false hi
      have ei : i = n := by have := HI.out; omega
      have hV := HC.out.1
      rw [HI.out.2.2, ei] at hV
      obtain ⟨sva, svc, hsv, _⟩ := (Rd.ofOwn hV).form
      subst hsv
      have y0 := HYb.out.cell 0
      have y1 := HYb.out.cell 1
      have z0 := HZ.out.cell 0
      have z1 := HZ.out.cell 1
      have f0 := HZ.out.free 0
      have f1 := HZ.out.free 1
      simp only [List.getElem?_cons_zero, List.getElem?_cons_succ] at y0 y1 z0 z1
      have HV := Lib.hid (And.intro hV ei)
      clear hV hi ei
      go_wp2
      generalize hW : World.setCell _ _ _ = W9
      have R9 : Blk W9 Z [.slice sva n svc, .slice a3 rn c3] 44 := by
        rw [← hW]
        exact (HZ.out.set 0 _).set 1 _
      have U9 : Upd wr W9 (fun g => g = Z) := by
        rw [← hW]
        exact ((Upd.refl wr (fun g => g = Z)).set ⟨Z, 0, none⟩ _ (fun _ => rfl)).set ⟨Z, 1, none⟩ _ (fun _ => rfl)
      refine bodyPost_ret (results_cell_row rfl _ _ Z 44 _ (0, 0) _ rfl R9 Tryd.underlying44 rfl (by kernel_rfl)) rfl ?_
      rw [HP.out]
      obtain ⟨hV, ei⟩ := HV.out
      obtain ⟨c1', c2', c3', c4'⟩ := HC.out
      have hZw : w.heap.size ≤ Z := by have := H1.out.2.2.2.2.2; have := HH.out.2.1; omega
      have hsz := U9.size
      rw [ei, HH.out.2.2.1, List.take_length] at c2'
      rw [HH.out.2.2.1] at hV c4' ⊢
      have hro := HO.out
      have hra := HY.out.2.2.2
      rw [HH.out.2.2.2] at hro hra ⊢
      refine ⟨(HU.out.trans U9 (fun g hg e => by have e : g = Z := e; omega)).below (F := fun _ => False) (Nat.le_refl _) (fun _ _ h => h), sva, svc, a3, c3, R, rfl, ?_⟩
      refine ⟨⟨Rd.ofOwn (own_keep hV U9 (fun g hg e => by have := c4' g hg; have := HY.out; have e : g = Z := e; omega)), fun _ g hg => ⟨by have := c4' g hg; have := HY.out; omega, by have := own_lt hV hg; omega⟩⟩, (c2'.keep U9 (fun g hg e => by have := c3' g hg; have := HY.out; have e : g = Z := e; omega)).mono (fun g hg => ⟨by have := c3' g hg; have := HY.out; omega, by have := c3' g hg; omega⟩),
        ⟨Rd.ofOwn (own_keep hro U9 (fun g hg e => by
          obtain ⟨_, h1⟩ := own_ty hro hg
          have e : g = Z := e
          rw [e] at h1
          exact h1.ty HZ.out (by decide) rfl)), fun _ g hg => ⟨hra g hg, by have := own_lt hro hg; omega⟩⟩, HH.out.1.f, HH.out.1.sl, HH.out.1.rl, HH.out.1.rf⟩

end Go.Proofs.YtemmkobgpciflaaDoor
