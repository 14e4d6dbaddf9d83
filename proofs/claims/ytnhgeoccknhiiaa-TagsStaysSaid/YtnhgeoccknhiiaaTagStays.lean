/- TagsStays, walked: only After changes labels. -/
import Derived.Test.YtnhgeoccknhiiaaTagKeep
import Derived.Test.YtnhgeoccknhiiaaTagGap
import Derived.Test.YtnhgeoccknhiiaaReg2
namespace Go.Proofs.Ytnhgeoccknhiiaa
open Go.RowKit

theorem elemU64 : Elem Try.prog 71 1 8 (.int .u64 0) := Elem.mk' (by kernel_rfl) rfl (by omega) (by omega)

theorem own_kept {w w' : World} {B d e n : Nat} {v : Value} {xs vs : List Value} (h : w.ownsRow 0 e 1 v n xs) (h1 : e ≠ 73) (h2 : e ≠ 130) (h3 : e ≠ 86) (hd : Blk w d vs 86) (hU : Kept B d w w') : w'.ownsRow 0 e 1 v n xs :=
  own_keep h hU.1 (fun g hg hf => by
    obtain ⟨us, hv⟩ := own_ty h hg
    rcases hf.2 with ht | rfl
    · rcases ht with ⟨us2, hu⟩ | ⟨us2, hu⟩ | ⟨M, hu⟩
      · exact absurd rfl (hv.ty hu h1)
      · exact absurd rfl (hv.ty hu h2)
      · exact hu.ne hv rfl
    · exact absurd rfl (hv.ty hd h3))

theorem pair_app {w w' : World} {B p d g nw n : Nat} {N : List Nd} {v : Value} {xs : List Value} (hO : w.ownsRow 0 71 1 v n xs) (hP : Pair B w p d N g nw) (hU : Upd w w' (fun b => v.ownBlock = some b)) : Pair B w' p d N g nw := by
  obtain ⟨vr, hB, hR⟩ := hP.ref
  refine ⟨hP.tags.keepF hU (fun b ht hf => ?_), ⟨vr, hU.blk hB (fun hf => ?_), own_keep hR hU (fun g hg hf => ?_)⟩, hP.inv, hP.low⟩
  · obtain ⟨us, hv⟩ := own_ty hO hf
    rcases ht with ⟨us2, hu⟩ | ⟨us2, hu⟩ | ⟨M, hu⟩
    · exact absurd rfl (hv.ty hu (by decide))
    · exact absurd rfl (hv.ty hu (by decide))
    · exact hu.ne hv rfl
  · obtain ⟨us, hv⟩ := own_ty hO hf
    exact absurd rfl (hv.ty hB (by decide))
  · obtain ⟨us, hv⟩ := own_ty hO hf
    obtain ⟨us2, hu⟩ := own_ty hR hg
    exact absurd rfl (hv.ty hu (by decide))

theorem pair_label {w : World} {B p d g nw t k : Nat} {N : List Nd} (h : Pair B w p d N g nw) (hS : Stands N t k) :
    Calls Try.prog 38 #[ptrTo p, .int .u64 t] w fun e w' => e = .returned (.tuple #[.int .u64 (labAt N k : Nat), .int .i64 0]) ∧ Pair B w' p d N g nw ∧ Kept B d w w' :=
  (solo_label ⟨h.tags, h.inv⟩ hS).mono fun e w' ⟨he, hT, hU⟩ => ⟨he, ⟨hT.tags, h.ref.keep hU, h.inv, h.low⟩, kept_tf h.lt hU⟩
theorem pair_label_gone {w : World} {B p d g nw t : Nat} {N : List Nd} (h : Pair B w p d N g nw) (hG : Gone N t) :
    Calls Try.prog 38 #[ptrTo p, .int .u64 t] w fun e w' => e = .returned (.tuple #[.int .u64 0, .int .i64 10]) ∧ Pair B w' p d N g nw ∧ Kept B d w w' :=
  (solo_label_gone ⟨h.tags, h.inv⟩ hG).mono fun e w' ⟨he, hT, hU⟩ => ⟨he, ⟨hT.tags, h.ref.keep hU, h.inv, h.low⟩, kept_tf h.lt hU⟩

/-- The two lists, a row of tags, a row of labels. -/
structure Hold (B : Nat) (w0 w : World) (p d : Nat) (N : List Nd) (g nw : Nat) (vl : Value) (L : List Nat) (vw : Value) (M : List Nat) : Prop where
  pair : Pair B w p d N g nw
  tags : w.ownsRow 0 74 1 vl L.length (ns L)
  labels : w.ownsRow 0 71 1 vw M.length (ns M)
  low : ∀ b, vw.ownBlock = some b → B ≤ b
  below : Below B w0 w
theorem Hold.kept {B : Nat} {w0 w w' : World} {p d : Nat} {N N' : List Nd} {g nw g' nw' : Nat} {vl : Value} {L : List Nat} {vw : Value} {M : List Nat} (h : Hold B w0 w p d N g nw vl L vw M) (hP : Pair B w' p d N' g' nw') (hU : Kept B d w w') : Hold B w0 w' p d N' g' nw' vl L vw M := by
  obtain ⟨vr, hB, hR⟩ := h.pair.ref
  exact ⟨hP, own_kept h.tags (by decide) (by decide) (by decide) hB hU, own_kept h.labels (by decide) (by decide) (by decide) hB hU, h.low, h.below.trans hU.below⟩

theorem Hold.drewN {B : Nat} {w0 w : World} {p d : Nat} {N : List Nd} {g nw : Nat} {vl : Value} {L : List Nat} {vw : Value} {M : List Nat} (h : Hold B w0 w p d N g nw vl L vw M) (n : Nat) : Hold B w0 (w.drewN n) p d N g nw vl L vw M :=
  h.kept (h.pair.upd0 ((Upd.refl w _).drewN n)) (kept_0 h.pair.lt ((Upd.refl w _).drewN n))
theorem Hold.drew {B : Nat} {w0 w : World} {p d : Nat} {N : List Nd} {g nw : Nat} {vl : Value} {L : List Nat} {vw : Value} {M : List Nat} (h : Hold B w0 w p d N g nw vl L vw M) : Hold B w0 w.drew p d N g nw vl L vw M :=
  h.kept (h.pair.upd0 ((Upd.refl w _).drew)) (kept_0 h.pair.lt ((Upd.refl w _).drew))

def labs (N : List Nd) : List Nat := N.map (·.label)
theorem labs_len (N : List Nd) : (labs N).length = N.length := by simp [labs]
theorem labs_get {N : List Nd} {k : Nat} (h : k < N.length) : (labs N)[k]? = some (labAt N (k + 1)) := by simp [labs, labAt, List.getElem?_eq_getElem h]

theorem Hold.push {B : Nat} {w0 w W w' : World} {p d : Nat} {N : List Nd} {g nw : Nat} {vl : Value} {L : List Nat} {vw v' : Value} {M : List Nat} {x : Nat} (h : Hold B w0 w p d N g nw vl L vw M) (T : Upd w W (fun _ => False))
    (hA : AppPost W 71 1 vw M.length (ns M) 1 [.int .u64 (x : Nat)] v' w') : Hold B w0 w' p d N g nw vl L v' (M ++ [x]) := by
  obtain ⟨O, U, b⟩ := hA
  have OW := own_keep h.labels T (fun _ _ h => h)
  have lt := h.pair.lt
  refine ⟨pair_app OW (h.pair.upd0 T) U, own_keep (own_keep h.tags T (fun _ _ h => h)) U (fun g hg hf => ?_), ?_, ?_, ?_⟩
  · obtain ⟨us, hv⟩ := own_ty OW hf
    obtain ⟨us2, hu⟩ := own_ty (own_keep h.tags T (fun _ _ h => h)) hg
    exact absurd rfl (hv.ty hu (by decide))
  · have e : ns (M ++ [x]) = ns M ++ [.int .u64 (x : Nat)] := by simp [ns]
    rw [e, List.length_append]
    exact O
  · intro g hg
    rcases b with e | e
    · exact h.low g (e ▸ hg)
    · have := ob_some (e.symm.trans hg)
      have := T.size
      omega
  · refine (h.below.trans (below_0 lt T)).trans (U.below (Nat.le_trans lt T.size) (fun i hi hf => ?_))
    have := h.low i hf
    omega

/-- What still stands bears its old label. -/
theorem sub_lab {N N2 : List Nd} {g nw i k : Nat} (hs : List.Sublist N2 N) (hI : Inv N g nw) (hi : i < N.length) (hk : k < N2.length) (hS : nameAt N2 (k + 1) = nameAt N (i + 1)) : labAt N2 (k + 1) = labAt N (i + 1) := by
  obtain ⟨j, hj, e⟩ := List.mem_iff_getElem.1 (hs.subset (List.getElem_mem hk))
  have h1 : nameAt N (j + 1) = nameAt N (i + 1) := by
    rw [← hS]
    simp [nameAt, List.getElem?_eq_getElem hj, List.getElem?_eq_getElem hk, e]
  have h2 := hI.stands (k := j + 1) (by omega)
  have h3 := hI.stands (k := i + 1) (by omega)
  rw [h1] at h2
  have := StandsL.uniq (L := nms N) hI.nodup (standsL_iff.2 h2) (standsL_iff.2 h3)
  have : j = i := by omega
  subst this
  simp [labAt, List.getElem?_eq_getElem hj, List.getElem?_eq_getElem hk, e]

theorem mem_stood {B : Nat} {w : World} {p d : Nat} {N N2 : List Nd} {g nw i : Nat} (h : Pair B w p d N2 g nw) (hs : List.Sublist N2 N) (hI : Inv N g nw) (hi : i < N.length) :
    (∃ k, Stands N2 (nameAt N (i + 1)) (k + 1) ∧ labAt N2 (k + 1) = labAt N (i + 1)) ∨ Gone N2 (nameAt N (i + 1)) := by
  by_cases hm : nameAt N (i + 1) ∈ nms N2
  · obtain ⟨k, hk, hS⟩ := h.inv.mem_stands hm
    exact Or.inl ⟨k, hS, sub_lab hs hI hi hk hS.2.1⟩
  · exact Or.inr (goneL_iff.1 ⟨by have := (hI.nameAt_pos hi).1; omega, hm⟩)

section
variable {w : World} {B p d g nw : Nat} {N : List Nd}
theorem pair_there {t k : Nat} (h : Pair B w p d N g nw) (hS : Stands N t k) : Calls Try.prog 44 #[.pointer (some ⟨d, 0, none⟩), .int .u64 t] w fun e w' => e = .returned (.bool true) ∧ w' = w :=
  (there_any d t g (nms N) w h.ref (by rw [nms_len]; exact h.inv.len)).mono fun e w' ⟨he, hw⟩ => ⟨by
    rcases he with ⟨_, _, he⟩ | ⟨hG, _⟩
    · exact he
    · exact (hG.not (standsL_iff.2 hS)).elim, hw.symm⟩
theorem pair_there_gone {t : Nat} (h : Pair B w p d N g nw) (hG : Gone N t) : Calls Try.prog 44 #[.pointer (some ⟨d, 0, none⟩), .int .u64 t] w fun e w' => e = .returned (.bool false) ∧ w' = w :=
  (there_any d t g (nms N) w h.ref (by rw [nms_len]; exact h.inv.len)).mono fun e w' ⟨he, hw⟩ => ⟨by
    rcases he with ⟨_, hS, _⟩ | ⟨_, he⟩
    · exact ((goneL_iff.2 hG).not hS).elim
    · exact he, hw.symm⟩
theorem pair_order {t u i j : Nat} (h : Pair B w p d N g nw) (hS : Stands N t i) (hS2 : Stands N u j) (hl : labAt N i < labAt N j) :
    Calls Try.prog 45 #[ptrTo p, .int .u64 t, .int .u64 u] w fun e w' => e = .returned (.tuple #[.int .i64 (-1), .int .i64 0]) ∧ Pair B w' p d N g nw ∧ Kept B d w w' :=
  (order_pub B p t u N g nw w h.tags).mono fun e w' ⟨hU, hT, he⟩ => ⟨by
    rcases he with ⟨i', j', h1, h2, he⟩ | ⟨hG, _⟩
    · have e1 := StandsL.uniq h.nd (standsL_iff.2 h1) (standsL_iff.2 hS)
      have e2 := StandsL.uniq h.nd (standsL_iff.2 h2) (standsL_iff.2 hS2)
      subst e1 e2
      rw [he, orderOf, if_pos hl]
    · rcases hG with hG | hG
      · exact ((goneL_iff.2 hG).not (standsL_iff.2 hS)).elim
      · exact ((goneL_iff.2 hG).not (standsL_iff.2 hS2)).elim, ⟨hT, h.ref.keep hU, h.inv, h.low⟩, kept_tf h.lt hU⟩
theorem pair_order_gone {t u : Nat} (h : Pair B w p d N g nw) (hG : Gone N t) :
    Calls Try.prog 45 #[ptrTo p, .int .u64 t, .int .u64 u] w fun e w' => e = .returned (.tuple #[.int .i64 0, .int .i64 10]) ∧ Pair B w' p d N g nw ∧ Kept B d w w' :=
  (order_pub B p t u N g nw w h.tags).mono fun e w' ⟨hU, hT, he⟩ => ⟨by
    rcases he with ⟨i', j', h1, h2, he⟩ | ⟨_, he⟩
    · exact ((goneL_iff.2 hG).not (standsL_iff.2 h1)).elim
    · exact he, ⟨hT, h.ref.keep hU, h.inv, h.low⟩, kept_tf h.lt hU⟩
end

set_option maxRecDepth 20000 in
set_option maxHeartbeats 2000000 in
theorem tagsStays_calls (w : World) (v vo : Value) (l lo : List ActD) (h : ActsAt w v l) (hl : l.length * 32 ≤ 140737488351232) (ho : ActsAt w vo lo) (hlo : lo.length * 32 ≤ 140737488351232) :
    Calls Try.prog 7 #[v, vo] w (TruePost w) := by
  obtain ⟨a, c, rfl, hc⟩ := h.1.form
  obtain ⟨ao, co, rfl, hco⟩ := ho.1.form
  have HA := Lib.hid h
  have HO := Lib.hid ho
  clear h ho
  go_enter Try.func7, Try.ntmps7
  go_wp2
  obtain ⟨w1, hw1, S0, S0b⟩ := pair_fresh w
  obtain ⟨p, hp⟩ : ∃ p, p = w.heap.size := ⟨_, rfl⟩
  obtain ⟨d, hd⟩ : ∃ d, d = p + 1 := ⟨_, rfl⟩
  obtain ⟨B, hBw⟩ : ∃ B, B = w.heap.size := ⟨_, rfl⟩
  rw [← hw1, ← hp, ← hd]
  rw [← hp, ← hd] at S0
  have S1 : Hid (Pair B w1 p d [] 0 0 ∧ Below B w w1) := Lib.hid ⟨by rw [hBw, ← hp]; exact S0, by rw [hBw]; exact S0b⟩
  have HBw := Lib.hid hBw
  clear hw1 hp hd hBw S0 S0b
  go_loopg [7] l.length (fun kq v7 w' => ∃ i : Nat, v7 = .int .i64 i ∧ Hid (kq = l.length - i ∧ i ≤ l.length) ∧ Hid (∃ N g nw, Pair B w' p d N g nw ∧ g ≤ i ∧ Below B w w'))
  case atStart => exact ⟨0, rfl, Lib.hid ⟨rfl, Nat.zero_le _⟩, Lib.hid ⟨[], 0, 0, S1.out.1, Nat.le_refl _, S1.out.2⟩⟩
  case round =>
    obtain ⟨i, rfl, HI, HS⟩ := hrel
    by_cases hi : i < l.length
    · obtain ⟨N, g, nw, hP, hg, hL⟩ := HS.out
      obtain ⟨act, gb, off, c', hla, hok, e1, k0, k1, k2, k3⟩ := acts_at HA.out (by rw [← HBw.out]; exact hL) hi
      cases e1
      have hi0 : (0 : Int) ≤ (i : Int) := by omega
      have hi1 : (i : Int) < (l.length : Int) := by omega
      have hi2 : decide (i < l.length) = true := decide_eq_true hi
      have HC := Lib.hid (does_any B p d N g nw act.kind act.how act.tag act.other wr hP (by omega) hok)
      have HL := Lib.hid (And.intro hL hg)
      clear hP hL hg hla hok
      go_wp2_with fail
      refine HC.out.mono ?_
      rintro e w2 ⟨N', g', nw', rfl, hP, _, hg2, hL2, _⟩
      have HS2 := Lib.hid (And.intro hP (And.intro (HL.out.1.trans hL2) (Nat.le_trans hg2 (Nat.succ_le_succ HL.out.2))))
      clear hP hL2 hg2 HC k0 k1 k2 k3 HS
      go_wp2
      go_roundg (l.length - (i + 1))
      case rel => exact ⟨i + 1, by go_num, Lib.hid ⟨rfl, by omega⟩, Lib.hid ⟨N', g', nw', HS2.out.1, HS2.out.2.2, HS2.out.2.1⟩⟩
      case measure => have := HI.out; omega
    · have hi2 : decide (i < l.length) = false := decide_eq_false hi
      obtain ⟨N, g, nw, P2, hg, L2⟩ := HS.out
      have HG := Lib.hid (show g < 4503599627370494 by have := HI.out; omega)
      obtain ⟨vr, hB, hR⟩ := P2.ref
      have hRd := Rd.ofOwn hR
      obtain ⟨ar, cr, rfl, hcr⟩ := hRd.form
      have h0 : wr.cell? ⟨d, 0, none⟩ = some (.slice ar (nms N).length cr) := hB.cell 0
      have hdl : d < wr.heap.size := hB.lt
      have HR := Lib.hid (And.intro hRd hR)
      have S2 := Lib.hid (And.intro P2 L2)
      clear HI hg HS P2 L2 hB hR hRd
      go_wp2_with (at_builtin; refine halt_mk ?_)
      refine halt_go ?_
      generalize hW : World.alloc _ _ = W
      have HW := Lib.hid hW
      clear hW
      have U0 : Upd wr W (fun _ => False) := by rw [← HW.out]; exact ((Upd.refl wr _).alloc _).alloc _
      have E0 : W.ownsRow 0 74 1 (.slice (some ⟨wr.heap.size + 1, 0, none⟩) 0 0) 0 [] := by rw [← HW.out]; exact own_lit (by simp)
      have E1 : W.ownsRow 0 71 1 (.slice (some ⟨wr.heap.size, 0, none⟩) 0 0) 0 [] := by rw [← HW.out]; exact own_keep (own_lit rfl) ((Upd.refl _ (fun _ => False)).alloc _) (fun _ _ h => h)
      have hlN : (nms N).length ≤ 8192 := by rw [nms_len]; exact S2.out.1.inv.len
      refine wpl_app rfl rfl elemTag Try.underlying84 rfl E0 rfl (HR.out.1.keep U0 (fun _ _ h => h)) (ns_one _) (by omega) ?_
      rintro v1 w2 ⟨O1, U1, b1⟩
      rw [Nat.zero_add, List.nil_append] at O1
      have V1 : Upd wr w2 (fun _ => False) := U0.trans U1 (fun i hi e => by have := ob_eq e; omega)
      have E1 := own_keep E1 U1 (fun g hg e => by have := ob_eq hg; have := ob_eq e; omega)
      have S3 : Hid (Hold B w w2 p d N g nw v1 (nms N) (.slice (some ⟨wr.heap.size, 0, none⟩) 0 0) []) := Lib.hid ⟨S2.out.1.upd0 V1, O1, E1, fun b hb => by have := ob_eq hb; have := S2.out.1.lt; omega, S2.out.2.trans (below_0 S2.out.1.lt V1)⟩
      obtain ⟨a1, c1, rfl, hc1⟩ := (Rd.ofOwn O1).form
      clear U0 E0 E1 O1 U1 b1 V1 HW HR S2 h0 hdl
      go_wp2
      go_loopg [8, 10] N.length (fun kq v8 v10 w' => ∃ i2 : Nat, v10 = .int .i64 i2 ∧ Hid (kq = N.length - i2 ∧ i2 ≤ N.length) ∧ Hid (Hold B w w' p d N g nw (.slice a1 (nms N).length c1) (nms N) v8 ((labs N).take i2)))
      case atStart => exact ⟨0, rfl, Lib.hid ⟨rfl, Nat.zero_le _⟩, S3⟩
      case round =>
        obtain ⟨i2, rfl, HI, HS⟩ := hrel
        have hi0 : (0 : Int) ≤ (i2 : Int) := by omega
        by_cases hi : i2 < N.length
        · obtain ⟨gb, off, c', e1, _, hcell⟩ := (Rd.ofOwn HS.out.tags).at_ (j := i2) (u := .int .u64 (nameL (nms N) (i2 + 1) : Nat)) (by rw [ns_get, nameL_get (by rw [nms_len]; exact hi)]; rfl)
          cases e1
          rw [nameL_nms] at hcell
          have hi1 : (i2 : Int) < ((nms N).length : Int) := by rw [nms_len]; omega
          have hi2 : decide (i2 < (nms N).length) = true := decide_eq_true (by rw [nms_len]; exact hi)
          have HC := Lib.hid (pair_label HS.out.pair (HS.out.pair.inv.stands (k := i2 + 1) (by omega)))
          obtain ⟨lab, hlab⟩ : ∃ lab, lab = labAt N (i2 + 1) := ⟨_, rfl⟩
          rw [← hlab] at HC
          have HLAB := Lib.hid hlab
          clear hlab
          go_wp2_with fail
          refine HC.out.mono ?_
          rintro e w3 ⟨rfl, hP, hU⟩
          have HS3 := Lib.hid (HS.out.kept hP hU)
          clear hP hU HC hcell
          go_wp2_with (at_builtin; refine halt_mk ?_)
          refine halt_go ?_
          generalize hW : World.alloc _ _ = W
          have HW := Lib.hid hW
          clear hW
          have T1 : Upd w3 W (fun _ => False) := by rw [← HW.out]; exact (Upd.refl w3 _).alloc _
          have X1 : Blk W w3.heap.size [.int .u64 (lab : Nat)] 71 := by rw [← HW.out]; exact Blk.new' rfl
          have hlM : ((labs N).take i2).length ≤ 8192 := by rw [List.length_take, labs_len]; omega
          refine wpl_app rfl rfl elemU64 Try.underlying90 rfl (own_keep HS3.out.labels T1 (fun _ _ h => h)) rfl (Rd.ofBlk X1 1 1 rfl) (by simp [Value.oneCell']) (by omega) ?_
          intro v2 w4 hA
          have h4 := HS3.out.push T1 hA
          rw [← show (labs N).take (i2 + 1) = (labs N).take i2 ++ [lab] by rw [List.take_add_one, labs_get hi, HLAB.out]; rfl] at h4
          have HS4 := Lib.hid h4
          clear hA T1 X1 HW hlM h4
          go_wp2
          go_roundg (N.length - (i2 + 1))
          case rel => exact ⟨i2 + 1, by go_num, Lib.hid ⟨rfl, by omega⟩, HS4⟩
          case measure => have := HI.out; omega
        · have hi1 : ¬ (i2 : Int) < ((nms N).length : Int) := by rw [nms_len]; omega
          have hi2 : decide (i2 < (nms N).length) = false := decide_eq_false (by rw [nms_len]; exact hi)
          have ei : i2 = N.length := by have := HI.out; omega
          rw [ei, ← labs_len, List.take_length] at HS
          obtain ⟨a2, c2, rfl, hc2⟩ := (Rd.ofOwn HS.out.labels).form
          have HC := Lib.hid (solo_writes ⟨HS.out.pair.tags, HS.out.pair.inv⟩)
          clear ei HI
          go_wp2_with fail
          refine HC.out.mono ?_
          rintro e w3 ⟨rfl, rfl⟩
          clear HC
          have HIN := Lib.hid HS.out.pair.inv
          go_wp2
          go_loopg [14] lo.length (fun kq v14 w' => ∃ j : Nat, v14 = .int .i64 j ∧ Hid (kq = lo.length - j ∧ j ≤ lo.length) ∧ Hid (∃ N2, Hold B w w' p d N2 g nw (.slice a1 (nms N).length c1) (nms N) (.slice a2 (labs N).length c2) (labs N) ∧ List.Sublist N2 N))
          case atStart => exact ⟨0, rfl, Lib.hid ⟨rfl, Nat.zero_le _⟩, Lib.hid ⟨N, HS.out, List.Sublist.refl _⟩⟩
          case round =>
            obtain ⟨j, rfl, HI, HS⟩ := hrel
            have hj0 : (0 : Int) ≤ (j : Int) := by omega
            by_cases hj : j < lo.length
            · obtain ⟨N2, hH, hsub⟩ := HS.out
              obtain ⟨act, gb, off, c', hla, hok, e1, k0, k1, k2, k3⟩ := acts_at HO.out (by rw [← HBw.out]; exact hH.below) hj
              cases e1
              have hj1 : (j : Int) < (lo.length : Int) := by omega
              have hj2 : decide (j < lo.length) = true := decide_eq_true hj
              by_cases ck : act.kind = 0
              · have d0 : (act.kind != 0) = false := by rw [bne_eq_false_iff_eq]; exact ck
                clear hH hsub hla hok ck
                go_wp2
                go_roundg (lo.length - (j + 1))
                case rel => exact ⟨j + 1, by go_num, Lib.hid ⟨rfl, by omega⟩, HS⟩
                case measure => have := HI.out; omega
              · have d0 : (act.kind != 0) = true := by rw [bne_iff_ne]; exact ck
                have HC := Lib.hid (does_kept B p d N2 g nw act.kind act.how act.tag act.other wr hH.pair (by have := HG.out; omega) hok)
                have HH := Lib.hid (And.intro hH hsub)
                have CK := Lib.hid ck
                clear hH hsub hla hok ck
                go_wp2_with fail
                refine HC.out.mono ?_
                rintro e w3 ⟨N3, g3, nw3, rfl, hP, _, _, hK, hE⟩
                obtain ⟨rfl, rfl, hsub3⟩ := hE CK.out
                have HS3 := Lib.hid (And.intro (HH.out.1.kept hP hK) (hsub3.trans HH.out.2))
                clear hP hK hE hsub3 HC k0 k1 k2 k3 HS HH
                go_wp2
                go_roundg (lo.length - (j + 1))
                case rel => exact ⟨j + 1, by go_num, Lib.hid ⟨rfl, by omega⟩, Lib.hid ⟨N3, HS3.out⟩⟩
                case measure => have := HI.out; omega
            · have hj1 : ¬ (j : Int) < (lo.length : Int) := by omega
              have hj2 : decide (j < lo.length) = false := decide_eq_false hj
              obtain ⟨N2, hH, hsub⟩ := HS.out
              have HSUB := Lib.hid hsub
              have HS2 := Lib.hid hH
              clear hH hsub HS
              go_wp2
              go_loopg [15] N.length (fun kq v15 w' => ∃ k : Nat, v15 = .int .i64 k ∧ Hid (kq = N.length - k ∧ k ≤ N.length) ∧ Hid (Hold B w w' p d N2 g nw (.slice a1 (nms N).length c1) (nms N) (.slice a2 (labs N).length c2) (labs N)))
              case atStart => exact ⟨0, rfl, Lib.hid ⟨rfl, Nat.zero_le _⟩, HS2⟩
              case round =>
                obtain ⟨k, rfl, HI, HS⟩ := hrel
                have hk0 : (0 : Int) ≤ (k : Int) := by omega
                by_cases hk : k < N.length
                · obtain ⟨gb, off, c', e1, _, hcell⟩ := (Rd.ofOwn HS.out.tags).at_ (j := k) (u := .int .u64 (nameL (nms N) (k + 1) : Nat)) (by rw [ns_get, nameL_get (by rw [nms_len]; exact hk)]; rfl)
                  cases e1
                  obtain ⟨gw, ow, cw', e2, _, wcell⟩ := (Rd.ofOwn HS.out.labels).at_ (j := k) (u := .int .u64 (labAt N (k + 1) : Nat)) (by rw [ns_get, labs_get hk]; rfl)
                  cases e2
                  rw [nameL_nms] at hcell
                  have hk1 : (k : Int) < ((nms N).length : Int) := by rw [nms_len]; omega
                  have hk2 : decide (k < (nms N).length) = true := decide_eq_true (by rw [nms_len]; exact hk)
                  have hk3 : (k : Int) < ((labs N).length : Int) := by rw [labs_len]; omega
                  have hk4 : decide (k < (labs N).length) = true := decide_eq_true (by rw [labs_len]; exact hk)
                  obtain ⟨t, ht⟩ : ∃ t, t = nameAt N (k + 1) := ⟨_, rfl⟩
                  obtain ⟨lab, hlab⟩ : ∃ lab, lab = labAt N (k + 1) := ⟨_, rfl⟩
                  rw [← ht] at hcell
                  rw [← hlab] at wcell
                  have HT := Lib.hid (And.intro ht hlab)
                  rcases mem_stood HS.out.pair HSUB.out HIN.out hk with ⟨k2, hS, hL2⟩ | hG
                  · rw [← ht] at hS
                    rw [← hlab] at hL2
                    have HC := Lib.hid (pair_label HS.out.pair hS)
                    rw [hL2] at HC
                    have HST := Lib.hid (And.intro hS hL2)
                    clear hS hL2 ht hlab
                    go_wp2_with fail
                    refine HC.out.mono ?_
                    rintro e w3 ⟨rfl, hP, hU⟩
                    have HS3 := Lib.hid (HS.out.kept hP hU)
                    have HC := Lib.hid (pair_there hP HST.out.1)
                    clear hP hU hcell wcell
                    obtain ⟨gb2, off2, c2', e1, _, hcell⟩ := (Rd.ofOwn HS3.out.tags).at_ (j := k) (u := .int .u64 (nameL (nms N) (k + 1) : Nat)) (by rw [ns_get, nameL_get (by rw [nms_len]; exact hk)]; rfl)
                    cases e1
                    obtain ⟨gw2, ow2, cw2, e2, _, wcell⟩ := (Rd.ofOwn HS3.out.labels).at_ (j := k) (u := .int .u64 (labAt N (k + 1) : Nat)) (by rw [ns_get, labs_get hk]; rfl)
                    cases e2
                    rw [nameL_nms, ← HT.out.1] at hcell
                    rw [← HT.out.2] at wcell
                    go_wp2_with fail
                    refine HC.out.mono ?_
                    rintro e w4 ⟨rfl, rfl⟩
                    clear HC
                    go_wp2
                    go_loopg [18] 21 (fun kq v18 w' => ∃ m : Nat, v18 = .int .i64 m ∧ Hid (kq = 21 - m ∧ m ≤ 20) ∧ Hid (Hold B w w' p d N2 g nw (.slice (some ⟨gb, off, none⟩) (nms N).length c1) (nms N) (.slice (some ⟨gw, ow, none⟩) (labs N).length c2) (labs N)))
                    case atStart => exact ⟨0, rfl, Lib.hid ⟨rfl, by omega⟩, HS3⟩
                    case round =>
                      obtain ⟨m, rfl, HI2, HS4⟩ := hrel
                      have hm0 : (0 : Int) ≤ (m : Int) := by omega
                      by_cases hmk : m < k
                      · have hmk1 : (m : Int) < (k : Int) := by omega
                        have hmk2 : decide (m < k) = true := decide_eq_true hmk
                        by_cases hm20 : m < 20
                        · have hm21 : (m : Int) < 20 := by omega
                          have hmN : m < N.length := by omega
                          have hmi : (m : Int) < ((nms N).length : Int) := by rw [nms_len]; omega
                          have hmw : (m : Int) < ((labs N).length : Int) := by rw [labs_len]; omega
                          obtain ⟨tm, htm⟩ : ∃ t, t = nameAt N (m + 1) := ⟨_, rfl⟩
                          have HTM := Lib.hid htm
                          clear htm hcell wcell
                          have cellsAt : Hid (∀ w', Hold B w w' p d N2 g nw (.slice (some ⟨gb, off, none⟩) (nms N).length c1) (nms N) (.slice (some ⟨gw, ow, none⟩) (labs N).length c2) (labs N) →
                              w'.cell? ⟨gb, off + m, none⟩ = some (.int .u64 (tm : Nat)) ∧ w'.cell? ⟨gb, off + k, none⟩ = some (.int .u64 (t : Nat)) ∧ w'.cell? ⟨gw, ow + m, none⟩ = some (.int .u64 (labAt N (m + 1) : Nat)) ∧ w'.cell? ⟨gw, ow + k, none⟩ = some (.int .u64 (lab : Nat))) := Lib.hid (by
                            intro w' hH
                            refine ⟨?_, ?_, ?_, ?_⟩
                            · obtain ⟨_, _, _, e1, _, h⟩ := (Rd.ofOwn hH.tags).at_ (j := m) (u := .int .u64 (nameL (nms N) (m + 1) : Nat)) (by rw [ns_get, nameL_get (by rw [nms_len]; omega)]; rfl)
                              cases e1
                              rw [nameL_nms, ← HTM.out] at h
                              exact h
                            · obtain ⟨_, _, _, e1, _, h⟩ := (Rd.ofOwn hH.tags).at_ (j := k) (u := .int .u64 (nameL (nms N) (k + 1) : Nat)) (by rw [ns_get, nameL_get (by rw [nms_len]; omega)]; rfl)
                              cases e1
                              rw [nameL_nms, ← HT.out.1] at h
                              exact h
                            · obtain ⟨_, _, _, e1, _, h⟩ := (Rd.ofOwn hH.labels).at_ (j := m) (u := .int .u64 (labAt N (m + 1) : Nat)) (by rw [ns_get, labs_get hmN]; rfl)
                              cases e1
                              exact h
                            · obtain ⟨_, _, _, e1, _, h⟩ := (Rd.ofOwn hH.labels).at_ (j := k) (u := .int .u64 (labAt N (k + 1) : Nat)) (by rw [ns_get, labs_get hk]; rfl)
                              cases e1
                              rw [← HT.out.2] at h
                              exact h)
                          obtain ⟨lm, hlm⟩ : ∃ x, x = labAt N (m + 1) := ⟨_, rfl⟩
                          rw [← hlm] at cellsAt
                          have hrise : lm < lab := by
                            rw [hlm, HT.out.2]
                            exact labAt_lt HIN.out.rise (by omega) (by omega)
                          have HLM := Lib.hid hlm
                          clear hlm
                          obtain ⟨c1m, c1k, _, _⟩ := cellsAt.out wr HS4.out
                          go_wp2_with fail
                          apply wp_reg2 (fun w' : World => w'.cell? ⟨gb, off + m, none⟩ = some (.int .u64 (tm : Nat)) ∧ w'.cell? ⟨gb, off + k, none⟩ = some (.int .u64 (t : Nat))) [0, 1, 2, 3, 4, 5, 6, 7, 8] [9] [10, 11, 12] [13] [14] (by kernel_rfl) (by kernel_rfl) (fun _ _ d _ _ h => by cases d <;> exact h) ⟨c1m, c1k⟩
                          · iterate 9 (apply reads_cons rfl rfl; (· intro w0 hS; obtain ⟨hS1, hS2⟩ := hS; go_simp; rfl); simp only [Act.put, List.setIfInBounds_toArray, List.set_cons_zero, List.set_cons_succ])
                            exact rfl
                          refine pre_cons rfl ?_
                          have sm := mem_stood HS4.out.pair HSUB.out HIN.out hmN
                          rcases sm with ⟨k3, hS3, hL3⟩ | hG3
                          · rw [← HTM.out] at hS3
                            rw [← HLM.out] at hL3
                            have HC := Lib.hid (pair_order (Pair.upd0 HS4.out.pair (Upd.refl wr _).drew) hS3 HST.out.1 (by rw [hL3, HST.out.2]; exact hrise))
                            clear hS3 hL3
                            clear c1m c1k
                            go_wp2_with fail
                            refine HC.out.mono ?_
                            rintro e w5 ⟨rfl, hP, hU⟩
                            have HS5 := Lib.hid (HS4.out.drew.kept hP hU)
                            obtain ⟨q1, q2, q3, q4⟩ := cellsAt.out w5 HS5.out
                            clear hP hU HC cellsAt HS4
                            go_wp2_with fail
                            refine ⟨⟨q1, q2⟩, ?_⟩
                            apply pre_last
                            · iterate 3 (apply reads_cons rfl rfl; (· intro w0 hS; go_simp; rfl); simp only [Act.put, List.setIfInBounds_toArray, List.set_cons_zero, List.set_cons_succ])
                              exact rfl
                            refine tail_cons rfl ?_
                            go_wp2
                            refine ⟨⟨q1, q2⟩, tail_one rfl ?_⟩
                            have n1 : decide ((lm : Int) ≥ (lab : Int)) = false := decide_eq_false (by omega)
                            have n2 : decide (lab ≤ lm) = false := decide_eq_false (by omega)
                            go_wp2
                            go_quiet (fail)
                            go_wp2
                            go_roundg (21 - (m + 1))
                            case rel => exact ⟨m + 1, by go_num, Lib.hid ⟨rfl, by omega⟩, by first | exact HS5 | exact Lib.hid HS5.out.drew | exact Lib.hid (HS5.out.drewN _)⟩
                            case measure => have := HI2.out; omega
                          · rw [← HTM.out] at hG3
                            have HC := Lib.hid (pair_order_gone (u := t) (Pair.upd0 HS4.out.pair (Upd.refl wr _).drew) hG3)
                            clear hG3
                            clear c1m c1k
                            go_wp2_with fail
                            refine HC.out.mono ?_
                            rintro e w5 ⟨rfl, hP, hU⟩
                            have HS5 := Lib.hid (HS4.out.drew.kept hP hU)
                            obtain ⟨q1, q2, q3, q4⟩ := cellsAt.out w5 HS5.out
                            clear hP hU HC cellsAt HS4
                            go_wp2_with fail
                            refine ⟨⟨q1, q2⟩, ?_⟩
                            apply pre_last
                            · iterate 3 (apply reads_cons rfl rfl; (· intro w0 hS; go_simp; rfl); simp only [Act.put, List.setIfInBounds_toArray, List.set_cons_zero, List.set_cons_succ])
                              exact rfl
                            refine tail_cons rfl ?_
                            go_wp2
                            refine ⟨⟨q1, q2⟩, tail_one rfl ?_⟩
                            have n1 : decide ((lm : Int) ≥ (lab : Int)) = false := decide_eq_false (by omega)
                            go_wp2
                            go_quiet (fail)
                            go_wp2
                            go_roundg (21 - (m + 1))
                            case rel => exact ⟨m + 1, by go_num, Lib.hid ⟨rfl, by omega⟩, by first | exact HS5 | exact Lib.hid HS5.out.drew | exact Lib.hid (HS5.out.drewN _)⟩
                            case measure => have := HI2.out; omega
                        · have hm21 : ¬ (m : Int) < 20 := by omega
                          have hm22 : decide ((m : Int) < 20) = false := decide_eq_false hm21
                          clear hcell wcell
                          go_wp2
                          go_roundg (N.length - (k + 1))
                          case rel => exact ⟨k + 1, by go_num, Lib.hid ⟨rfl, by omega⟩, HS4⟩
                          case measure => have := HI.out; omega
                      · have hmk1 : ¬ (m : Int) < (k : Int) := by omega
                        have hmk2 : decide (m < k) = false := decide_eq_false hmk
                        clear hcell wcell
                        go_wp2
                        go_roundg (N.length - (k + 1))
                        case rel => exact ⟨k + 1, by go_num, Lib.hid ⟨rfl, by omega⟩, HS4⟩
                        case measure => have := HI.out; omega
                  · rw [← ht] at hG
                    have HC := Lib.hid (pair_label_gone HS.out.pair hG)
                    have HGO := Lib.hid hG
                    clear hG ht hlab
                    go_wp2_with fail
                    refine HC.out.mono ?_
                    rintro e w3 ⟨rfl, hP, hU⟩
                    have HS3 := Lib.hid (HS.out.kept hP hU)
                    have HC := Lib.hid (pair_there_gone hP HGO.out)
                    clear hP hU hcell wcell
                    obtain ⟨gb2, off2, c2', e1, _, hcell⟩ := (Rd.ofOwn HS3.out.tags).at_ (j := k) (u := .int .u64 (nameL (nms N) (k + 1) : Nat)) (by rw [ns_get, nameL_get (by rw [nms_len]; exact hk)]; rfl)
                    cases e1
                    rw [nameL_nms, ← HT.out.1] at hcell
                    go_wp2_with fail
                    refine HC.out.mono ?_
                    rintro e w4 ⟨rfl, rfl⟩
                    clear HC
                    go_wp2
                    go_loopg [18] 1 (fun kq v18 w' => v18 = .int .i64 0 ∧ Hid (kq = 1) ∧ Hid (w' = w4 ∨ True) ∧ Hid (Hold B w w' p d N2 g nw (.slice (some ⟨gb, off, none⟩) (nms N).length c1) (nms N) (.slice (some ⟨gw, ow, none⟩) (labs N).length c2) (labs N)))
                    case atStart => exact ⟨rfl, Lib.hid rfl, Lib.hid (Or.inr trivial), HS3⟩
                    case round =>
                      obtain ⟨rfl, _, _, HS4⟩ := hrel
                      by_cases hk9 : 0 < k
                      · have hk91 : (0 : Int) < (k : Int) := by omega
                        have hk92 : decide (0 < k) = true := decide_eq_true hk9
                        have hk93 : decide ((0 : Int) < (k : Int)) = true := decide_eq_true hk91
                        go_wp2
                        go_roundg (N.length - (k + 1))
                        case rel => exact ⟨k + 1, by go_num, Lib.hid ⟨rfl, by omega⟩, HS4⟩
                        case measure => have := HI.out; omega
                      · have hk91 : ¬ (0 : Int) < (k : Int) := by omega
                        have hk92 : decide (0 < k) = false := decide_eq_false hk9
                        have hk93 : decide ((0 : Int) < (k : Int)) = false := decide_eq_false hk91
                        go_wp2
                        go_roundg (N.length - (k + 1))
                        case rel => exact ⟨k + 1, by go_num, Lib.hid ⟨rfl, by omega⟩, HS4⟩
                        case measure => have := HI.out; omega
                · have hk1 : ¬ (k : Int) < ((nms N).length : Int) := by rw [nms_len]; omega
                  have hk2 : decide (k < (nms N).length) = false := decide_eq_false (by rw [nms_len]; exact hk)
                  have hP := HS.out.pair
                  have U0 : Upd wr (wr.alloc (.cells #[.map none, .pointer none, .int .u64 0, .int .u64 0] 73)) (fun _ => False) := (Upd.refl wr _).alloc _
                  have HC := Lib.hid (solo_after (solo_new wr) (by omega) (stands_zero []) (by simp))
                  have HU := Lib.hid U0
                  clear hP U0
                  go_wp2_with fail
                  refine HC.out.mono ?_
                  rintro e w3 ⟨N3, nw3, rfl, _, _, hU⟩
                  have hU2 : Upd wr w3 (fun _ => False) := HU.out.trans hU (fun i hi hf => by have := hf.1; omega)
                  have hP2 := HS.out.pair.upd0 hU2
                  have HC := Lib.hid (solo_writes ⟨hP2.tags, hP2.inv⟩)
                  have HF := Lib.hid (HS.out.below.trans (below_0 HS.out.pair.lt hU2))
                  clear hU hU2 hP2 HU
                  go_wp2_with fail
                  refine HC.out.mono ?_
                  rintro e w4 ⟨rfl, rfl⟩
                  clear HC
                  go_wp2
                  go_ret
                  exact ⟨rfl, by rw [← HBw.out]; exact HF.out⟩

end Go.Proofs.Ytnhgeoccknhiiaa
