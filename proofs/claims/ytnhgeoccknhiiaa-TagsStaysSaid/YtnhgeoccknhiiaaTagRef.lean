/- The document's list of tags: names in their order, in a slice. -/
import Derived.Test.YtnhgeoccknhiiaaProg
import Derived.Test.YtnhgeoccknhiiaaSlice
import Derived.Deep.LoopGhost
import Derived.Deep.QuietTactic
import Derived.BigQuiet
import Derived.Outline
import Derived.Test.YtnhgeoccknhiiaaReg
import Derived.IntWalk
import Derived.IntWalk
namespace Go.Proofs.Ytnhgeoccknhiiaa
open Go.RowKit

theorem hv_of {v' v : Value} {H B : Nat} (b : v'.ownBlock = v.ownBlock ∨ v'.ownBlock = some H) (h1 : ∀ g, v.ownBlock = some g → B ≤ g) (h2 : B ≤ H) : ∀ g, v'.ownBlock = some g → B ≤ g := by
  intro g hg
  rcases b with e | e
  · exact h1 g (e.symm.trans hg)
  · have := ob_some (e.symm.trans hg); omega

theorem elemTag : Elem Try.prog 74 1 8 (.int .u64 0) := Elem.mk' (by kernel_rfl) rfl (by omega) (by omega)

def ns (L : List Nat) : List Value := L.map fun t : Nat => Value.int .u64 (t : Int)
theorem ns_get (L : List Nat) (i : Nat) : (ns L)[i]? = L[i]?.map fun t : Nat => Value.int .u64 (t : Int) := List.getElem?_map ..
theorem ns_one (L : List Nat) : ∀ u ∈ ns L, u.oneCell' = true := ints_one .u64 L

def RefIs (w : World) (d : Nat) (L : List Nat) (g : Nat) : Prop := ∃ v, Blk w d [v, .int .u64 g] 86 ∧ w.ownsRow 0 74 1 v L.length (ns L)

/-- The name at place k (0: the head's, and behind all); t stands at k; t is not there. -/
def nameL (L : List Nat) : Nat → Nat
  | 0 => 0
  | k + 1 => (L[k]?).getD 0
def StandsL (L : List Nat) (t k : Nat) : Prop := k ≤ L.length ∧ nameL L k = t ∧ (k = 0 ↔ t = 0)
def GoneL (L : List Nat) (t : Nat) : Prop := t ≠ 0 ∧ t ∉ L

def AtPost (L : List Nat) (t : Nat) (e : Ending) : Prop := (∃ k, StandsL L t k ∧ e = .returned (.int .i64 (k : Nat))) ∨ (GoneL L t ∧ e = .returned (.int .i64 (-1)))

theorem at_any (d t g : Nat) (L : List Nat) (w : World) (h : RefIs w d L g) (hL : L.length ≤ 8192) :
    Calls Try.prog 74 #[.pointer (some ⟨d, 0, none⟩), .int .u64 t] w fun e w' => AtPost L t e ∧ w = w' := by
  obtain ⟨v, hB, hO⟩ := h
  by_cases ht : t = 0
  · have htd : ((t : Int) == 0) = true := by rw [beq_iff_eq]; omega
    have HT := Lib.hid ht
    clear hB hO ht
    go_enter Try.func74, Try.ntmps74
    go_wp2
    go_ret
    exact ⟨Or.inl ⟨0, ⟨Nat.zero_le _, HT.out.symm, by simp [HT.out]⟩, rfl⟩, rfl⟩
  · have htd : ((t : Int) == 0) = false := by rw [beq_eq_false_iff_ne]; omega
    have hR := Rd.ofOwn hO
    obtain ⟨a, c, rfl, hc⟩ := hR.form
    have h0 : w.cell? ⟨d, 0, none⟩ = some (.slice a L.length c) := hB.cell 0
    have HR := Lib.hid hR
    have HT := Lib.hid ht
    clear hB hO hR ht
    go_enter Try.func74, Try.ntmps74
    go_wp2
    go_loopg [5] L.length (fun kq v5 w' => ∃ i : Nat, v5 = .int .i64 i ∧ w' = w ∧ Hid (kq = L.length - i ∧ i ≤ L.length ∧ ∀ j, j < i → L[j]? ≠ some t))
    case atStart => exact ⟨0, rfl, rfl, Lib.hid ⟨rfl, Nat.zero_le _, fun _ h => by omega⟩⟩
    case round =>
      obtain ⟨i, rfl, rfl, HI⟩ := hrel
      by_cases hi : i < L.length
      · obtain ⟨n, hn⟩ : ∃ n, L[i]? = some n := ⟨L[i], List.getElem?_eq_getElem hi⟩
        obtain ⟨gb, off, c', e1, _, hcell⟩ := HR.out.at_ (j := i) (u := .int .u64 n) (by rw [ns_get, hn]; rfl)
        cases e1
        have hi0 : (0 : Int) ≤ (i : Int) := by omega
        have hi1 : (i : Int) < (L.length : Int) := by omega
        have HN := Lib.hid hn
        clear hn
        by_cases hnt : n = t
        · have hb : ((n : Int) == (t : Int)) = true := by rw [beq_iff_eq]; omega
          have HNT := Lib.hid hnt
          clear hnt
          go_wp2
          go_ret
          refine ⟨Or.inl ⟨i + 1, ⟨by omega, ?_, ?_⟩, ret_int (by omega)⟩, rfl⟩
          · simp only [nameL, HN.out, Option.getD_some]; exact HNT.out
          · have := HT.out; omega
        · have hb : ((n : Int) == (t : Int)) = false := by rw [beq_eq_false_iff_ne]; omega
          have HNT := Lib.hid hnt
          clear hnt
          go_wp2
          go_roundg (L.length - (i + 1))
          case rel =>
            refine ⟨i + 1, by go_num, rfl, Lib.hid ⟨rfl, by omega, fun j hj => ?_⟩⟩
            by_cases e : j = i
            · subst e; rw [HN.out]; intro e2; cases e2; exact HNT.out rfl
            · exact HI.out.2.2 j (by omega)
          case measure => have := HI.out; omega
      · go_wp2
        go_ret
        refine ⟨Or.inr ⟨⟨HT.out, fun hm => ?_⟩, rfl⟩, rfl⟩
        obtain ⟨j, hj⟩ := List.mem_iff_getElem?.1 hm
        have : j < L.length := by rw [List.getElem?_eq_some_iff] at hj; exact hj.1
        exact HI.out.2.2 j (by omega) hj

theorem RefIs.len {w : World} {d : Nat} {L : List Nat} {g : Nat} (h : RefIs w d L g) : ∃ a c, w.cell? ⟨d, 0, none⟩ = some (.slice a L.length c) ∧ L.length ≤ c := by
  obtain ⟨v, hB, hO⟩ := h
  obtain ⟨a, c, rfl, hc⟩ := (Rd.ofOwn hO).form
  exact ⟨a, c, hB.cell 0, hc⟩

def RAfterPost (d t : Nat) (L : List Nat) (g : Nat) (w : World) (e : Ending) (w' : World) : Prop :=
  (w = w' ∧ GoneL L t ∧ e = .returned (.tuple #[.int .u64 0, .int .i64 10])) ∨
  (∃ k, StandsL L t k ∧
    ((w = w' ∧ 8192 ≤ L.length ∧ e = .returned (.tuple #[.int .u64 0, .int .i64 11])) ∨
     (L.length < 8192 ∧ e = .returned (.tuple #[.int .u64 (g + 1 : Nat), .int .i64 0]) ∧ RefIs w' d (L.insertIdx k (g + 1)) (g + 1) ∧ Upd w w' (· = d))))

set_option maxRecDepth 10000 in
theorem rafter_any (d t g : Nat) (L : List Nat) (w : World) (h : RefIs w d L g) (hL : L.length ≤ 8192) (hg : g < 4611686018427387904) :
    Calls Try.prog 47 #[.pointer (some ⟨d, 0, none⟩), .int .u64 t] w (RAfterPost d t L g w) := by
  have HA := Lib.hid (at_any d t g L w h hL)
  obtain ⟨v, hB, hO⟩ := h
  go_enter Try.func47, Try.ntmps47
  go_wp2_with fail
  refine HA.out.mono ?_
  rintro e w1 ⟨⟨k, hS, rfl⟩ | ⟨hG, rfl⟩, rfl⟩
  · have hk0 : decide ((k : Int) < 0) = false := decide_eq_false (by omega)
    have hR := Rd.ofOwn hO
    obtain ⟨a, c, rfl, hc⟩ := hR.form
    have h0 : w.cell? ⟨d, 0, none⟩ = some (.slice a L.length c) := hB.cell 0
    by_cases hn : 8192 ≤ L.length
    · have hnd : decide ((L.length : Int) ≥ 8192) = true := decide_eq_true (by omega)
      have HS := Lib.hid hS
      clear HA hB hO hR hS
      go_wp2
      go_ret2
      exact Or.inr ⟨k, HS.out, Or.inl ⟨rfl, hn, rfl⟩⟩
    · have hnd : decide ((L.length : Int) ≥ 8192) = false := decide_eq_false (by omega)
      have h1 : w.cell? ⟨d, 1, none⟩ = some (.int .u64 g) := hB.cell 1
      have f0 := hB.free 0
      have f1 := hB.free 1
      have hdl := hB.lt
      have hkl := hS.1
      obtain ⟨s1, r1, R1, b1⟩ := hR.cutH elemTag Try.underlying84 hkl .i64
      obtain ⟨s2, r2, R2, b2⟩ := hR.cutL elemTag Try.underlying84 hkl .i64
      have hdv : (Value.slice a L.length c).ownBlock ≠ some d := fun e => by
        obtain ⟨vs, hv⟩ := own_ty hO e
        exact absurd rfl (hB.ty hv (by decide))
      have HS := Lib.hid hS
      have HB := Lib.hid hB
      have HO := Lib.hid hO
      have HR := Lib.hid (And.intro R1 (And.intro b1 (And.intro R2 b2)))
      have HDV := Lib.hid hdv
      clear HA hB hO hR hS R1 R2 b1 b2 hdv
      go_wp2_with (at_builtin; refine halt_mk ?_)
      refine halt_go ?_
      generalize hW : World.alloc _ _ = W
      have HW := Lib.hid hW
      clear hW
      have hH : w.heap.size + 1 = W.heap.size := by rw [← HW.out]; simp
      obtain ⟨U0, E0⟩ : Upd w W (· = d) ∧ W.ownsRow 0 74 1 (.slice (some ⟨w.heap.size, 0, none⟩) 0 0) 0 [] := by
        rw [← HW.out]
        exact ⟨((Upd.refl w (· = d)).set _ _ (fun _ => rfl)).alloc _, own_lit (by simp)⟩
      have B0 : Blk W d [.slice a L.length c, .int .u64 (g + 1 : Nat)] 86 := by
        rw [← HW.out]; exact (HB.out.set 1 _).alloc _
      refine wpl_app rfl rfl elemTag Try.underlying84 rfl E0 rfl (HR.out.1.keep U0 (fun g hg e => HDV.out (e ▸ HR.out.2.1 g hg))) (fun u hu => ns_one L u (List.mem_of_mem_take hu)) (by omega) ?_
      rintro v1 w1 ⟨O1, U1, b1⟩
      have hv1 : ∀ g, v1.ownBlock = some g → w.heap.size ≤ g := by
        intro g hg
        rcases b1 with e | e
        · have := ob_eq (e.symm.trans hg)
          omega
        · have := ob_some (e.symm.trans hg)
          omega
      have V1 : Upd w w1 (· = d) := U0.trans U1 (fun i hi e => by have := ob_eq e; omega)
      have B1 : Blk w1 d [.slice a L.length c, .int .u64 (g + 1 : Nat)] 86 := U1.blk B0 (fun e => by have := ob_eq e; omega)
      have S1 := Lib.hid (And.intro O1 (And.intro hv1 (And.intro V1 B1)))
      have d1 : w1.cell? ⟨d, 1, none⟩ = some (.int .u64 (g + 1 : Nat)) := B1.cell 1
      clear O1 U1 b1 hv1 V1 B1 B0 U0 E0 hH HW
      go_wp2_with (at_builtin; refine halt_mk ?_)
      refine halt_go ?_
      generalize hW : World.alloc _ _ = W1
      have HW1 := Lib.hid hW
      clear hW
      obtain ⟨O1, hv1, V1, B1⟩ := S1.out
      have hH : w1.heap.size + 1 = W1.heap.size := by rw [← HW1.out]; simp
      have T1 : Upd w1 W1 (fun _ => False) := by rw [← HW1.out]; exact (Upd.refl w1 _).alloc _
      have X1 : Blk W1 w1.heap.size [.int .u64 (g + 1 : Nat)] 74 := by rw [← HW1.out]; exact Blk.new' rfl
      refine wpl_app rfl rfl elemTag Try.underlying84 rfl (own_keep O1 T1 (fun _ _ h => h)) rfl (Rd.ofBlk X1 1 1 rfl) (by simp [Value.oneCell']) (by omega) ?_
      rintro v2 w2 ⟨O2, U2, b2⟩
      rw [Nat.zero_add] at O2
      have hv2 : ∀ g, v2.ownBlock = some g → w.heap.size ≤ g := by
        intro g hg
        rcases b2 with e | e
        · exact hv1 g (e ▸ hg)
        · have := ob_some (e.symm.trans hg)
          have := V1.size
          omega
      have V2 : Upd w w2 (· = d) := (V1.trans T1 (fun _ _ h => h.elim)).trans U2 (fun i hi e => by have := hv1 i e; omega)
      have B2 : Blk w2 d [.slice a L.length c, .int .u64 (g + 1 : Nat)] 86 := U2.blk (T1.blk B1 (fun h => h)) (fun e => by have := hv1 d e; omega)
      have S2 := Lib.hid (And.intro O2 (And.intro hv2 (And.intro V2 B2)))
      have d0 : w2.cell? ⟨d, 0, none⟩ = some (.slice a L.length c) := B2.cell 0
      clear O2 U2 b2 hv2 V2 B2 O1 hv1 V1 B1 T1 X1 HW1 hH S1 d1
      go_wp2_with (at_builtin; refine halt_mk ?_)
      refine halt_go ?_
      obtain ⟨O2, hv2, V2, B2⟩ := S2.out
      refine wpl_app rfl rfl elemTag Try.underlying84 rfl O2 rfl (HR.out.2.2.1.keep V2 (fun g hg e => HDV.out (e ▸ HR.out.2.2.2 g hg))) (fun u hu => ns_one L u (List.mem_of_mem_drop hu)) (by omega) ?_
      rintro v3 w3 ⟨O3, U3, b3⟩
      have V3 : Upd w w3 (· = d) := V2.trans U3 (fun i hi e => by have := hv2 i e; omega)
      have B3 : Blk w3 d [.slice a L.length c, .int .u64 (g + 1 : Nat)] 86 := U3.blk B2 (fun e => by have := hv2 d e; omega)
      have hv3 : v3.ownBlock ≠ some d := fun e => by
        obtain ⟨vs, hv⟩ := own_ty O3 e
        exact absurd rfl (B3.ty hv (by decide))
      have d0 : w3.cell? ⟨d, 0, none⟩ = some (.slice a L.length c) := B3.cell 0
      have d1 : w3.cell? ⟨d, 1, none⟩ = some (.int .u64 (g + 1 : Nat)) := B3.cell 1
      have g0 := B3.free 0
      obtain ⟨a3, c3, e3, _⟩ := (Rd.ofOwn O3).form
      have S3 := Lib.hid (And.intro O3 (And.intro hv3 (And.intro V3 B3)))
      clear O3 U3 b3 V3 B3 O2 hv2 V2 B2 S2 hv3
      subst e3
      go_wp2
      go_ret2
      obtain ⟨O3, hv3, V3, B3⟩ := S3.out
      refine Or.inr ⟨k, HS.out, Or.inr ⟨by omega, rfl, ⟨_, B3.set 0 _, ?_⟩, V3.set _ _ (fun _ => rfl)⟩⟩
      have O4 := own_keep O3 ((Upd.refl w3 (· = d)).set ⟨d, 0, none⟩ (.slice a3 (k + 1 + (L.length - k)) c3) (fun _ => rfl)) (fun g hg e => by
        have e' : g = d := e
        subst e'
        exact hv3 hg)
      have e1 : ns (L.insertIdx k (g + 1)) = [] ++ (ns L).take (k * 1) ++ [Value.int .u64 (g + 1 : Nat)] ++ (ns L).drop (k * 1) := by
        rw [insertIdx_td _ _ _ hkl]
        simp [ns, List.map_take, List.map_drop]
      have e2 : (L.insertIdx k (g + 1)).length = k + 1 + (L.length - k) := by rw [List.length_insertIdx, if_pos hkl]; omega
      rw [e1, e2]
      exact O4
  · clear HA hB hO
    go_wp2
    go_ret2
    exact Or.inl ⟨rfl, hG, rfl⟩

theorem GoneL.not {L : List Nat} {t k : Nat} (h : GoneL L t) (hs : StandsL L t k) : False := by
  obtain ⟨h1, h2, h3⟩ := hs
  cases k with
  | zero => exact h.1 (h3.1 rfl)
  | succ k =>
    refine h.2 ?_
    rw [← h2]
    have : k < L.length := by omega
    simp only [nameL, List.getElem?_eq_getElem this, Option.getD_some]
    exact List.getElem_mem this

theorem nameL_get {L : List Nat} {k : Nat} (h : k < L.length) : L[k]? = some (nameL L (k + 1)) := by
  simp only [nameL, List.getElem?_eq_getElem h, Option.getD_some]

theorem there_any (d t g : Nat) (L : List Nat) (w : World) (h : RefIs w d L g) (hL : L.length ≤ 8192) :
    Calls Try.prog 44 #[.pointer (some ⟨d, 0, none⟩), .int .u64 t] w fun e w' => ((∃ k, StandsL L t k ∧ e = .returned (.bool true)) ∨ (GoneL L t ∧ e = .returned (.bool false))) ∧ w = w' := by
  have HA := Lib.hid (at_any d t g L w h hL)
  clear h
  go_enter Try.func44, Try.ntmps44
  go_wp2_with fail
  refine HA.out.mono ?_
  rintro e w1 ⟨⟨k, hS, rfl⟩ | ⟨hG, rfl⟩, rfl⟩
  · have hk0 : decide ((k : Int) ≥ 0) = true := decide_eq_true (by omega)
    have HS := Lib.hid hS
    clear HA hS
    go_wp2
    go_ret
    exact ⟨Or.inl ⟨k, HS.out, rfl⟩, rfl⟩
  · have HG := Lib.hid hG
    clear HA hG
    go_wp2
    go_ret
    exact ⟨Or.inr ⟨HG.out, rfl⟩, rfl⟩

def RAsked (L : List Nat) (t : Nat) (v : Nat → Nat) (e : Ending) : Prop :=
  (∃ k, StandsL L t k ∧ e = .returned (.tuple #[.int .u64 (v k : Nat), .int .i64 0])) ∨ (GoneL L t ∧ e = .returned (.tuple #[.int .u64 0, .int .i64 10]))

theorem rnext_any (d t g : Nat) (L : List Nat) (w : World) (h : RefIs w d L g) (hL : L.length ≤ 8192) :
    Calls Try.prog 70 #[.pointer (some ⟨d, 0, none⟩), .int .u64 t] w fun e w' => RAsked L t (fun k => nameL L (k + 1)) e ∧ w = w' := by
  have HA := Lib.hid (at_any d t g L w h hL)
  obtain ⟨v, hB, hO⟩ := h
  have hR := Rd.ofOwn hO
  obtain ⟨a, c, rfl, hc⟩ := hR.form
  have h0 : w.cell? ⟨d, 0, none⟩ = some (.slice a L.length c) := hB.cell 0
  have HR := Lib.hid hR
  clear hB hO hR
  go_enter Try.func70, Try.ntmps70
  go_wp2_with fail
  refine HA.out.mono ?_
  rintro e w1 ⟨⟨k, hS, rfl⟩ | ⟨hG, rfl⟩, rfl⟩
  · have hk0 : decide ((k : Int) < 0) = false := decide_eq_false (by omega)
    have hkl := hS.1
    have HS := Lib.hid hS
    clear HA hS
    by_cases hk : k = L.length
    · have hkd : ((k : Int) == (L.length : Int)) = true := by rw [beq_iff_eq]; omega
      have HK := Lib.hid hk
      clear hk
      go_wp2
      go_ret2
      exact ⟨Or.inl ⟨k, HS.out, by simp [nameL, HK.out]⟩, rfl⟩
    · have hkd : ((k : Int) == (L.length : Int)) = false := by rw [beq_eq_false_iff_ne]; omega
      have hlt : k < L.length := by omega
      obtain ⟨gb, off, c', e1, _, hcell⟩ := HR.out.at_ (j := k) (u := .int .u64 (nameL L (k + 1) : Nat)) (by rw [ns_get, nameL_get hlt]; rfl)
      cases e1
      have hi0 : (0 : Int) ≤ (k : Int) := by omega
      have hi1 : (k : Int) < (L.length : Int) := by omega
      go_wp2
      go_ret2
      exact ⟨Or.inl ⟨k, HS.out, rfl⟩, rfl⟩
  · have HG := Lib.hid hG
    clear HA hG
    go_wp2
    go_ret2
    exact ⟨Or.inr ⟨HG.out, rfl⟩, rfl⟩

theorem rprev_any (d t g : Nat) (L : List Nat) (w : World) (h : RefIs w d L g) (hL : L.length ≤ 8192) :
    Calls Try.prog 72 #[.pointer (some ⟨d, 0, none⟩), .int .u64 t] w fun e w' => RAsked L t (fun k => nameL L (k - 1)) e ∧ w = w' := by
  have HA := Lib.hid (at_any d t g L w h hL)
  obtain ⟨v, hB, hO⟩ := h
  have hR := Rd.ofOwn hO
  obtain ⟨a, c, rfl, hc⟩ := hR.form
  have h0 : w.cell? ⟨d, 0, none⟩ = some (.slice a L.length c) := hB.cell 0
  have HR := Lib.hid hR
  clear hB hO hR
  go_enter Try.func72, Try.ntmps72
  go_wp2_with fail
  refine HA.out.mono ?_
  rintro e w1 ⟨⟨k, hS, rfl⟩ | ⟨hG, rfl⟩, rfl⟩
  · have hk0 : decide ((k : Int) < 0) = false := decide_eq_false (by omega)
    have hkl := hS.1
    have HS := Lib.hid hS
    clear HA hS
    by_cases hk : k < 2
    · have hkd : decide ((k : Int) < 2) = true := decide_eq_true (by omega)
      have HK := Lib.hid hk
      clear hk
      go_wp2
      go_ret2
      exact ⟨Or.inl ⟨k, HS.out, ret2u (by
        have := HK.out
        show (0 : Int) = ((nameL L (k - 1) : Nat) : Int)
        rw [show k - 1 = 0 by omega]
        rfl)⟩, rfl⟩
    · have hkd : decide ((k : Int) < 2) = false := decide_eq_false (by omega)
      obtain ⟨j, rfl⟩ : ∃ j, k = j + 2 := ⟨k - 2, by omega⟩
      have hlt : j < L.length := by omega
      obtain ⟨gb, off, c', e1, _, hcell⟩ := HR.out.at_ (j := j) (u := .int .u64 (nameL L (j + 1) : Nat)) (by rw [ns_get, nameL_get hlt]; rfl)
      cases e1
      have hi0 : (0 : Int) ≤ (j : Int) + 2 - 2 := by omega
      have hi1 : (j : Int) + 2 - 2 < (L.length : Int) := by omega
      have hcell' : w.cell? ⟨gb, off + ((j : Int) + 2 - 2).toNat, none⟩ = some (.int .u64 (nameL L (j + 1) : Nat)) := by rw [show ((j : Int) + 2 - 2).toNat = j by omega]; exact hcell
      go_wp2
      go_ret2
      exact ⟨Or.inl ⟨j + 2, HS.out, rfl⟩, rfl⟩
  · have HG := Lib.hid hG
    clear HA hG
    go_wp2
    go_ret2
    exact ⟨Or.inr ⟨HG.out, rfl⟩, rfl⟩

def ROrderPost (L : List Nat) (t u : Nat) (e : Ending) : Prop :=
  (∃ i j, StandsL L t i ∧ StandsL L u j ∧ e = .returned (.tuple #[.int .i64 (if i < j then -1 else if j < i then 1 else 0), .int .i64 0])) ∨ ((GoneL L t ∨ GoneL L u) ∧ e = .returned (.tuple #[.int .i64 0, .int .i64 10]))

theorem rorder_any (d t u g : Nat) (L : List Nat) (w : World) (h : RefIs w d L g) (hL : L.length ≤ 8192) :
    Calls Try.prog 73 #[.pointer (some ⟨d, 0, none⟩), .int .u64 t, .int .u64 u] w fun e w' => ROrderPost L t u e ∧ w = w' := by
  have HA := Lib.hid (at_any d t g L w h hL)
  have HC := Lib.hid (at_any d u g L w h hL)
  clear h
  go_enter Try.func73, Try.ntmps73
  go_wp2_with fail
  refine HA.out.mono ?_
  rintro e w1 ⟨⟨i, hS, rfl⟩ | ⟨hG, rfl⟩, rfl⟩
  · have hi0 : decide ((i : Int) < 0) = false := decide_eq_false (by omega)
    have HS := Lib.hid hS
    clear HA hS
    go_wp2_with fail
    refine HC.out.mono ?_
    rintro e w1 ⟨⟨j, hS, rfl⟩ | ⟨hG, rfl⟩, rfl⟩
    · have hj0 : decide ((j : Int) < 0) = false := decide_eq_false (by omega)
      have HJ := Lib.hid hS
      clear HC hS
      by_cases c1 : i < j
      · have d1 : decide ((i : Int) < (j : Int)) = true := decide_eq_true (by omega)
        have C1 := Lib.hid c1
        clear c1
        go_wp2
        go_ret2
        exact ⟨Or.inl ⟨i, j, HS.out, HJ.out, by rw [if_pos C1.out]; rfl⟩, rfl⟩
      · have d1 : decide ((i : Int) < (j : Int)) = false := decide_eq_false (by omega)
        have C1 := Lib.hid c1
        clear c1
        by_cases c2 : j < i
        · have d2 : decide ((i : Int) > (j : Int)) = true := decide_eq_true (by omega)
          have C2 := Lib.hid c2
          clear c2
          go_wp2
          go_ret2
          exact ⟨Or.inl ⟨i, j, HS.out, HJ.out, by rw [if_neg C1.out, if_pos C2.out]; rfl⟩, rfl⟩
        · have d2 : decide ((i : Int) > (j : Int)) = false := decide_eq_false (by omega)
          have C2 := Lib.hid c2
          clear c2
          go_wp2
          go_ret2
          exact ⟨Or.inl ⟨i, j, HS.out, HJ.out, by rw [if_neg C1.out, if_neg C2.out]; rfl⟩, rfl⟩
    · have HG := Lib.hid hG
      clear HC hG
      go_wp2
      go_ret2
      exact ⟨Or.inr ⟨Or.inr HG.out, rfl⟩, rfl⟩
  · have HG := Lib.hid hG
    clear HA hG
    go_wp2_with fail
    refine HC.out.mono ?_
    rintro e w1 ⟨hj, rfl⟩
    clear HC
    rcases hj with ⟨j, hS, rfl⟩ | ⟨hG, rfl⟩
    · have HS := Lib.hid hS
      clear hS
      go_wp2
      go_ret2
      exact ⟨Or.inr ⟨Or.inl HG.out, rfl⟩, rfl⟩
    · clear hG
      go_wp2
      go_ret2
      exact ⟨Or.inr ⟨Or.inl HG.out, rfl⟩, rfl⟩

def RDropPost (d t : Nat) (L : List Nat) (g : Nat) (w : World) (e : Ending) (w' : World) : Prop :=
  (w = w' ∧ (t = 0 ∨ GoneL L t) ∧ e = .returned (.int .i64 10)) ∨
  (∃ k, StandsL L t (k + 1) ∧ e = .returned (.int .i64 0) ∧ RefIs w' d (L.eraseIdx k) g ∧ Upd w w' (· = d))

set_option maxRecDepth 10000 in
theorem rdrop_any (d t g : Nat) (L : List Nat) (w : World) (h : RefIs w d L g) (hL : L.length ≤ 8192) :
    Calls Try.prog 69 #[.pointer (some ⟨d, 0, none⟩), .int .u64 t] w (RDropPost d t L g w) := by
  have HA := Lib.hid (at_any d t g L w h hL)
  obtain ⟨v, hB, hO⟩ := h
  have hR := Rd.ofOwn hO
  obtain ⟨a, c, rfl, hc⟩ := hR.form
  have h0 : w.cell? ⟨d, 0, none⟩ = some (.slice a L.length c) := hB.cell 0
  go_enter Try.func69, Try.ntmps69
  go_wp2_with fail
  refine HA.out.mono ?_
  rintro e w1 ⟨⟨k, hS, rfl⟩ | ⟨hG, rfl⟩, rfl⟩
  · by_cases hk : k = 0
    · have hkd : decide ((k : Int) ≤ 0) = true := decide_eq_true (by omega)
      have hkd2 : decide (k = 0) = true := decide_eq_true hk
      have HS : Hid (t = 0) := Lib.hid (hS.2.2.1 hk)
      clear HA hB hO hR hS hk
      go_wp2
      go_ret
      exact Or.inl ⟨rfl, Or.inl HS.out, rfl⟩
    · have hkd : decide ((k : Int) ≤ 0) = false := decide_eq_false (by omega)
      have hkd2 : decide (k = 0) = false := decide_eq_false hk
      obtain ⟨j, hj⟩ : ∃ j, k = j + 1 := ⟨k - 1, by omega⟩
      have hjl : k ≤ L.length := hS.1
      have hk1 : 1 ≤ k := by omega
      have f0 := hB.free 0
      have hdl := hB.lt
      obtain ⟨s1, r1, R1, b1⟩ := hR.cutH elemTag Try.underlying84 (k := j) (by omega) .i64
      obtain ⟨s2, r2, R2, b2⟩ := hR.cutL elemTag Try.underlying84 hjl .i64
      have hdv : (Value.slice a L.length c).ownBlock ≠ some d := fun e => by
        obtain ⟨vs, hv⟩ := own_ty hO e
        exact absurd rfl (hB.ty hv (by decide))
      have HS := Lib.hid hS
      have HB := Lib.hid hB
      have HR := Lib.hid (And.intro R1 (And.intro b1 (And.intro R2 b2)))
      have HDV := Lib.hid hdv
      clear HA hB hO hR hS R1 R2 b1 b2 hdv hk
      have r1b : ∀ w', (Instr.sliceAt 84 (Value.slice a L.length c) none (some (.int .i64 ((k : Int) - 1))) none).run Try.prog w' = .ok s1 w' := fun w' => by rw [show (k : Int) - 1 = j by omega]; exact r1 w'
      have HJ := Lib.hid hj
      have hjb : j ≤ 8192 := by omega
      clear hj r1
      go_wp2
      apply wp_reg (fun w' : World => w'.cell? ⟨d, 0, none⟩ = some (.slice a L.length c)) [0, 2, 3, 4, 5, 6, 7, 8, 10, 11, 12, 13, 14, 15] [1, 9, 16] [17, 18, 19] (by kernel_rfl) (by kernel_rfl) (fun _ _ d _ _ h => by cases d <;> exact h) h0
      · have hw1 : IntKind.i64.wrap ((k : Int) - 1) = (k : Int) - 1 := IntWalk.i64_in _ (by omega)
        iterate 14 (apply reads_cons rfl rfl; (· intro w0 hS; go_simp; rfl); simp only [Act.put, List.setIfInBounds_toArray, List.set_cons_zero, List.set_cons_succ])
        exact rfl
      refine tail_cons rfl ?_
      go_wp2
      refine ⟨by go_simp, tail_cons rfl ?_⟩
      refine wpl_app rfl rfl elemTag Try.underlying84 rfl (n := 0) (xs := []) (by exact own_same (own_lit (W := w) rfl) rfl) rfl (m := j) (by exact HR.out.1.keep (F := fun _ => False) ((Upd.refl w _).alloc _).drew (fun _ _ h => h)) (fun u hu => ns_one L u (List.mem_of_mem_take hu)) (by omega) ?_
      rintro v1 w1 ⟨O1, U1, b1⟩
      have hv1 : ∀ g, v1.ownBlock = some g → w.heap.size ≤ g := hv_of b1 (fun g hg => by have := ob_eq hg; omega) (by simp)
      have V1 : Upd w w1 (fun _ => False) := Upd.trans ((Upd.refl w _).alloc _).drew U1 (fun i hi e => by have := ob_eq e; omega)
      have B1 : Blk w1 d [.slice a L.length c, .int .u64 g] 86 := V1.blk HB.out (fun h => h)
      refine ⟨B1.cell 0, tail_cons rfl ?_⟩
      refine wpl_app rfl rfl elemTag Try.underlying84 rfl O1 rfl (m := L.length - k) (HR.out.2.2.1.keep (F := fun _ => False) V1 (fun _ _ h => h)) (fun u hu => ns_one L u (List.mem_of_mem_drop hu)) (by omega) ?_
      rintro v2 w2 ⟨O2, U2, b2⟩
      rw [Nat.zero_add] at O2
      have hv2 : ∀ g, v2.ownBlock = some g → w.heap.size ≤ g := hv_of b2 hv1 (by have := V1.size; exact this)
      have V2 : Upd w w2 (fun _ => False) := V1.trans U2 (fun i hi e => by have := hv1 i e; omega)
      have B2 : Blk w2 d [.slice a L.length c, .int .u64 g] 86 := V2.blk HB.out (fun h => h)
      refine ⟨B2.cell 0, tail_three rfl rfl rfl ?_⟩
      obtain ⟨a2, c2, rfl, _⟩ := (Rd.ofOwn O2).form
      have g0 := B2.free 0
      have d0 : w2.cell? ⟨d, 0, none⟩ = some (.slice a L.length c) := B2.cell 0
      have S2 := Lib.hid (And.intro O2 (And.intro hv2 (And.intro V2 B2)))
      clear O2 U2 b2 hv2 V2 B2 O1 hv1 V1 B1 U1 b1
      go_wp2
      go_ret
      obtain ⟨O2, hv2, V2, B2⟩ := S2.out
      have hj := HJ.out
      refine Or.inr ⟨j, hj ▸ HS.out, rfl, ⟨_, B2.set 0 _, ?_⟩, (V2.mono (fun _ _ h => h.elim)).set _ _ (fun _ => rfl)⟩
      have O4 := own_keep O2 ((Upd.refl w2 (· = d)).set ⟨d, 0, none⟩ (.slice a2 (j + (L.length - k)) c2) (fun _ => rfl)) (fun g hg e => by
        have e' : g = d := e
        subst e'
        have := hv2 g hg
        omega)
      have e1 : ns (L.eraseIdx j) = [] ++ (ns L).take (j * 1) ++ (ns L).drop (k * 1) := by
        rw [eraseIdx_td]
        simp [ns, List.map_take, List.map_drop, hj]
      have e2 : (L.eraseIdx j).length = j + (L.length - k) := by rw [List.length_eraseIdx, if_pos (by omega)]; omega
      rw [e1, e2]
      exact O4
  · have HG := Lib.hid hG
    clear HA hB hO hR hG
    go_wp2
    go_ret
    exact Or.inl ⟨rfl, Or.inr HG.out, rfl⟩

end Go.Proofs.Ytnhgeoccknhiiaa
