/- Nodes hung together by the document: hang, walked. -/
import Derived.Test.YtemmkobgpciflaaDoorDocG
import Derived.Test.YtemmkobgpciflaaDoorImgP
namespace Go.Proofs.YtemmkobgpciflaaDoor
open Go.RowKit
open Ch
namespace Df

def hcv (l : List Nat) : List Value := l.map fun h => .int .u64 (h : Nat)
theorem hcv_len (l : List Nat) : (hcv l).length = l.length := List.length_map _
theorem hcv_at {l : List Nat} {i h : Nat} (e : l[i]? = some h) : (hcv l)[i]? = some (.int .u64 (h : Nat)) := by
  unfold hcv
  rw [List.getElem?_map, e]
  rfl
/-- A row is a slot. -/
structure RowIs (w : World) (Q : Nat → Prop) (r : Row) (s : Im.Sl) : Prop where
  g : r.g = s.g
  lv : r.lv = s.lv
  k : r.k = s.k
  n : r.n = s.n
  t : r.t = s.t
  p : r.p = s.p
  al : RdP w Q 2 (.slice r.aa r.al r.ac) s.al.length (atc s.al)
  ks : RdP w Q 1 (.slice r.ka r.kl r.kc) s.ks.length (hcv s.ks)
def RowsIs (w : World) (Q : Nat → Prop) (R : List Row) (S : List Im.Sl) : Prop := R.length = S.length ∧ ∀ (i : Nat) (r : Row) (s : Im.Sl), R[i]? = some r → S[i]? = some s → RowIs w Q r s
theorem RowIs.keep {w w' : World} {Q : Nat → Prop} {r : Row} {s : Im.Sl} (h : RowIs w Q r s) {F : Nat → Prop} (hU : Upd w w' F) (hF : ∀ g, Q g → ¬ F g) : RowIs w' Q r s := ⟨h.g, h.lv, h.k, h.n, h.t, h.p, h.al.keep hU hF, h.ks.keep hU hF⟩
theorem RowsIs.keep {w w' : World} {Q : Nat → Prop} {R : List Row} {S : List Im.Sl} (h : RowsIs w Q R S) {F : Nat → Prop} (hU : Upd w w' F) (hF : ∀ g, Q g → ¬ F g) : RowsIs w' Q R S := ⟨h.1, fun i r s h1 h2 => (h.2 i r s h1 h2).keep hU hF⟩
theorem RowsIs.get {w : World} {Q : Nat → Prop} {R : List Row} {S : List Im.Sl} (h : RowsIs w Q R S) {i : Nat} {s : Im.Sl} (hs : S[i]? = some s) : ∃ r, R[i]? = some r ∧ RowIs w Q r s := by
  have hi := (List.getElem?_eq_some_iff.1 hs).1
  have hr : R[i]? = some (R[i]'(by rw [h.1]; exact hi)) := List.getElem?_eq_getElem _
  exact ⟨_, hr, h.2 i _ s hr hs⟩
theorem RowsIs.atR {w : World} {Q : Nat → Prop} {R : List Row} {S : List Im.Sl} (h : RowsIs w Q R S) (a : Nat) : Df.atR R a = Im.atP S a := by
  unfold Df.atR Im.atP
  split
  · rfl
  · cases hs : S[a % 4294967296 - 1]? with
    | none =>
      have : R[a % 4294967296 - 1]? = none := List.getElem?_eq_none (by rw [h.1]; exact List.getElem?_eq_none_iff.1 hs)
      rw [this]
    | some s =>
      obtain ⟨r, hr, hrs⟩ := h.get hs
      rw [hr]
      dsimp only
      rw [hrs.lv, hrs.g]
      rfl

def boolsV (n : Nat) (seen : List Nat) : List Value := (List.range n).map fun i => .bool (decide (i ∈ seen))
theorem boolsV_len (n : Nat) (seen : List Nat) : (boolsV n seen).length = n := by simp [boolsV]
theorem boolsV_at {n i : Nat} (seen : List Nat) (h : i < n) : (boolsV n seen)[i]? = some (.bool (decide (i ∈ seen))) := by
  unfold boolsV
  rw [List.getElem?_map, List.getElem?_range h]
  rfl
theorem boolsV_set (n i : Nat) (seen : List Nat) : (boolsV n seen).set i (.bool true) = boolsV n (i :: seen) := by
  apply List.ext_getElem?
  intro j
  rw [List.getElem?_set]
  by_cases hj : j < n
  · rw [boolsV_at seen hj, boolsV_at _ hj]
    by_cases e : i = j
    · subst e
      rw [if_pos rfl, if_pos (by rw [boolsV_len]; exact hj)]
      simp
    · rw [if_neg e]
      have : (j ∈ i :: seen) = (j ∈ seen) := by simp [Ne.symm e]
      simp only [this]
  · have h1 : (boolsV n seen)[j]? = none := List.getElem?_eq_none (by rw [boolsV_len]; omega)
    have h2 : (boolsV n (i :: seen))[j]? = none := List.getElem?_eq_none (by rw [boolsV_len]; omega)
    rw [h1, h2]
    split
    · rw [if_neg (by rw [boolsV_len]; omega)]
    · rfl

theorem hang_stop {S : List Im.Sl} {f p j h : Nat} {L seen sj : List Nat} {tj : List Im.LT} (e : Im.hang S f (L.take j) p seen = some (sj, tj)) (hx : L[j]? = some h) (h1 : Im.hang1 S f h p sj = none) : Im.hang S f L p seen = none := by
  have : L = L.take j ++ h :: L.drop (j + 1) := by rw [← drop_at hx, List.take_append_drop]
  rw [this, Im.hang_append, e]
  dsimp only
  rw [Im.hang_cons, h1]
theorem hang_next {S : List Im.Sl} {f p j h : Nat} {L seen sj s1 : List Nat} {tj : List Im.LT} {t : Im.LT} (e : Im.hang S f (L.take j) p seen = some (sj, tj)) (hx : L[j]? = some h) (h1 : Im.hang1 S f h p sj = some (s1, t)) : Im.hang S f (L.take (j + 1)) p seen = some (s1, tj ++ [t]) := by
  rw [take_at hx, Im.hang_append, e]
  dsimp only
  rw [Im.hang_cons, h1]
  dsimp only
  rw [Im.hang_nil]

def HangPost (S : List Im.Sl) (f : Nat) (L : List Nat) (p : Nat) (seen : List Nat) (sv : Value) (m : Nat) (w : World) (e : Ending) (w' : World) : Prop :=
  Upd w w' (fun b => sv.ownBlock = some b) ∧ ((Im.hang S f L p seen = none ∧ ∃ n : Int, e = .returned (.tuple #[.int .i64 n, .bool false])) ∨ ∃ s' ts, Im.hang S f L p seen = some (s', ts) ∧ e = .returned (.tuple #[.int .i64 ((Im.preL ts).length : Nat), .bool true]) ∧ w'.ownsRow 0 4 1 sv m (boolsV m s'))

theorem hang1_at {S : List Im.Sl} {f p h : Nat} {sj : List Nat} (e : Im.atP S h = none) : Im.hang1 S f h p sj = none := by
  cases f with
  | zero => rw [Im.hang1]
  | succ f => rw [Im.hang1, e]
theorem hang1_bad {S : List Im.Sl} {f p h i : Nat} {sj : List Nat} (e : Im.atP S h = some i) (hb : i ∈ sj ∨ Im.parOf S i ≠ p) : Im.hang1 S f h p sj = none := by
  cases f with
  | zero => rw [Im.hang1]
  | succ f => rw [Im.hang1, e]; dsimp only; rw [if_pos hb]
theorem hang1_none {S : List Im.Sl} {f p h i : Nat} {sj : List Nat} (e : Im.atP S h = some i) (hk : Im.hang S f (Im.kidsOf S i) h (i :: sj) = none) : Im.hang1 S (f + 1) h p sj = none := by
  rw [Im.hang1, e]
  dsimp only
  split
  · rfl
  · rw [hk]
theorem hang1_some {S : List Im.Sl} {f p h i : Nat} {sj s1 : List Nat} {k : List Im.LT} (e : Im.atP S h = some i) (hb : ¬ (i ∈ sj ∨ Im.parOf S i ≠ p)) (hk : Im.hang S f (Im.kidsOf S i) h (i :: sj) = some (s1, k)) : Im.hang1 S (f + 1) h p sj = some (s1, .mk i k) := by
  rw [Im.hang1, e]
  dsimp only
  rw [if_neg hb, hk]

def HangAt (Q : Nat → Prop) (d : Nat) (Sv Rv : Value) (R : List Row) (S : List Im.Sl) (f : Nat) : Prop := ∀ (L : List Nat) (p : Nat) (seen : List Nat) (la : Option Addr) (lc : Nat) (sa : Option Addr) (sc : Nat) (w : World), DocIs w d Sv Rv R → RowsIs w Q R S → RdP w Q 1 (.slice la L.length lc) L.length (hcv L) → w.ownsRow 0 4 1 (.slice sa S.length sc) S.length (boolsV S.length seen) → (∀ g, (Value.slice sa S.length sc).ownBlock = some g → ¬ Q g) → Im.Sound S seen → L.length ≤ 17592186043904 →
    Calls Tryd.prog 112 #[.pointer (some ⟨d, 0, none⟩), .slice la L.length lc, .int .u64 (p : Nat), .int .i64 ((65 - f : Nat) : Int), .slice sa S.length sc] w (HangPost S f L p seen (.slice sa S.length sc) S.length w)

set_option maxRecDepth 100000 in
set_option maxHeartbeats 1600000 in
theorem hangR_step (Q : Nat → Prop) (d : Nat) (Sv Rv : Value) (R : List Row) (S : List Im.Sl) (hgS : ∀ r ∈ R, r.g < 4294967296) (hm : S.length ≤ 4096) (hks : ∀ s ∈ S, s.ks.length ≤ 17592186043904) (f : Nat) (hf : f ≤ 64) (ih : ∀ f', f = f' + 1 → HangAt Q d Sv Rv R S f') : HangAt Q d Sv Rv R S f := by
    intro L p seen la lc sa sc w hD hR hL hB hQ hSd hLl
    obtain ⟨m, hmS⟩ : ∃ m, m = S.length := ⟨_, rfl⟩
    obtain ⟨n, hn⟩ : ∃ n, n = L.length := ⟨_, rfl⟩
    obtain ⟨D, hDp⟩ : ∃ D, D = 65 - f := ⟨_, rfl⟩
    have HH := Lib.hid (And.intro hD (And.intro hR (And.intro hL (And.intro hB (And.intro hQ (And.intro hSd (And.intro hLl (And.intro hmS (And.intro hn (And.intro hDp (And.intro hf ih)))))))))))
    rw [← hmS, ← hn, ← hDp]
    clear hD hR hL hB hQ hSd hLl hmS hn hDp ih hf
    go_enter Tryd.func112, Tryd.ntmps112
    go_wp2
    go_loopg [12, 13, 14, 15, 16] n (fun kq v12 v13 v14 v15 v16 w' => ∃ (j : Nat) (sj : List Nat) (tj : List Im.LT), v12 = .int .i64 ((Im.preL tj).length : Nat) ∧ v13 = .int .i64 j ∧ Hid (kq = n - j ∧ j ≤ n) ∧ Hid (Im.hang S f (L.take j) p seen = some (sj, tj)) ∧ Hid (w'.ownsRow 0 4 1 (.slice sa m sc) m (boolsV m sj)) ∧ Hid (Upd w w' (fun b => (Value.slice sa m sc).ownBlock = some b)))
    case atStart => exact ⟨0, seen, [], by simp [Im.preL], rfl, Lib.hid ⟨rfl, Nat.zero_le _⟩, Lib.hid (by rw [List.take_zero, Im.hang_nil]), Lib.hid (by have := HH.out.2.2.2.1; rw [HH.out.2.2.2.2.2.2.2.1]; exact this), Lib.hid (Upd.refl _ _)⟩
    case round =>
      obtain ⟨j, sj, tj, rfl, rfl, HJ, HS, HB, HU⟩ := hrel
      have hj0 : (0 : Int) ≤ (j : Int) := by omega
      by_cases hj : j < n
      · have hj1 : (j : Int) < (n : Int) := by omega
        have hj2 : decide (j < n) = true := decide_eq_true hj
        obtain ⟨hD, hR, hL, hB, hQ, hSd, hLl, hmS, hn, hDp, hf, ih⟩ := HH.out
        obtain ⟨h, hx⟩ : ∃ h, L[j]? = some h := ⟨L[j]'(by omega), List.getElem?_eq_getElem _⟩
        have hsv : ∀ g, (Value.slice sa m sc).ownBlock = some g → Sv.ownBlock ≠ some g ∧ g ≠ d := fun g hg => by
          rw [hmS] at hg
          obtain ⟨_, hv⟩ := own_ty hB hg
          refine ⟨fun e => ?_, fun e => hD.blk.ty (e ▸ hv) (by decide) rfl⟩
          obtain ⟨_, hv2⟩ := own_ty hD.own e
          exact hv.ty hv2 (by decide) rfl
        have Dr := hD.keep HU.out (fun e => (hsv d e).2 rfl) (fun g hg e => (hsv g e).1 hg)
        have Rr := hR.keep HU.out (fun g hg e => hQ g (by rw [← hmS]; exact e) hg)
        have Lr := hL.keep HU.out (fun g hg e => hQ g (by rw [← hmS]; exact e) hg)
        obtain ⟨lg, loff, lc', el, hlc, hcell⟩ := Lr.1.at_ (hcv_at hx)
        have C := at_gen d Sv Rv R h wr Dr hgS (by rw [hR.1]; omega)
        obtain ⟨k, hk⟩ : ∃ k, k = atI R h := ⟨_, rfl⟩
        rw [← hk] at C
        simp only [Value.slice.injEq] at el
        obtain ⟨rfl, _, rfl⟩ := el
        rw [← hn] at hlc
        have Sj := ((Im.hang_inv S f).1 _ _ _ _ _ hSd HS.out)
        have hat := Rr.atR h
        have HX := Lib.hid (And.intro hx (And.intro hj (And.intro Dr (And.intro Rr (And.intro Sj (And.intro hk (And.intro hat (And.intro hsv (And.intro hmS hn)))))))))
        have HC := Lib.hid C
        clear hD hR hL hB hQ hSd hLl hmS hn hDp hf ih hx hj hsv Dr Rr Lr Sj hk hat C
        go_wp2_with fail
        refine HC.out.mono ?_
        rintro e w2 ⟨rfl, B2⟩
        have H2 := Lib.hid B2
        clear B2
        cases hp : Im.atP S h with
        | none =>
          have hk1 : k = -1 := by
            have h1 := HX.out.2.2.2.2.2.1
            unfold atI at h1
            rw [HX.out.2.2.2.2.2.2.1, hp] at h1
            exact h1
          subst hk1
          have hst : Im.hang S f L p seen = none := hang_stop HS.out HX.out.1 (hang1_at hp)
          have HST := Lib.hid hst
          clear hst hp
          go_wp2
          go_ret2
          exact ⟨HU.out.trans (Upd.ofBelow (F := fun _ => False) H2.out) (fun _ _ h => h.elim), Or.inl ⟨HST.out, _, rfl⟩⟩
        | some i =>
          have hk1 : k = (i : Nat) := by
            have h1 := HX.out.2.2.2.2.2.1
            unfold atI at h1
            rw [HX.out.2.2.2.2.2.2.1, hp] at h1
            exact h1
          subst hk1
          obtain ⟨hx, hj, Dr, Rr, Sj, hkx, hat, hsv, hmS, hn⟩ := HX.out
          clear hkx
          obtain ⟨s, hs, hslv, hsh⟩ := Im.atP_some hp
          obtain ⟨r, hr, hrs⟩ := Rr.get hs
          have hiS := (List.getElem?_eq_some_iff.1 hs).1
          have him : i < m := by omega
          have i0 : (0 : Int) ≤ (i : Int) := Int.natCast_nonneg _
          have i00 : ¬ ((i : Int) < 0) := Int.not_lt.2 i0
          have i1 : (i : Int) < (m : Int) := Int.ofNat_lt.2 him
          have B2' := own_keep HB.out (Upd.ofBelow (F := fun _ => False) H2.out) (fun _ _ h => h)
          obtain ⟨sg, soff, sc', es, hsc, hsc0⟩ := (Rd.ofOwn B2').at_ (boolsV_at sj him)
          simp only [Value.slice.injEq] at es
          obtain ⟨rfl, _, rfl⟩ := es
          have hpar : Im.parOf S i = s.p := by unfold Im.parOf; rw [hs]; rfl
          have hkid : Im.kidsOf S i = s.ks := by unfold Im.kidsOf; rw [hs]; rfl
          have D2 := Dr.below H2.out
          obtain ⟨dg, dc, rfl, hdc, _, _, _, _, _, _, r6, r7, _⟩ := D2.row hr
          have d0 := D2.blk.cell 0
          simp only [List.getElem?_cons_zero] at d0
          have hRm : R.length = m := by rw [Rr.1, hmS]
          rw [hRm] at d0 hdc
          rw [hrs.p] at r6
          obtain ⟨P, hP⟩ : ∃ P, P = s.p := ⟨_, rfl⟩
          rw [← hP] at r6
          by_cases hseen : i ∈ sj
          · have hb : decide (i ∈ sj) = true := decide_eq_true hseen
            rw [hb] at hsc0
            have hst : Im.hang S f L p seen = none := hang_stop HS.out hx (hang1_bad hp (Or.inl hseen))
            have HST := Lib.hid hst
            clear hx hj Dr Rr Sj hat hsv hmS hn hs hslv hsh hr hrs hiS him B2' hpar hkid D2 hRm hP hseen hb hst hp
            go_wp2
            go_ret2
            exact ⟨HU.out.trans (Upd.ofBelow (F := fun _ => False) H2.out) (fun _ _ h => h.elim), Or.inl ⟨HST.out, _, rfl⟩⟩
          · have hb : decide (i ∈ sj) = false := decide_eq_false hseen
            rw [hb] at hsc0
            by_cases hpp : P = p
            · have hp1 : ((P : Int) == (p : Int)) = true := beq_iff_eq.2 (by omega)
              have hp2 : ((P : Int) != (p : Int)) = false := by rw [bne, hp1]; rfl
              have hs2 : Im.Sound S (i :: sj) := ⟨List.nodup_cons.2 ⟨hseen, Sj.1.1⟩, fun q hq => by
                rcases List.mem_cons.1 hq with rfl | hq
                · exact hiS
                · exact Sj.1.2 q hq⟩
              obtain ⟨gs, hgs⟩ : ∃ gs, gs = sg := ⟨_, rfl⟩
              have hsoff : soff = 0 := by
                obtain ⟨_, h0⟩ := HB.out
                rcases h0 with ⟨h1, _⟩ | ⟨g', c', cur, h1, _⟩
                · cases h1
                · simp only [Value.slice.injEq, Option.some.injEq, Addr.mk.injEq] at h1
                  exact h1.1.2.1
              subst hsoff
              have hfz : w2.frozen? ⟨sg, i, none⟩ = false := B2'.frozenAt i
              rw [Nat.zero_add] at hsc0
              by_cases hf0 : f = 0
              · have hD65 : (64 : Int) < (D : Int) := by have := HH.out.2.2.2.2.2.2.2.2.2.1; omega
                have hst : Im.hang S f L p seen = none := hang_stop HS.out hx (by rw [hf0, Im.hang1])
                have HST := Lib.hid hst
                clear hx hj Dr Rr Sj hat hsv hmS hn hs hslv hsh hr hrs hiS him B2' hpar hkid D2 hRm hP hseen hb hst hp hpp hs2 hgs hf0
                go_wp2
                go_ret2
                exact ⟨HU.out.trans (Upd.ofBelow (F := fun _ => False) H2.out) (fun _ _ h => h.elim), Or.inl ⟨HST.out, _, rfl⟩⟩
              obtain ⟨f', hf'⟩ : ∃ f', f = f' + 1 := ⟨f - 1, by omega⟩
              have hD64 : ¬ ((64 : Int) < (D : Int)) := by have := HH.out.2.2.2.2.2.2.2.2.2.1; omega
              have HF := Lib.hid hf'
              clear hf0 hf'
              have HH2 := Lib.hid (And.intro hx (And.intro hj (And.intro D2 (And.intro (Rr.keep (Upd.ofBelow (F := fun _ => False) H2.out) (fun _ _ h => h)) (And.intro Sj (And.intro hs2 (And.intro hr (And.intro hrs (And.intro B2' (And.intro hpar (And.intro hkid (And.intro hRm (And.intro hpp (And.intro hP (And.intro hp (And.intro hs (And.intro hsv (And.intro hmS (And.intro hn (And.intro him hseen))))))))))))))))))))
              have HL := Lib.hid hcell
              clear hx hj Dr Rr Sj hat hsv hmS hn hs hslv hsh hr hrs hiS him B2' hpar hkid D2 hRm hP hseen hb hp hpp hs2 hgs r7 hcell
              go_wp2
              generalize hW : World.setCell _ _ _ = W3
              obtain ⟨hx, hj, D2, Rr, Sj, hs2, hr, hrs, B2', hpar, hkid, hRm, hpp, hP, hp, hs, hsv, hmS, hn, him, hseen⟩ := HH2.out
              have U3 : Upd w2 W3 (· = sg) := by rw [← hW]; exact (Upd.refl w2 (· = sg)).set ⟨sg, i, none⟩ _ (fun _ => rfl)
              have B3 : W3.ownsRow 0 4 1 (.slice (some ⟨sg, 0, none⟩) m sc) m (boolsV m (i :: sj)) := by
                rw [← hW, ← boolsV_set]
                exact (B2'.stored i (.bool true)).1
              have hsd := hsv sg rfl
              have D3 := D2.keep U3 (fun e => hsd.2 e.symm) (fun g hg e => hsd.1 (by rw [hg, e]))
              have hQs : ¬ Q sg := by
                have h1 := HH.out.2.2.2.2.1
                exact h1 sg rfl
              have R3 := Rr.keep U3 (fun g hg e => hQs (e ▸ hg))
              have Lr : W3.cell? ⟨lg, loff + j, none⟩ = some (.int .u64 (h : Nat)) := by
                have h1 := HH.out.2.2.1.keep ((HU.out.trans (Upd.ofBelow (F := fun _ => False) H2.out) (fun _ _ h => h.elim)).trans (G := fun b => (Value.slice (some ⟨sg, 0, none⟩) m sc).ownBlock = some b) (U3.mono (fun _ _ e => by rw [e]; rfl)) (fun _ _ h => h)) (fun g hg e => by have e' : sg = g := ob_some e; subst e'; exact hQs hg)
                obtain ⟨lg', lo', lc', el, _, h2⟩ := h1.1.at_ (hcv_at hx)
                simp only [Value.slice.injEq, Option.some.injEq, Addr.mk.injEq] at el
                obtain ⟨⟨rfl, rfl, _⟩, _, _⟩ := el
                exact h2
              have hrs3 : RowIs W3 Q r s := by
                obtain ⟨r', h4, h5⟩ := R3.get hs
                rw [hr] at h4
                rw [Option.some.inj h4]
                exact h5
              have hkl : r.kl = s.ks.length := by
                obtain ⟨a, c, e, _⟩ := hrs3.ks.1.form
                simp only [Value.slice.injEq] at e
                exact e.2.1
              obtain ⟨dg', dc', eS, hdc', _, _, _, _, _, _, _, q7, _⟩ := D3.row hr
              simp only [Value.slice.injEq, Option.some.injEq, Addr.mk.injEq] at eS
              obtain ⟨⟨rfl, _⟩, _, rfl⟩ := eS
              have q0 := D3.blk.cell 0
              simp only [List.getElem?_cons_zero] at q0
              rw [hRm] at q0
              rw [hkl] at q7
              obtain ⟨E, hE⟩ : ∃ E, E = 65 - f' := ⟨_, rfl⟩
              have hEw : (E : Int) = (D : Int) + 1 := by
                have h1 := HH.out.2.2.2.2.2.2.2.2.2.1
                have h2 := HF.out
                have h3 := HH.out.2.2.2.2.2.2.2.2.2.2.1
                omega
              have V4 : Upd W3 W3.drew (fun _ => False) := (Upd.refl W3 _).drew
              have ks3 := hrs3.ks.keep V4 (fun _ _ h => h)
              rw [hkl] at ks3
              have IH := HH.out.2.2.2.2.2.2.2.2.2.2.2 f' HF.out s.ks h (i :: sj) r.ka r.kc (some ⟨sg, 0, none⟩) sc W3.drew (D3.keep V4 (fun h => h) (fun _ _ h => h)) (R3.keep V4 (fun _ _ h => h)) ks3 (by rw [← hmS]; exact own_keep B3 V4 (fun _ _ h => h)) (fun g hg => by rw [← ob_some hg]; exact hQs) hs2 (hks s (List.mem_of_getElem? hs))
              rw [← hE, ← hmS, hEw] at IH
              have HI := Lib.hid IH
              have U23 : Upd w W3 (fun b => (Value.slice (some ⟨sg, 0, none⟩) m sc).ownBlock = some b) := (HU.out.trans (Upd.ofBelow (F := fun _ => False) H2.out) (fun _ _ h => h.elim)).trans (G := fun b => (Value.slice (some ⟨sg, 0, none⟩) m sc).ownBlock = some b) (U3.mono (fun _ _ e => by rw [e]; rfl)) (fun _ _ h => h)
              have HU3 := Lib.hid (U23.trans V4 (fun _ _ h => h.elim))
              have HY := Lib.hid (And.intro hx (And.intro Sj (And.intro hp (And.intro (show ¬ (i ∈ sj ∨ Im.parOf S i ≠ p) from fun hb => by rcases hb with hb | hb; exact hseen hb; exact hb (by rw [hpar, ← hP]; exact hpp)) (And.intro hkid (And.intro hs2 (And.intro hmS (And.intro hj hn))))))))
              obtain ⟨ka, hka⟩ : ∃ ka, ka = r.ka := ⟨_, rfl⟩
              obtain ⟨kc, hkc⟩ : ∃ kc, kc = r.kc := ⟨_, rfl⟩
              obtain ⟨kn, hkn⟩ : ∃ kn, kn = s.ks.length := ⟨_, rfl⟩
              rw [← hka, ← hkc, ← hkn] at q7
              rw [← hka, ← hkc, ← hkn] at HI
              have hlgQ : Q lg := by
                have h1 := HH.out.2.2.1
                refine h1.2 (by intro e; have := hcv_at hx; rw [List.length_eq_zero_iff.1 (show (hcv L).length = 0 by rw [hcv_len]; exact e)] at this; cases this) lg rfl
              have HSk : Hid (∀ w' : World, Upd W3.drew w' (fun b => (Value.slice (some ⟨sg, 0, none⟩) m sc).ownBlock = some b) → w'.cell? ⟨d, 0, none⟩ = some (.slice (some ⟨dg, 0, none⟩) m dc) ∧ w'.cell? ⟨dg, i * 8 + 7, none⟩ = some (.slice ka kn kc) ∧ w'.cell? ⟨lg, loff + j, none⟩ = some (.int .u64 (h : Nat))) := Lib.hid (fun w' hU => by
                have hh : ∀ g o v, W3.cell? ⟨g, o, none⟩ = some v → sg ≠ g → w'.cell? ⟨g, o, none⟩ = some v := fun g o v h1 hg => (hU.cell (p := ⟨g, o, none⟩) (World.block_lt_of_cell? W3 ⟨g, o, none⟩ h1) (fun e => hg (ob_some e))).trans h1
                exact ⟨hh _ _ _ q0 hsd.2, hh _ _ _ q7 (fun e => hsd.1 (by rw [e]; rfl)), hh _ _ _ Lr (fun e => hQs (e ▸ hlgQ))⟩)
              clear hx hj D2 Rr Sj hs2 hr hrs B2' hpar hkid hRm hpp hP hp hs hsv hmS hn hseen hlgQ HH2 HL U3 B3 D3 hQs R3 hrs3 hkl hdc' hE hEw V4 ks3 IH U23 hka hkc hkn hsd hW d0 hfz hsc0 r6
              go_wp2
              apply wp_reg2 (w := W3) (fun w' : World => w'.cell? ⟨d, 0, none⟩ = some (.slice (some ⟨dg, 0, none⟩) m dc) ∧ w'.cell? ⟨dg, i * 8 + 7, none⟩ = some (.slice ka kn kc) ∧ w'.cell? ⟨lg, loff + j, none⟩ = some (.int .u64 (h : Nat))) [0, 1, 2, 3, 4, 5, 6, 7, 8, 9, 10, 11, 12, 13, 14, 15] [16] [17, 18, 19] [20, 21] [] (by kernel_rfl) (by kernel_rfl) (fun _ _ d _ _ h => by cases d <;> exact h) ⟨q0, q7, Lr⟩
              · iterate 16 (apply reads_consL rfl rfl; (· intro w0 hS; obtain ⟨hS1, hS2, hS3⟩ := hS; go_simp; try rfl); simp only [Act.put, List.setIfInBounds_toArray, List.set_cons_zero, List.set_cons_succ])
                exact rfl
              refine pre_consL rfl ?_
              go_wp2_with fail
              refine HI.out.mono ?_
              rintro e w5 ⟨U5, hc⟩
              have U35 := HU3.out.trans (G := fun b => (Value.slice (some ⟨sg, 0, none⟩) m sc).ownBlock = some b) U5 (fun _ _ h => h)
              have S5 := HSk.out _ U5
              obtain ⟨hx, Sj, hp, hb, hkid, hs2, hmS, hj, hn⟩ := HY.out
              rcases hc with ⟨hnone, n', rfl⟩ | ⟨s', ts, hsome, rfl, B5⟩
              · have hst : Im.hang S f L p seen = none := hang_stop HS.out hx (by rw [HF.out]; exact hang1_none hp (by rw [hkid]; exact hnone))
                have HST := Lib.hid (And.intro hst U35)
                clear hst U35 hx Sj hp hb hkid hs2 hmS hj hn U5 HI HU3 HY hnone q0 q7 Lr
                go_wp2_with fail
                refine ⟨S5, ?_⟩
                apply pre_last
                · iterate 3 (apply reads_consL rfl rfl; (· intro w0 hS; go_simp; try rfl); simp only [Act.put, List.setIfInBounds_toArray, List.set_cons_zero, List.set_cons_succ])
                  exact rfl
                refine tail_consL rfl ?_
                go_wp2_with fail
                refine ⟨S5, tail_consL rfl ?_⟩
                go_wp2_with fail
                refine ⟨S5, tail_zero ?_⟩
                go_wp2
                go_ret2
                exact ⟨HST.out.2, Or.inl ⟨HST.out.1, _, rfl⟩⟩
              · have hnx : Im.hang S f (L.take (j + 1)) p seen = some (s', tj ++ [.mk i ts]) := hang_next HS.out hx (by rw [HF.out]; exact hang1_some hp hb (by rw [hkid]; exact hsome))
                have hl1 := ((Im.hang_inv S f').1 _ _ _ _ _ hs2 hsome)
                have hl2 := hl1.1.len
                obtain ⟨a, ha⟩ : ∃ a, a = (Im.preL tj).length := ⟨_, rfl⟩
                obtain ⟨b, hb'⟩ : ∃ b, b = (Im.preL ts).length := ⟨_, rfl⟩
                have hab : a + 1 + b ≤ 4096 := by have h1 := Sj.2; have h2 := hl1.2; rw [List.length_cons] at h2; omega
                have hpl : (Im.preL (tj ++ [Im.LT.mk i ts])).length = a + 1 + b := by
                  rw [Im.preL_append, List.length_append, Im.preL, Im.preL, Im.pre, List.append_nil, List.length_cons, ← ha, ← hb']
                  omega
                have q1 : wrap64 ((a : Int) + 1) = (a : Int) + 1 := Go.IntWalk.wrap64_in _ (by omega)
                have q2 : wrap64 ((a : Int) + 1 + (b : Int)) = (a : Int) + 1 + (b : Int) := Go.IntWalk.wrap64_in _ (by omega)
                have HST := Lib.hid (And.intro hnx (And.intro U35 (And.intro B5 (And.intro hpl (And.intro hj (And.intro hn (And.intro hab q2)))))))
                rw [← ha] at *
                rw [← hb'] at *
                clear hnx U35 B5 hpl hj hn hx Sj hp hb hkid hs2 hmS U5 HI HU3 HY hsome q0 q7 Lr hl1 hl2 ha hb' hab
                go_wp2_with fail
                refine ⟨S5, ?_⟩
                apply pre_last
                · iterate 3 (apply reads_consL rfl rfl; (· intro w0 hS; go_simp; try rfl); simp only [Act.put, List.setIfInBounds_toArray, List.set_cons_zero, List.set_cons_succ])
                  exact rfl
                refine tail_consL rfl ?_
                go_wp2_with fail
                refine ⟨S5, tail_consL rfl ?_⟩
                go_wp2_with fail
                refine ⟨S5, tail_zero ?_⟩
                go_wp2
                go_roundg (n - (j + 1))
                case measure => have := HJ.out; have := HST.out.2.2.2.2.1; omega
                case rel =>
                  obtain ⟨g1, g2, g3, g4, g5, g6, g7, g8⟩ := HST.out
                  refine ⟨j + 1, s', tj ++ [.mk i ts], ?_, v64s g5 (by have := HH.out.2.2.2.2.2.2.1; omega), Lib.hid ⟨rfl, g5⟩, Lib.hid g1, Lib.hid g3, Lib.hid g2⟩
                  have e : ((a + 1 + b : Nat) : Int) = (a : Int) + 1 + (b : Int) := by omega
                  rw [g4, e, g8]
            · have hp1 : ((P : Int) == (p : Int)) = false := beq_eq_false_iff_ne.2 (by omega)
              have hp2 : ((P : Int) != (p : Int)) = true := by rw [bne, hp1]; rfl
              have hp3 : (P == p) = false := beq_eq_false_iff_ne.2 hpp
              have hst : Im.hang S f L p seen = none := hang_stop HS.out hx (hang1_bad hp (Or.inr (by rw [hpar, ← hP]; exact hpp)))
              have HST := Lib.hid hst
              clear hx hj Dr Rr Sj hat hsv hmS hn hs hslv hsh hr hrs hiS him B2' hpar hkid D2 hRm hP hseen hb hst hp hpp
              go_wp2
              go_ret2
              exact ⟨HU.out.trans (Upd.ofBelow (F := fun _ => False) H2.out) (fun _ _ h => h.elim), Or.inl ⟨HST.out, _, rfl⟩⟩
      · have hj1 : ¬ (j : Int) < (n : Int) := by omega
        have hj2 : decide (j < n) = false := decide_eq_false hj
        have ej : j = n := by have := HJ.out; omega
        have HE := Lib.hid ej
        clear hj ej
        go_wp2
        go_ret2
        have hS := HS.out
        have hB := HB.out
        rw [HE.out, HH.out.2.2.2.2.2.2.2.2.1, List.take_length] at hS
        exact ⟨HU.out, Or.inr ⟨sj, tj, hS, rfl, hB⟩⟩

theorem hangR_any (Q : Nat → Prop) (d : Nat) (Sv Rv : Value) (R : List Row) (S : List Im.Sl) (hgS : ∀ r ∈ R, r.g < 4294967296) (hm : S.length ≤ 4096) (hks : ∀ s ∈ S, s.ks.length ≤ 17592186043904) : ∀ f, f ≤ 64 → HangAt Q d Sv Rv R S f
  | 0, hf => hangR_step Q d Sv Rv R S hgS hm hks 0 hf (fun _ e => by omega)
  | f + 1, hf => hangR_step Q d Sv Rv R S hgS hm hks (f + 1) hf (fun f' e => by cases e; exact hangR_any Q d Sv Rv R S hgS hm hks f (by omega))

end Df
end Go.Proofs.YtemmkobgpciflaaDoor
