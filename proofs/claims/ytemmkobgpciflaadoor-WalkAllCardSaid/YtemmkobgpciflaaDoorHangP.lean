/- Nodes hung together by the program: hang, walked. -/
import Derived.Test.YtemmkobgpciflaaDoorPSt
import Derived.Test.YtemmkobgpciflaaDoorStill
import Derived.Test.YtemmkobgpciflaaDoorHangR
import Derived.Test.YtemmkobgpciflaaDoorLoadS
namespace Go.Proofs.YtemmkobgpciflaaDoor
open Go.RowKit
open Ch
namespace Pd

theorem list_nil (d : Nat) (w : World) : Calls Tryd.prog 155 #[ptr d, .pointer none] w (fun e w' => e = .returned (.pointer (some ⟨d, 1, none⟩)) ∧ w' = w) := by
  unfold ptr
  go_enter Tryd.func155, Tryd.ntmps155
  go_wp2
  go_ret
  exact ⟨rfl, rfl⟩
theorem list_node (d b : Nat) (w : World) : Calls Tryd.prog 155 #[ptr d, ptr b] w (fun e w' => e = .returned (.pointer (some ⟨b, 8, none⟩)) ∧ w' = w) := by
  unfold ptr
  go_enter Tryd.func155, Tryd.ntmps155
  go_wp2
  go_ret
  exact ⟨rfl, rfl⟩

/-- The rows that came in, of live slots. -/
def LiveRows (w : World) (Q : Nat → Prop) (R : List Df.Row) (S : List Im.Sl) : Prop := ∀ (i : Nat) (r : Df.Row) (s : Im.Sl), R[i]? = some r → S[i]? = some s → s.lv = true → r.p = s.p ∧ RdP w Q 1 (.slice r.ka r.kl r.kc) s.ks.length (Df.hcv s.ks)
theorem LiveRows.keep {w w' : World} {Q : Nat → Prop} {R : List Df.Row} {S : List Im.Sl} (h : LiveRows w Q R S) {F : Nat → Prop} (hU : Upd w w' F) (hF : ∀ g, Q g → ¬ F g) : LiveRows w' Q R S := fun i r s h1 h2 h3 => by
  obtain ⟨a, b⟩ := h i r s h1 h2 h3
  exact ⟨a, b.keep hU hF⟩

/-- Under whom nodes are hung. -/
def ParOk (B : List Nat) (S : List Im.Sl) (st : Hung) : Option Nat → Nat → Value → Prop
  | none, ph, pv => ph = 0 ∧ pv = .pointer none
  | some ip, ph, pv => ∃ kp bp sp, st ip = some kp ∧ B[ip]? = some bp ∧ S[ip]? = some sp ∧ sp.lv = true ∧ ph = Im.hdl S ip ∧ pv = ptr bp
/-- What has been hung. -/
def Done (S : List Im.Sl) (par : Option Nat) (hs : List Nat) (ts : List Im.LT) (st st' : Hung) (rt rt' : List Nat) : Prop :=
  (∀ i, i ∈ Im.preL ts → st' i = some (Im.kidsOf S i)) ∧
  match par with
  | none => rt' = rt ++ hs ∧ ∀ i, i ∉ Im.preL ts → st' i = st i
  | some ip => rt' = rt ∧ st' ip = some ((st ip).getD [] ++ hs) ∧ ∀ i, i ∉ Im.preL ts → i ≠ ip → st' i = st i

theorem done_seen {S : List Im.Sl} {f ph : Nat} {par : Option Nat} {pv : Value} {B : List Nat} {hs seen sj : List Nat} {ts : List Im.LT} {st st' : Hung} {rt rt' : List Nat} (hD : Done S par hs ts st st' rt rt') (hs1 : Im.hang S f hs ph seen = some (sj, ts)) (hseen : ∀ i, (st i).isSome = true ↔ i ∈ seen) (hpar : ParOk B S st par ph pv) : ∀ i, (st' i).isSome = true ↔ i ∈ sj := by
  obtain ⟨_, _, _, e⟩ := (Im.hang_ok S f).1 _ _ _ _ _ hs1
  intro i
  rw [e, List.mem_append, List.mem_reverse]
  by_cases hi : i ∈ Im.preL ts
  · rw [hD.1 i hi]
    exact ⟨fun _ => Or.inl hi, fun _ => rfl⟩
  · cases par with
    | none =>
      rw [hD.2.2 i hi, hseen i]
      exact ⟨fun h => Or.inr h, fun h => h.resolve_left hi⟩
    | some ip =>
      obtain ⟨_, h2, h3⟩ := hD.2
      by_cases hip : i = ip
      · subst hip
        obtain ⟨kp, bp, sp, g1, _⟩ := hpar
        rw [h2]
        have : i ∈ seen := (hseen i).1 (by rw [g1]; rfl)
        exact ⟨fun _ => Or.inr this, fun _ => rfl⟩
      · rw [h3 i hi hip, hseen i]
        exact ⟨fun h => Or.inr h, fun h => h.resolve_left hi⟩
/-- The parent's handle. -/
theorem par_handle {w : World} {ρ : Nat → Role} {d : Nat} {B : List Nat} {S : List Im.Sl} {st st' : Hung} {roots : List Nat} {lv wn lo : Int} {Nv Rv : Value} (h : HDoc w ρ d B S st' roots lv wn lo Nv Rv) (hgS : ∀ s ∈ S, s.g < 4294967296) (hm : S.length ≤ 4096) {par : Option Nat} {ph : Nat} {pv : Value} (hpar : ParOk B S st par ph pv) :
    Calls Tryd.prog 135 #[pv] w (Quiet w (.int .u64 (ph : Nat))) := by
  cases par with
  | none =>
    obtain ⟨rfl, rfl⟩ := hpar
    exact handle_nil w
  | some ip =>
    obtain ⟨kp, bp, sp, _, h2, h3, _, rfl, rfl⟩ := hpar
    obtain ⟨av, kv, hN⟩ := h.nd ip bp _ h2 (cur_at h3)
    have hi := (List.getElem?_eq_some_iff.1 h3).1
    have e : Im.hdl S ip = Im.handG (cur1 sp (st' ip)).g ip := by rw [Im.hdl_at h3, (cur1_same sp _).1]
    rw [e]
    exact handle_node bp _ ip _ _ _ _ _ _ _ w hN.c (by rw [(cur1_same sp _).1]; exact hgS sp (List.mem_of_getElem? h3)) (by omega)

/-- One more under a parent. -/
def stp (st : Hung) : Option Nat → Nat → Hung
  | none, _ => st
  | some ip, h => put st ip ((st ip).getD [] ++ [h])
def rtp (rt : List Nat) : Option Nat → Nat → List Nat
  | none, h => rt ++ [h]
  | some _, _ => rt

theorem PDoc.other {w w' : World} {ρ : Nat → Role} {d : Nat} {B : List Nat} {S : List Im.Sl} {roots : List Nat} {hu : Nat → Prop} {lv wn lo : Int} {Nv Rv : Value} (h : PDoc w ρ d B S roots hu lv wn lo Nv Rv) {F : Nat → Prop} (hU : Upd w w' F) (hF : ∀ g, F g → ρ g = .other) : PDoc w' ρ d B S roots hu lv wn lo Nv Rv :=
  ⟨hU.blk h.doc (fun e => by have := hF d e; rw [h.dr] at this; cases this), h.dr, h.ns.keep hU (fun g hg e => by rw [hF g hg] at e; cases e), h.rt.keep hU (fun g hg e => by rw [hF g hg] at e; cases e), h.len, fun i b s h1 h2 => by
    obtain ⟨av, kv, h3⟩ := h.nd i b s h1 h2
    exact ⟨av, kv, h3.stay hU (fun g hg => by rw [hF g hg]; exact ⟨(fun e => by cases e), (fun e => by cases e), (fun e => by cases e)⟩)⟩, fun g hg => Nat.lt_of_lt_of_le (h.lt g hg) hU.size⟩
/-- One more child, and all under it. -/
theorem done_next {S : List Im.Sl} {par : Option Nat} {L : List Nat} {tj ts : List Im.LT} {i h : Nat} {st st' st'' : Hung} {rt rt' rt'' : List Nat} (h1 : Done S par L tj st st' rt rt') (h2 : Done S (some i) (Im.kidsOf S i) ts (stp (put st' i []) par h) st'' (rtp rt' par h) rt'')
    (d1 : i ∉ Im.preL ts) (d2 : i ∉ Im.preL tj) (d3 : ∀ x ∈ Im.preL tj, x ∉ Im.preL ts) (d4 : ∀ ip, par = some ip → ip ≠ i ∧ ip ∉ Im.preL ts ∧ ip ∉ Im.preL tj) : Done S par (L ++ [h]) (tj ++ [.mk i ts]) st st'' rt rt'' := by
  obtain ⟨k1, k2, k3, k4⟩ := h2
  have hpre : ∀ x, x ∈ Im.preL (tj ++ [Im.LT.mk i ts]) ↔ x ∈ Im.preL tj ∨ x = i ∨ x ∈ Im.preL ts := fun x => by
    rw [Im.preL_append, List.mem_append, Im.preL, Im.preL, List.append_nil, Im.pre, List.mem_cons]
  cases par with
  | none =>
    obtain ⟨j1, j2, j3⟩ := h1
    have e : ∀ x, x ≠ i → stp (put st' i []) none h x = st' x := fun x hx => put_ne hx
    refine ⟨fun x hx => ?_, ?_, fun x hx => ?_⟩
    · rcases (hpre x).1 hx with hx | rfl | hx
      · rw [k4 x (d3 x hx) (fun e => d2 (e ▸ hx)), e x (fun e => d2 (e ▸ hx))]
        exact j1 x hx
      · rw [k3]
        show some ((put st' x [] x).getD [] ++ Im.kidsOf S x) = _
        rw [put_self]
        rfl
      · exact k1 x hx
    · rw [k2, ← List.append_assoc, ← j2]
      rfl
    · have hn : ¬ (x ∈ Im.preL tj ∨ x = i ∨ x ∈ Im.preL ts) := fun h => hx ((hpre x).2 h)
      rw [k4 x (fun h => hn (Or.inr (Or.inr h))) (fun h => hn (Or.inr (Or.inl h))), e x (fun h => hn (Or.inr (Or.inl h)))]
      exact j3 x (fun h => hn (Or.inl h))
  | some ip =>
    obtain ⟨j1, j2, j3, j4⟩ := h1
    obtain ⟨p1, p2, p3⟩ := d4 ip rfl
    have e : ∀ x, x ≠ i → x ≠ ip → stp (put st' i []) (some ip) h x = st' x := fun x hx hy => by
      show put (put st' i []) ip _ x = st' x
      rw [put_ne hy, put_ne hx]
    have ei : stp (put st' i []) (some ip) h i = some [] := by
      show put (put st' i []) ip _ i = some []
      rw [put_ne (Ne.symm p1), put_self]
    refine ⟨fun x hx => ?_, ?_, ?_, fun x hx hy => ?_⟩
    · rcases (hpre x).1 hx with hx | rfl | hx
      · rw [k4 x (d3 x hx) (fun e => d2 (e ▸ hx)), e x (fun e => d2 (e ▸ hx)) (fun e => p3 (e ▸ hx))]
        exact j1 x hx
      · rw [k3, ei]
        rfl
      · exact k1 x hx
    · rw [k2]
      exact j2
    · rw [k4 ip p2 p1]
      show put (put st' i []) ip ((put st' i [] ip).getD [] ++ [h]) ip = _
      rw [put_self, put_ne p1, j3, ← List.append_assoc]
      rfl
    · have hn : ¬ (x ∈ Im.preL tj ∨ x = i ∨ x ∈ Im.preL ts) := fun h => hx ((hpre x).2 h)
      rw [k4 x (fun h => hn (Or.inr (Or.inr h))) (fun h => hn (Or.inr (Or.inl h))), e x (fun h => hn (Or.inr (Or.inl h))) hy]
      exact j4 x (fun h => hn (Or.inl h)) hy
theorem par_ne {S : List Im.Sl} {par : Option Nat} {L : List Nat} {ts : List Im.LT} {i : Nat} {st st' : Hung} {rt rt' : List Nat} (h : Done S par L ts st st' rt rt') (hi : st' i = none) : ∀ ip, par = some ip → ip ≠ i ∧ (st' ip).isSome = true := by
  rintro ip rfl
  obtain ⟨_, _, h3, _⟩ := h
  exact ⟨(fun e => by rw [e, hi] at h3; cases h3), (by rw [h3]; rfl)⟩
theorem stp_self {par : Option Nat} {st' : Hung} {i h : Nat} (hp : ∀ ip, par = some ip → ip ≠ i ∧ (st' ip).isSome = true) : stp (put st' i []) par h i = some [] := by
  cases par with
  | none => exact put_self _ _ _
  | some ip =>
    show put (put st' i []) ip _ i = some []
    rw [put_ne (Ne.symm (hp ip rfl).1), put_self]
theorem stp_seen {par : Option Nat} {st' : Hung} {i h : Nat} {sj : List Nat} (hs : ∀ x, (st' x).isSome = true ↔ x ∈ sj) (hp : ∀ ip, par = some ip → ip ≠ i ∧ (st' ip).isSome = true) : ∀ x, (stp (put st' i []) par h x).isSome = true ↔ x ∈ i :: sj := by
  have base : ∀ x, (put st' i [] x).isSome = true ↔ x ∈ i :: sj := fun x => by
    by_cases e : x = i
    · rw [e, put_self]
      simp
    · rw [put_ne e, hs x, List.mem_cons]
      exact ⟨fun h => Or.inr h, fun h => h.resolve_left e⟩
  intro x
  cases par with
  | none => exact base x
  | some ip =>
    by_cases e : x = ip
    · show (put (put st' i []) ip _ x).isSome = true ↔ _
      rw [e, put_self, List.mem_cons, ← hs ip]
      exact ⟨fun _ => Or.inr (hp ip rfl).2, fun _ => rfl⟩
    · show (put (put st' i []) ip _ x).isSome = true ↔ _
      rw [put_ne e]
      exact base x
theorem par_seen {B : List Nat} {S : List Im.Sl} {st : Hung} {par : Option Nat} {ph : Nat} {pv : Value} {seen : List Nat} (h : ParOk B S st par ph pv) (hs : ∀ x, (st x).isSome = true ↔ x ∈ seen) : ∀ ip, par = some ip → ip ∈ seen := by
  rintro ip rfl
  obtain ⟨kp, bp, sp, h1, _⟩ := h
  exact (hs ip).1 (by rw [h1]; rfl)
theorem HDoc.lows {w : World} {ρ : Nat → Role} {d : Nat} {B : List Nat} {S : List Im.Sl} {st : Hung} {roots : List Nat} {lv wn lo : Int} {Nv Rv : Value} (h : HDoc w ρ d B S st roots lv wn lo Nv Rv) : ∀ x ∈ B, x < w.heap.size := fun x hx => by
  obtain ⟨i, hi⟩ := List.getElem?_of_mem hx
  have hl := h.len
  have h2 := (List.getElem?_eq_some_iff.1 hi).1
  obtain ⟨av, kv, hN⟩ := h.nd i x _ hi (List.getElem?_eq_getElem (by omega))
  exact hN.c.lt
theorem HDoc.roles {w : World} {ρ : Nat → Role} {d : Nat} {B : List Nat} {S : List Im.Sl} {st : Hung} {roots : List Nat} {lv wn lo : Int} {Nv Rv : Value} (h : HDoc w ρ d B S st roots lv wn lo Nv Rv) : ∀ x ∈ B, ∃ i, ρ x = .node i := fun x hx => by
  obtain ⟨i, hi⟩ := List.getElem?_of_mem hx
  have hl := h.len
  have h2 := (List.getElem?_eq_some_iff.1 hi).1
  obtain ⟨av, kv, hN⟩ := h.nd i x _ hi (List.getElem?_eq_getElem (by omega))
  exact ⟨i, hN.r⟩
def plen (st : Hung) (rt : List Nat) : Option Nat → Nat
  | none => rt.length
  | some ip => ((st ip).getD []).length

theorem plen_self {par : Option Nat} {st' : Hung} {i h : Nat} (hp : ∀ ip, par = some ip → ip ≠ i ∧ (st' ip).isSome = true) (rt : List Nat) : plen (stp (put st' i []) par h) rt (some i) = 0 := by
  show ((stp (put st' i []) par h i).getD []).length = 0
  rw [stp_self hp]
  rfl

section
variable (Q : Nat → Prop) (d Lb : Nat) (B : List Nat) (S : List Im.Sl) (R0 : List Df.Row) (sa ra : Option Addr) (sc rn rc : Nat) (lv wn lo : Int) (Nv : Value)

def HangPostP (f : Nat) (hs : List Nat) (ph : Nat) (par : Option Nat) (seen : List Nat) (ρ : Nat → Role) (st : Hung) (rt : List Nat) (hg : Nat) (w : World) (e : Ending) (w' : World) : Prop :=
  Upd w w' (fun g => ρ g ≠ .free) ∧ Still Lb B w w' ∧ ((Im.hang S f hs ph seen = none ∧ e = .returned (.bool false)) ∨ ∃ s' ts ρ' st' rt' Rv', Im.hang S f hs ph seen = some (s', ts) ∧ e = .returned (.bool true) ∧ Grow ρ ρ' w.heap.size ∧ HDoc w' ρ' d B S st' rt' lv wn lo Nv Rv' ∧ Blk w' Lb [ptr d, .slice sa S.length sc, .slice ra rn rc, .int .i64 ((hg + (Im.preL ts).length : Nat) : Int)] 163 ∧ Done S par hs ts st st' rt rt')

def HangAtP (f : Nat) : Prop := ∀ (hs : List Nat) (ph : Nat) (par : Option Nat) (pv : Value) (seen : List Nat) (ρ : Nat → Role) (st : Hung) (rt : List Nat) (Rv : Value) (hg : Nat) (la : Option Addr) (lc : Nat) (w : World),
  HDoc w ρ d B S st rt lv wn lo Nv Rv → Blk w Lb [ptr d, .slice sa S.length sc, .slice ra rn rc, .int .i64 (hg : Nat)] 163 → ρ Lb = .other → RdP w Q 8 (.slice sa S.length sc) S.length (Df.rowsC R0) → LiveRows w Q R0 S → (∀ g, Q g → ρ g = .free ∧ g < w.heap.size) →
  RdP w Q 1 (.slice la hs.length lc) hs.length (Df.hcv hs) → (∀ h ∈ hs, h < 18446744073709551616) → ParOk B S st par ph pv → (∀ i, (st i).isSome = true ↔ i ∈ seen) → Im.Sound S seen → plen st rt par + hs.length ≤ 17592186043904 → hg ≤ seen.length →
  Calls Tryd.prog 110 #[ptr Lb, .slice la hs.length lc, pv, .int .i64 ((65 - f : Nat) : Int)] w (HangPostP d Lb B S sa ra sc rn rc lv wn lo Nv f hs ph par seen ρ st rt hg w)

set_option maxRecDepth 100000 in
set_option maxHeartbeats 1600000 in
theorem hangP_step (hgS : ∀ s ∈ S, s.g < 4294967296) (hm : S.length ≤ 4096) (hR0 : R0.length = S.length) (hks : ∀ s ∈ S, s.ks.length ≤ 17592186043904 ∧ ∀ h ∈ s.ks, h < 18446744073709551616) (f : Nat) (hf : f ≤ 64) (ih : ∀ f', f = f' + 1 → HangAtP Q d Lb B S R0 sa ra sc rn rc lv wn lo Nv f') : HangAtP Q d Lb B S R0 sa ra sc rn rc lv wn lo Nv f := by
  intro hs ph par pv seen ρ st rt Rv hg la lc w hD hL hLr hSl hLv hQ hhs hh64 hpar hseen hSd hlen hhg
  obtain ⟨n, hn⟩ : ∃ n, n = hs.length := ⟨_, rfl⟩
  obtain ⟨D, hDp⟩ : ∃ D, D = 65 - f := ⟨_, rfl⟩
  obtain ⟨P, hP⟩ : ∃ P : Ending → World → Prop, P = HangPostP d Lb B S sa ra sc rn rc lv wn lo Nv f hs ph par seen ρ st rt hg w := ⟨_, rfl⟩
  have HP := Lib.hid hP
  have HH := Lib.hid (And.intro hD (And.intro hL (And.intro hLr (And.intro hSl (And.intro hLv (And.intro hQ (And.intro hhs (And.intro hh64 (And.intro hpar (And.intro hseen (And.intro hSd (And.intro hlen (And.intro hhg (And.intro hn hDp))))))))))))))
  have HI := Lib.hid (And.intro hgS (And.intro hm (And.intro hR0 (And.intro hks (And.intro hf ih)))))
  rw [← hP, ← hn, ← hDp]
  unfold ptr
  clear hD hL hLr hSl hLv hQ hhs hh64 hpar hseen hSd hlen hhg hn hDp hP hgS hm hR0 hks hf ih
  go_enter Tryd.func110, Tryd.ntmps110
  go_wp2
  go_loopg [10, 11, 12, 15] n (fun kq v10 v11 v12 v15 w' => ∃ (j : Nat) (sj : List Nat) (tj : List Im.LT) (ρ' : Nat → Role) (st' : Hung) (rt' : List Nat) (Rv' : Value), v15 = .int .i64 j ∧ Hid (kq = n - j ∧ j ≤ n) ∧ Hid (Im.hang S f (hs.take j) ph seen = some (sj, tj)) ∧ Hid (Grow ρ ρ' w.heap.size) ∧ Hid (HDoc w' ρ' d B S st' rt' lv wn lo Nv Rv') ∧ Hid (Blk w' Lb [ptr d, .slice sa S.length sc, .slice ra rn rc, .int .i64 ((hg + (Im.preL tj).length : Nat) : Int)] 163) ∧ Hid (Done S par (hs.take j) tj st st' rt rt') ∧ Hid (Upd w w' (fun g => ρ g ≠ .free)) ∧ Hid (Still Lb B w w'))
  case atStart =>
    refine ⟨0, seen, [], ρ, st, rt, Rv, rfl, Lib.hid ⟨rfl, Nat.zero_le _⟩, Lib.hid (by rw [List.take_zero, Im.hang_nil]), Lib.hid (Grow.refl _ _), Lib.hid HH.out.1, Lib.hid (by simpa [Im.preL] using HH.out.2.1), Lib.hid ⟨(fun i hi => by rw [Im.preL] at hi; cases hi), ?_⟩, Lib.hid (Upd.refl _ _), Lib.hid (Still.refl _ _ _)⟩
    cases par with
    | none => exact ⟨by simp, fun i _ => rfl⟩
    | some ip =>
      obtain ⟨kp, bp, sp, h1, _⟩ := HH.out.2.2.2.2.2.2.2.2.1
      exact ⟨rfl, by rw [h1]; simp, fun i _ _ => rfl⟩
  case round =>
    obtain ⟨j, sj, tj, ρ', st', rt', Rv', rfl, HJ, HS, HG, HDc, HL, HDn, HU, HSt⟩ := hrel
    have hj0 : (0 : Int) ≤ (j : Int) := by omega
    by_cases hj : j < n
    · have hj1 : (j : Int) < (n : Int) := by omega
      have hj2 : decide (j < n) = true := decide_eq_true hj
      obtain ⟨hD, hL, hLr, hSl, hLv, hQ, hhs, hh64, hpar, hseen, hSd, hlen, hhg, hn, hDp⟩ := HH.out
      obtain ⟨hgS, hm, hR0, hks, hf, ih⟩ := HI.out
      obtain ⟨h, hx⟩ : ∃ h, hs[j]? = some h := ⟨hs[j]'(by omega), List.getElem?_eq_getElem _⟩
      have hhr := hhs.keep HU.out (fun g hg e => e (hQ g hg).1)
      obtain ⟨lg, loff, lc', el, hlc, hcell⟩ := hhr.1.at_ (Df.hcv_at hx)
      simp only [Value.slice.injEq] at el
      obtain ⟨rfl, _, rfl⟩ := el
      rw [← hn] at hlc
      have x0 := HL.out.cell 0
      unfold ptr at x0
      simp only [List.getElem?_cons_zero] at x0
      have C := at_any ρ' d B (cur S st') rt' _ lv wn lo Nv Rv' h wr HDc.out (hh64 h (List.mem_of_getElem? hx)) (fun s hs => by
        obtain ⟨i, hi⟩ := List.getElem?_of_mem hs
        obtain ⟨s0, h1, rfl⟩ := cur_get hi
        rw [(cur1_same s0 _).1]
        exact hgS s0 (List.mem_of_getElem? h1)) (by rw [cur_len]; omega)
      obtain ⟨V, hV⟩ : ∃ V, V = atV B (cur S st') h := ⟨_, rfl⟩
      rw [← hV] at C
      unfold ptr at C
      have hSdj := ((Im.hang_inv S f).1 _ _ _ _ _ hSd HS.out)
      have HC := Lib.hid C
      have HX := Lib.hid (And.intro hx (And.intro hj (And.intro hV hSdj)))
      clear hD hL hLr hSl hLv hQ hhs hh64 hpar hseen hSd hlen hhg hn hDp hgS hm hR0 hks hf ih hx hhr hj hV hSdj C
      go_wp2_with fail
      refine HC.out.mono ?_
      rintro e w2 ⟨rfl, m2, hm2⟩
      have U2 := quiet_upd hm2
      have H2 := Lib.hid U2
      clear hm2 U2
      have HSf : Hid (∀ k, Still Lb B w (w2.drewN k)) := Lib.hid (fun k => HSt.out.trans (Still.upd (F := fun _ => False) (H2.out.trans (quiet_upd rfl) (fun _ _ h => h)) (fun x hx => ⟨HDc.out.lows x hx, fun h => h⟩) ⟨HL.out.lt, fun h => h⟩))
      cases hp : Im.atP S h with
      | none =>
        have hv : V = .pointer none := by rw [HX.out.2.2.1]; exact atV_none (by rw [atP_cur]; exact hp)
        subst hv
        have hst : Im.hang S f hs ph seen = none := Df.hang_stop HS.out HX.out.1 (Df.hang1_at hp)
        have HST := Lib.hid hst
        clear hst hp
        go_wp2_with fail
        go_quiet (fail)
        go_wp2
        rw [HP.out]
        exact ⟨HU.out.trans (H2.out.trans (quiet_upd rfl) (fun _ _ h => h)) (fun _ _ h => h.elim), HSf.out _, Or.inl ⟨HST.out, rfl⟩⟩
      | some i =>
        obtain ⟨hD, hL, hLr, hSl, hLv, hQ, hhs, hh64, hpar, hseen, hSd, hlen, hhg, hn, hDp⟩ := HH.out
        obtain ⟨hgS, hm, hR0, hks, hf, ih⟩ := HI.out
        obtain ⟨s, hsI, hslv, hsh⟩ := Im.atP_some hp
        have hiS := (List.getElem?_eq_some_iff.1 hsI).1
        have D2 : HDoc w2 ρ' d B S st' rt' lv wn lo Nv Rv' := PDoc.none HDc.out H2.out
        have hBl : B.length = S.length := by have := D2.len; rw [cur_len] at this; exact this
        obtain ⟨b, hb⟩ : ∃ b, B[i]? = some b := ⟨B[i]'(by omega), List.getElem?_eq_getElem _⟩
        obtain ⟨av, kv, hN⟩ := D2.nd i b _ hb (cur_at hsI)
        have hv : V = ptr b := by rw [HX.out.2.2.1]; exact atV_some (by rw [atP_cur]; exact hp) hb
        have c0 := hN.c.cell 0
        have c8 := hN.c.cell 8
        unfold nodeC at c0 c8
        simp only [List.getElem?_cons_zero, List.getElem?_cons_succ] at c0 c8
        have UW := HU.out.trans H2.out (fun _ _ h => h.elim)
        have hUf : ∀ k, Upd w (w2.drewN k) (fun g => ρ g ≠ .free) := fun k => UW.trans (quiet_upd rfl) (fun _ _ h => h.elim)
        have HUf := Lib.hid hUf
        have hDs := done_seen HDn.out HS.out hseen hpar i
        subst hv
        unfold ptr
        by_cases hf0 : f = 0
        · have hD65 : (64 : Int) < (D : Int) := by omega
          have hst : Im.hang S f hs ph seen = none := Df.hang_stop HS.out HX.out.1 (by rw [hf0, Im.hang1])
          have HST := Lib.hid hst
          clear hD hL hLr hSl hLv hQ hhs hh64 hpar hseen hSd hlen hhg hn hDp hgS hm hR0 hks hf ih hsI hslv hsh hiS D2 hBl hb hN c0 c8 UW hUf hDs hf0 hst hp
          go_wp2_with fail
          go_quiet (fail)
          go_wp2
          rw [HP.out]
          exact ⟨HUf.out _, HSf.out _, Or.inl ⟨HST.out, rfl⟩⟩
        obtain ⟨f', hf'⟩ : ∃ f', f = f' + 1 := ⟨f - 1, by omega⟩
        have hD64 : ¬ ((64 : Int) < (D : Int)) := by omega
        have hD64' : decide (64 < D) = false := decide_eq_false (by omega)
        have hD64i : decide ((64 : Int) < (D : Int)) = false := decide_eq_false (by omega)
        by_cases hin : i ∈ sj
        · have hst : Im.hang S f hs ph seen = none := Df.hang_stop HS.out HX.out.1 (Df.hang1_bad hp (Or.inl hin))
          have hkv : ∃ kg kn kc, kv = .slice (some ⟨kg, 0, none⟩) kn kc := by
            obtain ⟨_, h0 | ⟨kg, cap, _, h0, _⟩⟩ := hN.k.1
            · exact absurd h0.1 (hN.h (hDs.2 hin))
            · exact ⟨kg, _, cap, h0⟩
          obtain ⟨kg, kn, kc, rfl⟩ := hkv
          have qn : ∀ (w : World) (a : Addr) (n c : Nat), (binOp .neq 118 (.slice (some a) n c) (.slice none 0 0)).run Tryd.prog w = .ok (.bool true) w := fun _ _ _ _ => by kernel_rfl
          have HST := Lib.hid hst
          clear hD hL hLr hSl hLv hQ hhs hh64 hpar hseen hSd hlen hhg hn hDp hgS hm hR0 hks hf ih hsI hslv hsh hiS D2 hBl hb hN c0 UW hUf hDs hf0 hst hp hf' hin
          go_wp2_with fail
          go_quiet (fail)
          go_wp2
          rw [HP.out]
          exact ⟨HUf.out _, HSf.out _, Or.inl ⟨HST.out, rfl⟩⟩
        have hsti : st' i = none := by
          cases h : st' i with
          | none => rfl
          | some k => exact absurd (hDs.1 (by rw [h]; rfl)) hin
        have hkv : kv = .slice none 0 0 := hN.n (fun h => hin (hDs.1 h))
        subst hkv
        have qn : ∀ (w : World) (n c : Nat), (binOp .neq 118 (.slice none n c) (.slice none 0 0)).run Tryd.prog w = .ok (.bool false) w := fun _ _ _ => by kernel_rfl
        obtain ⟨r, hr⟩ : ∃ r, R0[i]? = some r := ⟨R0[i]'(by omega), List.getElem?_eq_getElem _⟩
        obtain ⟨hrp, hrk⟩ := hLv i r s hr hsI hslv
        obtain ⟨sg, so, rfl, hsc, r0, _, _, _, _, _, r6, r7⟩ := Df.row_at (hSl.keep UW (fun g hg e => e (hQ g hg).1)) hr
        have L2 := H2.out.blk HL.out (fun h => h)
        have x1 := L2.cell 1
        simp only [List.getElem?_cons_zero, List.getElem?_cons_succ] at x1
        obtain ⟨N, hN'⟩ : ∃ N, N = S.length := ⟨_, rfl⟩
        rw [← hN'] at x1 hsc
        have i0 : (0 : Int) ≤ (i : Int) := by omega
        have i1 : (i : Int) < (N : Int) := by omega
        have k1 : (((i + 1 : Nat) : Int) - 1) = (i : Int) := by omega
        have k2 : IntKind.u32.wrap (i : Int) = (i : Int) := by rw [IntKind.wrap_u32]; omega
        have k3 : (i : Int) + 1 - 1 = (i : Int) := by omega
        have hHq : ∀ k, Calls Tryd.prog 135 #[pv] (w2.drewN k) fun e w'' => e = .returned (.int .u64 (ph : Nat)) ∧ ∃ m, w'' = (w2.drewN k).drewN m := fun k => par_handle (PDoc.none D2 (quiet_upd rfl)) hgS hm hpar
        have HHq := Lib.hid hHq
        obtain ⟨pp, hpp⟩ : ∃ pp, pp = r.p := ⟨_, rfl⟩
        rw [← hpp] at r6
        by_cases hpe : pp = ph
        · have b1 : ((pp : Int) == (ph : Int)) = true := beq_iff_eq.2 (by omega)
          have b2 : ((pp : Int) != (ph : Int)) = false := by rw [bne, b1]; rfl
          have b3 : (pp == ph) = true := beq_iff_eq.2 hpe
          have hsp : s.p = ph := by rw [← hrp, ← hpp]; exact hpe
          obtain ⟨pa, hpa⟩ : ∃ pa, pv = .pointer pa := by
            cases par with
            | none => exact ⟨none, hpar.2⟩
            | some ip =>
              obtain ⟨_, bp, _, _, _, _, _, _, e⟩ := hpar
              exact ⟨_, e⟩
          have hpt : pt0 B s.p = pv := by
            rw [hsp]
            cases par with
            | none => rw [hpar.1, hpar.2]; rfl
            | some ip =>
              obtain ⟨kp, bp, sp, _, g2, g3, _, g5, g6⟩ := hpar
              have hip := (List.getElem?_eq_some_iff.1 g3).1
              have hmod : ph % 4294967296 - 1 = ip := by rw [g5, Im.hdl_at g3]; unfold Im.handG; omega
              rw [g6]
              unfold pt0 pt blkOf
              rw [if_neg (by rw [g5]; exact Im.hdl_ne S ip), hmod, List.getD_eq_getElem?_getD, g2]
              rfl
          have x0 := L2.cell 0
          unfold ptr at x0
          simp only [List.getElem?_cons_zero] at x0
          have HY := Lib.hid (And.intro hsI (And.intro hslv (And.intro hb (And.intro hN (And.intro D2 (And.intro L2 (And.intro hsti (And.intro hsp (And.intro hpa (And.intro hpt (And.intro hf' (And.intro hrk (And.intro r7 (And.intro hin (And.intro hp (And.intro hiS (And.intro hBl (And.intro hN' (And.intro hsh UW)))))))))))))))))))
          clear hD hL hLr hSl hLv hQ hhs hh64 hpar hseen hSd hlen hhg hn hDp hgS hm hR0 hks hf ih hsI hslv hsh hiS D2 hBl hb hN UW hUf hDs hf0 hp hf' hin hsti hr hrp hrk r0 r7 L2 hN' hHq hpp hpe hsp hpt hpa
          go_wp2_with fail
          go_quiet (first | (go_at_call 135; refine Calls.quiet_of (HHq.out _)))
          obtain ⟨w3, hw3⟩ : ∃ w3, w3 = w2.drewN nq := ⟨_, rfl⟩
          rw [← hw3]
          have U3 := quiet_upd hw3
          obtain ⟨hsI, hslv, hb, hN, D2, L2, hsti, hsp, hpa, hpt, hf', hrk, r7, hin, hp, hiS, hBl, hN', hsh, UW⟩ := HY.out
          have D3 : HDoc w3 ρ' d B S st' rt' lv wn lo Nv Rv' := PDoc.none D2 U3
          have L3 := U3.blk L2 (fun h => h)
          have N3 := hN.keep U3 (fun _ e => e.elim)
          obtain ⟨K, hK⟩ : ∃ K, K = w3.heap.size := ⟨_, rfl⟩
          have HK := Lib.hid hK
          have c7 : ∀ o, (w3.alloc o).cell? ⟨b, 7, none⟩ = _ := fun o => (N3.c.alloc o).cell 7
          have c8 : ∀ o, (w3.alloc o).cell? ⟨b, 8, none⟩ = _ := fun o => (N3.c.alloc o).cell 8
          have z7 : ∀ o, (w3.alloc o).frozen? ⟨b, 7, none⟩ = false := fun o => (N3.c.alloc o).free 7
          have z8 : ∀ o, (w3.alloc o).frozen? ⟨b, 8, none⟩ = false := fun o => (N3.c.alloc o).free 8
          unfold nodeC at c7 c8
          simp only [List.getElem?_cons_zero, List.getElem?_cons_succ] at c7 c8
          have H3 := Lib.hid (And.intro D3 (And.intro L3 (And.intro N3 (UW.trans U3 (fun _ _ h => h.elim)))))
          have HS3 : Hid (Still Lb B w w3) := Lib.hid (by rw [hw3]; exact HSf.out _)
          subst hpa
          clear D3 L3 N3 U3 hw3 hK hsI hslv hb hN D2 L2 hsti hsp hpt hf' hrk r7 hin hp hiS hBl hN' hsh UW c0 r6 x1 x0 i1 k1 k2 k3 b1 b2 b3 hsc
          go_upto_region 9 with fail
          rw [← HK.out]
          generalize hW : World.setCell _ _ _ = W4
          obtain ⟨hsI, hslv, hb, hN, D2, L2, hsti, hsp, hpa, hpt, hf', hrk, r7, hin, hp, hiS, hBl, hN', hsh, UW⟩ := HY.out
          obtain ⟨D4, U4⟩ := HDoc.hang (W := W4) H3.out.1 hb hsI hsti HK.out (by rw [hpt]; exact hW)
          have HS4 : Hid (Still Lb B w W4) := Lib.hid (by
            rw [← hW]
            exact HS3.out.trans (((Still.upd (F := fun _ => False) ((Upd.refl w3 _).alloc _) (fun x hx => ⟨H3.out.1.lows x hx, fun h => h⟩) ⟨H3.out.2.1.lt, fun h => h⟩).trans (Still.set _ (by decide) (fun _ => by decide))).trans (Still.set _ (by decide) (fun _ => by decide))))
          have hLo : ρ' Lb = .other := by rw [HG.out.1 Lb (by rw [HH.out.2.2.1]; simp)]; exact HH.out.2.2.1
          have hLb : Lb ≠ b := fun e => by have h1 := H3.out.2.2.1.r; rw [← e, hLo] at h1; cases h1
          have L4 := U4.blk H3.out.2.1 (fun e => hLb e)
          have hKf : ρ' K = .free := H3.out.1.fresh (by have := HK.out; omega)
          have G4 : Grow ρ' (give ρ' K (.kids (some i))) w3.heap.size := Grow.give hKf (by have := HK.out; omega)
          obtain ⟨ρ4, hρ4⟩ : ∃ ρ4, ρ4 = give ρ' K (.kids (some i)) := ⟨_, rfl⟩
          rw [← hρ4] at D4 G4
          have x0 := L4.cell 0
          unfold ptr at x0
          simp only [List.getElem?_cons_zero] at x0
          have hph : pt B h = ptr b := by
            have hmod : h % 4294967296 - 1 = i := by rw [← hsh]; unfold Im.handG; have := HI.out.2.1; omega
            unfold pt blkOf
            rw [hmod, List.getD_eq_getElem?_getD, hb]
            rfl
          have H4 := Lib.hid (And.intro D4 (And.intro U4 (And.intro L4 (And.intro G4 (And.intro hph (And.intro hLo hρ4))))))
          have HPar := Lib.hid (And.intro HH.out.2.2.2.2.2.2.2.2.1 (done_seen HDn.out HS.out HH.out.2.2.2.2.2.2.2.2.2.1 HH.out.2.2.2.2.2.2.2.2.1))
          clear hW D4 U4 hLb L4 hKf G4 hρ4 hph hLo hsI hslv hb hN D2 L2 hsti hsp hpa hpt hf' hrk r7 hin hp hiS hBl hN' hsh UW c7 c8 z7 z8
          rcases par with _ | ip
          case' none =>
            have hpa0 : pa = none := by have := HPar.out.1.2; cases this; rfl
            subst hpa0
            have C := list_nil d W4
            unfold ptr at C
            have HC := Lib.hid C
            obtain ⟨ra', rc', hRf, hrc⟩ := (Rd.ofOwn H4.out.1.rt.1).form
            subst hRf
            have d1 : ∀ o, (W4.alloc o).cell? ⟨d, 1, none⟩ = _ := fun o => (H4.out.1.doc.alloc o).cell 1
            have d1' := H4.out.1.doc.cell 1
            simp only [List.getElem?_cons_zero, List.getElem?_cons_succ] at d1 d1'
            obtain ⟨q, hq⟩ : ∃ q, q = W4.heap.size := ⟨_, rfl⟩
            have HQ := Lib.hid hq
            clear hq C
            go_wp2_with fail
            refine HC.out.mono ?_
            rintro e w4 ⟨rfl, rfl⟩
            go_wp2_with (at_builtin; refine halt_mk ?_)
            refine halt_go ?_
            rw [← HQ.out]
            generalize hW : World.alloc _ _ = W5
            have U5 : Upd w4 W5 (fun _ => False) := by rw [← hW]; exact (Upd.refl w4 _).alloc _
            have X5 : Blk W5 q [ptr b] 154 := by rw [← hW]; exact Blk.new' HQ.out
            have D5 : HDoc W5 ρ4 d B S (put st' i []) rt' lv wn lo Nv (.slice ra' rt'.length rc') := PDoc.none H4.out.1 U5
            have hrl : rt'.length + 1 ≤ 17592186043905 := by
              have h1 := HDn.out.2.1
              have h2 : rt.length + hs.length ≤ 17592186043904 := HH.out.2.2.2.2.2.2.2.2.2.2.2.1
              rw [h1, List.length_append, List.length_take]
              omega
            refine wpl_app (n := rt'.length) (m := 1) rfl rfl elemNp Tryd.underlying118 rfl D5.rt.1 rfl (Rd.ofBlk X5 1 1 rfl) (by intro u hu; simp at hu; subst hu; rfl) (by omega) ?_
            rintro v6 w6 hA
            obtain ⟨a6, c6, rfl, _⟩ := (Rd.ofOwn hA.1).form
            obtain ⟨W7, hW7⟩ : ∃ W7, W7 = w6.setCell ⟨d, 1, none⟩ (.slice a6 (rt'.length + 1) c6) := ⟨_, rfl⟩
            obtain ⟨ρ7, G7, D7, U7⟩ := HDoc.root D5 (hh := h) H4.out.2.2.2.2.1 hA hW7.symm
            have hd6 := hA.2.1.blk D5.doc (fun e => by have h1 := D5.rt.2 d e; rw [D5.dr] at h1; cases h1)
            have d1 := hd6.cell 1
            have z1 := hd6.free 1
            simp only [List.getElem?_cons_zero, List.getElem?_cons_succ] at d1
            have U47 : Upd w4 W7 (fun g => ρ4 g ≠ .free) := (U5.mono (G := fun g => ρ4 g ≠ .free) (fun _ _ h => h.elim)).trans U7 (fun g _ e => by rcases e with e | e <;> rw [e] <;> simp)
            have hL4o : ρ4 Lb = .other := (H4.out.2.2.2.1.1 Lb (by rw [H4.out.2.2.2.2.2.1]; simp)).trans H4.out.2.2.2.2.2.1
            have HS7 : Hid (Still Lb B w W7) := Lib.hid (by
              have t5 : Still Lb B w4 W5 := Still.upd (F := fun _ => False) U5 (fun x hx => ⟨H4.out.1.lows x hx, fun h => h⟩) ⟨H4.out.2.2.1.lt, fun h => h⟩
              have t6 : Still Lb B W5 w6 := Still.upd hA.2.1 (fun x hx => ⟨Nat.lt_of_lt_of_le (H4.out.1.lows x hx) U5.size, fun e => by obtain ⟨z, hz⟩ := H4.out.1.roles x hx; have h1 := D5.rt.2 x e; rw [hz] at h1; cases h1⟩) ⟨Nat.lt_of_lt_of_le H4.out.2.2.1.lt U5.size, fun e => by have h1 := D5.rt.2 Lb e; rw [hL4o] at h1; cases h1⟩
              rw [hW7]
              exact HS4.out.trans ((t5.trans t6).trans (Still.set _ (by decide) (fun e => by rw [← e, H4.out.1.dr] at hL4o; cases hL4o))))
            have L7 := U7.blk (U5.blk H4.out.2.2.1 (fun h => h)) (fun e => by rcases e with e | e <;> rw [hL4o] at e <;> cases e)
            have HL7 := Lib.hid (And.intro L7 (And.intro hL4o ((G7.1 Lb (by rw [hL4o]; simp)).trans hL4o)))
            have H7 := Lib.hid (And.intro hW7 (And.intro G7 (And.intro U5.size (And.intro U47 (show HDoc W7 ρ7 d B S (stp (put st' i []) none h) (rtp rt' none h) lv wn lo Nv (.slice a6 (rt'.length + 1) c6) from D7)))))
            clear hW U5 X5 D5 hrl hA hW7 G7 D7 U7 hd6 U47 HC HQ d1' L7 hL4o
            go_upto_region 11 with fail
            have hw7 := H7.out.1
            rw [← hw7]
            clear hw7 d1 z1
          case' some =>
            obtain ⟨kp0, bp, sp, g1, g2, g3, g3b, g4, g5⟩ := HPar.out.1
            have hpa1 : pa = some ⟨bp, 0, none⟩ := by unfold ptr at g5; cases g5; rfl
            subst hpa1
            have hst' := HDn.out.2.2.1
            have hipi : ip ≠ i := fun e => by have h1 := HY.out.2.2.2.2.2.2.1; rw [← e, hst'] at h1; cases h1
            obtain ⟨k1, hk1⟩ : ∃ k1, k1 = (st ip).getD [] ++ hs.take j := ⟨_, rfl⟩
            rw [← hk1] at hst'
            have hst4 : put st' i [] ip = some k1 := by rw [put_ne hipi]; exact hst'
            obtain ⟨avp, kvp, hNp⟩ := H4.out.1.nd ip bp _ g2 (cur_at g3)
            have hown : W4.ownsRow 0 154 1 kvp k1.length (k1.map (pt B)) := by have h1 := hNp.k.1; rw [hst4] at h1; exact h1
            obtain ⟨ra', rc', hRf, hrc⟩ := (Rd.ofOwn hown).form
            subst hRf
            have C := list_node d bp W4
            unfold ptr at C
            have HC := Lib.hid C
            have d1 : ∀ o, (W4.alloc o).cell? ⟨bp, 8, none⟩ = _ := fun o => (hNp.c.alloc o).cell 8
            have d1' := hNp.c.cell 8
            unfold nodeC at d1 d1'
            simp only [List.getElem?_cons_zero, List.getElem?_cons_succ] at d1 d1'
            obtain ⟨q, hq⟩ : ∃ q, q = W4.heap.size := ⟨_, rfl⟩
            have HQ := Lib.hid hq
            have HN1 := Lib.hid (And.intro g2 (And.intro g3 (And.intro hst4 (And.intro hNp (And.intro hown (And.intro hst' hk1))))))
            clear hq C g1 g2 g3 g3b g4 g5 hst' hipi hst4 hNp hown hk1
            go_wp2_with fail
            refine HC.out.mono ?_
            rintro e w4 ⟨rfl, rfl⟩
            go_wp2_with (at_builtin; refine halt_mk ?_)
            refine halt_go ?_
            rw [← HQ.out]
            generalize hW : World.alloc _ _ = W5
            obtain ⟨g2, g3, hst4, hNp, hown, hst', hk1⟩ := HN1.out
            have U5 : Upd w4 W5 (fun _ => False) := by rw [← hW]; exact (Upd.refl w4 _).alloc _
            have X5 : Blk W5 q [ptr b] 154 := by rw [← hW]; exact Blk.new' HQ.out
            have D5 : HDoc W5 ρ4 d B S (put st' i []) rt' lv wn lo Nv Rv' := PDoc.none H4.out.1 U5
            have N5 := hNp.keep U5 (fun _ e => e.elim)
            have hrl : k1.length + 1 ≤ 17592186043905 := by
              have h2 : ((st ip).getD []).length + hs.length ≤ 17592186043904 := HH.out.2.2.2.2.2.2.2.2.2.2.2.1
              rw [hk1, List.length_append, List.length_take]
              omega
            refine wpl_app (n := k1.length) (m := 1) rfl rfl elemNp Tryd.underlying118 rfl (own_keep hown U5 (fun _ _ h => h)) rfl (Rd.ofBlk X5 1 1 rfl) (by intro u hu; simp at hu; subst hu; rfl) (by omega) ?_
            rintro v6 w6 hA
            obtain ⟨a6, c6, rfl, _⟩ := (Rd.ofOwn hA.1).form
            obtain ⟨W7, hW7⟩ : ∃ W7, W7 = w6.setCell ⟨bp, 8, none⟩ (.slice a6 (k1.length + 1) c6) := ⟨_, rfl⟩
            obtain ⟨ρ7, G7, D7, U7⟩ := HDoc.kid D5 (hh := h) H4.out.2.2.2.2.1 g2 g3 hst4 N5 hA hW7.symm
            have hd6 := hA.2.1.blk N5.c (fun e => by have h1 := N5.k.2 bp e; rw [N5.r] at h1; cases h1)
            have d1 := hd6.cell 8
            have z1 := hd6.free 8
            unfold nodeC at d1
            simp only [List.getElem?_cons_zero, List.getElem?_cons_succ] at d1
            have U47 : Upd w4 W7 (fun g => ρ4 g ≠ .free) := (U5.mono (G := fun g => ρ4 g ≠ .free) (fun _ _ h => h.elim)).trans U7 (fun g _ e => by rcases e with e | e <;> rw [e] <;> simp)
            have D7' : HDoc W7 ρ7 d B S (stp (put st' i []) (some ip) h) (rtp rt' (some ip) h) lv wn lo Nv Rv' := by
              show HDoc W7 ρ7 d B S (Pd.put (Pd.put st' i []) ip ((Pd.put st' i [] ip).getD [] ++ [h])) rt' lv wn lo Nv Rv'
              rw [hst4]
              exact D7
            have hL4o : ρ4 Lb = .other := (H4.out.2.2.2.1.1 Lb (by rw [H4.out.2.2.2.2.2.1]; simp)).trans H4.out.2.2.2.2.2.1
            have HS7 : Hid (Still Lb B w W7) := Lib.hid (by
              have t5 : Still Lb B w4 W5 := Still.upd (F := fun _ => False) U5 (fun x hx => ⟨H4.out.1.lows x hx, fun h => h⟩) ⟨H4.out.2.2.1.lt, fun h => h⟩
              have t6 : Still Lb B W5 w6 := Still.upd hA.2.1 (fun x hx => ⟨Nat.lt_of_lt_of_le (H4.out.1.lows x hx) U5.size, fun e => by obtain ⟨z, hz⟩ := H4.out.1.roles x hx; have h1 := N5.k.2 x e; rw [hz] at h1; cases h1⟩) ⟨Nat.lt_of_lt_of_le H4.out.2.2.1.lt U5.size, fun e => by have h1 := N5.k.2 Lb e; rw [hL4o] at h1; cases h1⟩
              rw [hW7]
              exact HS4.out.trans ((t5.trans t6).trans (Still.set _ (by decide) (fun _ => by decide))))
            have L7 := U7.blk (U5.blk H4.out.2.2.1 (fun h => h)) (fun e => by rcases e with e | e <;> rw [hL4o] at e <;> cases e)
            have HL7 := Lib.hid (And.intro L7 (And.intro hL4o ((G7.1 Lb (by rw [hL4o]; simp)).trans hL4o)))
            have H7 := Lib.hid (And.intro hW7 (And.intro G7 (And.intro U5.size (And.intro U47 D7'))))
            clear hW U5 X5 D5 hrl hA hW7 G7 D7 D7' U7 hd6 U47 HC HQ d1' L7 hL4o g2 g3 hst4 hNp hown hst' hk1 N5
            go_upto_region 11 with fail
            have hw7 := H7.out.1
            rw [← hw7]
            clear hw7 d1 z1
          all_goals
            have L7 := HL7.out.1
            have x3 := L7.cell 3
            have z3 := L7.free 3
            simp only [List.getElem?_cons_zero, List.getElem?_cons_succ] at x3
            obtain ⟨G, hGt⟩ : ∃ G : Nat, G = hg + (Im.preL tj).length := ⟨_, rfl⟩
            rw [← hGt] at x3
            have hG4 : (G : Int) ≤ 4096 := by
              have h1 := HX.out.2.2.2.1.len
              have h2 := HX.out.2.2.2.2
              have h3 := HI.out.2.1
              have h4 := HH.out.2.2.2.2.2.2.2.2.2.2.2.2.1
              omega
            have k4 : wrap64 ((G : Int) + 1) = (G : Int) + 1 := Go.IntWalk.wrap64_in _ (by omega)
            have HGt := Lib.hid (And.intro hGt hG4)
            clear L7 hGt x0
            go_upto_region 12 with fail
            generalize hW : World.setCell _ _ _ = W8
            obtain ⟨hD, hL, hLr, hSl, hLv, hQ, hhs, hh64, hpar, hseen, hSd, hlen, hhg, hn, hDp⟩ := HH.out
            obtain ⟨hgS, hm, hR0, hks, hf, ih⟩ := HI.out
            obtain ⟨hsI, hslv, hb, hN, D2, L2, hsti, hsp, hpa, hpt, hf', hrk, r7, hin, hp, hiS, hBl, hN', hsh, UW⟩ := HY.out
            obtain ⟨hw7, G7, hsz, U47, D7⟩ := H7.out
            obtain ⟨D4, U4, L4, G4, hph, hLo, hρ4⟩ := H4.out
            obtain ⟨D3, L3, N3, UW3⟩ := H3.out
            have U8 : Upd W7 W8 (· = Lb) := by rw [← hW]; exact (Upd.refl W7 (· = Lb)).set ⟨Lb, 3, none⟩ _ (fun _ => rfl)
            have L8 := HL7.out.1.set 3 (.int .i64 ((G : Int) + 1))
            rw [hW] at L8
            have D8 : HDoc W8 ρ7 d B S _ _ lv wn lo Nv _ := PDoc.other D7 U8 (fun g e => by rw [e]; exact HL7.out.2.2)
            have U04 := UW3.trans U4 (fun g hg e => by show ρ g ≠ .free; rw [← HG.out.2 g hg, e, N3.r]; simp)
            have U07 := U04.trans U47 (fun g hg e => by
              have h1 := G4.2 g (Nat.lt_of_lt_of_le hg UW3.size)
              rw [HG.out.2 g hg] at h1
              rw [h1] at e
              exact e)
            have U08 := U07.trans U8 (fun g hg e => by show ρ g ≠ .free; rw [e, hLr]; simp)
            have G07 : Grow ρ ρ7 w.heap.size := (HG.out.trans G4 UW3.size).trans G7 (Nat.le_trans U04.size hsz)
            have Vd : Upd W8 W8.drew (fun _ => False) := (Upd.refl W8 _).drew
            obtain ⟨r2, hr2⟩ : ∃ r, R0[i]? = some r := ⟨R0[i]'(by omega), List.getElem?_eq_getElem _⟩
            obtain ⟨hrp2, hrk2⟩ := hLv i r2 s hr2 hsI hslv
            have hkl2 : r2.kl = s.ks.length := by
              obtain ⟨_, _, e, _⟩ := hrk2.1.form
              simp only [Value.slice.injEq] at e
              exact e.2.1
            obtain ⟨sg2, so2, esa, hsc2, _, _, _, _, _, _, _, q7⟩ := Df.row_at (hSl.keep U08 (fun g hg e => e (hQ g hg).1)) hr2
            simp only [Option.some.injEq, Addr.mk.injEq] at esa
            obtain ⟨rfl, rfl, _⟩ := esa
            rw [hkl2] at q7 hrk2
            obtain ⟨av8, kv8, N8⟩ := D8.nd i b _ hb (cur_at hsI)
            have q0 := N8.c.cell 0
            unfold nodeC at q0
            have q1 := L8.cell 1
            simp only [List.getElem?_cons_zero, List.getElem?_cons_succ, List.set_cons_zero, List.set_cons_succ] at q0 q1
            have hhdl := Im.atP_eq hp
            have hkb := hks s (List.mem_of_getElem? hsI)
            have hpn := par_ne HDn.out hsti
            have hsj := HPar.out.2
            have hs2 : Im.Sound S (i :: sj) := ⟨List.nodup_cons.2 ⟨hin, HX.out.2.2.2.1.1⟩, fun q hq => by
              rcases List.mem_cons.1 hq with rfl | hq
              · exact hiS
              · exact HX.out.2.2.2.1.2 q hq⟩
            have U08d := U08.trans Vd (fun _ _ h => h.elim)
            have hfr : ∀ g, Q g → ¬ (ρ g ≠ .free) := fun g hg e => e (hQ g hg).1
            have IH := ih f' hf' s.ks h (some i) (ptr b) (i :: sj) ρ7 _ _ _ (G + 1) r2.ka r2.kc W8.drew (PDoc.none D8 Vd) (Vd.blk L8 (fun h => h)) HL7.out.2.2 (hSl.keep U08d hfr) (hLv.keep U08d hfr)
              (fun g hg => ⟨(G07.2 g (hQ g hg).2).trans (hQ g hg).1, Nat.lt_of_lt_of_le (hQ g hg).2 U08d.size⟩) (hrk2.keep U08d hfr) hkb.2 ⟨[], b, s, stp_self hpn, hb, hsI, hslv, hhdl, rfl⟩ (stp_seen hsj hpn) hs2
              (by rw [plen_self hpn]; have := hkb.1; omega) (by rw [List.length_cons, HX.out.2.2.2.2, HGt.out.1]; omega)
            have hE : ((65 - f' : Nat) : Int) = (D : Int) + 1 := by omega
            rw [hE] at IH
            unfold ptr at IH
            have HIH := Lib.hid IH
            have HZ := Lib.hid (And.intro U08d (And.intro G07 (And.intro hpn (And.intro hs2 hhdl))))
            obtain ⟨ka, hka⟩ : ∃ ka, ka = r2.ka := ⟨_, rfl⟩
            obtain ⟨kc, hkc⟩ : ∃ kc, kc = r2.kc := ⟨_, rfl⟩
            obtain ⟨kn, hkn⟩ : ∃ kn, kn = s.ks.length := ⟨_, rfl⟩
            rw [← hka, ← hkc, ← hkn] at q7
            rw [← hka, ← hkc, ← hkn] at HIH
            rw [← hN'] at q1
            have i1 : (i : Int) < (N : Int) := by omega
            have k1 : (((i + 1 : Nat) : Int) - 1) = (i : Int) := by omega
            have k2 : IntKind.u32.wrap (i : Int) = (i : Int) := by rw [IntKind.wrap_u32]; omega
            have k3 : (i : Int) + 1 - 1 = (i : Int) := by omega
            have HSd : Hid (Still Lb B w W8.drew) := Lib.hid ((HS7.out.trans (by rw [← hW]; exact Still.set _ (by decide) (fun _ => by decide))).trans (Still.upd (F := fun _ => False) Vd (fun x hx => ⟨D8.lows x hx, fun h => h⟩) ⟨L8.lt, fun h => h⟩))
            have hQsg : Q sg := hSl.2 (by omega) sg rfl
            have hsgf : ρ7 sg = .free := (G07.2 sg (hQ sg hQsg).2).trans (hQ sg hQsg).1
            have hbm := List.mem_of_getElem? hb
            have HSk : Hid (∀ w' : World, Upd W8.drew w' (fun g => ρ7 g ≠ .free) → Still Lb B W8.drew w' → w'.cell? ⟨Lb, 1, none⟩ = some (.slice (some ⟨sg, so, none⟩) N sc) ∧ w'.cell? ⟨b, 0, none⟩ = some (.int .u32 ((i + 1 : Nat) : Int)) ∧ w'.cell? ⟨sg, so + i * 8 + 7, none⟩ = some (.slice ka kn kc)) := Lib.hid (fun w' hU hS =>
              ⟨hS.l.trans q1, (hS.b b hbm).trans q0, (hU.cell (p := ⟨sg, so + i * 8 + 7, none⟩) (World.block_lt_of_cell? W8 ⟨sg, so + i * 8 + 7, none⟩ q7) (fun e => e hsgf)).trans q7⟩)
            clear hQsg hsgf hbm
            clear hD hL hLr hSl hLv hQ hhs hh64 hpar hseen hSd hlen hhg hn hDp hgS hm hR0 hks hf ih hsI hslv hb hN D2 L2 hsti hsp hpa hpt hf' hrk r7 hin hp hiS hBl hN' hsh UW hw7 G7 hsz U47 D7 D4 U4 L4 G4 hph hLo hρ4 D3 L3 N3 UW3 U8 L8 D8 U04 U07 U08 G07 Vd hr2 hrp2 hrk2 hkl2 hsc2 N8 hhdl hkb hpn hsj hs2 U08d hfr IH hE hka hkc hkn hW x3 z3 k4
            apply wp_reg2 (w := W8) (fun w' : World => w'.cell? ⟨Lb, 1, none⟩ = some (.slice (some ⟨sg, so, none⟩) N sc) ∧ w'.cell? ⟨b, 0, none⟩ = some (.int .u32 ((i + 1 : Nat) : Int)) ∧ w'.cell? ⟨sg, so + i * 8 + 7, none⟩ = some (.slice ka kn kc)) [0, 1, 2, 3, 4, 5, 6, 7, 8, 9, 10, 11, 12, 13, 14, 15, 16] [17] [18] [] [] (by kernel_rfl) (by kernel_rfl) (fun _ _ d _ _ h => by cases d <;> exact h) ⟨q1, q0, q7⟩
            · iterate 17 (apply reads_consL rfl rfl; (· intro w0 hS; obtain ⟨hS0, hS1, hS2⟩ := hS; go_simp; try rfl); simp only [Act.put, List.setIfInBounds_toArray, List.set_cons_zero, List.set_cons_succ])
              exact rfl
            refine pre_consL rfl ?_
            go_wp2_with fail
            refine HIH.out.mono ?_
            rintro e w9 ⟨U9, St9, hc⟩
            have S9 := HSk.out _ U9 St9
            have hUt : Upd w w9 (fun g => ρ g ≠ .free) := HZ.out.1.trans U9 (fun g hg e => by have h1 := HZ.out.2.1.2 g hg; rw [h1] at e; exact e)
            have HT := Lib.hid (And.intro hUt (HSd.out.trans St9))
            have hkid : Im.kidsOf S i = s.ks := by unfold Im.kidsOf; rw [HY.out.1]; rfl
            have HKd := Lib.hid hkid
            clear U9 St9 hUt hkid q1 q0 q7 HIH HSk HSd
            rcases hc with ⟨hno, rfl⟩ | ⟨s', tt, ρ9, st9, rt9, Rv9, hso, rfl, G9, D9, L9, Dn9⟩
            · have hst : Im.hang S f hs ph seen = none := Df.hang_stop HS.out HX.out.1 (by rw [HY.out.2.2.2.2.2.2.2.2.2.2.1]; exact Df.hang1_none HY.out.2.2.2.2.2.2.2.2.2.2.2.2.2.2.1 (by rw [HKd.out]; exact hno))
              have HST := Lib.hid hst
              clear hst hno
              go_wp2_with fail
              refine ⟨S9, ?_⟩
              apply pre_last
              · iterate 1 (apply reads_consL rfl rfl; (· intro w0 hS; go_simp; try rfl); simp only [Act.put, List.setIfInBounds_toArray, List.set_cons_zero, List.set_cons_succ])
                exact rfl
              refine tail_zero ?_
              go_wp2
              rw [HP.out]
              exact ⟨HT.out.1, HT.out.2, Or.inl ⟨HST.out, rfl⟩⟩
            · have ok1 := ((Im.hang_ok S f).1 _ _ _ _ _ HS.out).2.2.2
              have ok2 := ((Im.hang_ok S f').1 _ _ _ _ _ hso).2.2.2
              have nd := ((Im.hang_inv S f').1 _ _ _ _ _ HZ.out.2.2.2.1 hso).1.1
              have nd2 := HX.out.2.2.2.1.1
              have hin := HY.out.2.2.2.2.2.2.2.2.2.2.2.2.2.1
              have hp := HY.out.2.2.2.2.2.2.2.2.2.2.2.2.2.2.1
              have hpo : Im.parOf S i = ph := by unfold Im.parOf; rw [HY.out.1]; exact HY.out.2.2.2.2.2.2.2.1
              have hnx : Im.hang S f (hs.take (j + 1)) ph seen = some (s', tj ++ [.mk i tt]) := Df.hang_next HS.out HX.out.1 (by rw [HY.out.2.2.2.2.2.2.2.2.2.2.1]; exact Df.hang1_some hp (fun hb => hb.elim hin (fun h => h hpo)) (by rw [HKd.out]; exact hso))
              rw [ok2] at nd
              rw [ok1] at nd2
              have disj : ∀ x, x ∈ Im.preL tt → x ∉ i :: sj := fun x h1 h2 => (List.nodup_append.1 nd).2.2 x (List.mem_reverse.2 h1) x h2 rfl
              have msj : ∀ x, x ∈ Im.preL tj → x ∈ sj := fun x h1 => by rw [ok1]; exact List.mem_append_left _ (List.mem_reverse.2 h1)
              have hpn := HZ.out.2.2.1
              have hDone := done_next HDn.out (h := h) (ts := tt) (rt'' := rt9) (st'' := st9) (by rw [HKd.out]; exact Dn9) (fun h1 => disj i h1 (by simp)) (fun h1 => hin (msj i h1)) (fun x h1 h2 => disj x h2 (List.mem_cons_of_mem _ (msj x h1)))
                (fun ip e => ⟨(hpn ip e).1, fun h1 => disj ip h1 (List.mem_cons_of_mem _ ((HPar.out.2 ip).1 (hpn ip e).2)), fun h1 => (List.nodup_append.1 nd2).2.2 ip (List.mem_reverse.2 h1) ip (par_seen HPar.out.1 HH.out.2.2.2.2.2.2.2.2.2.1 ip e) rfl⟩)
              have hlen : hg + (Im.preL (tj ++ [Im.LT.mk i tt])).length = G + 1 + (Im.preL tt).length := by
                rw [Im.preL_append, Im.preL, Im.preL, Im.pre, List.append_nil, List.length_append, List.length_cons, HGt.out.1]
                omega
              rw [← hlen] at L9
              have HF := Lib.hid (And.intro hnx (And.intro (HZ.out.2.1.trans G9 (HZ.out.1.size)) (And.intro D9 (And.intro L9 hDone))))
              clear ok1 ok2 nd nd2 hin hp hpo hnx disj msj hpn hDone hlen L9 D9 G9 Dn9 hso
              go_wp2_with fail
              refine ⟨S9, ?_⟩
              apply pre_last
              · iterate 1 (apply reads_consL rfl rfl; (· intro w0 hS; go_simp; try rfl); simp only [Act.put, List.setIfInBounds_toArray, List.set_cons_zero, List.set_cons_succ])
                exact rfl
              refine tail_zero ?_
              go_wp2
              go_roundg (n - (j + 1))
              case measure => have := HJ.out; have := HX.out.2.1; omega
              case rel =>
                obtain ⟨f1, f2, f3, f4, f5⟩ := HF.out
                refine ⟨j + 1, s', tj ++ [.mk i tt], ρ9, st9, rt9, Rv9, v64s HX.out.2.1 (by have h1 := HH.out.2.2.2.2.2.2.2.2.2.2.2.1; have h2 := HH.out.2.2.2.2.2.2.2.2.2.2.2.2.2.1; omega), Lib.hid ⟨rfl, HX.out.2.1⟩, Lib.hid f1, Lib.hid f2, Lib.hid f3, Lib.hid f4, Lib.hid (by rw [take_at HX.out.1]; exact f5), Lib.hid HT.out.1, Lib.hid HT.out.2⟩
        · have b1 : ((pp : Int) == (ph : Int)) = false := beq_eq_false_iff_ne.2 (by omega)
          have b2 : ((pp : Int) != (ph : Int)) = true := by rw [bne, b1]; rfl
          have b3 : (pp == ph) = false := beq_eq_false_iff_ne.2 hpe
          have hpar' : Im.parOf S i = s.p := by unfold Im.parOf; rw [hsI]; rfl
          have hst : Im.hang S f hs ph seen = none := Df.hang_stop HS.out HX.out.1 (Df.hang1_bad hp (Or.inr (by rw [hpar', ← hrp, ← hpp]; exact hpe)))
          have HST := Lib.hid hst
          have x0 := L2.cell 0
          clear hD hL hLr hSl hLv hQ hhs hh64 hpar hseen hSd hlen hhg hn hDp hgS hm hR0 hks hf ih hsI hslv hsh hiS D2 hBl hb hN UW hUf hDs hf0 hst hp hf' hin hsti hr hrp hrk r0 r7 L2 hN' hHq hpp hpe hpar'
          go_wp2_with fail
          go_quiet (first | (go_at_call 135; refine Calls.quiet_of (HHq.out _)))
          go_wp2
          rw [HP.out]
          exact ⟨HUf.out _, HSf.out _, Or.inl ⟨HST.out, rfl⟩⟩
    · have hj1 : ¬ (j : Int) < (n : Int) := by omega
      have hj2 : decide (j < n) = false := decide_eq_false hj
      have ej : j = hs.length := by have := HJ.out; have := HH.out.2.2.2.2.2.2.2.2.2.2.2.2.2.1; omega
      have HE := Lib.hid ej
      clear hj ej
      go_wp2
      rw [HP.out]
      have hS := HS.out
      have hDn := HDn.out
      rw [HE.out, List.take_length] at hS hDn
      exact ⟨HU.out, HSt.out, Or.inr ⟨sj, tj, ρ', st', rt', Rv', hS, rfl, HG.out, HDc.out, HL.out, hDn⟩⟩

theorem hangP_any (hgS : ∀ s ∈ S, s.g < 4294967296) (hm : S.length ≤ 4096) (hR0 : R0.length = S.length) (hks : ∀ s ∈ S, s.ks.length ≤ 17592186043904 ∧ ∀ h ∈ s.ks, h < 18446744073709551616) : ∀ f, f ≤ 64 → HangAtP Q d Lb B S R0 sa ra sc rn rc lv wn lo Nv f
  | 0, hf => hangP_step Q d Lb B S R0 sa ra sc rn rc lv wn lo Nv hgS hm hR0 hks 0 hf (fun _ e => by omega)
  | f + 1, hf => hangP_step Q d Lb B S R0 sa ra sc rn rc lv wn lo Nv hgS hm hR0 hks (f + 1) hf (fun f' e => by cases e; exact hangP_any hgS hm hR0 hks f (by omega))

end
end Pd
end Go.Proofs.YtemmkobgpciflaaDoor
