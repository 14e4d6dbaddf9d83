/- The program's document while its nodes are hung together: what a store changes. -/
import Derived.Test.YtemmkobgpciflaaDoorPRep
namespace Go.Proofs.YtemmkobgpciflaaDoor
open Go.RowKit
open Ch
namespace Pd

theorem NodeIs.stay {w w' : World} {ρ : Nat → Role} {B : List Nat} {hu : Prop} {i b : Nat} {s : Im.Sl} {av kv : Value} (h : NodeIs w ρ B hu i b s av kv) {F : Nat → Prop} (hU : Upd w w' F) (hF : ∀ g, F g → ρ g ≠ .node i ∧ ρ g ≠ .attrs i ∧ ρ g ≠ .kids (some i)) : NodeIs w' ρ B hu i b s av kv :=
  ⟨h.r, hU.blk h.c (fun e => (hF b e).1 h.r), h.a.keep hU (fun g hg => (hF g hg).2.1), h.k.keep hU (fun g hg => (hF g hg).2.2), h.h, h.n⟩
theorem NodeIs.role {w : World} {ρ ρ' : Nat → Role} {B : List Nat} {hu : Prop} {i b : Nat} {s : Im.Sl} {av kv : Value} (h : NodeIs w ρ B hu i b s av kv) (hρ : ∀ g, ρ g ≠ .free → ρ' g = ρ g) : NodeIs w ρ' B hu i b s av kv :=
  ⟨(hρ b (by rw [h.r]; simp)).trans h.r, h.c, h.a.role (fun g hg => (hρ g (by rw [hg]; simp)).trans hg), h.k.role (fun g hg => (hρ g (by rw [hg]; simp)).trans hg), h.h, h.n⟩

/-- A block gets a role. -/
def give (ρ : Nat → Role) (k : Nat) (r : Role) : Nat → Role := fun g => if g = k then r else ρ g
theorem give_old {ρ : Nat → Role} {k : Nat} {r : Role} (h : ρ k = .free) : ∀ g, ρ g ≠ .free → give ρ k r g = ρ g := fun g hg => by
  unfold give
  rw [if_neg (fun e => hg (by rw [e]; exact h))]
theorem give_new (ρ : Nat → Role) (k : Nat) (r : Role) : give ρ k r k = r := by unfold give; rw [if_pos rfl]
theorem PDoc.fresh {w : World} {ρ : Nat → Role} {d : Nat} {B : List Nat} {S : List Im.Sl} {roots : List Nat} {hu : Nat → Prop} {lv wn lo : Int} {Nv Rv : Value} (h : PDoc w ρ d B S roots hu lv wn lo Nv Rv) {g : Nat} (hg : w.heap.size ≤ g) : ρ g = .free :=
  Classical.byContradiction fun e => by have := h.lt g e; omega

/-- How a node hangs so far: not at all, or with these children. -/
def Hung := Nat → Option (List Nat)
def cur1 (s : Im.Sl) : Option (List Nat) → Im.Sl
  | none => { s with p := 0, ks := [] }
  | some k => { s with ks := k }
def cur (S : List Im.Sl) (st : Hung) : List Im.Sl := (List.range S.length).map fun i => cur1 (S.getD i (Im.dead1 0)) (st i)
theorem cur_len (S : List Im.Sl) (st : Hung) : (cur S st).length = S.length := by simp [cur]
theorem cur_at {S : List Im.Sl} {st : Hung} {i : Nat} {s : Im.Sl} (h : S[i]? = some s) : (cur S st)[i]? = some (cur1 s (st i)) := by
  have hi := (List.getElem?_eq_some_iff.1 h).1
  unfold cur
  rw [List.getElem?_map, List.getElem?_range hi]
  simp [List.getD_eq_getElem?_getD, h]
theorem cur_get {S : List Im.Sl} {st : Hung} {i : Nat} {s' : Im.Sl} (h : (cur S st)[i]? = some s') : ∃ s, S[i]? = some s ∧ s' = cur1 s (st i) := by
  have hi := (List.getElem?_eq_some_iff.1 h).1
  rw [cur_len] at hi
  have h1 := cur_at (st := st) (List.getElem?_eq_getElem hi)
  rw [h] at h1
  exact ⟨_, List.getElem?_eq_getElem hi, Option.some.inj h1⟩
theorem cur1_same (s : Im.Sl) (o : Option (List Nat)) : (cur1 s o).g = s.g ∧ (cur1 s o).lv = s.lv ∧ (cur1 s o).k = s.k ∧ (cur1 s o).n = s.n ∧ (cur1 s o).al = s.al ∧ (cur1 s o).t = s.t := by
  cases o <;> exact ⟨rfl, rfl, rfl, rfl, rfl, rfl⟩
/-- A handle means the same among them. -/
theorem atP_cur (S : List Im.Sl) (st : Hung) (h : Nat) : Im.atP (cur S st) h = Im.atP S h := by
  unfold Im.atP
  split
  · rfl
  · cases hs : S[h % 4294967296 - 1]? with
    | none => rw [List.getElem?_eq_none (by rw [cur_len]; exact List.getElem?_eq_none_iff.1 hs)]
    | some s =>
      rw [cur_at hs]
      dsimp only
      rw [(cur1_same s _).1, (cur1_same s _).2.1]
def put (st : Hung) (i : Nat) (k : List Nat) : Hung := fun j => if j = i then some k else st j
theorem put_self (st : Hung) (i : Nat) (k : List Nat) : put st i k i = some k := by unfold put; rw [if_pos rfl]
theorem put_ne {st : Hung} {i j : Nat} {k : List Nat} (h : j ≠ i) : put st i k j = st j := by unfold put; rw [if_neg h]

/-- The document while nodes are hung together. -/
def HDoc (w : World) (ρ : Nat → Role) (d : Nat) (B : List Nat) (S : List Im.Sl) (st : Hung) (roots : List Nat) (lv wn lo : Int) (Nv Rv : Value) : Prop := PDoc w ρ d B (cur S st) roots (fun i => (st i).isSome = true) lv wn lo Nv Rv

/-- A node hangs under a parent, no children yet. -/
theorem HDoc.hang {w W : World} {ρ : Nat → Role} {d : Nat} {B : List Nat} {S : List Im.Sl} {st : Hung} {roots : List Nat} {lv wn lo : Int} {Nv Rv : Value} (h : HDoc w ρ d B S st roots lv wn lo Nv Rv) {i b K : Nat} {s : Im.Sl} (hb : B[i]? = some b) (hs : S[i]? = some s) (hst : st i = none)
    (hK : K = w.heap.size) (hW : ((w.alloc (.cells #[] 154)).setCell ⟨b, 8, none⟩ (.slice (some ⟨K, 0, none⟩) 0 0)).setCell ⟨b, 7, none⟩ (pt0 B s.p) = W) :
    HDoc W (give ρ K (.kids (some i))) d B S (put st i []) roots lv wn lo Nv Rv ∧ Upd w W (fun g => g = b) := by
  have hKf := h.fresh (g := K) (by omega)
  have hold := give_old (r := .kids (some i)) hKf
  have U1 : Upd w (w.alloc (.cells #[] 154)) (fun _ => False) := (Upd.refl w _).alloc _
  have hKb : K ≠ b := fun e => by
    obtain ⟨av, kv, hN⟩ := h.nd i b _ hb (cur_at hs)
    have h1 := hN.r
    rw [← e, hKf] at h1
    cases h1
  have U : Upd w W (fun g => g = b) := by
    rw [← hW]
    exact (((Upd.refl w (fun g => g = b)).alloc _).set ⟨b, 8, none⟩ _ (fun _ => rfl)).set ⟨b, 7, none⟩ _ (fun _ => rfl)
  have hbr : ρ b = .node i := by
    obtain ⟨av, kv, hN⟩ := h.nd i b _ hb (cur_at hs)
    exact hN.r
  have rne : ∀ g, g = b → ρ g = .node i := fun g e => by rw [e]; exact hbr
  refine ⟨⟨?_, ?_, ?_, ?_, by rw [cur_len]; have := h.len; rw [cur_len] at this; exact this, ?_, ?_⟩, U⟩
  · exact U.blk h.doc (fun e => by have h1 := rne d e; rw [h.dr] at h1; cases h1)
  · rw [hold d (by rw [h.dr]; simp)]; exact h.dr
  · exact (h.ns.keep U (fun g hg e => by rw [rne g hg] at e; cases e)).role (fun g hg => by rw [hold g (by rw [hg]; simp)]; exact hg)
  · exact (h.rt.keep U (fun g hg e => by rw [rne g hg] at e; cases e)).role (fun g hg => by rw [hold g (by rw [hg]; simp)]; exact hg)
  · intro j b' s' hb' hs'
    obtain ⟨sj, hsj, rfl⟩ := cur_get hs'
    obtain ⟨av, kv, hN⟩ := h.nd j b' _ hb' (cur_at hsj)
    by_cases hj : j = i
    · subst hj
      rw [hb] at hb'
      obtain rfl := Option.some.inj hb'
      rw [hs] at hsj
      obtain rfl := Option.some.inj hsj
      rw [hst] at hN
      refine ⟨av, .slice (some ⟨K, 0, none⟩) 0 0, ?_⟩
      have c0 := hN.c
      have c1 := ((U1.blk c0 (fun h => h)).set 8 (.slice (some ⟨K, 0, none⟩) 0 0)).set 7 (pt0 B s.p)
      rw [hW] at c1
      have ha : Mine W ρ (.attrs j) 146 2 av s.al.length (atc s.al) := hN.a.keep U (fun g hg e => by rw [rne g hg] at e; cases e)
      have ha' : Mine W (give ρ K (.kids (some j))) (.attrs j) 146 2 av s.al.length (atc s.al) := ha.role (fun g hg => by rw [hold g (by rw [hg]; simp)]; exact hg)
      refine ⟨(hold b (by rw [hbr]; simp)).trans hbr, ?_, by rw [put_self]; exact ha', ?_, fun _ e => (by cases e), fun hn => absurd (by rw [put_self]; rfl) hn⟩
      · rw [put_self]
        exact c1
      · rw [put_self]
        have hKb' : K ≠ b := hKb
        refine ⟨⟨rfl, Or.inr ⟨K, 0, #[], rfl, Nat.zero_le _, ?_, Nat.le_refl _, by unfold maxLen; omega, rfl, rfl⟩⟩, fun g hg => by rw [← ob_eq hg]; exact give_new ρ K _⟩
        have k0 : Blk (w.alloc (.cells #[] 154)) K [] 154 := Blk.new' hK
        have k1 := (k0.far ⟨b, 8, none⟩ (.slice (some ⟨K, 0, none⟩) 0 0) hKb').far ⟨b, 7, none⟩ (pt0 B s.p) hKb'
        rw [hW] at k1
        exact k1
    · refine ⟨av, kv, ?_⟩
      show NodeIs W _ B ((put st i [] j).isSome = true) j b' (cur1 sj (put st i [] j)) av kv
      rw [put_ne hj]
      have h1 := (hN.stay U (fun g hg => by rw [rne g hg]; exact ⟨fun e => hj (by cases e <;> rfl), (fun e => by cases e), (fun e => by cases e)⟩)).role hold
      exact h1
  · intro g hg
    by_cases e : g = K
    · rw [e]
      have : (w.alloc (.cells #[] 154)).heap.size = w.heap.size + 1 := by simp
      have h2 : W.heap.size = w.heap.size + 1 := by rw [← hW]; simp
      omega
    · have : give ρ K (.kids (some i)) g = ρ g := by unfold give; rw [if_neg e]
      rw [this] at hg
      exact Nat.lt_of_lt_of_le (h.lt g hg) U.size

/-- Roles that were given stay, new ones are of new blocks. -/
def Grow (ρ ρ' : Nat → Role) (n : Nat) : Prop := (∀ g, ρ g ≠ .free → ρ' g = ρ g) ∧ ∀ g, g < n → ρ' g = ρ g
theorem Grow.refl (ρ : Nat → Role) (n : Nat) : Grow ρ ρ n := ⟨fun _ _ => rfl, fun _ _ => rfl⟩
theorem Grow.trans {ρ ρ' ρ'' : Nat → Role} {n m : Nat} (h : Grow ρ ρ' n) (k : Grow ρ' ρ'' m) (hm : n ≤ m) : Grow ρ ρ'' n :=
  ⟨fun g hg => (k.1 g (by rw [h.1 g hg]; exact hg)).trans (h.1 g hg), fun g hg => (k.2 g (by omega)).trans (h.2 g hg)⟩
theorem Grow.give {ρ : Nat → Role} {k n : Nat} {r : Role} (h : ρ k = .free) (hn : n ≤ k) : Grow ρ (give ρ k r) n := ⟨give_old h, fun g hg => by unfold Pd.give; rw [if_neg (by omega)]⟩
theorem grow_app {w1 w2 : World} {ρ : Nat → Role} {e sz n m : Nat} {v v' : Value} {xs ys : List Value} {o : Option Nat} (hfree : ∀ g, w1.heap.size ≤ g → ρ g = .free) (hlt : ∀ g, ρ g ≠ .free → g < w1.heap.size) (hv : ∀ g, v.ownBlock = some g → ρ g = .kids o) (hA : AppPost w1 e sz v n xs m ys v' w2) :
    ∃ ρ', Grow ρ ρ' w1.heap.size ∧ (∀ g, v'.ownBlock = some g → ρ' g = .kids o) ∧ ∀ g, ρ' g ≠ .free → g < w2.heap.size := by
  obtain ⟨O, U, b⟩ := hA
  rcases b with b | b
  · exact ⟨ρ, Grow.refl _ _, fun g hg => hv g (b ▸ hg), fun g hg => Nat.lt_of_lt_of_le (hlt g hg) U.size⟩
  · refine ⟨give ρ w1.heap.size (.kids o), Grow.give (hfree _ (Nat.le_refl _)) (Nat.le_refl _), fun g hg => ?_, fun g hg => ?_⟩
    · have := ob_some (b.symm.trans hg)
      rw [← this]
      exact give_new _ _ _
    · by_cases e : g = w1.heap.size
      · rw [e]
        exact own_lt O b
      · have h1 : give ρ w1.heap.size (.kids o) g = ρ g := by unfold give; rw [if_neg e]
        rw [h1] at hg
        exact Nat.lt_of_lt_of_le (hlt g hg) U.size

theorem HDoc.root {w1 w2 W : World} {ρ : Nat → Role} {d : Nat} {B : List Nat} {S : List Im.Sl} {st : Hung} {roots : List Nat} {lv wn lo : Int} {Nv Rv v' : Value} (h : HDoc w1 ρ d B S st roots lv wn lo Nv Rv) {hh b : Nat} (hb : pt B hh = ptr b)
    (hA : AppPost w1 154 1 Rv roots.length (roots.map (pt B)) 1 [ptr b] v' w2) (hW : w2.setCell ⟨d, 1, none⟩ v' = W) :
    ∃ ρ', Grow ρ ρ' w1.heap.size ∧ HDoc W ρ' d B S st (roots ++ [hh]) lv wn lo Nv v' ∧ Upd w1 W (fun g => ρ g = .doc ∨ ρ g = .kids none) := by
  obtain ⟨ρ', hG, hv, hlt⟩ := grow_app (ρ := ρ) (fun g hg => h.fresh hg) h.lt h.rt.2 hA
  obtain ⟨O, U1, bb⟩ := hA
  have hdv : ∀ g, v'.ownBlock = some g → g ≠ d := fun g hg e => by
    have h1 := hv g hg
    rw [e, hG.1 d (by rw [h.dr]; simp), h.dr] at h1
    cases h1
  have U2 : Upd w2 W (fun g => g = d) := by rw [← hW]; exact (Upd.refl w2 (fun g => g = d)).set ⟨d, 1, none⟩ _ (fun _ => rfl)
  have U : Upd w1 W (fun g => ρ g = .doc ∨ ρ g = .kids none) := (U1.mono (fun g _ e => Or.inr (h.rt.2 g e))).trans U2 (fun g _ e => Or.inl (by rw [e]; exact h.dr))
  have hd1 : Rv.ownBlock ≠ some d := fun e => by have := h.rt.2 d e; rw [h.dr] at this; cases this
  refine ⟨ρ', hG, ⟨?_, (hG.1 d (by rw [h.dr]; simp)).trans h.dr, ?_, ?_, h.len, ?_, ?_⟩, U⟩
  · have c := (U1.blk h.doc (fun e => hd1 e)).set 1 v'
    rw [hW] at c
    exact c
  · exact (h.ns.keep U (fun g hg e => by rcases hg with hg | hg <;> rw [hg] at e <;> cases e)).role (fun g hg => (hG.1 g (by rw [hg]; simp)).trans hg)
  · refine ⟨?_, hv⟩
    have o := own_keep O U2 (fun g hg e => hdv g hg e)
    rw [List.map_append, List.map_singleton, hb, List.length_append]
    exact o
  · intro j b' s' hb' hs'
    obtain ⟨av, kv, hN⟩ := h.nd j b' s' hb' hs'
    exact ⟨av, kv, (hN.stay U (fun g hg => by rcases hg with hg | hg <;> rw [hg] <;> exact ⟨(fun e => by cases e), (fun e => by cases e), (fun e => by cases e)⟩)).role hG.1⟩
  · intro g hg
    exact Nat.lt_of_lt_of_le (hlt g hg) U2.size

theorem HDoc.kid {w1 w2 W : World} {ρ : Nat → Role} {d : Nat} {B : List Nat} {S : List Im.Sl} {st : Hung} {roots : List Nat} {lv wn lo : Int} {Nv Rv v' : Value} (h : HDoc w1 ρ d B S st roots lv wn lo Nv Rv) {hh b ip bp : Nat} {sp : Im.Sl} {kp : List Nat} {av kv : Value} (hb : pt B hh = ptr b)
    (hbp : B[ip]? = some bp) (hsp : S[ip]? = some sp) (hst : st ip = some kp) (hN : NodeIs w1 ρ B ((st ip).isSome = true) ip bp (cur1 sp (st ip)) av kv) (hA : AppPost w1 154 1 kv kp.length (kp.map (pt B)) 1 [ptr b] v' w2) (hW : w2.setCell ⟨bp, 8, none⟩ v' = W) :
    ∃ ρ', Grow ρ ρ' w1.heap.size ∧ HDoc W ρ' d B S (Pd.put st ip (kp ++ [hh])) roots lv wn lo Nv Rv ∧ Upd w1 W (fun g => ρ g = .node ip ∨ ρ g = .kids (some ip)) := by
  have hv1 : ∀ g, kv.ownBlock = some g → ρ g = .kids (some ip) := hN.k.2
  obtain ⟨ρ', hG, hv, hlt⟩ := grow_app (ρ := ρ) (fun g hg => h.fresh hg) h.lt hv1 hA
  obtain ⟨O, U1, bb⟩ := hA
  have hbv : ∀ g, v'.ownBlock = some g → g ≠ bp := fun g hg e => by
    have h1 := hv g hg
    rw [e, hG.1 bp (by rw [hN.r]; simp), hN.r] at h1
    cases h1
  have U2 : Upd w2 W (fun g => g = bp) := by rw [← hW]; exact (Upd.refl w2 (fun g => g = bp)).set ⟨bp, 8, none⟩ _ (fun _ => rfl)
  have U : Upd w1 W (fun g => ρ g = .node ip ∨ ρ g = .kids (some ip)) := (U1.mono (fun g _ e => Or.inr (hv1 g e))).trans U2 (fun g _ e => Or.inl (by rw [e]; exact hN.r))
  have hd1 : kv.ownBlock ≠ some bp := fun e => by have := hv1 bp e; rw [hN.r] at this; cases this
  refine ⟨ρ', hG, ⟨?_, (hG.1 d (by rw [h.dr]; simp)).trans h.dr, ?_, ?_, by rw [cur_len]; have := h.len; rw [cur_len] at this; exact this, ?_, ?_⟩, U⟩
  · exact U.blk h.doc (fun e => by rcases e with e | e <;> rw [h.dr] at e <;> cases e)
  · exact (h.ns.keep U (fun g hg e => by rcases hg with hg | hg <;> rw [hg] at e <;> cases e)).role (fun g hg => (hG.1 g (by rw [hg]; simp)).trans hg)
  · exact (h.rt.keep U (fun g hg e => by rcases hg with hg | hg <;> rw [hg] at e <;> cases e)).role (fun g hg => (hG.1 g (by rw [hg]; simp)).trans hg)
  · intro j b' s' hb' hs'
    obtain ⟨sj, hsj, rfl⟩ := cur_get hs'
    by_cases hj : j = ip
    · subst hj
      rw [hbp] at hb'
      obtain rfl := Option.some.inj hb'
      rw [hsp] at hsj
      obtain rfl := Option.some.inj hsj
      refine ⟨av, v', ?_⟩
      show NodeIs W ρ' B ((Pd.put st j (kp ++ [hh]) j).isSome = true) j bp (cur1 sp (Pd.put st j (kp ++ [hh]) j)) av v'
      rw [put_self]
      rw [hst] at hN
      have c1 := (U1.blk hN.c (fun e => hd1 e)).set 8 v'
      rw [hW] at c1
      have ha : Mine W ρ (.attrs j) 146 2 av sp.al.length (atc sp.al) := hN.a.keep U (fun g hg e => by rcases hg with hg | hg <;> rw [hg] at e <;> cases e)
      refine ⟨(hG.1 bp (by rw [hN.r]; simp)).trans hN.r, c1, ha.role (fun g hg => (hG.1 g (by rw [hg]; simp)).trans hg), ⟨?_, hv⟩, fun _ e => ?_, fun hn => absurd rfl hn⟩
      · have o := own_keep O U2 (fun g hg e => hbv g hg e)
        show W.ownsRow 0 154 1 v' (kp ++ [hh]).length ((kp ++ [hh]).map (pt B))
        rw [List.map_append, List.map_singleton, hb, List.length_append]
        exact o
      · rw [e] at O
        obtain ⟨_, h0 | ⟨_, _, _, h0, _⟩⟩ := O
        · have := h0.2; omega
        · cases h0
    · obtain ⟨av', kv', hN'⟩ := h.nd j b' _ hb' (cur_at hsj)
      refine ⟨av', kv', ?_⟩
      show NodeIs W _ B ((Pd.put st ip (kp ++ [hh]) j).isSome = true) j b' (cur1 sj (Pd.put st ip (kp ++ [hh]) j)) av' kv'
      rw [put_ne hj]
      exact (hN'.stay U (fun g hg => by rcases hg with hg | hg <;> rw [hg] <;> exact ⟨fun e => hj (by cases e <;> rfl), (fun e => by cases e), fun e => hj (by cases e <;> rfl)⟩)).role hG.1
  · intro g hg
    exact Nat.lt_of_lt_of_le (hlt g hg) U2.size

end Pd
end Go.Proofs.YtemmkobgpciflaaDoor
