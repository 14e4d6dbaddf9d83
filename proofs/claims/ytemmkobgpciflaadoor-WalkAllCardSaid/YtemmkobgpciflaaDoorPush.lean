/- The program's document grows by a node that hangs nowhere yet. -/
import Derived.Test.YtemmkobgpciflaaDoorPSt
namespace Go.Proofs.YtemmkobgpciflaaDoor
open Go.RowKit
open Ch
namespace Pd

/-- A slot's node before it is hung. -/
def bare (s : Im.Sl) : Im.Sl := cur1 (Im.tidy s) none
theorem bare_p (s : Im.Sl) : (bare s).p = 0 ∧ (bare s).ks = [] := ⟨rfl, rfl⟩
def st0 : Hung := fun _ => none
theorem cur_none (S : List Im.Sl) : cur (S.map Im.tidy) st0 = S.map bare := by
  apply List.ext_getElem?
  intro i
  rw [List.getElem?_map]
  cases hs : S[i]? with
  | none => rw [List.getElem?_eq_none (by rw [cur_len, List.length_map]; exact List.getElem?_eq_none_iff.1 hs)]; rfl
  | some s => rw [cur_at (s := Im.tidy s) (by rw [List.getElem?_map, hs]; rfl)]; rfl

theorem doc_push {w w1 w2 W : World} {ρ : Nat → Role} {d : Nat} {B : List Nat} {S : List Im.Sl} {hu : Nat → Prop} {lv wn lo lv' wn' : Int} {Nv v' av : Value} (h : PDoc w ρ d B S [] hu lv wn lo Nv (.slice none 0 0)) (hS : ∀ s ∈ S, s.p = 0 ∧ s.ks = []) (hhu : ∀ i, ¬ hu i)
    {b : Nat} {s : Im.Sl} (hsp : s.p = 0) (hsk : s.ks = []) (U1 : Upd w w1 (fun _ => False)) (hbn : w.heap.size ≤ b) (c : Blk w1 b (nodeC (B.length + 1) s.g s.lv s.k s.n av s.t (.pointer none) (.slice none 0 0)) 160)
    (a : w1.ownsRow 0 146 2 av s.al.length (atc s.al)) (ha : ∀ g, av.ownBlock = some g → w.heap.size ≤ g) (hA : AppPost w1 154 1 Nv B.length (B.map ptr) 1 [ptr b] v' w2)
    (hW : Blk W d [v', .slice none 0 0, .int .i64 lv', .int .i64 wn', .int .i64 lo] 120) (U2 : Upd w2 W (fun g => g = d)) :
    ∃ ρ', Grow ρ ρ' w.heap.size ∧ PDoc W ρ' d (B ++ [b]) (S ++ [s]) [] hu lv' wn' lo v' (.slice none 0 0) ∧ Upd w W (fun g => ρ g = .doc ∨ ρ g = .nodes) := by
  obtain ⟨O, UA, bb⟩ := hA
  have hbl := c.lt
  have hab : ∀ g, av.ownBlock = some g → g ≠ b := fun g hg e => by
    obtain ⟨vs, hv⟩ := own_ty a hg
    rw [e] at hv
    exact c.ty hv (by decide) rfl
  have hal : ∀ g, av.ownBlock = some g → g < w1.heap.size := fun g hg => own_lt a hg
  have hNv := h.ns.2
  have hlow : ∀ g, ρ g ≠ .free → g < w.heap.size := h.lt
  have hv' : ∀ g, v'.ownBlock = some g → ρ g = .nodes ∨ g = w1.heap.size := fun g hg => by
    rcases bb with e | e
    · exact Or.inl (hNv g (e ▸ hg))
    · exact Or.inr (ob_some (e.symm.trans hg)).symm
  have hvb : ∀ g, v'.ownBlock = some g → g ≠ b ∧ av.ownBlock ≠ some g := fun g hg => by
    rcases hv' g hg with e | e
    · have := hlow g (by rw [e]; simp)
      exact ⟨by omega, fun e' => by have := ha g e'; omega⟩
    · exact ⟨by omega, fun e' => by have := hal g e'; omega⟩
  obtain ⟨ρ', hρ⟩ : ∃ ρ' : Nat → Role, ρ' = fun g => if g = b then .node B.length else if av.ownBlock = some g then .attrs B.length else if v'.ownBlock = some g then .nodes else ρ g := ⟨_, rfl⟩
  have rb : ρ' b = .node B.length := by rw [hρ]; dsimp only; rw [if_pos rfl]
  have ra : ∀ g, av.ownBlock = some g → ρ' g = .attrs B.length := fun g hg => by rw [hρ]; dsimp only; rw [if_neg (hab g hg), if_pos hg]
  have rv : ∀ g, v'.ownBlock = some g → ρ' g = .nodes := fun g hg => by rw [hρ]; dsimp only; rw [if_neg (hvb g hg).1, if_neg (hvb g hg).2, if_pos hg]
  have U1s := U1.size
  have old : ∀ g, g < w.heap.size → ρ' g = ρ g := fun g hg => by
    by_cases e : v'.ownBlock = some g
    · rw [rv g e]
      rcases hv' g e with e1 | e1
      · exact e1.symm
      · omega
    · rw [hρ]
      dsimp only
      rw [if_neg (by omega), if_neg (fun e' => by have := ha g e'; omega), if_neg e]
  have hG : Grow ρ ρ' w.heap.size := ⟨fun g hg => old g (hlow g hg), old⟩
  have UW : Upd w W (fun g => ρ g = .doc ∨ ρ g = .nodes) := ((U1.mono (fun _ _ e => e.elim)).trans UA (fun g _ e => Or.inr (hNv g e))).trans U2 (fun g _ e => Or.inl (by rw [e]; exact h.dr))
  refine ⟨ρ', hG, ⟨hW, (hG.1 d (by rw [h.dr]; simp)).trans h.dr, ?_, ?_, by rw [List.length_append, List.length_append, h.len]; rfl, ?_, ?_⟩, UW⟩
  · refine ⟨?_, rv⟩
    have o := own_keep O U2 (fun g hg e => by
      have h1 := rv g hg
      rw [e, hG.1 d (by rw [h.dr]; simp), h.dr] at h1
      cases h1)
    rw [List.map_append, List.map_singleton, List.length_append]
    exact o
  · exact ⟨own_none, fun g hg => by cases hg⟩
  · intro i b' s' hb' hs'
    by_cases hi : i < B.length
    · rw [List.getElem?_append_left hi] at hb'
      rw [List.getElem?_append_left (by rw [← h.len]; exact hi)] at hs'
      obtain ⟨av', kv', hN⟩ := h.nd i b' s' hb' hs'
      obtain ⟨z1, z2⟩ := hS s' (List.mem_of_getElem? hs')
      have hN2 := (hN.stay UW (fun g hg => by rcases hg with hg | hg <;> rw [hg] <;> exact ⟨(fun e => by cases e), (fun e => by cases e), (fun e => by cases e)⟩)).role hG.1
      refine ⟨av', kv', hN2.r, ?_, hN2.a, ?_, hN2.h, hN2.n⟩
      · have h1 := hN2.c
        rw [z1] at h1 ⊢
        exact h1
      · have h1 := hN2.k
        rw [z2] at h1 ⊢
        exact h1
    · have hi2 : i = B.length := by
        have := (List.getElem?_eq_some_iff.1 hb').1
        rw [List.length_append, List.length_singleton] at this
        omega
      subst hi2
      rw [List.getElem?_append_right (Nat.le_refl _), Nat.sub_self] at hb'
      rw [List.getElem?_append_right (by rw [h.len]; exact Nat.le_refl _), h.len, Nat.sub_self] at hs'
      obtain rfl := Option.some.inj hb'
      obtain rfl := Option.some.inj hs'
      have hbW : Blk W b _ _ := (UA.blk c (fun e => by have h1 := hNv b e; have := hlow b (by rw [h1]; simp); omega)).at_ (U2.block b (by have := UA.size; omega) (fun e => by have h1 := rb; rw [e, hG.1 d (by rw [h.dr]; simp), h.dr] at h1; cases h1))
      refine ⟨av, .slice none 0 0, rb, ?_, ⟨?_, ra⟩, ⟨?_, fun g hg => by cases hg⟩, fun e => absurd e (hhu _), fun _ => rfl⟩
      · rw [hsp]
        exact hbW
      · have o1 := own_keep a UA (fun g hg e => by have h1 := hNv g e; have := hlow g (by rw [h1]; simp); have := ha g hg; omega)
        exact own_keep o1 U2 (fun g hg e => by
          have h1 := ra g hg
          rw [e, hG.1 d (by rw [h.dr]; simp), h.dr] at h1
          cases h1)
      · rw [hsk]
        exact own_none
  · intro g hg
    have := UW.size
    have := UA.size
    have := U2.size
    rw [hρ] at hg
    dsimp only at hg
    by_cases e1 : g = b
    · omega
    · rw [if_neg e1] at hg
      by_cases e2 : av.ownBlock = some g
      · have := hal g e2; omega
      · rw [if_neg e2] at hg
        by_cases e3 : v'.ownBlock = some g
        · have := own_lt O e3; omega
        · rw [if_neg e3] at hg
          have := hlow g hg
          omega

/-- How many indexes are worn. -/
def wornN (S : List Im.Sl) : Nat := (S.filter fun s => !s.lv && s.g == 4294967295).length
theorem wornN_le (S : List Im.Sl) : wornN S ≤ S.length := List.length_filter_le _ _
theorem wornN_app (S : List Im.Sl) (s : Im.Sl) : wornN (S ++ [s]) = wornN S + (if s.lv = false ∧ s.g = 4294967295 then 1 else 0) := by
  unfold wornN
  rw [List.filter_append, List.length_append]
  congr 1
  rw [List.filter_cons]
  cases s.lv with
  | true => simp
  | false =>
    by_cases h : s.g = 4294967295
    · simp [h]
    · simp [h]
theorem lives_app (S : List Im.Sl) (s : Im.Sl) : Im.lives (S ++ [s]) = Im.lives S + (if s.lv = true then 1 else 0) := by
  unfold Im.lives
  rw [List.filter_append, List.length_append]
  congr 1
  rw [List.filter_cons]
  split <;> simp
theorem lives_le (S : List Im.Sl) : Im.lives S ≤ S.length := List.length_filter_le _ _

/-- All of them hung: the slots are as they came in. -/
theorem cur_all {S : List Im.Sl} {roots : List Nat} {ts : List Im.LT} {st : Hung} (hV : Im.Valid S roots ts) (hdead : ∀ (i : Nat) (s : Im.Sl), S[i]? = some s → s.lv = false → s.p = 0 ∧ s.ks = []) (h1 : ∀ i, i ∈ Im.preL ts → st i = some (Im.kidsOf S i)) (h2 : ∀ i, i ∉ Im.preL ts → st i = none) : cur S st = S := by
  apply List.ext_getElem?
  intro i
  cases hs : S[i]? with
  | none => rw [List.getElem?_eq_none (by rw [cur_len]; exact List.getElem?_eq_none_iff.1 hs)]
  | some s =>
    rw [cur_at hs]
    congr 1
    cases hl : s.lv with
    | true =>
      have hi : i ∈ Im.preL ts := hV.cov i s hs hl
      rw [h1 i hi]
      show { s with ks := Im.kidsOf S i } = s
      unfold Im.kidsOf
      rw [hs]
      rfl
    | false =>
      obtain ⟨z1, z2⟩ := hdead i s hs hl
      have hi : i ∉ Im.preL ts := fun hi => by
        obtain ⟨s', g1, g2⟩ := Im.sdL_live ts 0 hV.sd i hi
        rw [hs] at g1
        obtain rfl := Option.some.inj g1
        rw [hl] at g2
        cases g2
      rw [h2 i hi]
      show { s with p := 0, ks := [] } = s
      rw [← z1, ← z2]

end Pd
end Go.Proofs.YtemmkobgpciflaaDoor
