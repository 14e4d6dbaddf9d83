/- OrderedWhile: what holds between two rounds. -/
import Derived.Test.YtnhgeoccknhiiaaActsI
namespace Go.Proofs.Ytnhgeoccknhiiaa
open Go.RowKit Go.Shelf
namespace OrdI

/-- Where all lies. -/
structure Pl where
  p : Nat
  d : Nat
  pv : Nat
  dv : Nat
  wb : Nat
  rv : Nat
  wv : Nat
  sv : Nat
  kv : Nat
  g2 : Nat
def Pl.F0 (P : Pl) (b : Nat) : Prop := b = P.sv ∨ b = P.g2 ∨ b = P.kv ∨ b = P.p ∨ b = P.d

/-- No row of the two lists is block g. -/
def Apart (W : World) (p d g : Nat) : Prop := (∀ u, W.cell? ⟨p, 1, none⟩ = some u → u.ownBlock ≠ some g) ∧ (∀ u, W.cell? ⟨d, 0, none⟩ = some u → u.ownBlock ≠ some g)

structure Rw (w : World) (P : Pl) (within : List AI) (vw : Value) (L0 : List It) (n : Nat) (pre : List (Nat × It)) (W : World) : Prop where
  two : ∃ L', Two w.heap.size W P.p P.d L'
  pvar : Blk W P.pv [.pointer (some ⟨P.p, 0, none⟩)] 99
  dvar : Blk W P.dv [.pointer (some ⟨P.d, 0, none⟩)] 29
  wbox : Blk W P.wb [vw] 98
  res : Blk W P.rv [.bool false] 4
  was : ∃ v, Blk W P.wv [v] 30 ∧ W.ownsRow 0 36 2 v L0.length (cells L0) ∧ ∀ g, v.ownBlock = some g → g < P.g2
  seen : ∃ v, Blk W P.sv [v] 30 ∧ W.ownsRow 0 36 2 v pre.length (cells (pre.map Prod.snd)) ∧ ∀ g, v.ownBlock = some g → (g = P.g2 ∨ n ≤ g) ∧ Apart W P.p P.d g
  num : ∃ k : Nat, Blk W P.kv [.int .i64 (k : Int)] 3 ∧ k ≤ within.length
  below : Below w.heap.size w W
  size : n ≤ W.heap.size ∧ P.wv ≠ P.sv ∧ P.g2 < n ∧ w.heap.size ≤ P.kv ∧ w.heap.size ≤ P.sv ∧ w.heap.size ≤ P.g2

section
variable {w W W' : World} {P : Pl} {within : List AI} {vw : Value} {L0 : List It} {n : Nat} {pre : List (Nat × It)}

/-- The two lists' blocks, by their types. -/
theorem Rw.types (h : Rw w P within vw L0 n pre W) : ∃ us vs, Blk W P.p us 136 ∧ Blk W P.d vs 32 := by
  obtain ⟨L', hT⟩ := h.two
  obtain ⟨v0, q1, _⟩ := hT.ord
  obtain ⟨v1, q2, _⟩ := hT.ref
  exact ⟨_, _, q1, q2⟩
theorem Rw.notPD (h : Rw w P within vw L0 n pre W) {b : Nat} {vs : List Value} {t : TypeId} (hb : Blk W b vs t) (h1 : t ≠ 136) (h2 : t ≠ 32) : ¬ PD P.p P.d b := by
  obtain ⟨us, ws, q1, q2⟩ := h.types
  rintro (e | e)
  · exact hb.ty q1 h1 e
  · exact hb.ty q2 h2 e

theorem Rw.does (h : Rw w P within vw L0 n pre W) (hd : DoesPost w.heap.size P.p P.d W (.returned (.bool true)) W') : Rw w P within vw L0 n pre W' ∧ Upd W W' (Mine P.F0 n) := by
  obtain ⟨L', _, hT, hU, hR⟩ := hd
  have mine : Upd W W' (Mine P.F0 n) := hU.mono (fun i _ e => by rcases e with e | e <;> exact Or.inl (by unfold Pl.F0; simp [e]))
  obtain ⟨vwas, w1, w2, w3⟩ := h.was
  obtain ⟨vs, s1, s2, s3⟩ := h.seen
  obtain ⟨k, k1, k2⟩ := h.num
  have rowN : ∀ {v : Value} {m : Nat} {xs : List Value}, W.ownsRow 0 36 2 v m xs → W'.ownsRow 0 36 2 v m xs := fun ho => own_keep ho hU (fun g hg => by
    obtain ⟨us, hv⟩ := own_ty ho hg
    exact h.notPD hv (by decide) (by decide))
  refine ⟨⟨⟨L', hT⟩, hU.blk h.pvar (h.notPD h.pvar (by decide) (by decide)), hU.blk h.dvar (h.notPD h.dvar (by decide) (by decide)), hU.blk h.wbox (h.notPD h.wbox (by decide) (by decide)), hU.blk h.res (h.notPD h.res (by decide) (by decide)),
    ⟨vwas, hU.blk w1 (h.notPD w1 (by decide) (by decide)), rowN w2, w3⟩, ⟨vs, hU.blk s1 (h.notPD s1 (by decide) (by decide)), rowN s2, fun g hg => ⟨(s3 g hg).1, ?_, ?_⟩⟩, ⟨k, hU.blk k1 (h.notPD k1 (by decide) (by decide)), k2⟩, ?_, Nat.le_trans h.size.1 hU.size, h.size.2⟩, mine⟩
  · intro u hu e
    rcases hR.1 u g hu e with ⟨v, q1, q2⟩ | q
    · exact (s3 g hg).2.1 v q1 q2
    · have := own_lt s2 hg
      omega
  · intro u hu e
    rcases hR.2 u g hu e with ⟨v, q1, q2⟩ | q
    · exact (s3 g hg).2.2 v q1 q2
    · have := own_lt s2 hg
      omega
  · refine h.below.trans (hU.below h.below.size (fun i hi e => ?_))
    obtain ⟨L1, hT1⟩ := h.two
    have := hT1.low
    rcases e with e | e <;> omega

theorem Rw.add (h : Rw w P within vw L0 n pre W) (U : Upd W W' (fun _ => False)) : Rw w P within vw L0 n pre W' := by
  obtain ⟨L', hT⟩ := h.two
  obtain ⟨vwas, w1, w2, w3⟩ := h.was
  obtain ⟨vs, s1, s2, s3⟩ := h.seen
  obtain ⟨k, k1, k2⟩ := h.num
  obtain ⟨us, ws, q1, q2⟩ := h.types
  exact ⟨⟨L', hT.below (U.below (Nat.le_refl _) (fun _ _ h => h))⟩, U.blk h.pvar (fun h => h), U.blk h.dvar (fun h => h), U.blk h.wbox (fun h => h), U.blk h.res (fun h => h), ⟨vwas, U.blk w1 (fun h => h), own_keep w2 U (fun _ _ h => h), w3⟩,
    ⟨vs, U.blk s1 (fun h => h), own_keep s2 U (fun _ _ h => h), fun g hg => ⟨(s3 g hg).1, fun u hu => (s3 g hg).2.1 u (by rw [← U.cell (p := ⟨P.p, 1, none⟩) q1.lt (fun h => h)]; exact hu), fun u hu => (s3 g hg).2.2 u (by rw [← U.cell (p := ⟨P.d, 0, none⟩) q2.lt (fun h => h)]; exact hu)⟩⟩,
    ⟨k, U.blk k1 (fun h => h), k2⟩, h.below.trans (U.below h.below.size (fun _ _ h => h)), Nat.le_trans h.size.1 U.size, h.size.2⟩

theorem Rw.count (h : Rw w P within vw L0 n pre W) (k : Nat) (hk : k ≤ within.length) : Rw w P within vw L0 n pre (W.setCell ⟨P.kv, 0, none⟩ (.int .i64 (k : Int))) ∧ Upd W (W.setCell ⟨P.kv, 0, none⟩ (.int .i64 (k : Int))) (Mine P.F0 n) := by
  obtain ⟨L', hT⟩ := h.two
  obtain ⟨vwas, w1, w2, w3⟩ := h.was
  obtain ⟨vs, s1, s2, s3⟩ := h.seen
  obtain ⟨k0, k1, k2⟩ := h.num
  obtain ⟨us, ws, q1, q2⟩ := h.types
  have U : Upd W (W.setCell ⟨P.kv, 0, none⟩ (.int .i64 (k : Int))) (· = P.kv) := (Upd.refl W _).set _ _ (fun _ => rfl)
  have ne : ∀ {b : Nat} {us : List Value} {t : TypeId}, Blk W b us t → t ≠ 3 → ¬ b = P.kv := fun hb ht => hb.ty k1 ht
  have rowN : ∀ {v : Value} {m : Nat} {xs : List Value}, W.ownsRow 0 36 2 v m xs → (W.setCell ⟨P.kv, 0, none⟩ (.int .i64 (k : Int))).ownsRow 0 36 2 v m xs := fun ho => own_keep ho U (fun g hg => by
    obtain ⟨us, hv⟩ := own_ty ho hg
    exact ne hv (by decide))
  refine ⟨⟨⟨L', ?_⟩, U.blk h.pvar (ne h.pvar (by decide)), U.blk h.dvar (ne h.dvar (by decide)), U.blk h.wbox (ne h.wbox (by decide)), U.blk h.res (ne h.res (by decide)), ⟨vwas, U.blk w1 (ne w1 (by decide)), rowN w2, w3⟩,
    ⟨vs, U.blk s1 (ne s1 (by decide)), rowN s2, fun g hg => ⟨(s3 g hg).1, fun u hu => (s3 g hg).2.1 u (by rw [← U.cell (p := ⟨P.p, 1, none⟩) q1.lt (ne q1 (by decide))]; exact hu), fun u hu => (s3 g hg).2.2 u (by rw [← U.cell (p := ⟨P.d, 0, none⟩) q2.lt (ne q2 (by decide))]; exact hu)⟩⟩,
    ⟨k, k1.set 0 _, hk⟩, ?_, Nat.le_trans h.size.1 U.size, h.size.2⟩, U.mono (fun i _ e => Or.inl (by unfold Pl.F0; simp [show i = P.kv from e]))⟩
  · obtain ⟨vo, o1, o2⟩ := hT.ord
    obtain ⟨vr, r1, r2⟩ := hT.ref
    exact ⟨⟨vo, U.blk o1 (ne o1 (by decide)), rowN o2⟩, ⟨vr, U.blk r1 (ne r1 (by decide)), rowN r2⟩, hT.srt, hT.big, hT.low.1, hT.low.2.1, Nat.le_trans hT.low.2.2 U.size⟩
  · refine h.below.trans (U.below h.below.size (fun i hi e => ?_))
    have e' : i = P.kv := e
    have hlow := h.size
    omega

theorem Rw.snoc {W8 W9 : World} {x : Nat × It} {v2 : Value} (h : Rw w P within vw L0 n pre W) {v : Value} (s1 : Blk W P.sv [v] 30) (s2 : W.ownsRow 0 36 2 v pre.length (cells (pre.map Prod.snd))) (s3 : ∀ g, v.ownBlock = some g → (g = P.g2 ∨ n ≤ g) ∧ Apart W P.p P.d g)
    (T1 : Upd W W8 (fun _ => False)) (hA : AppPost W8 36 2 v pre.length (cells (pre.map Prod.snd)) 1 (icells x.2) v2 W9) :
    Blk W9 P.sv [v] 30 ∧ Rw w P within vw L0 n (pre ++ [x]) (W9.setCell ⟨P.sv, 0, none⟩ v2) ∧ Upd W (W9.setCell ⟨P.sv, 0, none⟩ v2) (Mine P.F0 n) := by
  obtain ⟨O9, U9, b9⟩ := hA
  obtain ⟨L', hT⟩ := h.two
  obtain ⟨vwas, w1, w2, w3⟩ := h.was
  obtain ⟨k0, k1, k2⟩ := h.num
  obtain ⟨us, ws, q1, q2⟩ := h.types
  have h1 : Upd W W9 (fun b => v.ownBlock = some b) := (T1.mono (fun _ _ h => h.elim)).trans U9 (fun _ _ h => h)
  have rowT : ∀ {g : Nat}, v.ownBlock = some g → ∃ us, Blk W g us 36 := fun hg => own_ty s2 hg
  have ne : ∀ {b : Nat} {us : List Value} {t : TypeId}, Blk W b us t → t ≠ 36 → ¬ v.ownBlock = some b := fun hb ht hg => by
    obtain ⟨us, hv⟩ := rowT hg
    exact hv.ty hb (fun e => ht e.symm) rfl
  have L9 : Blk W9 P.sv [v] 30 := h1.blk s1 (ne s1 (by decide))
  have Us : Upd W9 (W9.setCell ⟨P.sv, 0, none⟩ v2) (· = P.sv) := (Upd.refl W9 _).set _ _ (fun _ => rfl)
  have hO9lt : ∀ g, v2.ownBlock = some g → g < W9.heap.size := fun g hg => own_lt O9 hg
  -- what is neither the row nor the variable
  have U : Upd W (W9.setCell ⟨P.sv, 0, none⟩ v2) (fun b => v.ownBlock = some b ∨ b = P.sv) := (h1.mono (fun _ _ h => Or.inl h)).trans Us (fun _ _ h => Or.inr h)
  have nb : ∀ {b : Nat} {us : List Value} {t : TypeId}, Blk W b us t → t ≠ 36 → t ≠ 30 → ¬ (v.ownBlock = some b ∨ b = P.sv) := fun hb ht hs hm => by
    rcases hm with hm | hm
    · exact ne hb ht hm
    · exact hb.ty s1 hs hm
  have hnew : ∀ g, v2.ownBlock = some g → v.ownBlock = some g ∨ W.heap.size ≤ g := fun g hg => by
    rcases b9 with e | e
    · exact Or.inl (e ▸ hg)
    · have := ob_some (e.symm.trans hg)
      have := T1.size
      exact Or.inr (by omega)
  have mine : ∀ g, v.ownBlock = some g → Mine P.F0 n g := fun g hg => by
    rcases (s3 g hg).1 with e | e
    · exact Or.inl (by unfold Pl.F0; simp [e])
    · exact Or.inr e
  have hp : ∀ u, (W9.setCell ⟨P.sv, 0, none⟩ v2).cell? ⟨P.p, 1, none⟩ = some u → W.cell? ⟨P.p, 1, none⟩ = some u := fun u hu => by rw [← U.cell (p := ⟨P.p, 1, none⟩) q1.lt (nb q1 (by decide) (by decide))]; exact hu
  have hd : ∀ u, (W9.setCell ⟨P.sv, 0, none⟩ v2).cell? ⟨P.d, 0, none⟩ = some u → W.cell? ⟨P.d, 0, none⟩ = some u := fun u hu => by rw [← U.cell (p := ⟨P.d, 0, none⟩) q2.lt (nb q2 (by decide) (by decide))]; exact hu
  obtain ⟨vo, o1, o2⟩ := hT.ord
  obtain ⟨vr, r1, r2⟩ := hT.ref
  have hpo : ∀ g, vo.ownBlock = some g → ¬ (v.ownBlock = some g ∨ g = P.sv) := fun g hg hm => by
    rcases hm with hm | hm
    · exact (s3 g hm).2.1 vo (o1.cell 1) hg
    · obtain ⟨us, hv⟩ := own_ty o2 hg
      exact hv.ty s1 (by decide) hm
  have hdo : ∀ g, vr.ownBlock = some g → ¬ (v.ownBlock = some g ∨ g = P.sv) := fun g hg hm => by
    rcases hm with hm | hm
    · exact (s3 g hm).2.2 vr (r1.cell 0) hg
    · obtain ⟨us, hv⟩ := own_ty r2 hg
      exact hv.ty s1 (by decide) hm
  have UM : Upd W (W9.setCell ⟨P.sv, 0, none⟩ v2) (Mine P.F0 n) := U.mono (fun i _ hm => by
    rcases hm with hm | hm
    · exact mine i hm
    · exact Or.inl (by unfold Pl.F0; simp [hm]))
  have ec : cells ((pre ++ [x]).map Prod.snd) = cells (pre.map Prod.snd) ++ icells x.2 := by rw [List.map_append, cells_append, List.map_cons, List.map_nil, cells_cons, cells_nil, List.append_nil]
  refine ⟨L9, ⟨⟨L', ⟨vo, U.blk o1 (nb o1 (by decide) (by decide)), own_keep o2 U hpo⟩, ⟨vr, U.blk r1 (nb r1 (by decide) (by decide)), own_keep r2 U hdo⟩, hT.srt, hT.big, hT.low.1, hT.low.2.1, Nat.le_trans hT.low.2.2 U.size⟩, U.blk h.pvar (nb h.pvar (by decide) (by decide)), U.blk h.dvar (nb h.dvar (by decide) (by decide)), U.blk h.wbox (nb h.wbox (by decide) (by decide)), U.blk h.res (nb h.res (by decide) (by decide)),
    ⟨vwas, U.blk w1 (fun hm => ?_), own_keep w2 U (fun g hg hm => ?_), w3⟩, ⟨v2, L9.set 0 v2, ?_, fun g hg => ⟨?_, ?_, ?_⟩⟩, ⟨k0, U.blk k1 (nb k1 (by decide) (by decide)), k2⟩, ?_, Nat.le_trans h.size.1 U.size, h.size.2⟩, UM⟩
  · rcases hm with hm | hm
    · exact ne w1 (by decide) hm
    · exact h.size.2.1 hm
  · have := w3 g hg
    rcases hm with hm | hm
    · have h2 := h.size
      rcases (s3 g hm).1 with e | e <;> omega
    · obtain ⟨us, hv⟩ := own_ty w2 hg
      exact hv.ty s1 (by decide) hm
  · rw [ec, List.length_append]
    refine own_keep O9 Us (fun g hg hm => ?_)
    obtain ⟨us, hv⟩ := own_ty O9 hg
    exact hv.ty L9 (by decide) hm
  · rcases hnew g hg with e | e
    · exact (s3 g e).1
    · exact Or.inr (Nat.le_trans h.size.1 e)
  · intro u hu e
    have hu := hp u hu
    rcases hnew g hg with q | q
    · exact (s3 g q).2.1 u hu e
    · have e2 : u = vo := by
        have := o1.cell 1
        exact Option.some.inj (hu.symm.trans this)
      subst e2
      have := own_lt o2 e
      omega
  · intro u hu e
    have hu := hd u hu
    rcases hnew g hg with q | q
    · exact (s3 g q).2.2 u hu e
    · have e2 : u = vr := by
        have := r1.cell 0
        exact Option.some.inj (hu.symm.trans this)
      subst e2
      have := own_lt r2 e
      omega
  · refine h.below.trans (UM.below h.below.size (fun i hi hm => ?_))
    have h2 := h.size
    rcases hm with (e | e | e | e | e) | e
    · omega
    · omega
    · omega
    · have := hT.low
      omega
    · have := hT.low
      omega
    · omega

end
end OrdI
end Go.Proofs.Ytnhgeoccknhiiaa
