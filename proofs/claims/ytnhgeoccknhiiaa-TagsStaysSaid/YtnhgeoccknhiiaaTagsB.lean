/- Labels are written: write and spread over the whole list. -/
import Derived.Test.YtnhgeoccknhiiaaTags
namespace Go.Proofs.Ytnhgeoccknhiiaa
open Go.RowKit

theorem Nodes.inj {w : World} {NN : List Nd} (h : Nodes w NN) (hn : Names NN) {i j : Nat} {a b : Nd} (ha : NN[i]? = some a) (hb : NN[j]? = some b) (e : a.blk = b.blk) : i = j := by
  have h1 := h i a ha
  have h2 := h j b hb
  rw [e] at h1
  have := Blk.eq h1 h2
  unfold ndCells at this
  simp at this
  have hnm : a.name = b.name := by omega
  unfold Names at hn
  have li : i < NN.length := by rw [List.getElem?_eq_some_iff] at ha; exact ha.1
  have lj : j < NN.length := by rw [List.getElem?_eq_some_iff] at hb; exact hb.1
  refine (List.getElem_inj (xs := NN.map (·.name)) (h₀ := by simpa using li) (h₁ := by simpa using lj) hn).1 ?_
  rw [List.getElem?_eq_some_iff] at ha hb
  simp [ha.2, hb.2, hnm]

def Nd.put (n : Nd) (l : Nat) : Nd := { n with label := l }

theorem ptrN_map {o : Option Nd} {f : Nd → Nd} (h : ∀ n, (f n).blk = n.blk) : ptrN (o.map f) = ptrN o := by
  cases o <;> simp [ptrN, h]

theorem ptrN_set (NN : List Nd) (i k : Nat) {n : Nd} (hi : NN[i]? = some n) (l : Nat) : ptrN (NN.set i (n.put l))[k]? = ptrN NN[k]? := by
  by_cases e : i = k
  · subst e
    have li : i < NN.length := by rw [List.getElem?_eq_some_iff] at hi; exact hi.1
    rw [List.getElem?_set_self li, hi]; rfl
  · rw [List.getElem?_set_ne e]

theorem TagsAt.put {w : World} {p m : Nat} {hd : Nd} {N : List Nd} {g wr : Nat} (h : TagsAt w p m hd N g wr) {i : Nat} {n : Nd} (hi : N[i]? = some n) (lab wr' : Nat) :
    TagsAt ((w.setCell ⟨n.blk, 1, none⟩ (.int .u64 lab)).setCell ⟨p, 3, none⟩ (.int .u64 wr')) p m hd (N.set i (n.put lab)) g wr' := by
  have hi' : (hd :: N)[i + 1]? = some n := by simpa using hi
  have hx := h.nodes (i + 1) n hi'
  have hpx : p ≠ n.blk := h.top.ty hx (by decide)
  refine ⟨?_, ?_, ?_, ?_, h.zero⟩
  · exact (h.top.far ⟨n.blk, 1, none⟩ (.int .u64 lab) hpx).set 3 _
  · intro j a ha
    have hset : (hd :: N.set i (n.put lab)) = (hd :: N).set (i + 1) (n.put lab) := rfl
    rw [hset] at ha ⊢
    have hnb : ∀ a' : Nd, ndCells a' (if j = 0 then none else ((hd :: N).set (i + 1) (n.put lab))[j - 1]?) ((hd :: N).set (i + 1) (n.put lab))[j + 1]? = ndCells a' (if j = 0 then none else (hd :: N)[j - 1]?) (hd :: N)[j + 1]? := by
      intro a'
      unfold ndCells
      rw [ptrN_set _ _ _ hi']
      by_cases hj : j = 0
      · simp [hj]
      · simp only [hj, if_false]
        rw [ptrN_set _ _ _ hi']
    rw [hnb]
    by_cases e : i + 1 = j
    · subst e
      have li : i + 1 < (hd :: N).length := by rw [List.getElem?_eq_some_iff] at hi'; exact hi'.1
      rw [List.getElem?_set_self li] at ha
      cases ha
      refine Blk.far ?_ _ _ (by show n.blk ≠ p; omega)
      have := hx.set 1 (.int .u64 lab)
      exact this
    · rw [List.getElem?_set_ne e] at ha
      have hb := h.nodes j a ha
      refine Blk.far (Blk.far hb _ _ ?_) _ _ ?_
      · intro e2; exact e (h.nodes.inj h.names hi' ha (by exact e2.symm))
      · exact (h.top.ty hb (by decide)).symm
  · have := h.names
    unfold Names at *
    rw [show hd :: N.set i (n.put lab) = (hd :: N).set (i + 1) (n.put lab) from rfl, List.map_set]
    have e : (n.put lab).name = ((hd :: N).map (·.name))[i + 1]'(by rw [List.getElem?_eq_some_iff] at hi'; simpa using hi'.1) := by
      rw [List.getElem?_eq_some_iff] at hi'
      rw [List.getElem_map, hi'.2]; rfl
    rw [e, List.set_getElem_self]
    exact this
  · obtain ⟨L, hM, hL⟩ := h.map
    refine ⟨L, hM.at_ ((heap_set_ne _ _ _ _ ?_).trans (heap_set_ne _ _ _ _ ?_)), ?_⟩
    · exact hM.ne h.top
    · exact hM.ne hx
    · rw [show hd :: N.set i (n.put lab) = (hd :: N).set (i + 1) (n.put lab) from rfl, List.map_set]
      have e : ((Value.int .u64 ((n.put lab).name : Int)), ptrTo (n.put lab).blk) = ((hd :: N).map fun n => ((Value.int .u64 (n.name : Int)), ptrTo n.blk))[i + 1]'(by rw [List.getElem?_eq_some_iff] at hi'; simpa using hi'.1) := by
        rw [List.getElem?_eq_some_iff] at hi'
        rw [List.getElem_map, hi'.2]; rfl
      rw [e, List.set_getElem_self]
      exact hL

/-- The blocks of a list. -/
def Foot (p m : Nat) (NN : List Nd) (b : Nat) : Prop := b = p ∨ b = m ∨ ∃ n ∈ NN, b = n.blk

def WritePost (p m : Nat) (hd : Nd) (N : List Nd) (g wr : Nat) (i : Nat) (n : Nd) (lab : Nat) (w : World) (e : Ending) (w' : World) : Prop :=
  e = .returned (.tuple #[]) ∧ TagsAt w' p m hd (N.set i (n.put lab)) g (if n.label = lab then wr else wr + 1) ∧ Upd w w' (fun b => b = p ∨ b = n.blk)

theorem write_any (p m : Nat) (hd : Nd) (N : List Nd) (g wr : Nat) (i : Nat) (n : Nd) (lab : Nat) (w : World) (h : TagsAt w p m hd N g wr) (hi : N[i]? = some n) (hwr : wr + 1 < 18446744073709551616) :
    Calls Try.prog 65 #[ptrTo p, ptrTo n.blk, .int .u64 lab] w (WritePost p m hd N g wr i n lab w) := by
  have hi' : (hd :: N)[i + 1]? = some n := by simpa using hi
  have hx := h.nodes (i + 1) n hi'
  by_cases hl : n.label = lab
  · subst hl
    refine (write_same p n.blk _ n.label w hx rfl).mono ?_
    rintro e w' ⟨rfl, rfl⟩
    refine ⟨rfl, ?_, Upd.refl _ _⟩
    rw [if_pos rfl]
    have li : i < N.length := by rw [List.getElem?_eq_some_iff] at hi; exact hi.1
    have e : N.set i (n.put n.label) = N := by
      have : n.put n.label = N[i] := by rw [List.getElem?_eq_some_iff] at hi; rw [hi.2]; rfl
      rw [this, List.set_getElem_self]
    rw [e]
    exact h
  · refine (write_other p n.blk _ _ n.label lab wr w hx rfl h.top rfl hl hwr).mono ?_
    rintro e w' ⟨rfl, rfl⟩
    refine ⟨rfl, ?_, ?_⟩
    · rw [if_neg hl]
      exact h.put hi lab (wr + 1)
    · exact ((Upd.refl w _).set _ _ (fun _ => Or.inr rfl)).set _ _ (fun _ => Or.inl rfl)

def relab (step i : Nat) (N : List Nd) : List Nd := N.mapIdx fun j n => if j < i then n.put (step * (j + 1)) else n

theorem relab_zero (step : Nat) (N : List Nd) : relab step 0 N = N := by
  apply List.ext_getElem?
  intro j
  simp [relab]
theorem relab_get (step i : Nat) (N : List Nd) (j : Nat) : (relab step i N)[j]? = N[j]?.map fun n => if j < i then n.put (step * (j + 1)) else n := by
  simp [relab]
theorem relab_succ (step i : Nat) (N : List Nd) {n : Nd} (h : N[i]? = some n) : relab step (i + 1) N = (relab step i N).set i (n.put (step * (i + 1))) := by
  have li : i < N.length := by rw [List.getElem?_eq_some_iff] at h; exact h.1
  apply List.ext_getElem?
  intro j
  by_cases e : i = j
  · subst e
    rw [List.getElem?_set_self (by simpa [relab] using li), relab_get, h]
    simp
  · rw [List.getElem?_set_ne e, relab_get, relab_get]
    congr 1
    funext n
    by_cases hj : j < i
    · rw [if_pos hj, if_pos (by omega)]
    · rw [if_neg hj, if_neg (by omega)]
theorem relab_blk (step i : Nat) (N : List Nd) (j : Nat) : ptrN (relab step i N)[j]? = ptrN N[j]? := by
  rw [relab_get]
  exact ptrN_map (fun n => by split <;> rfl)

def stepOf (n : Nat) : Nat := 4611686018427387904 / (n + 2)

/-- So many writes, at most one a node, at least one where a label was 0. -/
def Wrote (N : List Nd) (i wr wr' : Nat) : Prop := wr ≤ wr' ∧ wr' ≤ wr + i ∧ ((∃ j n, j < i ∧ N[j]? = some n ∧ n.label = 0) → wr + 1 ≤ wr')

theorem step_int (n : Nat) : (4611686018427387904 : Int) / ((n : Int) + 1 + 1) = ((stepOf n : Nat) : Int) := by
  unfold stepOf
  rw [Int.natCast_ediv, show ((n + 2 : Nat) : Int) = (n : Int) + 1 + 1 by omega]
  rfl

def SpreadAt (p m : Nat) (hd : Nd) (N : List Nd) (g nw : Nat) (w : World) (i : Nat) (w' : World) : Prop :=
  ∃ nw', TagsAt w' p m hd (relab (stepOf N.length) i N) g nw' ∧ Wrote N i nw nw' ∧ Upd w w' (Foot p m (hd :: N))

theorem SpreadAt.next {p m : Nat} {hd : Nd} {N : List Nd} {g nw : Nat} {w w1 : World} {i : Nat} {n : Nd} {wr1 : Nat} (hi : N[i]? = some n)
    (hW : Wrote N i nw wr1) (hU : Upd w w1 (Foot p m (hd :: N))) {w2 : World} {e : Ending}
    (hP : WritePost p m hd (relab (stepOf N.length) i N) g wr1 i n (stepOf N.length * (i + 1)) w1 e w2) (hs : 0 < stepOf N.length) : SpreadAt p m hd N g nw w (i + 1) w2 := by
  obtain ⟨_, hT, hV⟩ := hP
  refine ⟨_, relab_succ _ _ _ hi ▸ hT, ?_, ?_⟩
  · obtain ⟨h1, h2, h3⟩ := hW
    split
    · rename_i e
      refine ⟨h1, by omega, ?_⟩
      rintro ⟨j, a, hj, ha, h0⟩
      by_cases ej : j = i
      · subst ej
        rw [hi] at ha
        cases ha
        have : 0 < stepOf N.length * (j + 1) := Nat.mul_pos hs (by omega)
        omega
      · exact h3 ⟨j, a, by omega, ha, h0⟩
    · exact ⟨by omega, by omega, fun _ => by omega⟩
  · refine hU.trans hV (fun k hk hkk => ?_)
    rcases hkk with e | e
    · exact Or.inl e
    · exact Or.inr (Or.inr ⟨n, List.mem_cons_of_mem _ (List.mem_of_getElem? hi), e⟩)

set_option maxRecDepth 10000 in
theorem spread_any (p m : Nat) (hd : Nd) (N : List Nd) (g nw : Nat) (w : World) (h : TagsAt w p m hd N g nw) (hn : N.length ≤ 8192) (hwr : nw + 8192 < 18446744073709551616) :
    Calls Try.prog 66 #[ptrTo p] w fun e w' => e = .returned (.tuple #[]) ∧ SpreadAt p m hd N g nw w N.length w' := by
  have h0 : w.cell? ⟨p, 0, none⟩ = some (.map (some m)) := h.top.cell 0
  have h1 : w.cell? ⟨p, 1, none⟩ = some (.pointer (some ⟨hd.blk, 0, none⟩)) := h.top.cell 1
  have h3 : w.cell? ⟨hd.blk, 3, none⟩ = some (ptrN N[0]?) := (h.nodes 0 hd rfl).cell 3
  obtain ⟨L, hM, hL⟩ := h.map
  have hlen : L.length = N.length + 1 := by simpa using hL.length_eq
  have hrun := fun ty => run_len_mapIs (P := Try.prog) (ty := ty) Try.underlying69 hM
  rw [hlen] at hrun
  have HT := Lib.hid h
  have HN : Hid (stepOf N.length = stepOf N.length) := rfl
  have hs : 0 < stepOf N.length := by unfold stepOf; exact Nat.div_pos (by omega) (by omega)
  have hs2 : stepOf N.length * (N.length + 2) ≤ 4611686018427387904 := by unfold stepOf; exact Nat.div_mul_le_self _ _
  clear hM hL hlen h
  unfold ptrTo
  go_enter Try.func66, Try.ntmps66
  go_wp2
  rw [step_int]
  clear h1 h0 h3 hrun HN
  generalize hst : stepOf N.length = st at *
  have HST := Lib.hid hst
  clear hst
  go_loopg [3, 4] N.length (fun kq v3 v4 w' => ∃ i lab : Nat, v3 = .int .u64 lab ∧ v4 = ptrN N[i]? ∧ Hid (lab = st * i) ∧ Hid (kq = N.length - i ∧ i ≤ N.length) ∧ Hid (SpreadAt p m hd N g nw w i w'))
  case atStart => exact ⟨0, 0, rfl, rfl, Lib.hid (by simp), Lib.hid ⟨rfl, Nat.zero_le _⟩, Lib.hid ⟨nw, by rw [relab_zero]; exact HT.out, ⟨Nat.le_refl _, by omega, fun ⟨_, _, h, _⟩ => by omega⟩, Upd.refl _ _⟩⟩
  case round =>
    obtain ⟨i, lab, rfl, rfl, HL, HI, HS⟩ := hrel
    cases hi : N[i]? with
    | none =>
      have HI2 := Lib.hid hi
      clear hi
      rw [show ptrN none = Value.pointer none from rfl]
      go_wp2
      go_end0
      have e : i = N.length := by
        have := HI.out
        have := List.getElem?_eq_none_iff.1 HI2.out
        omega
      exact ⟨rfl, e ▸ HS.out⟩
    | some n =>
      have HI2 := Lib.hid hi
      clear hi
      have li : i < N.length := by have := HI2.out; rw [List.getElem?_eq_some_iff] at this; exact this.1
      rw [show ptrN (some n) = Value.pointer (some ⟨n.blk, 0, none⟩) from rfl]
      obtain ⟨wr1, hT, hW, hU⟩ := HS.out
      have hb : lab + st ≤ 4611686018427387904 := by
        have := Nat.le_trans (Nat.mul_le_mul_left st (show i + 1 ≤ N.length + 2 by omega)) hs2
        rw [Nat.mul_succ] at this
        rw [HL.out]
        exact this
      have hi : (relab st i N)[i]? = some n := by rw [relab_get, HI2.out]; simp
      rw [HST.out] at hT
      have hw1 : wr1 + 1 < 18446744073709551616 := by have := hW.2.1; omega
      have HC := Lib.hid (write_any p m hd (relab st i N) g wr1 i n (lab + st) wr hT hi hw1)
      have HW := Lib.hid hW
      have HU := Lib.hid hU
      clear hT hW hU hi hw1
      unfold ptrTo at HC
      go_wp2_with fail
      rw [show (lab : Int) + (st : Int) = ((lab + st : Nat) : Int) by omega]
      refine HC.out.mono ?_
      rintro e w1 hP
      have el : lab + st = stepOf N.length * (i + 1) := by rw [HST.out, Nat.mul_succ, HL.out]
      have hP' : WritePost p m hd (relab (stepOf N.length) i N) g wr1 i n (stepOf N.length * (i + 1)) wr e w1 := by
        rw [← el, HST.out]; exact hP
      have hS := SpreadAt.next HI2.out HW.out HU.out hP' (by rw [HST.out]; exact hs)
      have HS' := Lib.hid hS
      have HL' := Lib.hid el
      obtain ⟨rfl, hT, hV⟩ := hP
      have h3 : w1.cell? ⟨n.blk, 3, none⟩ = some (ptrN N[i + 1]?) := by
        have hj : (hd :: (relab st i N).set i (n.put (lab + st)))[i + 1]? = some (n.put (lab + st)) := by
          rw [List.getElem?_cons_succ, List.getElem?_set_self (by simpa [relab] using li)]
        have := (hT.nodes (i + 1) _ hj).cell 3
        rw [List.getElem?_cons_succ, List.getElem?_set_ne (by omega)] at this
        rw [← relab_blk st i]
        exact this
      clear hT hV hS el hP'
      go_wp2
      go_roundg (N.length - (i + 1))
      case rel => exact ⟨i + 1, lab + st, rfl, rfl, Lib.hid (by rw [HL'.out, HST.out]), Lib.hid ⟨rfl, by omega⟩, HS'⟩
      case measure => have := HI.out; omega

end Go.Proofs.Ytnhgeoccknhiiaa
