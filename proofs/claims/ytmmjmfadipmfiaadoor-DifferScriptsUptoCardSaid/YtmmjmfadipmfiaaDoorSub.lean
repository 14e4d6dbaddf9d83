/- A node in plain: the document's Get and Subtree, walked. -/
import Derived.Test.YtmmjmfadipmfiaaDoorIns
import Derived.Laws.ResultCell
namespace Go.Proofs.YtmmjmfadipmfiaaDoor
open Go.RowKit
open Ch
namespace Df

theorem results_row_tmp {P : Program} {fn : Func} {p u : Tmp} {ty : TypeId} (h : fn.results = #[.cell p ty, .tmp u]) (tmps : Array Value) (w : World) (g : Nat) (t : TypeId) (cs : Array Value) (fr : Nat × Nat) (d : TypeDesc)
    (hp : tmps.getD p undef = .pointer (some ⟨g, 0, none⟩)) (hg : w.heap[g]? = some (.cells cs t fr))
    (hu : P.underlying ty = some d) (hd : (match d with | .struct _ | .array _ _ => true | _ => false) = true) (hi : (P.info? ty).map (·.size) = some cs.size) :
    (results fn tmps).run P w = .ok (.tuple #[.agg cs, tmps.getD u undef]) w := by
  have hp' : tmps[p]?.getD undef = .pointer (some ⟨g, 0, none⟩) := by simpa using hp
  rw [results_cell_tmp h]
  simp [hp', asAddr, run_loadVar_row w g t ty cs fr d hg hu hd hi, Result.andThen]

mutual
/-- A tree whose elements alone have children. -/
def Nice : T → Prop
  | .mk k _ _ _ ks => (k = 1 ∨ ks = []) ∧ NiceL ks
def NiceL : List T → Prop
  | [] => True
  | t :: l => Nice t ∧ NiceL l
end
theorem NiceL.all : ∀ {l : List T}, NiceL l ↔ ∀ x ∈ l, Nice x
  | [] => by simp [NiceL]
  | t :: l => by rw [NiceL, NiceL.all]; simp
theorem nice_norm : ∀ t, Kinds t → Nice (norm t) := by
  refine T.ind ?_
  intro k n al t ks ih hK
  rw [Kinds] at hK
  rw [norm]
  rcases hK with ⟨h1, hK⟩ | h2
  · subst h1
    rw [if_neg (by omega), Nice]
    refine ⟨Or.inl rfl, NiceL.all.2 fun x hx => ?_⟩
    rw [normL_map] at hx
    obtain ⟨y, hy, rfl⟩ := List.mem_map.1 hx
    exact ih y hy (KindsL.all.1 hK y hy)
  · subst h2
    rw [if_pos rfl, Nice]
    exact ⟨Or.inr rfl, by rw [NiceL]; trivial⟩
theorem niceL_norm (l : List T) (h : KindsL l) : NiceL (normL l) := NiceL.all.2 fun x hx => by
  rw [normL_map] at hx
  obtain ⟨y, hy, rfl⟩ := List.mem_map.1 hx
  exact nice_norm y (KindsL.all.1 h y hy)

section
variable {w : World} {Q : Nat → Prop} {gn : Nat → Nat}
theorem SlF.lenOf : ∀ {l : List T} {i p : Nat} {N : List Row}, (∀ x ∈ l, ∀ i p N, SlT w Q gn x i p N → N.length = T.size x) → SlF w Q gn l i p N → N.length = T.sizeL l
  | [], _, _, _, _, h => by rw [SlF] at h; subst h; rfl
  | t :: l, i, p, N, hk, h => by
    rw [SlF] at h
    obtain ⟨C, D, rfl, h1, h2⟩ := h
    rw [List.length_append, T.sizeL, hk t (by simp) _ _ _ h1, SlF.lenOf (fun x hx => hk x (by simp [hx])) h2]
theorem SlT.len : ∀ t, Nice t → ∀ i p N, SlT w Q gn t i p N → N.length = T.size t := by
  refine T.ind ?_
  intro k n al t ks ih hN i p N h
  rw [Nice] at hN
  rw [SlT] at h
  obtain ⟨r, D, rfl, _, _, _, _, _, _, _, _, h⟩ := h
  have := h.lenOf fun x hx => ih x hx (NiceL.all.1 hN.2 x hx)
  rw [List.length_cons, T.size, this]
  split
  · rfl
  · rename_i h1
    rcases hN.1 with h2 | h2
    · exact absurd h2 h1
    · rw [h2, T.sizeL]
theorem SlF.len {l : List T} {i p : Nat} {N : List Row} (hN : NiceL l) (h : SlF w Q gn l i p N) : N.length = T.sizeL l := h.lenOf fun x hx => SlT.len x (NiceL.all.1 hN x hx)
/-- A tree of a forest, in its rows. -/
theorem SlF.at_ : ∀ {l : List T} {i p : Nat} {N : List Row} {j : Nat} {x : T}, NiceL l → SlF w Q gn l i p N → l[j]? = some x → ∃ A C B, N = A ++ C ++ B ∧ A.length = T.sizeL (l.take j) ∧ SlT w Q gn x (i + T.sizeL (l.take j)) p C
  | [], _, _, _, _, _, _, _, h => by simp at h
  | t :: l, i, p, N, 0, x, hN, h, hx => by
    rw [SlF] at h
    obtain ⟨C, D, rfl, h1, h2⟩ := h
    simp at hx
    subst hx
    exact ⟨[], C, D, by simp, by simp [T.sizeL], by simpa [T.sizeL] using h1⟩
  | t :: l, i, p, N, j + 1, x, hN, h, hx => by
    rw [SlF] at h
    rw [NiceL] at hN
    obtain ⟨C, D, rfl, h1, h2⟩ := h
    obtain ⟨A, C', B, rfl, h3, h4⟩ := SlF.at_ (j := j) hN.2 h2 (by simpa using hx)
    refine ⟨C ++ A, C', B, by simp, ?_, ?_⟩
    · rw [List.length_append, List.take_succ_cons, T.sizeL, SlT.len t hN.1 _ _ _ h1, h3]
    · rw [List.take_succ_cons, T.sizeL, ← Nat.add_assoc]
      exact h4
theorem SlT.head {t : T} {i p : Nat} {N : List Row} (h : SlT w Q gn t i p N) : ∃ r D, N = r :: D ∧ r.g = gn i ∧ r.lv = true := by
  cases t
  rw [SlT] at h
  obtain ⟨r, D, e, h1, h2, _⟩ := h
  exact ⟨r, D, e, h1, h2⟩
end
theorem hands_at (gn : Nat → Nat) : ∀ (i : Nat) (l : List T) (j : Nat) (x : T), l[j]? = some x → (hands gn i l)[j]? = some (.int .u64 (hand (gn (i + T.sizeL (l.take j))) (i + T.sizeL (l.take j)) : Nat))
  | _, [], _, _, h => by simp at h
  | i, t :: l, 0, x, h => by simp [hands, T.sizeL]
  | i, t :: l, j + 1, x, h => by
    rw [hands, List.getElem?_cons_succ, hands_at gn _ l j x (by simpa using h), List.take_succ_cons, T.sizeL, Nat.add_assoc]

set_option maxRecDepth 100000 in
set_option maxHeartbeats 1600000 in
theorem get_any (d : Nat) (Sv Rv : Value) (R : List Row) (i : Nat) (r : Row) (w : World) (hD : DocIs w d Sv Rv R) (hr : R[i]? = some r) (hl : r.lv = true) (hg : r.g < 4294967296) (hi : i < 1048576) :
    Calls Tryd.prog 70 #[.pointer (some ⟨d, 0, none⟩), .int .u64 (hand r.g i : Nat)] w (fun e w' => e = .returned (.tuple #[.agg #[.int .i64 r.k, .string r.n, .slice r.aa r.al r.ac, .string r.t, .slice none 0 0], .int .i64 0]) ∧ Below w.heap.size w w') := by
  obtain ⟨Rb, hRb⟩ : ∃ Rb, Rb = w.heap.size := ⟨_, rfl⟩
  obtain ⟨W1, hW1⟩ : ∃ W1, W1 = w.alloc (.cells #[Value.int .i64 0, .string ⟨#[]⟩, .slice none 0 0, .string ⟨#[]⟩, .slice none 0 0] 25) := ⟨_, rfl⟩
  have BW1 : Below w.heap.size w W1 := by rw [hW1]; exact below_al (Below.refl _ _) (Nat.le_refl _) _
  have R1 : Blk W1 Rb [.int .i64 0, .string ⟨#[]⟩, .slice none 0 0, .string ⟨#[]⟩, .slice none 0 0] 25 := by rw [hW1]; exact Blk.new' hRb
  have D1 := hD.below BW1
  have C1 := at_any d Sv Rv R i r W1 D1 hr hl hg hi
  obtain ⟨X, hX⟩ : ∃ X, X = hand r.g i := ⟨_, rfl⟩
  rw [← hX] at C1 ⊢
  have HH := Lib.hid (And.intro hr (And.intro BW1 (And.intro R1 (And.intro D1 (And.intro C1 (And.intro hRb hW1))))))
  clear hD hl hg hi hRb BW1 R1 D1 C1 hX hW1
  go_enter Tryd.func70, Tryd.ntmps70
  go_wp2_with fail
  rw [← HH.out.2.2.2.2.2.2, ← HH.out.2.2.2.2.2.1]
  refine HH.out.2.2.2.2.1.mono ?_
  rintro e w2 ⟨rfl, B2⟩
  have D2 := HH.out.2.2.2.1.below B2
  have R2 := (Upd.ofBelow (F := fun _ => False) B2).blk HH.out.2.2.1 (fun h => h)
  have hil := (List.getElem?_eq_some_iff.1 HH.out.1).1
  obtain ⟨sg, sc, rfl, hsc, c0, c1, c2, c3, c4, c5, c6, c7, fz⟩ := D2.row HH.out.1
  have d0 := D2.blk.cell 0
  have e0 := R2.cell 0
  have e1 := R2.cell 1
  have e2 := R2.cell 2
  have e3 := R2.cell 3
  have e4 := R2.cell 4
  have f0 := R2.free 0
  have f1 := R2.free 1
  have f2 := R2.free 2
  have f3 := R2.free 3
  have f4 := R2.free 4
  simp only [List.getElem?_cons_zero, List.getElem?_cons_succ] at d0 e0 e1 e2 e3 e4
  have i0 : (0 : Int) ≤ (i : Int) := Int.natCast_nonneg _
  have i1 : (i : Int) < (R.length : Int) := Int.ofNat_lt.2 hil
  have i2 : ¬ ((i : Int) < 0) := Int.not_lt.2 i0
  have hlt : Rb < w2.heap.size := R2.lt
  have hne : Rb ≠ w2.heap.size := Nat.ne_of_lt hlt
  have hdne : d ≠ w2.heap.size := Nat.ne_of_lt D2.blk.lt
  have BB := below_tr HH.out.2.1 B2
  have H2 := Lib.hid (And.intro R2 BB)
  clear D2 R2 fz B2 BB hr
  go_wp2
  generalize hW : World.alloc _ _ = W9
  have R9 : Blk W9 Rb [.int .i64 r.k, .string r.n, .slice r.aa r.al r.ac, .string r.t, .slice none 0 0] 25 := by
    rw [← hW]
    exact (((((H2.out.1.set 0 _).set 1 _).set 2 _).set 3 _).set 4 _).alloc _
  have B9 : Below w.heap.size w W9 := by
    have hRb := HH.out.2.2.2.2.2.1
    rw [← hW]
    have hU : Upd w W9 (fun _ => False) := by
      rw [← hW]
      have hh : ∀ q : Addr, q.block = Rb → q.block < w.heap.size → False := fun q e h => by omega
      exact ((((((Upd.ofBelow (F := fun _ => False) H2.out.2).set ⟨Rb, 0, none⟩ _ (hh _ rfl)).set ⟨Rb, 1, none⟩ _ (hh _ rfl)).set ⟨Rb, 2, none⟩ _ (hh _ rfl)).set ⟨Rb, 3, none⟩ _ (hh _ rfl)).set ⟨Rb, 4, none⟩ _ (hh _ rfl)).alloc _
    rw [hW]
    exact hU.below (Nat.le_refl _) (fun _ _ h => h)
  refine bodyPost_ret (results_row_tmp rfl _ _ Rb 25 _ (0, 0) _ rfl R9 Tryd.underlying25 rfl (by kernel_rfl)) rfl ?_
  exact ⟨rfl, B9⟩

end Df
end Go.Proofs.YtmmjmfadipmfiaaDoor

namespace Go.Proofs.YtmmjmfadipmfiaaDoor
open Go.RowKit
open Ch
namespace Df

/-- What has been read of children so far. -/
structure SubSt (w : World) (Q : Nat → Prop) (w' : World) (ks : List T) (j : Nat) (v : Value) (xs : List Value) : Prop where
  own : w'.ownsRow 0 25 5 v j xs
  low : ∀ g, v.ownBlock = some g → w.heap.size ≤ g
  forest : ForestAt w' (fun g => (Q g ∨ w.heap.size ≤ g) ∧ g < w'.heap.size ∧ v.ownBlock ≠ some g) (ks.take j) xs
theorem RdP.lt {w : World} {P : Nat → Prop} {sz n : Nat} {v : Value} {xs : List Value} (hsz : 0 < sz) (h : RdP w P sz v n xs) : RdP w (fun g => P g ∧ g < w.heap.size) sz v n xs := by
  refine ⟨h.1, fun hn g hg => ⟨h.2 hn g hg, ?_⟩⟩
  obtain ⟨hl, a, c, rfl, hc, hnn, h0 | ⟨g', off, rfl, hr⟩⟩ := h.1
  · exact absurd h0 hn
  · obtain rfl : g' = g := by simpa [Value.ownBlock] using hg
    have hp : 0 < xs.length := by rw [hl]; exact Nat.mul_pos (by omega) hsz
    exact cell_lt0 (hr 0 _ (List.getElem?_eq_getElem hp))

theorem SubSt.step {w wr w2 w3 w4 : World} {Q : Nat → Prop} {ks : List T} {j : Nat} {v v' : Value} {xs c : List Value} {x : T} (hQ : ∀ g, Q g → g < w.heap.size) (h : SubSt w Q wr ks j v xs) (hx : ks[j]? = some x) (hw : w.heap.size ≤ wr.heap.size) (hB : Upd wr w2 (fun _ => False))
    (hO : TreeAt w2 (fun g => Q g ∨ wr.heap.size ≤ g) x c) (h3 : Upd w2 w3 (fun _ => False)) (hA : AppPost w3 25 5 v j xs 1 c v' w4) : SubSt w Q w4 ks (j + 1) v' (xs ++ c) := by
  obtain ⟨o1, u1, b1⟩ := hA
  have hlt : ∀ g, v.ownBlock = some g → g < wr.heap.size := fun g hg => own_lt h.own hg
  have s1 := hB.size
  have s2 := h3.size
  have s3 := u1.size
  have hnew : ∀ g, g < w3.heap.size → v.ownBlock ≠ some g → v'.ownBlock ≠ some g := fun g h1 h2 h' => by
    rcases b1 with e | e
    · exact h2 (e ▸ h')
    · have := ob_some (e.symm.trans h')
      omega
  refine ⟨o1, fun g hg => ?_, ?_⟩
  · rcases b1 with e | e
    · exact h.low g (e ▸ hg)
    · have := ob_some (e.symm.trans hg)
      omega
  · rw [take_at hx]
    refine ForestIs.snoc ?_ ?_
    · refine ForestIs.mono (fun _ _ _ hr => ?_) (fun _ _ _ hr => ?_) h.forest
      all_goals
        exact (((hr.keep hB (fun _ _ h => h)).keep h3 (fun _ _ h => h)).keep u1 (fun g hg e => hg.2.2 e)).mono (fun g hg => ⟨hg.1, by have := hg.2.1; omega, hnew g (by have := hg.2.1; omega) hg.2.2⟩)
    · refine TreeIs.mono (fun _ _ _ hr => ?_) (fun _ _ _ hr => ?_) _ _ hO
      all_goals
        have hvn : ∀ g, (Q g ∨ wr.heap.size ≤ g) → v.ownBlock ≠ some g := fun g hg e => by
          have h1 := hlt g e
          have h2 := h.low g e
          rcases hg with hq | hq
          · have := hQ g hq
            omega
          · omega
        exact ((((RdP.lt (by omega) hr).keep h3 (fun _ _ h => h)).keep u1 (fun g hg e => hvn g hg.1 e))).mono (fun g hg => ⟨by
          rcases hg.1 with h | h
          · exact Or.inl h
          · exact Or.inr (by omega), by have := hg.2; omega, hnew g (by have := hg.2; omega) (hvn g hg.1)⟩)

def SubPost (w : World) (Q : Nat → Prop) (t : T) (e : Ending) (w' : World) : Prop := ∃ k n aa al ac tx ka kl kc, e = .returned (.tuple #[.agg #[.int .i64 k, .string n, .slice aa al ac, .string tx, .slice ka kl kc], .int .i64 0]) ∧ TreeAt w' (fun g => Q g ∨ w.heap.size ≤ g) t [.int .i64 k, .string n, .slice aa al ac, .string tx, .slice ka kl kc] ∧ Below w.heap.size w w'

set_option maxRecDepth 100000 in
set_option maxHeartbeats 1600000 in
theorem sub_any (Q : Nat → Prop) (d : Nat) (gn : Nat → Nat) (hgn : ∀ i, gn i < 4294967296) : ∀ t : T, Nice t → ∀ (Sv Rv : Value) (Pre N Suf : List Row) (p : Nat) (w : World), DocIs w d Sv Rv (Pre ++ N ++ Suf) → SlT w Q gn t Pre.length p N → (∀ g, Q g → g < w.heap.size) → (Pre ++ N ++ Suf).length ≤ 65536 →
    Calls Tryd.prog 50 #[.pointer (some ⟨d, 0, none⟩), .int .u64 (hand (gn Pre.length) Pre.length : Nat)] w (SubPost w Q t) := by
  refine T.ind ?_
  intro k n al tx ks ih hN Sv Rv Pre N Suf p w hD hT hQ hlen
  obtain ⟨i, hi⟩ : ∃ i, i = Pre.length := ⟨_, rfl⟩
  rw [Nice] at hN
  rw [SlT] at hT
  obtain ⟨r, D, rfl, t1, t2, t3, t4, t5, t6, t7, t8, t9⟩ := hT
  have hr : (Pre ++ (r :: D) ++ Suf)[i]? = some r := by
    rw [hi, List.append_assoc, List.getElem?_append_right (Nat.le_refl _), Nat.sub_self]
    rfl
  obtain ⟨R, hR⟩ : ∃ R, R = Pre ++ (r :: D) ++ Suf := ⟨_, rfl⟩
  rw [← hR] at hD hr hlen
  have hil := (List.getElem?_eq_some_iff.1 hr).1
  obtain ⟨Rb, hRb⟩ : ∃ Rb, Rb = w.heap.size := ⟨_, rfl⟩
  obtain ⟨W1, hW1⟩ : ∃ W1, W1 = w.alloc (.cells #[Value.int .i64 0, .string ⟨#[]⟩, .slice none 0 0, .string ⟨#[]⟩, .slice none 0 0] 25) := ⟨_, rfl⟩
  have BW1 : Below w.heap.size w W1 := by rw [hW1]; exact below_al (Below.refl _ _) (Nat.le_refl _) _
  have R1 : Blk W1 Rb [.int .i64 0, .string ⟨#[]⟩, .slice none 0 0, .string ⟨#[]⟩, .slice none 0 0] 25 := by rw [hW1]; exact Blk.new' hRb
  have D1 := hD.below BW1
  have C1 := get_any d Sv Rv R i r W1 D1 hr t2 (by rw [t1]; exact hgn _) (by omega)
  rw [t1, ← hi] at C1
  rw [t3, t4, t5] at C1
  have t7' : r.al = al.length ∧ r.kl = ks.length := by
    obtain ⟨_, _, _, e, _⟩ := t7.1
    obtain ⟨_, _, _, e', _⟩ := t8.1
    simp only [Value.slice.injEq] at e e'
    exact ⟨e.2.1, e'.2.1⟩
  obtain ⟨X, hX⟩ : ∃ X, X = hand (gn i) i := ⟨_, rfl⟩
  rw [← hi, ← hX]
  rw [← hX] at C1
  have HH := Lib.hid (And.intro hR (And.intro hD (And.intro hr (And.intro hQ (And.intro ih (And.intro hN (And.intro t1 (And.intro t2 (And.intro t7 (And.intro t8 (And.intro t9 (And.intro t7' (And.intro hi (And.intro hX (And.intro hlen hil)))))))))))))))
  have H1 := Lib.hid (And.intro BW1 (And.intro R1 (And.intro D1 (And.intro C1 (And.intro hRb hW1)))))
  clear hR hD hr hQ ih hN t1 t2 t3 t4 t5 t6 t7 t8 t9 t7' hi hX hlen hil BW1 R1 D1 C1 hRb hW1
  go_enter Tryd.func50, Tryd.ntmps50
  go_wp2_with fail
  rw [← H1.out.2.2.2.2.2, ← H1.out.2.2.2.2.1]
  refine H1.out.2.2.2.1.mono ?_
  rintro e w2 ⟨rfl, B2⟩
  have BB := below_tr H1.out.1 B2
  have R2 := (Upd.ofBelow (F := fun _ => False) B2).blk H1.out.2.1 (fun h => h)
  obtain ⟨Tb, hTb⟩ : ∃ Tb, Tb = w2.heap.size := ⟨_, rfl⟩
  obtain ⟨W3, hW3⟩ : ∃ W3, W3 = w2.alloc (.cells #[Value.int .i64 k, .string n, .slice r.aa r.al r.ac, .string tx, .slice none 0 0] 25) := ⟨_, rfl⟩
  have B3 : Below w2.heap.size w2 W3 := by rw [hW3]; exact below_al (Below.refl _ _) (Nat.le_refl _) _
  have U3 := Upd.ofBelow (F := fun _ => False) B3
  have T3 : Blk W3 Tb [.int .i64 k, .string n, .slice r.aa r.al r.ac, .string tx, .slice none 0 0] 25 := by rw [hW3]; exact Blk.new' hTb
  have R3 := U3.blk R2 (fun h => h)
  have BB3 := below_tr BB B3
  have hRT : Rb < Tb := by rw [hTb]; exact R2.lt
  have C3 := list_any d Sv Rv R i r W3 (HH.out.2.1.below BB3) HH.out.2.2.1 HH.out.2.2.2.2.2.2.2.1 (by rw [HH.out.2.2.2.2.2.2.1]; exact hgn _) (by have := HH.out.2.2.2.2.2.2.2.2.2.2.2.2.2.2; omega)
  rw [HH.out.2.2.2.2.2.2.1, ← HH.out.2.2.2.2.2.2.2.2.2.2.2.2.1, ← HH.out.2.2.2.2.2.2.2.2.2.2.2.2.2.1] at C3
  have H3 := Lib.hid (And.intro BB3 (And.intro T3 (And.intro R3 (And.intro hRT (And.intro C3 (And.intro hTb hW3))))))
  clear BB R2 hTb hW3 B3 U3 T3 R3 BB3 hRT C3 B2
  go_wp2_with fail
  rw [← H3.out.2.2.2.2.2.2, ← H3.out.2.2.2.2.2.1]
  refine H3.out.2.2.2.2.1.mono ?_
  rintro e w4 ⟨rfl, B4⟩
  have U4 := Upd.ofBelow (F := fun _ => False) B4
  have T4 := U4.blk H3.out.2.1 (fun h => h)
  have R4 := U4.blk H3.out.2.2.1 (fun h => h)
  have BB4 := below_tr H3.out.1 B4
  have kal : r.al = al.length := HH.out.2.2.2.2.2.2.2.2.2.2.2.1.1
  have kkl : r.kl = ks.length := HH.out.2.2.2.2.2.2.2.2.2.2.2.1.2
  have H4 := Lib.hid (And.intro BB4 (And.intro T4 R4))
  have hTlt := T4.lt
  have HTl := Lib.hid hTlt
  obtain ⟨kl, hkl⟩ : ∃ kl, kl = r.kl := ⟨_, rfl⟩
  have HKL := Lib.hid (hkl.trans kkl)
  obtain ⟨ka, hka⟩ : ∃ ka, ka = r.ka := ⟨_, rfl⟩
  obtain ⟨kcc, hkcc⟩ : ∃ kc, kc = r.kc := ⟨_, rfl⟩
  have HKA := Lib.hid (And.intro hka hkcc)
  rw [← hkl, ← hka, ← hkcc]
  clear U4 T4 R4 BB4 kal kkl hkl B4 hTlt hka hkcc
  go_wp2
  go_loopg [9, 10, 11] kl (fun kq v9 v10 v11 w' => ∃ (j : Nat) (l3 : Option Addr) (c3 : Nat), v9 = .int .i64 j ∧ Hid (kq = kl - j ∧ j ≤ kl) ∧ Hid (∃ xs, SubSt w4 Q w' ks j (.slice l3 j c3) xs) ∧ Hid (Upd w4 w' (fun g => g = Tb ∨ w4.heap.size ≤ g)) ∧ Hid (Blk w' Tb [.int .i64 k, .string n, .slice r.aa r.al r.ac, .string tx, .slice l3 j c3] 25))
  case atStart =>
    refine ⟨0, none, 0, rfl, Lib.hid ⟨rfl, Nat.zero_le _⟩, Lib.hid ⟨[], own_none, (fun g h => by cases h), ?_⟩, Lib.hid (Upd.refl _ _), Lib.hid H4.out.2.1⟩
    unfold ForestAt
    rw [List.take_zero, ForestIs]
  case round =>
    obtain ⟨j, l3, c3, rfl, HJ, HS, HU, HB⟩ := hrel
    have hj0 : (0 : Int) ≤ (j : Int) := by omega
    by_cases hj : j < kl
    · have hj1 : (j : Int) < (kl : Int) := by omega
      have hj2 : decide (j < kl) = true := decide_eq_true hj
      obtain ⟨x, hx⟩ : ∃ x, ks[j]? = some x := ⟨ks[j]'(by have := HKL.out; omega), List.getElem?_eq_getElem _⟩
      -- the frame so far
      have hTw : w.heap.size ≤ Tb := by
        have h1 := H3.out.2.2.2.1
        have h2 := H1.out.2.2.2.2.1
        omega
      have Uw : Upd w wr (fun _ => False) := (Upd.ofBelow H4.out.1).trans HU.out (fun g hg e => by
        rcases e with e | e
        · omega
        · have := H4.out.1.size; omega)
      have Dr := HH.out.2.1.keep Uw (fun h => h) (fun _ _ h => h)
      have hkids := (HH.out.2.2.2.2.2.2.2.2.2.1.keep Uw (fun _ _ h => h)).1
      have hat := hands_at gn (i + 1) ks j x hx
      rw [HH.out.2.2.2.2.2.2.2.2.2.2.2.2.1] at hat
      obtain ⟨kg, koff, kc', ekk, _, hkc⟩ := hkids.at_ hat
      obtain ⟨A, C, B, hD', hA', hC'⟩ := SlF.at_ HH.out.2.2.2.2.2.1.2 (HH.out.2.2.2.2.2.2.2.2.2.2.1.upd Uw (fun _ _ h => h) (fun _ h => h)) hx
      have hPre : (Pre ++ (r :: A)).length = i + 1 + T.sizeL (ks.take j) := by
        rw [HH.out.2.2.2.2.2.2.2.2.2.2.2.2.1, List.length_append, List.length_cons, hA']
        omega
      have hRR : R = (Pre ++ (r :: A)) ++ C ++ (B ++ Suf) := by
        rw [HH.out.1, hD']
        simp
      rw [hRR] at Dr
      have hpos : Pre.length + 1 + T.sizeL (ks.take j) = (Pre ++ (r :: A)).length := by rw [hPre, HH.out.2.2.2.2.2.2.2.2.2.2.2.2.1]
      rw [hpos] at hC' hkc
      have CC := HH.out.2.2.2.2.1 x (List.mem_of_getElem? hx) (NiceL.all.1 HH.out.2.2.2.2.2.1.2 x (List.mem_of_getElem? hx)) Sv Rv (Pre ++ (r :: A)) C (B ++ Suf) _ wr Dr hC' (fun g hg => by have := HH.out.2.2.2.1 g hg; have := Uw.size; omega) (by rw [← hRR]; exact HH.out.2.2.2.2.2.2.2.2.2.2.2.2.2.2.1)
      obtain ⟨Y, hY⟩ : ∃ Y, Y = hand (gn (Pre ++ (r :: A)).length) (Pre ++ (r :: A)).length := ⟨_, rfl⟩
      rw [← hY] at CC hkc
      simp only [Value.slice.injEq] at ekk
      obtain ⟨eka, _, ekc⟩ := ekk
      have eka' := HKA.out.1.trans eka
      have ekc' := HKA.out.2.trans ekc
      subst eka'
      subst ekc'
      have HCC := Lib.hid (And.intro CC Uw)
      have HX := Lib.hid (And.intro hx hj)
      clear hx hj hTw Uw Dr hkids hat hD' hA' hC' hPre hRR hpos CC hY eka ekc
      go_wp2_with fail
      refine HCC.out.1.mono ?_
      rintro e w6 ⟨yk, yn, yaa, yal, yac, yt, yka, ykl, ykc, rfl, hO, B6⟩
      have U6 : Upd wr w6 (fun _ => False) := Upd.ofBelow B6
      have T6 := U6.blk HB.out (fun h => h)
      have hTlt6 := T6.lt
      obtain ⟨Kb, hKb⟩ : ∃ Kb, Kb = w6.heap.size := ⟨_, rfl⟩
      obtain ⟨W7, hW7⟩ : ∃ W7, W7 = w6.alloc (.cells #[Value.int .i64 yk, .string yn, .slice yaa yal yac, .string yt, .slice yka ykl ykc] 25) := ⟨_, rfl⟩
      have U7 : Upd w6 W7 (fun _ => False) := by rw [hW7]; exact (Upd.refl w6 _).alloc _
      have T7 := U7.blk T6 (fun h => h)
      have K7 : Blk W7 Kb [.int .i64 yk, .string yn, .slice yaa yal yac, .string yt, .slice yka ykl ykc] 25 := by rw [hW7]; exact Blk.new' hKb
      have t4 := T7.cell 4
      have k0 := K7.cell 0
      have k1 := K7.cell 1
      have k2 := K7.cell 2
      have k3 := K7.cell 3
      have k4 := K7.cell 4
      simp only [List.getElem?_cons_zero, List.getElem?_cons_succ] at t4 k0 k1 k2 k3 k4
      have hb4 := T6.cell 4
      simp only [List.getElem?_cons_zero, List.getElem?_cons_succ] at hb4
      have hTne : Tb ≠ w6.heap.size := Nat.ne_of_lt hTlt6
      have H7 := Lib.hid (And.intro hO (And.intro U6 (And.intro U7 (And.intro T7 (And.intro K7 (And.intro hKb (And.intro hW7 hTlt6)))))))
      clear hO B6 U6 T6 U7 T7 K7 hKb hW7 hkc
      go_wp2_with (at_builtin; refine halt_mk ?_)
      refine halt_go ?_
      obtain ⟨q, hq'⟩ : ∃ q, q = w6.heap.size + 1 := ⟨_, rfl⟩
      rw [← hq']
      have hq : q = W7.heap.size := by rw [H7.out.2.2.2.2.2.2.1, hq']; simp
      obtain ⟨hO, U6, U7, T7, K7, hKb, hW7, hTl⟩ := H7.out
      rw [← hW7]
      generalize hW : World.alloc W7 _ = W8
      have U8 : Upd W7 W8 (fun _ => False) := by rw [← hW]; exact (Upd.refl W7 _).alloc _
      have X8 : Blk W8 q [.int .i64 yk, .string yn, .slice yaa yal yac, .string yt, .slice yka ykl ykc] 25 := by rw [← hW]; exact Blk.new' hq
      obtain ⟨xs, hC⟩ := HS.out
      have U68 : Upd w6 W8 (fun _ => False) := U7.trans U8 (fun _ _ h => h)
      have Ur8 : Upd wr W8 (fun _ => False) := U6.trans U68 (fun _ _ h => h)
      have O8 := own_keep hC.own Ur8 (fun _ _ h => h)
      have hkb : ks.length ≤ 65536 := by
        have h1 := SlF.len HH.out.2.2.2.2.2.1.2 HH.out.2.2.2.2.2.2.2.2.2.2.1
        have h2 := HH.out.2.2.2.2.2.2.2.2.2.2.2.2.2.2.1
        have h3 := sizeL_len ks
        have h4 : R.length = _ := congrArg List.length HH.out.1
        simp at h4
        omega
      have hjk : j < ks.length := by have := HX.out.2; have := HKL.out; omega
      refine wpl_app (n := j) (m := 1) rfl rfl elemTree Tryd.underlying23 rfl O8 rfl (Rd.ofBlk X8 1 5 rfl) (by simp [Value.oneCell']) (by omega) ?_
      intro v9 w9 hA
      obtain ⟨l9, c9, rfl, _⟩ := (Rd.ofOwn hA.1).form
      have hTw : w.heap.size ≤ Tb := by
        have h1 := H3.out.2.2.2.1
        have h2 := H1.out.2.2.2.2.1
        omega
      have s4 := H4.out.1.size
      have sr := HU.out.size
      have hTne2 : (Value.slice l3 j c3).ownBlock ≠ some Tb := fun e => by
        have := hC.low _ e
        have := HTl.out
        omega
      have S9 := hC.step (fun g hg => by have := HH.out.2.2.2.1 g hg; omega) HX.out.1 sr U6 hO U68 hA
      have T8 := (U68.blk (U6.blk HB.out (fun h => h)) (fun h => h))
      have T9 := hA.2.1.blk T8 hTne2
      have V9 : Upd w4 w9 (fun g => g = Tb ∨ w4.heap.size ≤ g) := (HU.out.trans Ur8 (fun _ _ h => h.elim)).trans hA.2.1 (fun g hg e => Or.inr (hC.low g e))
      have t4 := T9.cell 4
      have f4 := T9.free 4
      simp only [List.getElem?_cons_zero, List.getElem?_cons_succ] at t4
      have H9 := Lib.hid (And.intro S9 (And.intro T9 (And.intro V9 (And.intro hTne2 (And.intro hTw hkb)))))
      clear hq hq' hO U6 U7 T7 K7 hKb hW7 hTl hW U8 X8 hC U68 Ur8 O8 hkb hjk hA hTw s4 sr hTne2 S9 T8 T9 V9 hb4 k0 k1 k2 k3 k4 hTne hTlt6
      go_wp2
      go_roundg (kl - (j + 1))
      case measure => have := HJ.out; have := HX.out; omega
      case rel =>
        have U9 : Upd w9 (w9.setCell ⟨Tb, 4, none⟩ (.slice l9 (j + 1) c9)) (· = Tb) := (Upd.refl w9 (· = Tb)).set ⟨Tb, 4, none⟩ _ (fun _ => rfl)
        have hS := H9.out.1
        refine ⟨j + 1, l9, c9, v64s HX.out.2 (by have := HKL.out; have := H9.out.2.2.2.2.2; omega), Lib.hid ⟨rfl, HX.out.2⟩, Lib.hid ⟨_, own_keep hS.own U9 (fun g hg e => ?_), hS.low, ?_⟩, Lib.hid (H9.out.2.2.1.trans U9 (fun _ _ h => Or.inl h)), Lib.hid (H9.out.2.1.set 4 _)⟩
        · have := hS.low g hg
          have := HTl.out
          omega
        · refine ForestIs.mono (fun _ _ _ hr => ?_) (fun _ _ _ hr => ?_) hS.forest
          all_goals
            exact (hr.keep U9 (fun g hg e => by
              rcases hg.1 with h | h
              · have := HH.out.2.2.2.1 g h
                have := H9.out.2.2.2.2.1
                omega
              · have := HTl.out
                omega)).mono (fun g hg => ⟨hg.1, by have := U9.size; omega, hg.2.2⟩)
    · have hj1 : ¬ (j : Int) < (kl : Int) := by omega
      have hj2 : decide (j < kl) = false := decide_eq_false hj
      have ej : j = ks.length := by have := HJ.out; have := HKL.out; omega
      have HE := Lib.hid ej
      have hRB := HU.out.blk H4.out.2.2 (fun h => by
        have h1 := H3.out.2.2.2.1
        have h2 := H4.out.2.2.lt
        rcases h with h | h <;> omega)
      have t0 := HB.out.cell 0
      have t1 := HB.out.cell 1
      have t2 := HB.out.cell 2
      have t3 := HB.out.cell 3
      have t4 := HB.out.cell 4
      have e0 := hRB.cell 0
      have e1 := hRB.cell 1
      have e2 := hRB.cell 2
      have e3 := hRB.cell 3
      have e4 := hRB.cell 4
      have f0 := hRB.free 0
      have f1 := hRB.free 1
      have f2 := hRB.free 2
      have f3 := hRB.free 3
      have f4 := hRB.free 4
      simp only [List.getElem?_cons_zero, List.getElem?_cons_succ] at t0 t1 t2 t3 t4 e0 e1 e2 e3 e4
      have HRB := Lib.hid hRB
      clear hj ej hRB
      go_wp2
      generalize hW : World.setCell (World.setCell (World.setCell (World.setCell (World.setCell _ _ _) _ _) _ _) _ _) _ _ = W9
      have ej := HE.out
      subst ej
      have R9 : Blk W9 Rb [.int .i64 k, .string n, .slice r.aa r.al r.ac, .string tx, .slice l3 ks.length c3] 25 := by
        rw [← hW]
        exact ((((HRB.out.set 0 _).set 1 _).set 2 _).set 3 _).set 4 _
      have U9 : Upd wr W9 (fun g => g = Rb) := by
        rw [← hW]
        exact ((((((Upd.refl wr (fun g => g = Rb)).set ⟨Rb, 0, none⟩ _ (fun _ => rfl)).set ⟨Rb, 1, none⟩ _ (fun _ => rfl)).set ⟨Rb, 2, none⟩ _ (fun _ => rfl)).set ⟨Rb, 3, none⟩ _ (fun _ => rfl)).set ⟨Rb, 4, none⟩ _ (fun _ => rfl))
      have hRw : Rb = w.heap.size := H1.out.2.2.2.2.1
      have hRT := H3.out.2.2.2.1
      have s4 := H4.out.1.size
      have Uw : Upd w wr (fun _ => False) := (Upd.ofBelow H4.out.1).trans HU.out (fun g hg e => by
        rcases e with e | e <;> omega)
      have Uw9 : Upd w W9 (fun _ => False) := Uw.trans U9 (fun g hg e => by omega)
      refine bodyPost_ret (results_row_tmp rfl _ _ Rb 25 _ (0, 0) _ rfl R9 Tryd.underlying25 rfl (by kernel_rfl)) rfl ?_
      refine ⟨k, n, r.aa, r.al, r.ac, tx, l3, ks.length, c3, rfl, ?_, Uw9.below (Nat.le_refl _) (fun _ _ h => h)⟩
      obtain ⟨xs, hC⟩ := HS.out
      have hF := hC.forest
      rw [List.take_length] at hF
      unfold TreeAt
      rw [TreeIs]
      have kal : r.al = al.length := HH.out.2.2.2.2.2.2.2.2.2.2.2.1.1
      refine ⟨r.aa, r.ac, l3, c3, xs, by rw [kal], ?_, ?_, ?_⟩
      · have h := HH.out.2.2.2.2.2.2.2.2.1.keep Uw9 (fun _ _ h => h)
        rw [kal] at h
        exact h.mono (fun _ hq => Or.inl hq)
      · refine ⟨(Rd.ofOwn hC.own).keep U9 (fun g hg e => ?_), fun _ g hg => Or.inr (Nat.le_trans s4 (hC.low g hg))⟩
        have := hC.low g hg
        have := HTl.out
        omega
      · refine ForestIs.mono (fun _ _ _ hr => ?_) (fun _ _ _ hr => ?_) hF
        all_goals
          exact (hr.keep U9 (fun g hg e => by
            rcases hg.1 with h | h
            · have := HH.out.2.2.2.1 g h
              omega
            · have := HTl.out
              omega)).mono (fun g hg => hg.1.imp id (fun h => Nat.le_trans s4 h))

end Df
end Go.Proofs.YtmmjmfadipmfiaaDoor

namespace Go.Proofs.YtmmjmfadipmfiaaDoor
open Go.RowKit
open Ch
namespace Df

def ForestPost (w : World) (f : List T) (e : Ending) (w' : World) : Prop := ∃ a c, e = .returned (.slice a f.length c) ∧ Ch.Forest w' (fun _ => True) f a c ∧ Below w.heap.size w w'

set_option maxRecDepth 100000 in
set_option maxHeartbeats 1600000 in
theorem forest_any (B d : Nat) (gn : Nat → Nat) (k ge m : Nat) (f : List T) (Sv : Value) (ra : Option Addr) (rc : Nat) (N : List Row) (w : World) (hgn : ∀ i, gn i < 4294967296) (hS : DocSt w B d gn k ge m f Sv ra rc N) (hN : NiceL f) (hlen : k + N.length + m ≤ 65536) :
    Calls Tryd.prog 33 #[.pointer (some ⟨d, 0, none⟩)] w (ForestPost w f) := by
  obtain ⟨q0, hq0⟩ : ∃ q0, q0 = w.heap.size := ⟨_, rfl⟩
  have hfl := sizeL_len f
  have hn := hS.len
  have hsd := hS.doc.blk.lt
  have HH := Lib.hid (And.intro hS (And.intro hN (And.intro hlen (And.intro hq0 (And.intro (show f.length ≤ 65536 by omega) hgn)))))
  clear hS hN hlen hq0 hfl hn hsd hgn
  go_enter Tryd.func33, Tryd.ntmps33
  go_wp2
  rw [← HH.out.2.2.2.1]
  generalize hW : World.alloc _ _ = W1
  have B1 : Below w.heap.size w W1 := by rw [← hW]; exact below_al (Below.refl _ _) (Nat.le_refl _) _
  have O1 : W1.ownsRow 0 25 5 (.slice (some ⟨q0, 0, none⟩) 0 0) 0 [] := by rw [← hW]; exact own_lit_sz HH.out.2.2.2.1
  have H1 := Lib.hid (And.intro B1 O1)
  obtain ⟨n, hnf⟩ : ∃ n, n = f.length := ⟨_, rfl⟩
  have HN := Lib.hid hnf
  clear hW B1 O1 hnf
  go_loopg [3, 4, 5, 6] n (fun kq v3 v4 v5 v6 w' => ∃ (j : Nat) (l3 : Option Addr) (c3 : Nat), v3 = .slice l3 j c3 ∧ v4 = .int .i64 j ∧ Hid (kq = n - j ∧ j ≤ n) ∧ Hid (∃ xs, SubSt w (fun g => B ≤ g ∧ g < w.heap.size ∧ Sv.ownBlock ≠ some g ∧ g ≠ d) w' f j (.slice l3 j c3) xs) ∧ Hid (Below w.heap.size w w'))
  case atStart =>
    refine ⟨0, some ⟨q0, 0, none⟩, 0, rfl, rfl, Lib.hid ⟨rfl, Nat.zero_le _⟩, Lib.hid ⟨[], H1.out.2, (fun g h => by have := ob_eq h; have := HH.out.2.2.2.1; omega), ?_⟩, Lib.hid H1.out.1⟩
    unfold ForestAt
    rw [List.take_zero, ForestIs]
  case round =>
    obtain ⟨j, l3, c3, rfl, rfl, HJ, HS, HB⟩ := hrel
    have hj0 : (0 : Int) ≤ (j : Int) := by omega
    have Ur := Upd.ofBelow (F := fun _ => False) HB.out
    have Dr := HH.out.1.doc.keep Ur (fun h => h) (fun _ _ h => h)
    have d1 := Dr.blk.cell 1
    have hdlt := Dr.blk.lt
    simp only [List.getElem?_cons_zero, List.getElem?_cons_succ] at d1
    rw [← HN.out] at d1
    by_cases hj : j < n
    · have hj1 : (j : Int) < (n : Int) := by omega
      have hj2 : decide (j < n) = true := decide_eq_true hj
      obtain ⟨x, hx⟩ : ∃ x, f[j]? = some x := ⟨f[j]'(by have := HN.out; omega), List.getElem?_eq_getElem _⟩
      have hroots := Rd.ofOwn (own_keep HH.out.1.roots Ur (fun _ _ h => h))
      have hat := hands_at gn k f j x hx
      obtain ⟨kg, koff, kc', ekk, hkc', hkc⟩ := hroots.at_ hat
      obtain ⟨A, C, B2, hD', hA', hC'⟩ := SlF.at_ HH.out.2.1 (HH.out.1.slots.upd Ur (fun _ _ h => h) (fun _ h => h)) hx
      have hPre : (List.replicate k (dead 1) ++ A).length = k + T.sizeL (f.take j) := by rw [List.length_append, List.length_replicate, hA']
      have hRR : List.replicate k (dead 1) ++ N ++ List.replicate m (dead ge) = (List.replicate k (dead 1) ++ A) ++ C ++ (B2 ++ List.replicate m (dead ge)) := by
        rw [hD']
        simp
      rw [hRR] at Dr
      rw [← hPre] at hC' hkc
      have hll : ((List.replicate k (dead 1) ++ A) ++ C ++ (B2 ++ List.replicate m (dead ge))).length ≤ 65536 := by
        rw [← hRR]
        have := HH.out.2.2.1
        simp
        omega
      have CC := sub_any (fun g => B ≤ g ∧ g < w.heap.size ∧ Sv.ownBlock ≠ some g ∧ g ≠ d) d gn HH.out.2.2.2.2.2 x (NiceL.all.1 HH.out.2.1 x (List.mem_of_getElem? hx)) Sv (.slice ra f.length rc) (List.replicate k (dead 1) ++ A) C (B2 ++ List.replicate m (dead ge)) _ wr Dr hC' (fun g hg => by have := hg.2.1; have := Ur.size; omega) hll
      obtain ⟨Y, hY⟩ : ∃ Y, Y = hand (gn (List.replicate k (dead 1) ++ A).length) (List.replicate k (dead 1) ++ A).length := ⟨_, rfl⟩
      rw [← hY] at CC hkc
      simp only [Value.slice.injEq] at ekk
      obtain ⟨rfl, _, rfl⟩ := ekk
      rw [← HN.out] at hkc'
      have HCC := Lib.hid (And.intro CC Ur)
      have HX := Lib.hid (And.intro hx hj)
      clear hx hj Ur Dr hroots hat hD' hA' hC' hPre hRR hll CC hY
      go_wp2_with fail
      refine HCC.out.1.mono ?_
      rintro e w6 ⟨yk, yn, yaa, yal, yac, yt, yka, ykl, ykc, rfl, hO, B6⟩
      have U6 : Upd wr w6 (fun _ => False) := Upd.ofBelow B6
      have H6 := Lib.hid (And.intro hO (And.intro U6 (below_tr HB.out B6)))
      clear hO B6 U6 hkc d1
      go_wp2_with (at_builtin; refine halt_mk ?_)
      refine halt_go ?_
      obtain ⟨q, hq'⟩ : ∃ q, q = w6.heap.size + 1 := ⟨_, rfl⟩
      rw [← hq']
      generalize hW : World.alloc (World.alloc w6 _) _ = W8
      have U8 : Upd w6 W8 (fun _ => False) := by rw [← hW]; exact ((Upd.refl w6 _).alloc _).alloc _
      have X8 : Blk W8 q [.int .i64 yk, .string yn, .slice yaa yal yac, .string yt, .slice yka ykl ykc] 25 := by rw [← hW]; exact Blk.new' (by rw [hq']; simp)
      obtain ⟨hO, U6, B6⟩ := H6.out
      obtain ⟨xs, hC⟩ := HS.out
      have Ur8 : Upd wr W8 (fun _ => False) := U6.trans U8 (fun _ _ h => h)
      have O8 := own_keep hC.own Ur8 (fun _ _ h => h)
      refine wpl_app (n := j) (m := 1) rfl rfl elemTree Tryd.underlying23 rfl O8 rfl (Rd.ofBlk X8 1 5 rfl) (by simp [Value.oneCell']) (by have := HX.out.2; have := HN.out; have := HH.out.2.2.2.2.1; omega) ?_
      intro v9 w9 hA
      obtain ⟨l9, c9, rfl, _⟩ := (Rd.ofOwn hA.1).form
      have S9 := hC.step (fun g hg => hg.2.1) HX.out.1 HB.out.size U6 hO U8 hA
      have U9 : Upd w w9 (fun _ => False) := ((Upd.ofBelow HB.out).trans Ur8 (fun _ _ h => h)).trans hA.2.1 (fun g hg e => by have := hC.low g e; omega)
      have H9 := Lib.hid (And.intro S9 (U9.below (Nat.le_refl _) (fun _ _ h => h)))
      clear hq' hW U8 X8 hO U6 B6 hC Ur8 O8 hA S9 U9
      go_wp2
      go_roundg (n - (j + 1))
      case measure => have := HJ.out; have := HX.out; omega
      case rel => exact ⟨j + 1, l9, c9, rfl, v64s HX.out.2 (by have := HN.out; have := HH.out.2.2.2.2.1; omega), Lib.hid ⟨rfl, HX.out.2⟩, Lib.hid ⟨_, H9.out.1⟩, Lib.hid H9.out.2⟩
    · have hj1 : ¬ (j : Int) < (n : Int) := by omega
      have hj2 : decide (j < n) = false := decide_eq_false hj
      have ej : j = f.length := by have := HJ.out; have := HN.out; omega
      have HE := Lib.hid ej
      clear hj ej Ur Dr
      go_wp2
      go_ret
      have ej := HE.out
      subst ej
      obtain ⟨xs, hC⟩ := HS.out
      have hF := hC.forest
      rw [List.take_length] at hF
      exact ⟨l3, c3, rfl, ⟨xs, ⟨Rd.ofOwn hC.own, fun _ _ _ => trivial⟩, ForestIs.mono (fun _ _ _ hr => hr.mono (fun _ _ => trivial)) (fun _ _ _ hr => hr.mono (fun _ _ => trivial)) hF⟩, HB.out⟩

end Df
end Go.Proofs.YtmmjmfadipmfiaaDoor
