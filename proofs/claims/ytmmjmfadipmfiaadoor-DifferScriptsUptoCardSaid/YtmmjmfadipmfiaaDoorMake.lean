/- Trees in rows; the document's make, walked. -/
import Derived.Test.YtmmjmfadipmfiaaDoorDoc
import Derived.Test.YtmmjmfadipmfiaaDoorRLook
namespace Go.Proofs.YtmmjmfadipmfiaaDoor
open Go.RowKit
open Ch
namespace Df

/-- The generation of an index: those ahead of M were given ge times. -/
def gen (ge M i : Nat) : Nat := if i < M then ge + 1 else 1
def hands (gn : Nat → Nat) : Nat → List T → List Value
  | _, [] => []
  | i, t :: l => .int .u64 (hand (gn i) i : Nat) :: hands gn (i + T.size t) l
theorem hands_len (gn : Nat → Nat) : ∀ (i : Nat) (l : List T), (hands gn i l).length = l.length
  | _, [] => rfl
  | i, t :: l => by rw [hands, List.length_cons, hands_len gn _ l, List.length_cons]
theorem hands_snoc (gn : Nat → Nat) (t : T) : ∀ (i : Nat) (l : List T), hands gn i (l ++ [t]) = hands gn i l ++ [.int .u64 (hand (gn (i + T.sizeL l)) (i + T.sizeL l) : Nat)]
  | i, [] => by simp [hands, T.sizeL]
  | i, s :: l => by
    rw [List.cons_append, hands, hands, hands_snoc gn t _ l, T.sizeL, Nat.add_assoc]
    rfl
theorem hands_one (gn : Nat → Nat) : ∀ (i : Nat) (l : List T), ∀ u ∈ hands gn i l, u.oneCell' = true
  | _, [], u, h => by cases h
  | i, t :: l, u, h => by
    rw [hands] at h
    rcases List.mem_cons.1 h with rfl | h
    · rfl
    · exact hands_one gn _ l u h

mutual
/-- A tree in rows, from an index on. -/
def SlT (w : World) (Q : Nat → Prop) (gn : Nat → Nat) : T → Nat → Nat → List Row → Prop
  | .mk k n al t ks, i, p, N => ∃ r D, N = r :: D ∧ r.g = gn i ∧ r.lv = true ∧ r.k = k ∧ r.n = n ∧ r.t = t ∧ r.p = p ∧ RdP w Q 2 (.slice r.aa r.al r.ac) al.length (atc al) ∧ RdP w Q 1 (.slice r.ka r.kl r.kc) ks.length (hands gn (i + 1) ks) ∧ SlF w Q gn ks (i + 1) (hand (gn i) i) D
def SlF (w : World) (Q : Nat → Prop) (gn : Nat → Nat) : List T → Nat → Nat → List Row → Prop
  | [], _, _, N => N = []
  | t :: l, i, p, N => ∃ C D, N = C ++ D ∧ SlT w Q gn t i p C ∧ SlF w Q gn l (i + T.size t) p D
end

section
variable {w w' : World} {Q Q' : Nat → Prop} {gn : Nat → Nat}
theorem SlF.of : ∀ {l : List T} {i p : Nat} {N : List Row}, (∀ x ∈ l, ∀ i p N, SlT w Q gn x i p N → SlT w' Q' gn x i p N) → SlF w Q gn l i p N → SlF w' Q' gn l i p N
  | [], _, _, _, _, h => by rw [SlF] at h ⊢; exact h
  | t :: l, i, p, N, hk, h => by
    rw [SlF] at h ⊢
    obtain ⟨C, D, e, h1, h2⟩ := h
    exact ⟨C, D, e, hk t (by simp) _ _ _ h1, h2.of fun x hx => hk x (by simp [hx])⟩
theorem SlT.keep (hk : ∀ sz v n xs, RdP w Q sz v n xs → RdP w' Q' sz v n xs) : ∀ t i p N, SlT w Q gn t i p N → SlT w' Q' gn t i p N := by
  refine T.ind ?_
  intro k n al t ks ih i p N h
  rw [SlT] at h ⊢
  obtain ⟨r, D, h1, h2, h3, h4, h5, h6, h7, h8, h9, h10⟩ := h
  exact ⟨r, D, h1, h2, h3, h4, h5, h6, h7, hk _ _ _ _ h8, hk _ _ _ _ h9, h10.of fun x hx => ih x hx⟩
theorem SlF.keep (hk : ∀ sz v n xs, RdP w Q sz v n xs → RdP w' Q' sz v n xs) {l : List T} {i p : Nat} {N : List Row} (h : SlF w Q gn l i p N) : SlF w' Q' gn l i p N := h.of fun x _ => SlT.keep hk x
theorem SlF.upd {F : Nat → Prop} (hU : Upd w w' F) (hF : ∀ g, Q g → ¬ F g) (hQ : ∀ g, Q g → Q' g) {l : List T} {i p : Nat} {N : List Row} (h : SlF w Q gn l i p N) : SlF w' Q' gn l i p N := h.keep fun _ _ _ _ h => (h.keep hU hF).mono hQ
theorem SlT.upd {F : Nat → Prop} (hU : Upd w w' F) (hF : ∀ g, Q g → ¬ F g) (hQ : ∀ g, Q g → Q' g) {t : T} {i p : Nat} {N : List Row} (h : SlT w Q gn t i p N) : SlT w' Q' gn t i p N := SlT.keep (fun _ _ _ _ h => (h.keep hU hF).mono hQ) t i p N h
theorem SlF.snoc {t : T} {C : List Row} : ∀ {l : List T} {i p : Nat} {N : List Row}, SlF w Q gn l i p N → SlT w Q gn t (i + T.sizeL l) p C → SlF w Q gn (l ++ [t]) i p (N ++ C)
  | [], i, p, N, h, hc => by
    rw [SlF] at h
    subst h
    rw [List.nil_append, SlF]
    exact ⟨C, [], by simp, by simpa [T.sizeL] using hc, by rw [SlF]⟩
  | s :: l, i, p, N, h, hc => by
    rw [SlF] at h
    obtain ⟨A, D, e, h1, h2⟩ := h
    rw [List.cons_append, SlF]
    refine ⟨A, D ++ C, by rw [e, List.append_assoc], h1, h2.snoc ?_⟩
    rw [T.sizeL, ← Nat.add_assoc] at hc
    exact hc
end

theorem size_norm : ∀ t : T, Kinds t → T.size (norm t) = T.size t := by
  refine T.ind ?_
  intro k n al t ks ih hK
  rw [Kinds] at hK
  rw [norm]
  rcases hK with ⟨h1, hK⟩ | h2
  · subst h1
    rw [if_neg (by omega), T.size, T.size, if_pos rfl, if_pos rfl]
    have key : ∀ (r : List T), (∀ x ∈ r, x ∈ ks) → T.sizeL (normL r) = T.sizeL r := by
      intro r
      induction r with
      | nil => intro _; rw [normL]
      | cons x r ihr =>
        intro hr
        rw [normL, T.sizeL, T.sizeL, ih x (hr x (by simp)) (KindsL.all.1 hK x (hr x (by simp))), ihr (fun y hy => hr y (by simp [hy]))]
    rw [key ks (fun _ h => h)]
  · subst h2
    rw [if_pos rfl, T.size, T.size, if_neg (by omega), if_neg (by omega)]
theorem sizeL_norm : ∀ l : List T, KindsL l → T.sizeL (normL l) = T.sizeL l
  | [], _ => by rw [normL]
  | t :: l, h => by
    rw [KindsL] at h
    rw [normL, T.sizeL, T.sizeL, size_norm t h.1, sizeL_norm l h.2]
theorem normL_take (l : List T) (i : Nat) : normL (l.take i) = (normL l).take i := by rw [normL_map, normL_map, List.map_take]
theorem KindsL.take {l : List T} (h : KindsL l) (i : Nat) : KindsL (l.take i) := KindsL.all.2 fun x hx => KindsL.all.1 h x (List.mem_of_mem_take hx)

def FreeP2 (w : World) (d : Nat) (Sv Rv : Value) (A : List Row) (ge M : Nat) (e : Ending) (w' : World) : Prop := ∃ Sv' g0, e = .returned (.int .i64 (A.length : Nat)) ∧ g0 + 1 = gen ge M A.length ∧ DocIs w' d Sv' Rv (A ++ dead g0 :: List.replicate (M - (A.length + 1)) (dead ge)) ∧ Upd w w' (· = d) ∧ (∀ g, Sv'.ownBlock = some g → Sv.ownBlock = some g ∨ w.heap.size ≤ g)
theorem free_any (d : Nat) (Sv Rv : Value) (A : List Row) (ge M : Nat) (w : World) (hD : DocIs w d Sv Rv (A ++ List.replicate (M - A.length) (dead ge))) (hA : ∀ r ∈ A, r.lv = true) (hg : ge < 4294967295) (hM : M ≤ 65536) (hn : A.length ≤ 65536) :
    Calls Tryd.prog 77 #[.pointer (some ⟨d, 0, none⟩)] w (FreeP2 w d Sv Rv A ge M) := by
  by_cases h : A.length < M
  · have e : List.replicate (M - A.length) (dead ge) = dead ge :: List.replicate (M - (A.length + 1)) (dead ge) := by
      rw [show M - A.length = (M - (A.length + 1)) + 1 by omega, List.replicate_succ]
    rw [e] at hD
    refine (free_dead d Sv Rv A (dead ge) _ w hD hA ⟨rfl, hg⟩ (by simp; omega)).mono ?_
    rintro e' w' ⟨rfl, hB⟩
    exact ⟨Sv, ge, rfl, by unfold gen; rw [if_pos h], hD.below hB, Upd.ofBelow hB, fun g hg => Or.inl hg⟩
  · rw [show M - A.length = 0 by omega, List.replicate_zero, List.append_nil] at hD
    refine (free_grow d Sv Rv A w hD hA (by omega)).mono ?_
    rintro e' w' ⟨Sv', rfl, h1, h2, h3⟩
    refine ⟨Sv', 0, rfl, by unfold gen; rw [if_neg h], ?_, h2, h3⟩
    rw [show M - (A.length + 1) = 0 by omega, List.replicate_zero]
    exact h1

def MakePost (d : Nat) (ge M : Nat) (x : T) (A : List Row) (Sv Rv : Value) (p : Nat) (w : World) (e : Ending) (w' : World) : Prop := ∃ Sv' N, e = .returned (.int .u64 (hand (gen ge M A.length) A.length : Nat)) ∧ DocIs w' d Sv' Rv (A ++ N ++ List.replicate (M - (A.length + N.length)) (dead ge)) ∧ N.length = T.size x ∧ (∀ r ∈ N, r.lv = true) ∧
    SlT w' (fun g => w.heap.size ≤ g ∧ g < w'.heap.size ∧ Sv'.ownBlock ≠ some g) (gen ge M) (norm x) A.length p N ∧ Upd w w' (fun g => g = d ∨ Sv.ownBlock = some g) ∧ (∀ g, Sv'.ownBlock = some g → Sv.ownBlock = some g ∨ w.heap.size ≤ g)

/-- What stands while the children are made. -/
structure MkSt (d ge M : Nat) (Rv : Value) (A : List Row) (row : Row) (ks : List T) (al : List Att) (w : World) (Sv0 : Value) (w' : World) (j : Nat) (Sv : Value) (ka : Option Addr) (kc : Nat) (D : List Row) : Prop where
  doc : DocIs w' d Sv Rv (A ++ (row.withKids ka j kc :: D) ++ List.replicate (M - (A.length + 1 + D.length)) (dead ge))
  len : D.length = T.sizeL (ks.take j)
  live : ∀ r ∈ D, r.lv = true
  slots : SlF w' (fun g => w.heap.size ≤ g ∧ g < w'.heap.size ∧ Sv.ownBlock ≠ some g ∧ (Value.slice ka j kc).ownBlock ≠ some g) (gen ge M) (normL (ks.take j)) (A.length + 1) (hand (gen ge M A.length) A.length) D
  kids : w'.ownsRow 0 62 1 (.slice ka j kc) j (hands (gen ge M) (A.length + 1) (normL (ks.take j)))
  klow : ∀ g, (Value.slice ka j kc).ownBlock = some g → w.heap.size ≤ g
  atts : RdP w' (fun g => w.heap.size ≤ g ∧ g < w'.heap.size ∧ Sv.ownBlock ≠ some g ∧ (Value.slice ka j kc).ownBlock ≠ some g) 2 (.slice row.aa row.al row.ac) al.length (atc al)
  upd : Upd w w' (fun g => g = d ∨ Sv0.ownBlock = some g)
  sv : ∀ g, Sv.ownBlock = some g → Sv0.ownBlock = some g ∨ w.heap.size ≤ g

set_option maxRecDepth 100000 in
set_option maxHeartbeats 1600000 in
theorem make_any (B d ge M : Nat) (hge : ge < 4294967294) (hM : M ≤ 4096) (hBd : B ≤ d) : ∀ x : T, ∀ (A : List Row) (Sv Rv : Value) (p : Nat) (cs : List Value) (w : World), Kinds x → Fits x → TreeAt w (· < B) x cs → DocIs w d Sv Rv (A ++ List.replicate (M - A.length) (dead ge)) → (∀ r ∈ A, r.lv = true) → (∀ g, Sv.ownBlock = some g → B ≤ g) → A.length + T.size x ≤ 4096 →
    Calls Tryd.prog 62 #[.pointer (some ⟨d, 0, none⟩), .agg cs.toArray, .int .u64 (p : Nat)] w (MakePost d ge M x A Sv Rv p w) := by
  refine T.ind ?_
  intro k nm al tx ks ih A Sv Rv p cs w hK hF hA hD hL hSB hn
  obtain ⟨aa, ca, ak, ck, rfl, hAl, hKs⟩ := TreeAt.forest hA
  have hsm := hF.small
  unfold Small at hsm
  obtain ⟨X, hX⟩ : ∃ X, X = w.heap.size := ⟨_, rfl⟩
  have HH := Lib.hid (And.intro hAl (And.intro hKs (And.intro hF (And.intro hD (And.intro hL (And.intro hSB (And.intro hn (And.intro hK (And.intro ih (And.intro hsm hX))))))))))
  obtain ⟨i, hi⟩ : ∃ i, i = A.length := ⟨_, rfl⟩
  have HI := Lib.hid hi
  clear hAl hKs hF hD hL hSB hn hK ih hA hsm hX hi
  -- the box, then free
  have B1 : ∀ o, Below w.heap.size w (w.alloc o) := fun o => below_al (Below.refl _ _) (Nat.le_refl _) o
  obtain ⟨W1, hW1⟩ : ∃ W1, W1 = w.alloc (.cells #[Value.int .i64 k, .string nm, .slice aa al.length ca, .string tx, .slice ak ks.length ck] 25) := ⟨_, rfl⟩
  have BW1 : Below w.heap.size w W1 := by rw [hW1]; exact B1 _
  have X1 : Blk W1 X [.int .i64 k, .string nm, .slice aa al.length ca, .string tx, .slice ak ks.length ck] 25 := by rw [hW1]; exact Blk.new' HH.out.2.2.2.2.2.2.2.2.2.2
  have C1 := free_any d Sv Rv A ge M W1 (HH.out.2.2.2.1.below BW1) HH.out.2.2.2.2.1 (by omega) (by omega) (by have := HH.out.2.2.2.2.2.2.1; omega)
  have HC1 := Lib.hid (And.intro C1 (And.intro BW1 X1))
  have HW1 := Lib.hid hW1
  clear C1 BW1 X1 B1 hW1
  go_enter Tryd.func62, Tryd.ntmps62
  go_wp2_with fail
  rw [← HW1.out, ← HH.out.2.2.2.2.2.2.2.2.2.2]
  refine HC1.out.1.mono ?_
  rintro e w2 ⟨Sv1, g0, rfl, hg0, D2, U2, s2⟩
  rw [← HI.out] at hg0 D2 ⊢
  have V2 : Upd w w2 (· = d) := (Upd.ofBelow HC1.out.2.1).trans U2 (fun _ _ h => h)
  have hdX : d ≠ X := fun e => by have := HH.out.2.2.2.1.blk.lt; have := HH.out.2.2.2.2.2.2.2.2.2.2; omega
  have X2 := U2.blk HC1.out.2.2 (fun e => hdX e.symm)
  have hrow : (A ++ dead g0 :: List.replicate (M - (i + 1)) (dead ge))[i]? = some (dead g0) := by
    rw [HI.out, List.getElem?_append_right (Nat.le_refl _), Nat.sub_self]
    rfl
  have hlen : (A ++ dead g0 :: List.replicate (M - (i + 1)) (dead ge)).length ≤ 8192 := by
    have := HH.out.2.2.2.2.2.2.1
    have := HI.out
    simp
    omega
  obtain ⟨m, hm⟩ : ∃ m, m = (A ++ dead g0 :: List.replicate (M - (i + 1)) (dead ge)).length := ⟨_, rfl⟩
  have him : i < m := by rw [hm]; exact (List.getElem?_eq_some_iff.1 hrow).1
  obtain ⟨sg, sc, rfl, hsc, c0, c1, c2, c3, c4, c5, c6, c7, fz⟩ := D2.row hrow
  have d0 := D2.blk.cell 0
  have x0 := X2.cell 0
  simp only [List.getElem?_cons_zero] at d0 x0
  rw [← hm] at d0 hsc hlen
  have H2 := Lib.hid (And.intro D2 (And.intro V2 (And.intro X2 (And.intro s2 (And.intro hg0 (And.intro hrow (And.intro hlen hm)))))))
  have HQ : Hid (i < m ∧ (IntKind.u32.wrap ((g0 : Int) + 1) = ((g0 + 1 : Nat) : Int)) ∧ i ≤ 4096) := Lib.hid ⟨him, by
    have hg1 : g0 ≤ 4294967294 := by
      have := hg0
      unfold gen at this
      split at this <;> omega
    simp [IntKind.wrap, IntKind.bits, IntKind.signed]
    omega, by have := HH.out.2.2.2.2.2.2.1; have := HI.out; omega⟩
  clear D2 V2 U2 s2 hg0 hrow hlen hm him hdX X2 c1 c2 c3 c4 c5 c6 c7 fz
  have q1 := HQ.out.2.1
  have i0 : (0 : Int) ≤ (i : Int) := Int.natCast_nonneg _
  have i1 : (i : Int) < (m : Int) := Int.ofNat_lt.2 HQ.out.1
  obtain ⟨GG, hGG⟩ : ∃ GG, GG = g0 + 1 := ⟨_, rfl⟩
  rw [← hGG] at q1
  simp only [show (dead g0).g = g0 from rfl] at c0
  have HGG := Lib.hid hGG
  clear hGG
  -- region 2
  go_wp2
  apply wp_reg (fun w' : World => w'.cell? ⟨d, 0, none⟩ = some (.slice (some ⟨sg, 0, none⟩) m sc) ∧ w'.cell? ⟨sg, i * 8, none⟩ = some (.int .u32 (g0 : Nat)) ∧ w'.cell? ⟨X, 0, none⟩ = some (.int .i64 k)) [0, 1, 2, 3, 4, 5, 6, 7, 8, 9, 10, 11, 12] [13, 14] [] (by kernel_rfl) (by kernel_rfl) (fun _ _ d _ _ h => by cases d <;> exact h) ⟨d0, c0, x0⟩
  · iterate 13 (apply reads_consL rfl rfl; (· intro w0 hS; obtain ⟨hS1, hS2, hS3⟩ := hS; go_simp; try rfl); simp only [Act.put, List.setIfInBounds_toArray, List.set_cons_zero, List.set_cons_succ])
    exact rfl
  have V0 : Upd w2 w2.drew (fun _ => False) := (Upd.refl w2 _).drew
  generalize w2.drew = w3 at V0 ⊢
  have HV0 := Lib.hid V0
  obtain ⟨Tb, hTb⟩ : ∃ Tb, Tb = w3.heap.size := ⟨_, rfl⟩
  have HTb := Lib.hid hTb
  clear V0 hTb
  refine tail_consL rfl ?_
  go_wp2_with fail
  rw [← HTb.out]
  generalize hW : World.alloc _ _ = W4
  have V4 : Upd w2 W4 (fun _ => False) := by rw [← hW]; exact HV0.out.alloc _
  have T4 : Blk W4 Tb (Row.cells (dead 0)) 112 := by rw [← hW]; exact Blk.new' HTb.out
  have hTs : w2.heap.size ≤ Tb := by rw [HTb.out]; exact HV0.out.size
  have HT4 := Lib.hid (And.intro V4 (And.intro T4 hTs))
  have SS : ∀ w', Upd w2 w' (fun _ => False) → w'.cell? ⟨d, 0, none⟩ = some (.slice (some ⟨sg, 0, none⟩) m sc) ∧ w'.cell? ⟨sg, i * 8, none⟩ = some (.int .u32 (g0 : Nat)) ∧ w'.cell? ⟨X, 0, none⟩ = some (.int .i64 k) := by
    intro w' hU
    have hh : ∀ g j v, w2.cell? ⟨g, j, none⟩ = some v → w'.cell? ⟨g, j, none⟩ = some v := fun g j v h => (hU.cell (p := ⟨g, j, none⟩) (cell_lt0 h) (fun h => h)).trans h
    exact ⟨hh _ _ _ d0, hh _ _ _ c0, hh _ _ _ x0⟩
  have HSS := Lib.hid SS
  have S4 := SS W4 V4
  have t0 := T4.cell 0
  have t1 := T4.cell 1
  have t2 := T4.cell 2
  have t3 := T4.cell 3
  have t4 := T4.cell 4
  have t5 := T4.cell 5
  have t6 := T4.cell 6
  have t7 := T4.cell 7
  have f0 := T4.free 0
  have f1 := T4.free 1
  have f2 := T4.free 2
  have f3 := T4.free 3
  have f4 := T4.free 4
  have f5 := T4.free 5
  have f6 := T4.free 6
  have f7 := T4.free 7
  simp only [Row.cells, List.getElem?_cons_zero, List.getElem?_cons_succ] at t0 t1 t2 t3 t4 t5 t6 t7
  clear hW V4 T4 hTs SS d0 c0 x0
  refine ⟨S4, tail_consL rfl ?_⟩
  clear S4
  go_wp2_with fail
  generalize hW : World.setCell _ _ _ = W5
  have T5 : Blk W5 Tb (Row.cells ⟨GG, true, k, ⟨#[]⟩, none, 0, 0, ⟨#[]⟩, p, none, 0, 0⟩) 112 := by
    rw [← hW]
    exact (((((((HT4.out.2.1.set 0 _).set 1 _).set 2 _).set 3 _).set 4 _).set 5 _).set 6 _).set 7 _
  have V5 : Upd w2 W5 (fun _ => False) := by
    rw [← hW]
    have hh : ∀ q : Addr, q.block = Tb → q.block < w2.heap.size → False := fun q e h => by have := HT4.out.2.2; omega
    exact (((((((HT4.out.1.set ⟨Tb, 0, none⟩ _ (hh _ rfl)).set ⟨Tb, 1, none⟩ _ (hh _ rfl)).set ⟨Tb, 2, none⟩ _ (hh _ rfl)).set ⟨Tb, 3, none⟩ _ (hh _ rfl)).set ⟨Tb, 4, none⟩ _ (hh _ rfl)).set ⟨Tb, 5, none⟩ _ (hh _ rfl)).set ⟨Tb, 6, none⟩ _ (hh _ rfl)).set ⟨Tb, 7, none⟩ _ (hh _ rfl)
  have H5 := Lib.hid (And.intro T5 V5)
  have S5 := HSS.out W5 V5
  have X5 := V5.blk H2.out.2.2.1 (fun h => h)
  have x0 := X5.cell 0
  have x1 := X5.cell 1
  have x2 := X5.cell 2
  have x3 := X5.cell 3
  simp only [List.getElem?_cons_zero, List.getElem?_cons_succ] at x0 x1 x2 x3
  have t0 := T5.cell 0
  have t3 := T5.cell 3
  have t4 := T5.cell 4
  have t5 := T5.cell 5
  have f3 := T5.free 3
  have f4 := T5.free 4
  have f5 := T5.free 5
  simp only [Row.cells, List.getElem?_cons_zero, List.getElem?_cons_succ] at t0 t3 t4 t5
  clear hW T5 V5 X5 t1 t2 t6 t7 f0 f1 f2 f6 f7
  refine ⟨S5, tail_zero ?_⟩
  clear S5
  go_upto_if 30 with (fail)
  go_cut [8] from 31 to 41 (fun s8 wx => ∃ (n2 : ByteArray) (al2 : List Att) (a2 : Option Addr) (c2 : Nat) (tt : ByteArray), s8 = .pointer (some ⟨Tb, 0, none⟩) ∧ Hid (norm (.mk k nm al tx ks) = .mk k n2 al2 tt (normL (if k = 1 then ks else []))) ∧ Hid (Blk wx Tb (Row.cells ⟨GG, true, k, n2, a2, al2.length, c2, tt, p, none, 0, 0⟩) 112) ∧ Hid (Upd w2 wx (fun _ => False)) ∧ Hid (wx.ownsRow 0 82 2 (.slice a2 al2.length c2) al2.length (atc al2) ∧ ∀ g, (Value.slice a2 al2.length c2).ownBlock = some g → w2.heap.size ≤ g))
  case first =>
    have hKn := HH.out.2.2.2.2.2.2.2.1
    rw [Kinds] at hKn
    by_cases h1 : k = 1
    · subst h1
      clear hKn
      go_wp2
      apply wp_reg (fun w' : World => w'.cell? ⟨X, 1, none⟩ = some (.string nm) ∧ w'.cell? ⟨X, 2, none⟩ = some (.slice aa al.length ca)) [0, 1, 3, 4, 6] [2, 5, 7, 8, 9] [] (by kernel_rfl) (by kernel_rfl) (fun _ _ d _ _ h => by cases d <;> exact h) ⟨x1, x2⟩
      · iterate 5 (apply reads_consL rfl rfl; (· intro w0 hS; obtain ⟨hS1, hS2⟩ := hS; go_simp; try rfl); simp only [Act.put, List.setIfInBounds_toArray, List.set_cons_zero, List.set_cons_succ])
        exact rfl
      have V6 : Upd w2 W5.drew (fun _ => False) := H5.out.2.drew
      have T6 : Blk W5.drew Tb (Row.cells ⟨GG, true, 1, ⟨#[]⟩, none, 0, 0, ⟨#[]⟩, p, none, 0, 0⟩) 112 := H5.out.1
      generalize W5.drew = w6 at V6 T6 ⊢
      have H6 := Lib.hid (And.intro V6 T6)
      obtain ⟨q, hq⟩ : ∃ q, q = w6.heap.size := ⟨_, rfl⟩
      have HQ2 := Lib.hid hq
      clear V6 T6 hq x0 x1 x2 x3 t0 t3 t4 t5 f3 f4 f5
      refine tail_consL rfl ?_
      go_wp2_with fail
      rw [← HQ2.out]
      generalize hW : World.alloc _ _ = W7
      have T7 : Upd w6 W7 (fun _ => False) := by rw [← hW]; exact (Upd.refl w6 _).alloc _
      have O7 : W7.ownsRow 0 82 2 (.slice (some ⟨q, 0, none⟩) 0 0) 0 [] := by rw [← hW]; exact own_lit_sz HQ2.out
      have V7 := H6.out.1.trans T7 (fun _ _ h => h)
      have X7 := V7.blk H2.out.2.2.1 (fun h => h)
      have H7 := Lib.hid (And.intro T7 (And.intro O7 (And.intro V7 X7)))
      clear hW T7 O7 V7 X7
      refine ⟨⟨H7.out.2.2.2.cell 1, H7.out.2.2.2.cell 2⟩, tail_consL rfl ?_⟩
      have RA : Rd W7 (.slice aa al.length ca) al.length 2 (atc al) := (HH.out.1.keep (H2.out.2.1.trans H7.out.2.2.1 (fun _ _ h => h.elim)) (fun g (hg : g < B) e => by omega)).1
      refine wpl_app (n := 0) (m := al.length) rfl rfl elemAttr Tryd.underlying22 rfl H7.out.2.1 rfl RA (atc_one al) (by have := HH.out.2.2.2.2.2.2.2.2.2.1; omega) ?_
      rintro v8 w8 ⟨O8, U8, b8⟩
      rw [Nat.zero_add, List.nil_append] at O8
      obtain ⟨a2, c2, rfl, _⟩ := (Rd.ofOwn O8).form
      have hv : ∀ g, (Value.slice a2 al.length c2).ownBlock = some g → q ≤ g := fun g hg => by
        rcases b8 with e | e
        · have := ob_eq (e.symm.trans hg); omega
        · have := ob_some (e.symm.trans hg); have := H7.out.1.size; have := HQ2.out; omega
      have U8' : Upd w6 w8 (fun _ => False) := H7.out.1.trans U8 (fun i hi e => by have := ob_eq e; have := HQ2.out; omega)
      have T8 := U8'.blk H6.out.2 (fun h => h)
      have V8 := H6.out.1.trans U8' (fun _ _ h => h)
      have X8 := V8.blk H2.out.2.2.1 (fun h => h)
      have H8 := Lib.hid (And.intro O8 (And.intro hv (And.intro T8 (And.intro V8 X8))))
      have t3 := T8.cell 3
      have t4 := T8.cell 4
      have f3 := T8.free 3
      have f4 := T8.free 4
      simp only [Row.cells, List.getElem?_cons_zero, List.getElem?_cons_succ] at t3 t4
      clear RA O8 U8 b8 hv U8' T8 V8 X8
      go_wp2_with fail
      refine ⟨⟨H8.out.2.2.2.2.cell 1, H8.out.2.2.2.2.cell 2⟩, tail_consL rfl ?_⟩
      go_wp2_with fail
      generalize hW : World.setCell _ _ _ = W9
      have hh : ∀ q : Addr, q.block = Tb → q.block < w2.heap.size → False := fun q e h => by have := HT4.out.2.2; omega
      have T9 : Blk W9 Tb (Row.cells ⟨GG, true, 1, nm, none, 0, 0, ⟨#[]⟩, p, none, 0, 0⟩) 112 := by rw [← hW]; exact H8.out.2.2.1.set 3 _
      have V9 : Upd w2 W9 (fun _ => False) := by rw [← hW]; exact H8.out.2.2.2.1.set ⟨Tb, 3, none⟩ _ (hh _ rfl)
      have U89 : Upd w8 W9 (· = Tb) := by rw [← hW]; exact (Upd.refl w8 (· = Tb)).set ⟨Tb, 3, none⟩ _ (fun _ => rfl)
      have X9 := V9.blk H2.out.2.2.1 (fun h => h)
      have H9 := Lib.hid (And.intro T9 (And.intro V9 (And.intro U89 X9)))
      have t4 := T9.cell 4
      have f4 := T9.free 4
      simp only [Row.cells, List.getElem?_cons_zero, List.getElem?_cons_succ] at t4
      clear hW hh T9 V9 U89 X9 t3 f3
      refine ⟨⟨H9.out.2.2.2.cell 1, H9.out.2.2.2.cell 2⟩, tail_consL rfl ?_⟩
      go_wp2_with fail
      refine ⟨⟨H9.out.2.2.2.cell 1, H9.out.2.2.2.cell 2⟩, tail_consL rfl ?_⟩
      go_wp2_with fail
      generalize hW : World.setCell _ _ _ = W10
      have hh : ∀ q : Addr, q.block = Tb → q.block < w2.heap.size → False := fun q e h => by have := HT4.out.2.2; omega
      have T10 : Blk W10 Tb (Row.cells ⟨GG, true, 1, nm, a2, al.length, c2, ⟨#[]⟩, p, none, 0, 0⟩) 112 := by rw [← hW]; exact H9.out.1.set 4 _
      have V10 : Upd w2 W10 (fun _ => False) := by rw [← hW]; exact H9.out.2.1.set ⟨Tb, 4, none⟩ _ (hh _ rfl)
      have U10 : Upd w8 W10 (· = Tb) := by rw [← hW]; exact H9.out.2.2.1.set ⟨Tb, 4, none⟩ _ (fun _ => rfl)
      have X10 := V10.blk H2.out.2.2.1 (fun h => h)
      have H10 := Lib.hid (And.intro T10 (And.intro V10 (And.intro U10 X10)))
      clear hW hh T10 V10 U10 X10 t4 f4
      refine ⟨⟨H10.out.2.2.2.cell 1, H10.out.2.2.2.cell 2⟩, tail_zero ?_⟩
      go_wp2
      go_meet
      have hTbT : ∀ g, (Value.slice a2 al.length c2).ownBlock = some g → g ≠ Tb := fun g hg e => by
        obtain ⟨_, hx⟩ := own_ty H8.out.1 hg
        exact H8.out.2.2.1.ty (e ▸ hx) (by decide) rfl
      exact ⟨nm, al, a2, c2, ⟨#[]⟩, rfl, Lib.hid (by rw [norm, if_neg (by omega)]; simp), Lib.hid H10.out.1, Lib.hid H10.out.2.1, Lib.hid ⟨own_keep H8.out.1 H10.out.2.2.1 hTbT, fun g hg => by have := H8.out.2.1 g hg; have := HQ2.out; have := H6.out.1.size; omega⟩⟩
    · have h2 : k = 2 := by
        rcases hKn with h | h
        · exact absurd h.1 h1
        · exact h
      subst h2
      clear hKn h1
      go_wp2
      generalize hW : World.setCell _ _ _ = W9
      have hh : ∀ q : Addr, q.block = Tb → q.block < w2.heap.size → False := fun q e h => by have := HT4.out.2.2; omega
      have T9 : Blk W9 Tb (Row.cells ⟨GG, true, 2, ⟨#[]⟩, none, 0, 0, tx, p, none, 0, 0⟩) 112 := by rw [← hW]; exact H5.out.1.set 5 _
      have V9 : Upd w2 W9 (fun _ => False) := by rw [← hW]; exact H5.out.2.set ⟨Tb, 5, none⟩ _ (hh _ rfl)
      clear hW
      go_meet
      exact ⟨⟨#[]⟩, [], none, 0, tx, rfl, Lib.hid (by rw [norm, if_pos rfl, if_neg (by omega), normL]), Lib.hid T9, Lib.hid V9, Lib.hid ⟨own_none, fun g hg => by cases hg⟩⟩
  case rest =>
    obtain ⟨n2, al2, a2, c2, tt, rfl, HN, HT, HV, HO⟩ := hcut
    clear x0 x1 x2 x3 t0 t3 t4 t5 f3 f4 f5 q1
    -- region 6: the row
    have D6 := H2.out.1.keep HV.out (fun h => h) (fun _ _ h => h)
    obtain ⟨g', c', e, _, c0, c1, c2', c3, c4, c5, c6, c7, fz⟩ := D6.row H2.out.2.2.2.2.2.1
    rw [← H2.out.2.2.2.2.2.2.2] at e
    simp only [Value.slice.injEq, Option.some.injEq, Addr.mk.injEq] at e
    obtain ⟨⟨rfl, _⟩, _, rfl⟩ := e
    have d0 := D6.blk.cell 0
    have t0 := HT.out.cell 0
    have t1 := HT.out.cell 1
    have t2 := HT.out.cell 2
    have t3 := HT.out.cell 3
    have t4 := HT.out.cell 4
    have t5 := HT.out.cell 5
    have t6 := HT.out.cell 6
    have t7 := HT.out.cell 7
    simp only [Row.cells, List.getElem?_cons_zero, List.getElem?_cons_succ] at d0 t0 t1 t2 t3 t4 t5 t6 t7
    rw [← H2.out.2.2.2.2.2.2.2] at d0
    have HD6 := Lib.hid D6
    have HFZ := Lib.hid fz
    have HCC := Lib.hid (And.intro c0 (And.intro c1 (And.intro c2' (And.intro c3 (And.intro c4 (And.intro c5 (And.intro c6 c7)))))))
    clear D6 fz c0 c1 c2' c3 c4 c5 c6 c7
    go_wp2
    apply wp_reg (fun w' : World => w'.cell? ⟨d, 0, none⟩ = some (.slice (some ⟨sg, 0, none⟩) m sc) ∧ w'.cell? ⟨Tb, 0, none⟩ = some (.int .u32 (GG : Nat)) ∧ w'.cell? ⟨Tb, 1, none⟩ = some (.bool true) ∧ w'.cell? ⟨Tb, 2, none⟩ = some (.int .i64 k) ∧ w'.cell? ⟨Tb, 3, none⟩ = some (.string n2) ∧ w'.cell? ⟨Tb, 4, none⟩ = some (.slice a2 al2.length c2) ∧ w'.cell? ⟨Tb, 5, none⟩ = some (.string tt) ∧ w'.cell? ⟨Tb, 6, none⟩ = some (.int .u64 (p : Nat)) ∧ w'.cell? ⟨Tb, 7, none⟩ = some (.slice none 0 0)) [0, 1, 2, 3, 4, 5] [] [6, 7] (by kernel_rfl) (by kernel_rfl) (fun _ _ d _ _ h => by cases d <;> exact h) ⟨d0, t0, t1, t2, t3, t4, t5, t6, t7⟩
    · iterate 6 (apply reads_consL rfl rfl; (· intro w0 hS; obtain ⟨hS1, hS2, hS3, hS4, hS5, hS6, hS7, hS8, hS9⟩ := hS; go_simp; try rfl); simp only [Act.put, List.setIfInBounds_toArray, List.set_cons_zero, List.set_cons_succ])
      exact rfl
    clear d0 t0 t1 t2 t3 t4 t5 t6 t7
    obtain ⟨wd, hwd⟩ : ∃ wd, wd = wc.drew := ⟨_, rfl⟩
    have hcd : ∀ a, wd.cell? a = wc.cell? a := fun a => by rw [hwd]; rfl
    have hfd : ∀ a, wd.frozen? a = wc.frozen? a := fun a => by rw [hwd]; rfl
    have Dd : DocIs wd d (.slice (some ⟨sg, 0, none⟩) (A ++ dead g0 :: List.replicate (M - (i + 1)) (dead ge)).length sc) Rv (A ++ dead g0 :: List.replicate (M - (i + 1)) (dead ge)) := by rw [hwd]; exact HD6.out.keep (Upd.refl wc (fun _ => False)).drew (fun h => h) (fun _ _ h => h)
    have Ud : Upd wc wd (fun _ => False) := by rw [hwd]; exact (Upd.refl wc _).drew
    rw [← hwd]
    have c0 := (hcd _).trans HCC.out.1
    have c1 := (hcd _).trans HCC.out.2.1
    have c2' := (hcd _).trans HCC.out.2.2.1
    have c3 := (hcd _).trans HCC.out.2.2.2.1
    have c4 := (hcd _).trans HCC.out.2.2.2.2.1
    have c5 := (hcd _).trans HCC.out.2.2.2.2.2.1
    have c6 := (hcd _).trans HCC.out.2.2.2.2.2.2.1
    have c7 := (hcd _).trans HCC.out.2.2.2.2.2.2.2
    have fz := fun j => (hfd ⟨sg, j, none⟩).trans (HFZ.out j)
    have z0 := fz (i * 8)
    have z1 := fz (i * 8 + 1)
    have z2 := fz (i * 8 + 2)
    have z3 := fz (i * 8 + 3)
    have z4 := fz (i * 8 + 4)
    have z5 := fz (i * 8 + 5)
    have z6 := fz (i * 8 + 6)
    have z7 := fz (i * 8 + 7)
    have HDd := Lib.hid (And.intro Dd Ud)
    clear hwd hcd hfd Dd Ud fz
    refine tail_twoL rfl rfl ?_
    go_wp2_with fail
    generalize hW : World.setCell _ _ _ = W7
    obtain ⟨row, hrow⟩ : ∃ row : Row, row = ⟨GG, true, k, n2, a2, al2.length, c2, tt, p, none, 0, 0⟩ := ⟨_, rfl⟩
    have hiR : i < (A ++ dead g0 :: List.replicate (M - (i + 1)) (dead ge)).length := by have := HQ.out.1; have := H2.out.2.2.2.2.2.2.2; omega
    have hset : (A ++ dead g0 :: List.replicate (M - (i + 1)) (dead ge)).set i row = A ++ row :: List.replicate (M - (i + 1)) (dead ge) := by
      rw [HI.out, List.set_append_right _ _ (Nat.le_refl _), Nat.sub_self]
      rfl
    have D7 : DocIs W7 d (.slice (some ⟨sg, 0, none⟩) (A ++ dead g0 :: List.replicate (M - (i + 1)) (dead ge)).length sc) Rv (A ++ row :: List.replicate (M - (i + 1)) (dead ge)) := by
      rw [← hset, ← hW, hrow]
      exact HDd.out.1.setRow hiR ⟨GG, true, k, n2, a2, al2.length, c2, tt, p, none, 0, 0⟩
    have U7 : Upd wd W7 (· = sg) := by
      rw [← hW]
      exact ((((((((Upd.refl wd (· = sg)).set ⟨sg, _, none⟩ _ (fun _ => rfl)).set ⟨sg, _, none⟩ _ (fun _ => rfl)).set ⟨sg, _, none⟩ _ (fun _ => rfl)).set ⟨sg, _, none⟩ _ (fun _ => rfl)).set ⟨sg, _, none⟩ _ (fun _ => rfl)).set ⟨sg, _, none⟩ _ (fun _ => rfl)).set ⟨sg, _, none⟩ _ (fun _ => rfl)).set ⟨sg, _, none⟩ _ (fun _ => rfl)
    have hgi : (A ++ row :: List.replicate (M - (i + 1)) (dead ge))[i]? = some row := by
      rw [HI.out, List.getElem?_append_right (Nat.le_refl _), Nat.sub_self]
      rfl
    have hGi : GG = gen ge M i := by
      have h1 := H2.out.2.2.2.2.1
      have h2 := HGG.out
      omega
    have hGlt : GG < 4294967296 := by
      rw [hGi]
      unfold gen
      split <;> omega
    have C7 := handle_any d _ Rv _ i row W7 D7 hgi (by rw [hrow]; exact hGlt) (by have := HQ.out.2.2; omega)
    rw [show row.g = GG from by rw [hrow]] at C7
    -- what is under the node
    have hdsg : d ≠ sg := fun e => by
      have h := HDd.out.1.ne
      exact h (by rw [e]; rfl)
    have hsg2 : (Value.slice (some ⟨sg, 0, none⟩) (A ++ dead g0 :: List.replicate (M - (i + 1)) (dead ge)).length sc).ownBlock = some sg := rfl
    have hsgw : Sv.ownBlock = some sg ∨ w.heap.size ≤ sg := by
      have h1 := HC1.out.2.1.size
      rcases H2.out.2.2.2.1 sg rfl with e | e
      · exact Or.inl e
      · exact Or.inr (by omega)
    have hXn : X ≠ sg := fun e => by
      obtain ⟨_, hv⟩ := own_ty H2.out.1.own hsg2
      exact H2.out.2.2.1.ty (e ▸ hv) (by decide) rfl
    have hsB : B ≤ sg := by
      rcases hsgw with e | e
      · exact HH.out.2.2.2.2.2.1 sg e
      · have := HH.out.2.2.2.1.blk.lt
        omega
    have U27 : Upd w2 W7 (· = sg) := ((HV.out.trans HDd.out.2 (fun _ _ h => h)).mono (fun _ _ h => h.elim)).trans U7 (fun _ _ h => h)
    have Uw7 : Upd w W7 (fun g => g = d ∨ Sv.ownBlock = some g) := (H2.out.2.1.mono (fun _ _ h => Or.inl h)).trans U27 (fun g hg e => by
      rcases hsgw with h | h
      · exact Or.inr (e ▸ h)
      · omega)
    have X7 := U27.blk H2.out.2.2.1 hXn
    obtain ⟨l, ka0, kc0, hl1, hl2, hl3⟩ : ∃ (l : List T) (ka0 : Option Addr) (kc0 : Nat), l = (if k = 1 then ks else []) ∧ (if k = 1 then Value.slice ak ks.length ck else .slice none 0 0) = .slice ka0 l.length kc0 ∧ Forest w (· < B) l ka0 kc0 := by
      by_cases h : k = 1
      · exact ⟨ks, ak, ck, by rw [if_pos h], by rw [if_pos h], HH.out.2.1⟩
      · refine ⟨[], none, 0, by rw [if_neg h], by rw [if_neg h]; rfl, [], ⟨Rd.nil _ _, fun h => absurd rfl h⟩, ?_⟩
        exact (by rw [ForestIs] : ForestIs (RdP w (· < B) 2) (RdP w (· < B) 5) [] [])
    have hlm : ∀ x ∈ l, x ∈ ks := by
      intro x hx
      rw [hl1] at hx
      split at hx
      · exact hx
      · cases hx
    have hlk : KindsL l := by
      have hKn := HH.out.2.2.2.2.2.2.2.1
      rw [Kinds] at hKn
      rw [hl1]
      split
      · rename_i h
        rcases hKn with h' | h'
        · exact h'.2
        · omega
      · rw [KindsL]; trivial
    have hsz : T.size (.mk k nm al tx ks) = T.sizeL l + 1 := by
      rw [T.size, hl1]
      split
      · rfl
      · rw [T.sizeL]
    have hln : l.length * 88 ≤ 140737488351232 := by
      have := HH.out.2.2.2.2.2.2.2.2.2.1
      rw [hl1]
      split
      · omega
      · simp
    have HL := Lib.hid (And.intro hl3 (And.intro hlm (And.intro hlk (And.intro hsz (And.intro hln hl1)))))
    rw [← hl1] at HN
    have HKS := Lib.hid hl2
    clear hl1 hl2 hl3 hlm hlk hsz hln
    -- the attributes
    have hasg : ∀ g, (Value.slice a2 al2.length c2).ownBlock = some g → g ≠ sg := fun g hg e => by
      have h := HO.out.2 g hg
      have := own_lt H2.out.1.own hsg2
      omega
    have hat7 : W7.ownsRow 0 82 2 (.slice a2 al2.length c2) al2.length (atc al2) := own_keep (own_keep HO.out.1 HDd.out.2 (fun _ _ h => h)) U7 hasg
    have hR7 : RdP W7 (fun g => w.heap.size ≤ g ∧ g < W7.heap.size ∧ (Value.slice (some ⟨sg, 0, none⟩) (A ++ dead g0 :: List.replicate (M - (i + 1)) (dead ge)).length sc).ownBlock ≠ some g ∧ (Value.slice none 0 0).ownBlock ≠ some g) 2 (.slice row.aa row.al row.ac) al2.length (atc al2) := by
      rw [hrow]
      refine ⟨Rd.ofOwn hat7, fun _ g hg => ⟨?_, own_lt hat7 hg, fun e => hasg g hg (ob_some e).symm, fun e => by cases e⟩⟩
      have := HO.out.2 g hg
      have := H2.out.2.1.size
      omega
    have MS : MkSt d ge M Rv A row l al2 w Sv W7 0 (.slice (some ⟨sg, 0, none⟩) (A ++ dead g0 :: List.replicate (M - (i + 1)) (dead ge)).length sc) none 0 [] := by
      refine ⟨?_, by simp [T.sizeL], fun r h => (by cases h), ?_, ?_, fun g h => (by cases h), hR7, Uw7, fun g hg => ?_⟩
      · have e : row.withKids none 0 0 = row := by rw [hrow]; rfl
        rw [e]
        have h := D7
        rw [HI.out] at h ⊢
        rw [List.append_assoc]
        exact h
      · rw [List.take_zero, normL, SlF]
      · rw [List.take_zero, normL, hands]
        exact own_none
      · have := ob_some (hsg2.symm.trans hg)
        subst this
        exact hsgw
    have HMS := Lib.hid (And.intro MS (And.intro X7 (And.intro hGi hrow)))
    have HC7 := Lib.hid C7
    clear hW hiR hset D7 U7 hgi hGi hGlt C7 hdsg hsgw hXn hsB U27 Uw7 X7 hasg hat7 hR7 MS z0 z1 z2 z3 z4 z5 z6 z7 c0 c1 c2' c3 c4 c5 c6 c7 hrow hsg2
    refine HC7.out.mono ?_
    rintro e w8 ⟨rfl, B8⟩
    have X8 := (Upd.ofBelow (F := fun _ => False) B8).blk HMS.out.2.1 (fun h => h)
    have x0 := X8.cell 0
    have x1 := X8.cell 1
    have x2 := X8.cell 2
    have x3 := X8.cell 3
    have x4 := X8.cell 4
    simp only [List.getElem?_cons_zero, List.getElem?_cons_succ] at x0 x1 x2 x3 x4
    have K := kids_any k nm tx (.slice aa al.length ca) ak ks.length ck w8
    rw [HKS.out] at K
    have HK8 := Lib.hid K
    have H8 := Lib.hid B8
    obtain ⟨h, hh⟩ : ∃ h, h = hand GG i := ⟨_, rfl⟩
    rw [← hh]
    have Hh := Lib.hid hh
    clear B8 X8 K hh
    go_wp2_with fail
    refine HK8.out.mono ?_
    rintro e w9 ⟨rfl, B9⟩
    have B79 := below_tr H8.out B9
    have H9 := Lib.hid B79
    clear B9 B79 x0 x1 x2 x3 x4 i0 i1 hsc
    go_wp2
    go_loopg [11, 12] l.length (fun kq v11 v12 w' => ∃ (j : Nat) (Sj : Value) (ka : Option Addr) (kc : Nat) (D : List Row), v11 = .int .i64 j ∧ Hid (kq = l.length - j ∧ j ≤ l.length) ∧ Hid (MkSt d ge M Rv A row l al2 w Sv w' j Sj ka kc D))
    case atStart =>
      refine ⟨0, .slice (some ⟨sg, 0, none⟩) (A ++ dead g0 :: List.replicate (M - (i + 1)) (dead ge)).length sc, none, 0, [], rfl, Lib.hid ⟨rfl, Nat.zero_le _⟩, Lib.hid ?_⟩
      have U := Upd.ofBelow (F := fun _ => False) H9.out
      have h := HMS.out.1
      exact ⟨h.doc.below H9.out, h.len, h.live, h.slots.upd U (fun _ _ h => h) (fun g hg => ⟨hg.1, by have := U.size; omega, hg.2.2⟩), own_keep h.kids U (fun _ _ h => h), h.klow, (h.atts.keep U (fun _ _ h => h)).mono (fun g hg => ⟨hg.1, by have := U.size; omega, hg.2.2⟩), h.upd.trans U (fun _ _ h => h.elim), h.sv⟩
    case round =>
      obtain ⟨j, Sj, ka, kc, D, rfl, HJ, HM⟩ := hrel
      have hj0 : (0 : Int) ≤ (j : Int) := by omega
      by_cases hj : j < l.length
      · have hj1 : (j : Int) < (l.length : Int) := by omega
        have hj2 : decide (j < l.length) = true := decide_eq_true hj
        obtain ⟨x, hx⟩ : ∃ x, l[j]? = some x := ⟨l[j], List.getElem?_eq_getElem hj⟩
        have hxm := List.mem_of_getElem? hx
        have hFr : Forest wr (· < B) l ka0 kc0 := HL.out.1.keep HM.out.upd (fun g (hg : g < B) e => by
          rcases e with e | e
          · omega
          · have := HH.out.2.2.2.2.2.1 g e; omega)
        obtain ⟨g1, off, xk, xn, xa, xla, xca, xt, xkk, xlk, xkc, rfl, hck, y0, y1, y2, y3, y4, hxA⟩ := hFr.kid hx
        have hiA : (A ++ (row.withKids ka j kc :: D)).length = i + 1 + D.length := by
          have := HI.out
          simp
          omega
        have hszx := size_mem hx
        have hnA : (A ++ (row.withKids ka j kc :: D)).length + T.size x ≤ 4096 := by
          have h1 := HL.out.2.2.2.1
          have h2 := HH.out.2.2.2.2.2.2.1
          have h3 := HM.out.len
          have h4 := HI.out
          omega
        have hSjB : ∀ g, Sj.ownBlock = some g → B ≤ g := fun g hg => by
          rcases HM.out.sv g hg with e | e
          · exact HH.out.2.2.2.2.2.1 g e
          · have := HH.out.2.2.2.1.blk.lt; omega
        have hdoc : DocIs wr d Sj Rv ((A ++ (row.withKids ka j kc :: D)) ++ List.replicate (M - (A ++ (row.withKids ka j kc :: D)).length) (dead ge)) := by
          have h := HM.out.doc
          rw [hiA]
          rw [← HI.out] at h
          exact h
        have hliv : ∀ r ∈ A ++ (row.withKids ka j kc :: D), r.lv = true := by
          intro r hr
          rcases List.mem_append.1 hr with h | h
          · exact HH.out.2.2.2.2.1 r h
          · rcases List.mem_cons.1 h with h | h
            · rw [h]
              show row.lv = true
              rw [HMS.out.2.2.2]
            · exact HM.out.live r h
        have C := HH.out.2.2.2.2.2.2.2.2.1 x (HL.out.2.1 x hxm) (A ++ (row.withKids ka j kc :: D)) Sj Rv h _ wr (KindsL.all.1 HL.out.2.2.1 x hxm) (HH.out.2.2.1.kid x (HL.out.2.1 x hxm)) hxA hdoc hliv hSjB hnA
        have HC := Lib.hid C
        have HX := Lib.hid (And.intro hx (And.intro hj (And.intro hiA hnA)))
        clear hx hj hxm hFr hxA hiA hszx hnA hSjB hdoc hliv C
        go_wp2_with fail
        refine HC.out.mono ?_
        rintro e wa ⟨Sa, N, rfl, Da, La, Va, Sla, Ua, sa⟩
        rw [HX.out.2.2.1] at Da Sla ⊢
        obtain ⟨R, hR⟩ : ∃ R, R = A ++ (row.withKids ka j kc :: D) ++ N ++ List.replicate (M - (i + 1 + D.length + N.length)) (dead ge) := ⟨_, rfl⟩
        rw [← hR] at Da
        have hRi : R[i]? = some (row.withKids ka j kc) := by
          rw [hR, HI.out, List.append_assoc, List.append_assoc, List.getElem?_append_right (Nat.le_refl _), Nat.sub_self]
          rfl
        obtain ⟨m2, hm2⟩ : ∃ m2, m2 = R.length := ⟨_, rfl⟩
        obtain ⟨sg2, sc2, rfl, hsc2, _, _, _, _, _, _, _, k7, fz⟩ := Da.row hRi
        have d0 := Da.blk.cell 0
        simp only [List.getElem?_cons_zero] at d0
        rw [← hm2] at d0 hsc2
        have z7 := fz (i * 8 + 7)
        have k7 : wa.cell? ⟨sg2, i * 8 + 7, none⟩ = some (.slice ka j kc) := k7
        have i0 : (0 : Int) ≤ (i : Int) := Int.natCast_nonneg _
        have i1 : (i : Int) < (m2 : Int) := by have := (List.getElem?_eq_some_iff.1 hRi).1; omega
        obtain ⟨hk, hhk⟩ : ∃ hk, hk = hand (gen ge M (i + 1 + D.length)) (i + 1 + D.length) := ⟨_, rfl⟩
        rw [← hhk]
        have Ha := Lib.hid (And.intro Da (And.intro La (And.intro Va (And.intro Sla (And.intro Ua (And.intro sa (And.intro hR (And.intro hRi (And.intro hm2 hhk)))))))))
        clear Da La Va Sla Ua sa hR hRi hm2 hhk fz y0 y1 y2 y3 y4 hj0 hj1
        go_wp2
        apply wp_reg (fun w' : World => w'.cell? ⟨d, 0, none⟩ = some (.slice (some ⟨sg2, 0, none⟩) m2 sc2) ∧ w'.cell? ⟨sg2, i * 8 + 7, none⟩ = some (.slice ka j kc)) [0, 1, 2, 3, 4, 5, 6, 7, 8, 9, 10, 11, 12, 13] [14, 15] [16, 17, 18] (by kernel_rfl) (by kernel_rfl) (fun _ _ d _ _ h => by cases d <;> exact h) ⟨d0, k7⟩
        · iterate 14 (apply reads_consL rfl rfl; (· intro w0 hS; obtain ⟨hS1, hS2⟩ := hS; go_simp; try rfl); simp only [Act.put, List.setIfInBounds_toArray, List.set_cons_zero, List.set_cons_succ])
          exact rfl
        have V1 : Upd wa wa.drew (fun _ => False) := (Upd.refl wa _).drew
        generalize wa.drew = wb at V1 ⊢
        have HV1 := Lib.hid V1
        obtain ⟨q, hq⟩ : ∃ q, q = wb.heap.size := ⟨_, rfl⟩
        have HQ3 := Lib.hid hq
        clear V1 hq
        refine tail_consL rfl ?_
        go_wp2_with fail
        rw [← HQ3.out]
        generalize hW : World.alloc _ _ = Wc
        have Vc : Upd wa Wc (fun _ => False) := by rw [← hW]; exact HV1.out.alloc _
        have Xc : Blk Wc q [.int .u64 (hk : Nat)] 62 := by rw [← hW]; exact Blk.new' HQ3.out
        have hqa : wa.heap.size ≤ q := by rw [HQ3.out]; exact HV1.out.size
        have hWcq : Wc.heap.size = q + 1 := by rw [← hW, HQ3.out]; simp
        have Kc0 : wa.ownsRow 0 62 1 (.slice ka j kc) j (hands (gen ge M) (A.length + 1) (normL (l.take j))) := own_keep HM.out.kids Ha.out.2.2.2.2.1 (fun g hg e => by
          obtain ⟨_, hv⟩ := own_ty HM.out.kids hg
          rcases e with e | e
          · exact HM.out.doc.blk.ty (e ▸ hv) (by decide) rfl
          · obtain ⟨_, hv2⟩ := own_ty HM.out.doc.own e
            exact hv.ty hv2 (by decide) rfl)
        have Dc := Ha.out.1.keep Vc (fun h => h) (fun _ _ h => h)
        have Sc := Dc.row Ha.out.2.2.2.2.2.2.2.1
        have cd0 : Wc.cell? ⟨d, 0, none⟩ = some (.slice (some ⟨sg2, 0, none⟩) m2 sc2) := by rw [Ha.out.2.2.2.2.2.2.2.2.1]; exact Dc.blk.cell 0
        have ck7 : Wc.cell? ⟨sg2, i * 8 + 7, none⟩ = some (.slice ka j kc) := by
          obtain ⟨g', c', e, _, _, _, _, _, _, _, _, h7, _⟩ := Sc
          simp only [Value.slice.injEq, Option.some.injEq, Addr.mk.injEq] at e
          obtain ⟨⟨rfl, _⟩, _, _⟩ := e
          exact h7
        have Kc := own_keep Kc0 Vc (fun _ _ h => h)
        have Hc := Lib.hid (And.intro Vc (And.intro hqa (And.intro hWcq (And.intro Dc (And.intro Kc0 Xc)))))
        clear hW Vc hqa hWcq Kc0 Dc Sc d0 k7
        refine ⟨⟨cd0, ck7⟩, tail_consL rfl ?_⟩
        refine wpl_app (n := j) (m := 1) rfl rfl elemHd Tryd.underlying84 rfl Kc rfl (Rd.ofBlk Xc 1 1 rfl) (by intro u hu; simp at hu; subst hu; rfl) (by have := HX.out.2.1; have := HL.out.2.2.2.2.1; omega) ?_
        intro v8 w8' hAp
        obtain ⟨k8, c8, rfl, _⟩ := (Rd.ofOwn hAp.1).form
        have hksg : ∀ g, (Value.slice ka j kc).ownBlock = some g → g ≠ d ∧ g ≠ sg2 := fun g hg => by
          obtain ⟨_, hv⟩ := own_ty Hc.out.2.2.2.2.1 hg
          refine ⟨fun e => Ha.out.1.blk.ty (e ▸ hv) (by decide) rfl, fun e => ?_⟩
          obtain ⟨_, hv2⟩ := own_ty Ha.out.1.own (show (Value.slice (some ⟨sg2, 0, none⟩) R.length sc2).ownBlock = some sg2 from rfl)
          exact (e ▸ hv).ty hv2 (by decide) rfl
        have D8 := Hc.out.2.2.2.1.keep hAp.2.1 (fun e => (hksg d e).1 rfl) (fun g hg e => (hksg g e).2 (ob_some hg).symm)
        have cd0 : w8'.cell? ⟨d, 0, none⟩ = some (.slice (some ⟨sg2, 0, none⟩) m2 sc2) := by rw [Ha.out.2.2.2.2.2.2.2.2.1]; exact D8.blk.cell 0
        obtain ⟨g', c', e, _, _, _, _, _, _, _, _, h7, hfz⟩ := D8.row Ha.out.2.2.2.2.2.2.2.1
        simp only [Value.slice.injEq, Option.some.injEq, Addr.mk.injEq] at e
        obtain ⟨⟨rfl, _⟩, _, _⟩ := e
        have ck7 : w8'.cell? ⟨sg2, i * 8 + 7, none⟩ = some (.slice ka j kc) := h7
        have cz7 := hfz (i * 8 + 7)
        have H8b := Lib.hid (And.intro hAp (And.intro D8 hksg))
        clear hAp D8 hksg h7 hfz Kc Xc z7
        go_wp2_with fail
        refine ⟨⟨cd0, ck7⟩, tail_threeL rfl rfl rfl ?_⟩
        go_wp2
        go_roundg (l.length - (j + 1))
        case measure => have := HJ.out; have := HX.out; omega
        case rel =>
          obtain ⟨Da, La, Va, Sla, Ua, sa, hR, hRi, hm2, hhk⟩ := Ha.out
          obtain ⟨Vc, hqa, hWcq, Dc, Kc0, Xc⟩ := Hc.out
          obtain ⟨hAp, D8, hksg⟩ := H8b.out
          obtain ⟨hx, hjl, hiA, hnA⟩ := HX.out
          have hM := HM.out
          have s1 := Ua.size
          have s2 := Vc.size
          have s3 := hAp.2.1.size
          have s0 := hM.upd.size
          have hdw := HH.out.2.2.2.1.blk.lt
          have U9 : Upd w8' (w8'.setCell ⟨sg2, i * 8 + 7, none⟩ (.slice k8 (j + 1) c8)) (· = sg2) := (Upd.refl w8' (· = sg2)).set ⟨sg2, _, none⟩ _ (fun _ => rfl)
          have s9 := U9.size
          have D9 := D8.setKids hRi k8 (j + 1) c8
          have hset : R.set i ((row.withKids ka j kc).withKids k8 (j + 1) c8) = A ++ (row.withKids k8 (j + 1) c8 :: (D ++ N)) ++ List.replicate (M - (A.length + 1 + (D ++ N).length)) (dead ge) := by
            rw [hR, HI.out, List.append_assoc, List.append_assoc, List.set_append_right _ _ (Nat.le_refl _), Nat.sub_self]
            show A ++ (row.withKids k8 (j + 1) c8 :: (D ++ (N ++ _))) = _
            simp [Nat.add_assoc]
          rw [hset] at D9
          have hlR : R.length = (A ++ (row.withKids k8 (j + 1) c8 :: (D ++ N)) ++ List.replicate (M - (A.length + 1 + (D ++ N).length)) (dead ge)).length := by rw [← hset, List.length_set]
          have htk : normL (l.take (j + 1)) = normL (l.take j) ++ [norm x] := by rw [take_at hx, normL_map, normL_map, List.map_append]; rfl
          have hsl : T.sizeL (normL (l.take j)) = D.length := by rw [sizeL_norm _ (HL.out.2.2.1.take j)]; exact hM.len.symm
          have hsg2n : ∀ g, (Sj.ownBlock ≠ some g) → g < wr.heap.size → g ≠ sg2 := fun g h1 h2 e => by
            rcases sa sg2 rfl with h | h
            · exact h1 (e ▸ h)
            · omega
          have hknew : ∀ g, (Value.slice ka j kc).ownBlock ≠ some g → g < Wc.heap.size → (Value.slice k8 (j + 1) c8).ownBlock ≠ some g := fun g h1 h2 h => by
            rcases hAp.2.2 with e | e
            · exact h1 (e ▸ h)
            · have := ob_some (e.symm.trans h)
              omega
          have hkold : ∀ g, (Value.slice ka j kc).ownBlock = some g → g < wr.heap.size := fun g hg => own_lt hM.kids hg
          refine ⟨j + 1, _, k8, c8, D ++ N, v64s hjl (by have := HL.out.2.2.2.2.1; omega), Lib.hid ⟨rfl, hjl⟩, Lib.hid (?_ : MkSt d ge M Rv A row l al2 w Sv _ (j + 1) (.slice (some ⟨sg2, 0, none⟩) R.length sc2) k8 c8 (D ++ N))⟩
          have hold : ∀ sz v n xs, RdP wr (fun g => w.heap.size ≤ g ∧ g < wr.heap.size ∧ Sj.ownBlock ≠ some g ∧ (Value.slice ka j kc).ownBlock ≠ some g) sz v n xs → RdP (w8'.setCell ⟨sg2, i * 8 + 7, none⟩ (.slice k8 (j + 1) c8)) (fun g => w.heap.size ≤ g ∧ g < (w8'.setCell ⟨sg2, i * 8 + 7, none⟩ (.slice k8 (j + 1) c8)).heap.size ∧ (Value.slice (some ⟨sg2, 0, none⟩) R.length sc2).ownBlock ≠ some g ∧ (Value.slice k8 (j + 1) c8).ownBlock ≠ some g) sz v n xs := by
            intro sz v n xs h
            refine ((((h.keep Ua (fun g hg e => ?_)).keep Vc (fun _ _ h => h)).keep hAp.2.1 (fun g hg e => hg.2.2.2 e)).keep U9 (fun g hg e => hsg2n g hg.2.2.1 hg.2.1 e)).mono (fun g hg => ⟨hg.1, by omega, fun e => hsg2n g hg.2.2.1 hg.2.1 (ob_some e).symm, hknew g hg.2.2.2 (by omega)⟩)
            rcases e with e | e
            · have := hg.1; omega
            · exact hg.2.2.1 e
          refine ⟨D9, ?_, ?_, ?_, ?_, ?_, hold _ _ _ _ hM.atts, ?_, ?_⟩
          · rw [List.length_append, sizeL_at hx, hM.len, La]
          · intro r hr
            rcases List.mem_append.1 hr with h | h
            · exact hM.live r h
            · exact Va r h
          · rw [htk]
            refine SlF.snoc (hM.slots.keep hold) ?_
            rw [hsl]
            have h1 : A.length + 1 + D.length = i + 1 + D.length := by rw [HI.out]
            rw [h1]
            have h2 : hand (gen ge M A.length) A.length = h := by rw [Hh.out, HMS.out.2.2.1, HI.out]
            rw [h2]
            refine SlT.keep (fun sz v n xs hr => ?_) _ _ _ _ Sla
            refine (((hr.keep Vc (fun _ _ h => h)).keep hAp.2.1 (fun g hg e => by have := hkold g e; have := hg.1; omega)).keep U9 (fun g hg e => hg.2.2 (by rw [e]; rfl))).mono (fun g hg => ⟨by have := hg.1; omega, by have := hg.2.1; omega, hg.2.2, hknew g (fun e => by have := hkold g e; have := hg.1; omega) (by have := hg.2.1; omega)⟩)
          · rw [htk, hands_snoc, hsl]
            have h1 : A.length + 1 + D.length = i + 1 + D.length := by rw [HI.out]
            rw [h1, ← hhk]
            exact own_keep hAp.1 U9 (fun g hg e => by
              obtain ⟨_, hv⟩ := own_ty hAp.1 hg
              obtain ⟨_, hv2⟩ := own_ty D8.own (show (Value.slice (some ⟨sg2, 0, none⟩) R.length sc2).ownBlock = some sg2 from rfl)
              exact (e ▸ hv).ty hv2 (by decide) rfl)
          · intro g hg
            rcases hAp.2.2 with e | e
            · exact hM.klow g (e ▸ hg)
            · have := ob_some (e.symm.trans hg)
              omega
          · refine (((hM.upd.trans Ua (fun g hg e => ?_)).trans Vc (fun _ _ h => h.elim)).trans hAp.2.1 (fun g hg e => ?_)).trans U9 (fun g hg e => ?_)
            · rcases e with e | e
              · exact Or.inl e
              · rcases hM.sv g e with h | h
                · exact Or.inr h
                · omega
            · have := hM.klow g e
              omega
            · rcases sa sg2 rfl with h | h
              · rcases hM.sv sg2 h with h | h
                · exact Or.inr (e ▸ h)
                · omega
              · omega
          · intro g hg
            have := ob_some hg
            subst this
            rcases sa sg2 rfl with h | h
            · exact hM.sv sg2 h
            · exact Or.inr (show w.heap.size ≤ sg2 by omega)
      · have hj1 : ¬ (j : Int) < (l.length : Int) := by omega
        have hj2 : decide (j < l.length) = false := decide_eq_false hj
        have ej : j = l.length := by have := HJ.out; omega
        have HE := Lib.hid ej
        clear hj ej
        go_wp2
        go_ret
        have ej := HE.out
        subst ej
        have hM := HM.out
        have hlen := hM.len
        have hslots := hM.slots
        have hkids := hM.kids
        rw [List.take_length] at hlen hslots hkids
        refine ⟨Sj, row.withKids ka l.length kc :: D, ?_, ?_, ?_, ?_, ?_, hM.upd, hM.sv⟩
        · rw [Hh.out, HMS.out.2.2.1, HI.out]
          rfl
        · have h := hM.doc
          rw [show A.length + (row.withKids ka l.length kc :: D).length = A.length + 1 + D.length by rw [List.length_cons]; omega]
          exact h
        · rw [List.length_cons, hlen, HL.out.2.2.2.1]
        · intro r hr
          rcases List.mem_cons.1 hr with h | h
          · rw [h]
            show row.lv = true
            rw [HMS.out.2.2.2]
          · exact hM.live r h
        · rw [HN, SlT]
          have hrow := HMS.out.2.2.2
          have hGi := HMS.out.2.2.1
          refine ⟨row.withKids ka l.length kc, D, rfl, ?_, ?_, ?_, ?_, ?_, ?_, hM.atts.mono (fun g hg => ⟨hg.1, hg.2.1, hg.2.2.1⟩), ?_, hslots.keep fun _ _ _ _ h => h.mono (fun g hg => ⟨hg.1, hg.2.1, hg.2.2.1⟩)⟩
          · show row.g = _
            rw [hrow, ← HI.out]
            exact hGi
          · show row.lv = true
            rw [hrow]
          · show row.k = k
            rw [hrow]
          · show row.n = n2
            rw [hrow]
          · show row.t = tt
            rw [hrow]
          · show row.p = p
            rw [hrow]
          · have hl2 : (normL l).length = l.length := by rw [normL_map, List.length_map]
            rw [hl2]
            refine ⟨Rd.ofOwn hkids, fun _ g hg => ⟨hM.klow g hg, own_lt hkids hg, fun e => ?_⟩⟩
            obtain ⟨_, hv⟩ := own_ty hkids hg
            obtain ⟨_, hv2⟩ := own_ty hM.doc.own e
            exact hv.ty hv2 (by decide) rfl

end Df
end Go.Proofs.YtmmjmfadipmfiaaDoor
