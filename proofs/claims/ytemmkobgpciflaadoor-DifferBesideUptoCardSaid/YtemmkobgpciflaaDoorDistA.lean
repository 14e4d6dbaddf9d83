/- The document's distance of two parts: (*Far).dist, walked. -/
import Derived.Test.YtemmkobgpciflaaDoorFarOf
import Derived.Test.YtemmkobgpciflaaDoorCan
namespace Go.Proofs.YtemmkobgpciflaaDoor
open Go.RowKit
open Ch
namespace Df

def place (i m k n : Nat) : Nat := ((i * 33 + m) * 33 + k) * 33 + n
theorem place_lt {i m k n : Nat} (h1 : i ≤ 32) (h2 : m ≤ 32) (h3 : k ≤ 32) (h4 : n ≤ 32) : place i m k n < 1185921 := by unfold place; omega
theorem place_inj {i m k n i' m' k' n' : Nat} (h2 : m ≤ 32) (h3 : k ≤ 32) (h4 : n ≤ 32) (h2' : m' ≤ 32) (h3' : k' ≤ 32) (h4' : n' ≤ 32) (h : place i m k n = place i' m' k' n') : i = i' ∧ m = m' ∧ k = k' ∧ n = n' := by unfold place at h; omega

/-- The table holds right distances, or none. -/
def KnownIs (w : World) (K S : Nat) (A B : List Nd) : Prop := ∃ vs, Blk w K vs 3 ∧ vs.length = S ∧ ∀ j, j < S → ∃ z : Int, vs[j]? = some (.int .i64 z) ∧ (0 ≤ z → ∀ i m k n, i ≤ 32 → m ≤ 32 → k ≤ 32 → n ≤ 32 → place i m k n = j → z = (far A B i m k n : Nat))

def TreesRd (w : World) (P : Nat → Prop) (A : List Nd) (v : Value) : Prop := ∃ xs, RdP w P 5 v A.length xs ∧ ForestAt w P (A.map (·.1)) xs
theorem TreesRd.keep {w w' : World} {P : Nat → Prop} {A : List Nd} {v : Value} (h : TreesRd w P A v) {F : Nat → Prop} (hU : Upd w w' F) (hF : ∀ g, P g → ¬ F g) : TreesRd w' P A v := by
  obtain ⟨xs, h1, h2⟩ := h
  exact ⟨xs, h1.keep hU hF, h2.keep hU hF⟩
theorem TreesRd.node {w : World} {P : Nat → Prop} {A : List Nd} {a : Option Addr} {m c : Nat} (h : TreesRd w P A (.slice a m c)) {p : Nat} {x : Nd} (hx : A[p]? = some x) :
    ∃ g off k n aa la ca t kk lk kc, a = some ⟨g, off, none⟩ ∧ m ≤ c ∧ w.cell? ⟨g, off + p * 5, none⟩ = some (.int .i64 k) ∧ w.cell? ⟨g, off + p * 5 + 1, none⟩ = some (.string n) ∧ w.cell? ⟨g, off + p * 5 + 2, none⟩ = some (.slice aa la ca) ∧
      w.cell? ⟨g, off + p * 5 + 3, none⟩ = some (.string t) ∧ w.cell? ⟨g, off + p * 5 + 4, none⟩ = some (.slice kk lk kc) ∧ TreeAt w P x.1 [.int .i64 k, .string n, .slice aa la ca, .string t, .slice kk lk kc] := by
  obtain ⟨xs, h1, h2⟩ := h
  exact ForestAt.kid h2 (by rw [List.length_map]; exact h1.1) (by rw [List.getElem?_map, hx]; rfl)
def FirstsRd (w : World) (P : Nat → Prop) (A : List Nd) (v : Value) : Prop := RdP w P 1 v A.length (firsts A)
theorem FirstsRd.node {w : World} {P : Nat → Prop} {A : List Nd} {a : Option Addr} {m c : Nat} (h : FirstsRd w P A (.slice a m c)) {p : Nat} {x : Nd} (hx : A[p]? = some x) :
    ∃ g off, a = some ⟨g, off, none⟩ ∧ m ≤ c ∧ w.cell? ⟨g, off + p, none⟩ = some (.int .i64 (x.2 : Nat)) := by
  obtain ⟨g, off, c', e, hc, hr⟩ := h.1.at_ (j := p) (u := .int .i64 (x.2 : Nat)) (by simp [firsts, hx])
  simp only [Value.slice.injEq] at e
  obtain ⟨rfl, e2, rfl⟩ := e
  exact ⟨g, off, rfl, by omega, hr⟩

def FarR (w : World) (X K S : Nat) (A B : List Nd) (va fa vb fb : Value) (kc : Nat) : Prop := Blk w X [va, fa, vb, fb, .slice (some ⟨K, 0, none⟩) S kc] 104 ∧ X ≠ K ∧ S ≤ kc ∧ TreesRd w (· ≠ K) A va ∧ FirstsRd w (· ≠ K) A fa ∧ TreesRd w (· ≠ K) B vb ∧ FirstsRd w (· ≠ K) B fb
theorem FarR.keep {w w' : World} {X K S : Nat} {A B : List Nd} {va fa vb fb : Value} {kc : Nat} (h : FarR w X K S A B va fa vb fb kc) (hU : Upd w w' (· = K)) : FarR w' X K S A B va fa vb fb kc := by
  obtain ⟨h1, h2, h3, h4, h5, h6, h7⟩ := h
  have hF : ∀ g, g ≠ K → ¬ g = K := fun g h e => h e
  exact ⟨hU.blk h1 h2, h2, h3, h4.keep hU hF, RdP.keep h5 hU hF, h6.keep hU hF, RdP.keep h7 hU hF⟩
def DistPost (w : World) (K S : Nat) (A B : List Nd) (r : Nat) (e : Ending) (w' : World) : Prop := e = .returned (.int .i64 (r : Nat)) ∧ KnownIs w' K S A B ∧ Upd w w' (· = K)

theorem least_nat (a b : Nat) (w : World) : Calls Tryd.prog 98 #[.int .i64 (a : Nat), .int .i64 (b : Nat)] w fun e w' => e = .returned (.int .i64 ((min a b : Nat) : Int)) ∧ w' = w := by
  refine (least_any a b w).mono ?_
  rintro e w' ⟨rfl, rfl⟩
  refine ⟨ret_int ?_, rfl⟩
  split <;> omega

set_option maxRecDepth 100000 in
theorem dist_zero (X K S : Nat) (A B : List Nd) (i k : Nat) (hi : i = 0) (hk : k = 0) (w : World) (hM : KnownIs w K S A B) :
    Calls Tryd.prog 58 #[.pointer (some ⟨X, 0, none⟩), .int .i64 (i : Nat), .int .i64 ((0 : Nat) : Int), .int .i64 (k : Nat), .int .i64 ((0 : Nat) : Int)] w (DistPost w K S A B (far A B i 0 k 0)) := by
  subst hi hk
  rw [far_end A B (Or.inl (Nat.le_refl _))]
  have HH := Lib.hid hM
  clear hM
  simp only [Int.ofNat_zero, Int.natCast_zero]
  go_enter Tryd.func58, Tryd.ntmps58
  go_wp2
  go_ret
  exact ⟨rfl, HH.out, Upd.refl _ _⟩

set_option maxRecDepth 100000 in
set_option maxHeartbeats 4000000 in
theorem dist_step (X K S : Nat) (hS : S = 1185921) (A B : List Nd) (va ua vb ub : Value) (kc : Nat) (ga : Good A) (gb : Good B) (fa : Fine A) (fb : Fine B) (s i m k n : Nat) (hs : m + n ≤ s + 1)
    (ih : ∀ i m k n, m + n ≤ s → ∀ w, FarR w X K S A B va ua vb ub kc → KnownIs w K S A B → Part A i m → Part B k n → m ≤ 32 → n ≤ 32 → Calls Tryd.prog 58 #[.pointer (some ⟨X, 0, none⟩), .int .i64 (i : Nat), .int .i64 (m : Nat), .int .i64 (k : Nat), .int .i64 (n : Nat)] w (DistPost w K S A B (far A B i m k n)))
    (w : World) (hX : FarR w X K S A B va ua vb ub kc) (hK : KnownIs w K S A B) (pa : Part A i m) (pb : Part B k n) (hm : m ≤ 32) (hn : n ≤ 32) :
    Calls Tryd.prog 58 #[.pointer (some ⟨X, 0, none⟩), .int .i64 (i : Nat), .int .i64 (m : Nat), .int .i64 (k : Nat), .int .i64 (n : Nat)] w (DistPost w K S A B (far A B i m k n)) := by
  obtain ⟨d, hd⟩ : ∃ d, d = far A B i m k n := ⟨_, rfl⟩
  rw [← hd]
  obtain ⟨a, ca, rfl, hca⟩ : ∃ a ca, va = .slice a A.length ca ∧ A.length ≤ ca := by
    obtain ⟨_, r, _⟩ := hX.2.2.2.1
    exact r.1.form
  obtain ⟨a', ca', rfl, hca'⟩ : ∃ a ca, ua = .slice a A.length ca ∧ A.length ≤ ca := hX.2.2.2.2.1.1.form
  obtain ⟨b, cb, rfl, hcb⟩ : ∃ a ca, vb = .slice a B.length ca ∧ B.length ≤ ca := by
    obtain ⟨_, r, _⟩ := hX.2.2.2.2.2.1
    exact r.1.form
  obtain ⟨b', cb', rfl, hcb'⟩ : ∃ a ca, ub = .slice a B.length ca ∧ B.length ≤ ca := hX.2.2.2.2.2.2.1.form
  have hi := pa.1
  have hk := pb.1
  have hi32 : i ≤ 32 := by omega
  have hk32 : k ≤ 32 := by omega
  have HS := Lib.hid hS
  clear hS
  have HH := Lib.hid (And.intro hX (And.intro hK (And.intro pa (And.intro pb (And.intro hd (And.intro hs (And.intro ih (And.intro ga (And.intro gb (And.intro fa fb))))))))))
  clear hX hK pa pb hd ih hs ga gb fa fb
  by_cases h1 : i = m
  · subst h1
    go_enter Tryd.func58, Tryd.ntmps58
    go_wp2
    go_ret
    refine ⟨ret_int ?_, HH.out.2.1, Upd.refl _ _⟩
    rw [HH.out.2.2.2.2.1, far_end A B (Or.inl (Nat.le_refl _))]
    simp
    try omega
  · have h1' : ((i : Int) == (m : Int)) = false := beq_eq_false_iff_ne.2 (by omega)
    have h1n : (i == m) = false := beq_eq_false_iff_ne.2 h1
    by_cases h2 : k = n
    · subst h2
      clear h1
      go_enter Tryd.func58, Tryd.ntmps58
      go_wp2
      go_ret
      refine ⟨ret_int ?_, HH.out.2.1, Upd.refl _ _⟩
      rw [HH.out.2.2.2.2.1, far_end A B (Or.inr (Nat.le_refl _))]
      simp
      omega
    · have h2' : ((k : Int) == (n : Int)) = false := beq_eq_false_iff_ne.2 (by omega)
      have h2n : (k == n) = false := beq_eq_false_iff_ne.2 h2
      have HI := Lib.hid (And.intro h1 h2)
      clear h1 h2
      have x0 := HH.out.1.1.cell 0
      have x1 := HH.out.1.1.cell 1
      have x2 := HH.out.1.1.cell 2
      have x3 := HH.out.1.1.cell 3
      have x4 := HH.out.1.1.cell 4
      simp only [List.getElem?_cons_zero, List.getElem?_cons_succ] at x0 x1 x2 x3 x4
      have hkc := HH.out.1.2.2.1
      obtain ⟨t, ht⟩ : ∃ t, t = place i m k n := ⟨_, rfl⟩
      have htl : t < S := by rw [ht, HS.out]; exact place_lt hi32 hm hk32 hn
      have hti : (((i : Int) * 33 + (m : Int)) * 33 + (k : Int)) * 33 + (n : Int) = (t : Int) := by rw [ht]; unfold place; omega
      have htz : (t : Int) < (S : Int) := by omega
      have ht0 : (0 : Int) ≤ (t : Int) := by omega
      obtain ⟨vs, hvb, hvl, hvz⟩ := HH.out.2.1
      obtain ⟨z, hz, hzr⟩ := hvz t htl
      have kz : w.cell? ⟨K, t, none⟩ = some (.int .i64 z) := (hvb.cell t).trans hz
      have kf : w.frozen? ⟨K, t, none⟩ = false := hvb.free t
      have HT := Lib.hid (And.intro ht (And.intro hvb (And.intro hvl (And.intro hvz (And.intro hz hzr)))))
      clear ht hvb hvl hvz hz hzr
      by_cases hz0 : 0 ≤ z
      · have hzd : decide (0 ≤ z) = true := decide_eq_true hz0
        have HZ := Lib.hid hz0
        go_enter Tryd.func58, Tryd.ntmps58
        go_wp2
        go_ret
        refine ⟨ret_int ?_, HH.out.2.1, Upd.refl _ _⟩
        rw [HH.out.2.2.2.2.1]
        exact HT.out.2.2.2.2.2 HZ.out i m k n hi32 hm hk32 hn HT.out.1.symm
      · have hzd : decide (0 ≤ z) = false := decide_eq_false hz0
        obtain ⟨p, hp⟩ : ∃ p, m = p + 1 := ⟨m - 1, by have := HI.out; omega⟩
        obtain ⟨q, hq⟩ : ∃ q, n = q + 1 := ⟨n - 1, by have := HI.out; omega⟩
        have hpA : p < A.length := by have := HH.out.2.2.1.2.1; omega
        have hqB : q < B.length := by have := HH.out.2.2.2.1.2.1; omega
        obtain ⟨x, hx⟩ : ∃ x, A[p]? = some x := ⟨A[p], List.getElem?_eq_getElem hpA⟩
        obtain ⟨y, hy⟩ : ∃ y, B[q]? = some y := ⟨B[q], List.getElem?_eq_getElem hqB⟩
        obtain ⟨g3, o3, rfl, _, f3⟩ := HH.out.1.2.2.2.2.1.node hx
        obtain ⟨g4, o4, rfl, _, f4⟩ := HH.out.1.2.2.2.2.2.2.node hy
        obtain ⟨g1, o1, k1, n1, a1, l1, c1, t1, q1, ql1, r1, rfl, _, v0, v1, v2, v3, v4, xT⟩ := HH.out.1.2.2.2.1.node hx
        obtain ⟨g2, o2, k2, n2, a2, l2, c2, t2, q2, ql2, r2, rfl, _, u0, u1, u2, u3, u4, yT⟩ := HH.out.1.2.2.2.2.2.1.node hy
        have em : wrap64 ((m : Int) - 1) = (p : Int) := by rw [Go.IntWalk.wrap64_in _ (by omega)]; omega
        have en : wrap64 ((n : Int) - 1) = (q : Int) := by rw [Go.IntWalk.wrap64_in _ (by omega)]; omega
        have emw : IntKind.i64.wrap ((m : Int) - 1) = (p : Int) := by rw [wrapj (by omega) (by omega)]; omega
        have enw : IntKind.i64.wrap ((n : Int) - 1) = (q : Int) := by rw [wrapj (by omega) (by omega)]; omega
        have p0 : (0 : Int) ≤ (p : Int) := by omega
        have q0 : (0 : Int) ≤ (q : Int) := by omega
        have pl : (p : Int) < (A.length : Int) := by omega
        have ql : (q : Int) < (B.length : Int) := by omega
        obtain ⟨SP, hSP⟩ : ∃ SP : World → Prop, ∀ w' : World, SP w' ↔ w'.cell? ⟨X, 0, none⟩ = some (.slice (some ⟨g1, o1, none⟩) A.length ca) ∧ w'.cell? ⟨X, 2, none⟩ = some (.slice (some ⟨g2, o2, none⟩) B.length cb) ∧ (w'.cell? ⟨g1, o1 + p * 5, none⟩ = some (.int .i64 k1) ∧ w'.cell? ⟨g1, o1 + p * 5 + 1, none⟩ = some (.string n1) ∧ w'.cell? ⟨g1, o1 + p * 5 + 2, none⟩ = some (.slice a1 l1 c1) ∧ w'.cell? ⟨g1, o1 + p * 5 + 3, none⟩ = some (.string t1) ∧ w'.cell? ⟨g1, o1 + p * 5 + 4, none⟩ = some (.slice q1 ql1 r1)) ∧ w'.cell? ⟨g2, o2 + q * 5, none⟩ = some (.int .i64 k2) ∧ w'.cell? ⟨g2, o2 + q * 5 + 1, none⟩ = some (.string n2) ∧ w'.cell? ⟨g2, o2 + q * 5 + 2, none⟩ = some (.slice a2 l2 c2) ∧ w'.cell? ⟨g2, o2 + q * 5 + 3, none⟩ = some (.string t2) ∧ w'.cell? ⟨g2, o2 + q * 5 + 4, none⟩ = some (.slice q2 ql2 r2) := ⟨fun w' => w'.cell? ⟨X, 0, none⟩ = some (.slice (some ⟨g1, o1, none⟩) A.length ca) ∧ w'.cell? ⟨X, 2, none⟩ = some (.slice (some ⟨g2, o2, none⟩) B.length cb) ∧ (w'.cell? ⟨g1, o1 + p * 5, none⟩ = some (.int .i64 k1) ∧ w'.cell? ⟨g1, o1 + p * 5 + 1, none⟩ = some (.string n1) ∧ w'.cell? ⟨g1, o1 + p * 5 + 2, none⟩ = some (.slice a1 l1 c1) ∧ w'.cell? ⟨g1, o1 + p * 5 + 3, none⟩ = some (.string t1) ∧ w'.cell? ⟨g1, o1 + p * 5 + 4, none⟩ = some (.slice q1 ql1 r1)) ∧ w'.cell? ⟨g2, o2 + q * 5, none⟩ = some (.int .i64 k2) ∧ w'.cell? ⟨g2, o2 + q * 5 + 1, none⟩ = some (.string n2) ∧ w'.cell? ⟨g2, o2 + q * 5 + 2, none⟩ = some (.slice a2 l2 c2) ∧ w'.cell? ⟨g2, o2 + q * 5 + 3, none⟩ = some (.string t2) ∧ w'.cell? ⟨g2, o2 + q * 5 + 4, none⟩ = some (.slice q2 ql2 r2), fun _ => Iff.rfl⟩
        have hSk : ∀ w' : World, Upd w w' (· = K) → SP w' := by
          intro w' hU
          have XX := (HH.out.1.keep hU).1
          have hh : ∀ g, (g ≠ K → ∀ j v, w.cell? ⟨g, j, none⟩ = some v → w'.cell? ⟨g, j, none⟩ = some v) := fun g hg j v h => (hU.cell (p := ⟨g, j, none⟩) (cell_lt' h) hg).trans h
          have e1 : g1 ≠ K := by
            obtain ⟨_, r, _⟩ := HH.out.1.2.2.2.1
            exact r.2 (by omega) g1 rfl
          have e2 : g2 ≠ K := by
            obtain ⟨_, r, _⟩ := HH.out.1.2.2.2.2.2.1
            exact r.2 (by omega) g2 rfl
          exact (hSP _).2 ⟨XX.cell 0, XX.cell 2, ⟨hh g1 e1 _ _ v0, hh g1 e1 _ _ v1, hh g1 e1 _ _ v2, hh g1 e1 _ _ v3, hh g1 e1 _ _ v4⟩, hh g2 e2 _ _ u0, hh g2 e2 _ _ u1, hh g2 e2 _ _ u2, hh g2 e2 _ _ u3, hh g2 e2 _ _ u4⟩
        have HSK := Lib.hid hSk
        have HSP := Lib.hid hSP
        have H2 := Lib.hid (And.intro hx (And.intro hy (And.intro hp (And.intro hq (And.intro xT yT)))))
        clear hSk hSP v0 v1 v2 v3 v4 u0 u1 u2 u3 u4 hx hy hp hq xT yT hpA hqB hz0
        go_enter Tryd.func58, Tryd.ntmps58
        go_wp2
        apply wp_reg (fun w' : World => w'.cell? ⟨X, 1, none⟩ = some (.slice (some ⟨g3, o3, none⟩) A.length ca') ∧ w'.cell? ⟨X, 3, none⟩ = some (.slice (some ⟨g4, o4, none⟩) B.length cb') ∧ w'.cell? ⟨g3, o3 + p, none⟩ = some (.int .i64 (x.2 : Nat)) ∧ w'.cell? ⟨g4, o4 + q, none⟩ = some (.int .i64 (y.2 : Nat))) [0, 1, 2, 3, 4, 5, 6, 7, 8, 9, 10, 11, 12, 13, 14, 15, 16, 17] [18] [19] (by kernel_rfl) (by kernel_rfl) (fun _ _ d _ _ h => by cases d <;> exact h) ⟨x1, x3, f3, f4⟩
        · iterate 18 (apply reads_consL rfl rfl; (· intro w0 hS; obtain ⟨hS0, hS1, hS2, hS3⟩ := hS; go_simp; try rfl); simp only [Act.put, List.setIfInBounds_toArray, List.set_cons_zero, List.set_cons_succ])
          exact rfl
        have f3' : w.drew.cell? ⟨g3, o3 + p, none⟩ = some (.int .i64 (x.2 : Nat)) := f3
        have f4' : w.drew.cell? ⟨g4, o4 + q, none⟩ = some (.int .i64 (y.2 : Nat)) := f4
        have x1' : w.drew.cell? ⟨X, 1, none⟩ = some (.slice (some ⟨g3, o3, none⟩) A.length ca') := x1
        have x3' : w.drew.cell? ⟨X, 3, none⟩ = some (.slice (some ⟨g4, o4, none⟩) B.length cb') := x3
        have SS : w.drew.cell? ⟨X, 1, none⟩ = some (.slice (some ⟨g3, o3, none⟩) A.length ca') ∧ w.drew.cell? ⟨X, 3, none⟩ = some (.slice (some ⟨g4, o4, none⟩) B.length cb') ∧ w.drew.cell? ⟨g3, o3 + p, none⟩ = some (.int .i64 (x.2 : Nat)) ∧ w.drew.cell? ⟨g4, o4 + q, none⟩ = some (.int .i64 (y.2 : Nat)) := ⟨x1', x3', f3', f4'⟩
        clear f3' f4' x1' x3'
        refine tail_consL rfl ?_
        go_wp2_with fail
        refine ⟨SS, tail_oneL rfl ?_⟩
        clear SS x0 x1 x2 x3 x4 f3 f4 kz kf
        obtain ⟨hX, hK, pa, pb, hd, hs, ih, ga, gb, fa, fb⟩ := HH.out
        obtain ⟨hx, hy, hp, hq, xT, yT⟩ := H2.out
        have e1 : m - 1 = p := by omega
        have e2 : n - 1 = q := by omega
        have him : i < m := by have := HI.out; omega
        have hkn : k < n := by have := HI.out; omega
        have pl1 := pa.less him
        have pl2 := pb.less hkn
        obtain ⟨_, _, pf1, pf2⟩ := pa.first ga him
        obtain ⟨_, _, pg1, pg2⟩ := pb.first gb hkn
        have eax : at_ A m = x := by
          have := at_get (A := A) (m := m) (by omega) pa.2.1
          rw [e1, hx] at this
          exact (Option.some.inj this).symm
        have eby : at_ B n = y := by
          have := at_get (A := B) (m := n) (by omega) pb.2.1
          rw [e2, hy] at this
          exact (Option.some.inj this).symm
        have hfar := far_on ga gb pa pb him hkn
        rw [eax] at pf1 pf2
        rw [eby] at pg1 pg2
        rw [e1] at pl1 pf2
        rw [e2] at pl2 pg2
        rw [eax, eby, e1, e2, ← hd] at hfar
        have hx2 : x.2 ≤ p := pf2.1
        have hy2 : y.2 ≤ q := pg2.1
        have Ud : Upd w w.drew (· = K) := (Upd.refl w _).drew
        have C1 := ih i p k n (by omega) w.drew (hX.keep Ud) hK pl1 pb (by omega) hn
        obtain ⟨d1, hd1⟩ : ∃ d1, d1 = far A B i p k n := ⟨_, rfl⟩
        rw [← hd1] at C1 hfar
        have ld1 : d1 ≤ 64 := by rw [hd1]; have := far_le A B _ i p k n (Nat.le_refl _); omega
        have HP := Lib.hid (And.intro pl2 (And.intro pf1 (And.intro pf2 (And.intro pg1 (And.intro pg2 (And.intro hx2 hy2))))))
        have HC1 := Lib.hid C1
        have HFar := Lib.hid hfar
        clear hX hK pa pb hd hs ih ga gb fa fb hx hy hp hq xT yT e1 e2 him hkn pl1 pl2 pf1 pf2 pg1 pg2 eax eby hfar hx2 hy2 Ud hd1 C1
        go_wp2_with fail
        refine HC1.out.mono ?_
        rintro e w1 ⟨rfl, K1, U1'⟩
        have U1 : Upd w w1 (· = K) := (Upd.refl w (· = K)).drew.trans U1' (fun _ _ h => h)
        obtain ⟨hX, _, pa, pb, hd, hs, ih, _⟩ := HH.out
        have hpq := H2.out.2.2
        have C2 := ih i m k q (by omega) w1 (hX.keep U1) K1 pa HP.out.1 hm (by omega)
        obtain ⟨d2, hd2⟩ : ∃ d2, d2 = far A B i m k q := ⟨_, rfl⟩
        rw [← hd2] at C2
        have ld2 : d2 ≤ 64 := by rw [hd2]; have := far_le A B _ i m k q (Nat.le_refl _); omega
        have H1 := Lib.hid U1
        have HC2 := Lib.hid (And.intro C2 hd2)
        clear U1 U1' K1 hX pa pb hd hs ih hpq C2 hd2
        go_wp2_with fail
        refine HC2.out.1.mono ?_
        rintro e w2 ⟨rfl, K2, U2'⟩
        have H2' := Lib.hid (And.intro K2 (H1.out.trans U2' (fun _ _ h => h)))
        clear K2 U2'
        go_wp2_with fail
        refine (least_nat d1 d2 _).mono ?_
        rintro e w3 ⟨rfl, rfl⟩
        obtain ⟨e1, he1⟩ : ∃ e1, e1 = min d1 d2 := ⟨_, rfl⟩
        rw [← he1]
        have le1 : e1 ≤ 64 := by omega
        have HE1 := Lib.hid he1
        clear he1
        obtain ⟨K3, U3⟩ := H2'.out
        have S3 := HSK.out _ U3.drew
        have fx := HH.out.2.2.2.2.2.2.2.2.2.1.get H2.out.1
        have B3 : Upd w w3.drew (· = K) := U3.drew
        have CO := one_any (· ≠ K) x.1 y.1 _ _ w3.drew (H2.out.2.2.2.2.1.keep B3 (fun g h e => h e)) (H2.out.2.2.2.2.2.keep B3 (fun g h e => h e)) fx.1 fx.2
        have HCO := Lib.hid CO
        have H3 := Lib.hid (And.intro K3 U3)
        clear CO K3 U3 fx B3
        go_wp2_with fail
        apply wp_reg SP [0, 1, 2, 3, 4, 5, 6, 7, 8, 9, 10, 11, 12, 13, 14, 15, 16, 17] [18] [] (by kernel_rfl) (by kernel_rfl) (fun _ _ d _ _ h => by cases d <;> exact h) S3
        · iterate 18 (apply reads_consL rfl rfl; (· intro w0 hS; have hS := (HSP.out w0).1 hS; obtain ⟨hS0, hS1, ⟨hx0, hx1, hx2, hx3, hx4⟩, hy0, hy1, hy2, hy3, hy4⟩ := hS; go_simp; try rfl); simp only [Act.put, List.setIfInBounds_toArray, List.set_cons_zero, List.set_cons_succ])
          exact rfl
        clear S3
        refine tail_consL rfl ?_
        go_wp2_with fail
        refine HCO.out.mono ?_
        rintro e w4 ⟨rfl, B4⟩
        have U4 : Upd w w4 (· = K) := H3.out.2.drew.trans (Upd.ofBelow (F := fun _ => False) B4) (fun _ _ h => h.elim)
        have K4 : KnownIs w4 K S A B := by
          obtain ⟨vs, h1, h2, h3⟩ := H3.out.1
          exact ⟨vs, h1.at_ (B4.block K h1.drew.lt), h2, h3⟩
        have S4 := HSK.out _ U4
        have H4 := Lib.hid (And.intro K4 U4)
        clear U4 K4 B4
        go_wp2_with fail
        refine ⟨S4, tail_zero ?_⟩
        clear S4
        obtain ⟨d5, hd5⟩ : ∃ d5, d5 = turnN x.1 y.1 := ⟨_, rfl⟩
        obtain ⟨ro, hro⟩ : ∃ r, r = oneB x.1 y.1 := ⟨_, rfl⟩
        rw [← hro]
        have ht5 := turn_of hro
        rw [← hd5] at ht5
        have l5 : d5 ≤ 1 := by rw [ht5]; split <;> omega
        have HD5 := Lib.hid (And.intro hd5 ht5)
        clear hd5 hro ht5
        go_upto_if 105 with (fail)
        go_cut [15] from 106 (fun s15 wx => s15 = .int .i64 (d5 : Nat) ∧ wx = w4)
        case first =>
          cases ro with
          | true =>
            go_wp2
            go_meet
            exact ⟨by rw [HD5.out.2]; rfl, rfl⟩
          | false =>
            go_wp2
            go_meet
            exact ⟨by rw [HD5.out.2]; rfl, rfl⟩
        case rest =>
          obtain ⟨rfl, rfl⟩ := hcut
          obtain ⟨hX, _, pa, pb, hd, hs, ih, _⟩ := HH.out
          have hpq := H2.out.2.2
          have hP := HP.out
          obtain ⟨K4, U4⟩ := H4.out
          have C3 := ih i x.2 k y.2 (by omega) wc (hX.keep U4) K4 hP.2.1 hP.2.2.2.1 (by omega) (by omega)
          obtain ⟨d3, hd3⟩ : ∃ d3, d3 = far A B i x.2 k y.2 := ⟨_, rfl⟩
          rw [← hd3] at C3
          have ld3 : d3 ≤ 64 := by rw [hd3]; have := far_le A B _ i x.2 k y.2 (Nat.le_refl _); omega
          have HC3 := Lib.hid (And.intro C3 hd3)
          clear hX pa pb hd hs ih hpq hP K4 U4 C3 hd3
          go_wp2_with fail
          refine HC3.out.1.mono ?_
          rintro e w5 ⟨rfl, K5, U5'⟩
          have U5 : Upd w w5 (· = K) := H4.out.2.trans U5' (fun _ _ h => h)
          obtain ⟨hX, _, pa, pb, hd, hs, ih, _⟩ := HH.out
          have hpq := H2.out.2.2
          have hP := HP.out
          have C4 := ih x.2 p y.2 q (by omega) w5 (hX.keep U5) K5 hP.2.2.1 hP.2.2.2.2.1 (by omega) (by omega)
          obtain ⟨d4, hd4⟩ : ∃ d4, d4 = far A B x.2 p y.2 q := ⟨_, rfl⟩
          rw [← hd4] at C4
          have ld4 : d4 ≤ 64 := by rw [hd4]; have := far_le A B _ x.2 p y.2 q (Nat.le_refl _); omega
          have hfin : d = min (e1 + 1) (d3 + d4 + d5) := by
            have h := HFar.out
            rw [← HC2.out.2, ← HC3.out.2, ← hd4, ← HD5.out.1, ← HE1.out] at h
            exact h
          have CL : ∀ w', Calls Tryd.prog 98 #[.int .i64 ((e1 : Int) + 1), .int .i64 ((d3 : Int) + (d4 : Int) + (d5 : Int))] w' fun e w'' => e = .returned (.int .i64 (d : Nat)) ∧ w'' = w' := fun w' => (least_any _ _ w').mono (by
            rintro e w'' ⟨rfl, rfl⟩
            refine ⟨ret_int ?_, rfl⟩
            split <;> omega)
          have H5 := Lib.hid U5
          have HC4 := Lib.hid C4
          have HCL := Lib.hid CL
          have HFin := Lib.hid hfin
          clear hX pa pb hd hs ih hpq hP K5 U5 U5' C4 hd4 CL hfin
          go_wp2_with fail
          refine HC4.out.mono ?_
          rintro e w6 ⟨rfl, K6, U6'⟩
          have H6 := Lib.hid (And.intro K6 (H5.out.trans U6' (fun _ _ h => h)))
          clear K6 U6'
          go_wp2_with fail
          refine (HCL.out _).mono ?_
          rintro e w7 ⟨rfl, rfl⟩
          obtain ⟨K7, U7⟩ := H6.out
          have X7 := HH.out.1.keep U7
          have x4 := X7.1.cell 4
          simp only [List.getElem?_cons_zero, List.getElem?_cons_succ] at x4
          obtain ⟨vs7, b7, l7, z7⟩ := K7
          obtain ⟨z', hz', _⟩ := z7 t htl
          have kz := (b7.cell t).trans hz'
          have kf := b7.free t
          have H7 := Lib.hid (And.intro b7 (And.intro l7 z7))
          clear U7 X7 b7 l7 z7 hz'
          go_wp2
          go_ret
          obtain ⟨b7, l7, z7⟩ := H7.out
          refine ⟨rfl, ⟨_, b7.set t _, by rw [List.length_set]; exact l7, fun j hj => ?_⟩, H6.out.2.set ⟨K, t, none⟩ _ (fun _ => rfl)⟩
          by_cases ej : t = j
          · subst ej
            refine ⟨(d : Nat), by rw [List.getElem?_set_self (by omega)], fun _ i' m' k' n' a1 a2 a3 a4 e => ?_⟩
            have := HT.out.1
            obtain ⟨rfl, rfl, rfl, rfl⟩ := place_inj a2 a3 a4 hm hk32 hn (e.trans this)
            rw [HH.out.2.2.2.2.1]
          · obtain ⟨z8, h1, h2⟩ := z7 j hj
            exact ⟨z8, by rw [List.getElem?_set_ne ej]; exact h1, h2⟩

theorem dist_any (X K S : Nat) (hS : S = 1185921) (A B : List Nd) (va ua vb ub : Value) (kc : Nat) (ga : Good A) (gb : Good B) (fa : Fine A) (fb : Fine B) : ∀ s i m k n, m + n ≤ s → ∀ w, FarR w X K S A B va ua vb ub kc → KnownIs w K S A B → Part A i m → Part B k n → m ≤ 32 → n ≤ 32 →
    Calls Tryd.prog 58 #[.pointer (some ⟨X, 0, none⟩), .int .i64 (i : Nat), .int .i64 (m : Nat), .int .i64 (k : Nat), .int .i64 (n : Nat)] w (DistPost w K S A B (far A B i m k n))
  | 0, i, m, k, n, h => fun w h1 h2 h3 h4 h5 h6 => dist_step X K S hS A B va ua vb ub kc ga gb fa fb 0 i m k n (by omega) (fun i' m' k' n' h' w' x1 x2 x3 x4 x5 x6 => by
      obtain rfl : m' = 0 := by omega
      obtain rfl : n' = 0 := by omega
      have := x3.1
      have := x4.1
      exact dist_zero X K S A B i' k' (by omega) (by omega) w' x2) w h1 h2 h3 h4 h5 h6
  | s + 1, i, m, k, n, h => fun w h1 h2 h3 h4 h5 h6 => dist_step X K S hS A B va ua vb ub kc ga gb fa fb s i m k n h (fun i' m' k' n' h' w' x1 x2 x3 x4 x5 x6 => dist_any X K S hS A B va ua vb ub kc ga gb fa fb s i' m' k' n' h' w' x1 x2 x3 x4 x5 x6) w h1 h2 h3 h4 h5 h6

end Df
end Go.Proofs.YtemmkobgpciflaaDoor

namespace Go.Proofs.YtemmkobgpciflaaDoor
open Go.RowKit
open Ch
namespace Df

/-- What Distance answers. -/
def distR (f g : List T) : Int × Int := if canE f ≠ 0 then (0, canE f) else if canE g ≠ 0 then (0, canE g) else if 32 < (postL f []).length ∨ 32 < (postL g []).length then (0, 2) else ((distN f g : Nat), 0)
def DPost (w : World) (f g : List T) (e : Ending) (w' : World) : Prop := ∃ r c, e = .returned (.tuple #[.int .i64 r, .int .i64 c]) ∧ Hid ((r, c) = distR f g) ∧ Below w.heap.size w w'

theorem NodesAt.mono {w : World} {P Q : Nat → Prop} (h : ∀ g, P g → Q g) : ∀ {l : List Nd} {xs : List Value}, NodesAt w P l xs → NodesAt w Q l xs
  | [], _, h1 => h1
  | y :: l, xs, h1 => by
    obtain ⟨a, d, e, h2, h3⟩ := h1
    exact ⟨a, d, e, h2.mono h, NodesAt.mono h h3⟩
theorem NodesOwn.rd {w : World} {B M : Nat} {A : List Nd} {v : Value} (h : NodesOwn w B A v) (hM : B ≤ M) (hv : ∀ g, v.ownBlock = some g → g ≠ M) : NodesRd w (· ≠ M) A v := by
  obtain ⟨⟨xs, h1, h2⟩, _⟩ := h
  exact ⟨xs, Rd.ofOwn h1, h2.mono (fun g (hg : g < B) => by show g ≠ M; omega), hv⟩

set_option maxRecDepth 100000 in
set_option maxHeartbeats 4000000 in
theorem distA_any (B : Nat) (f g : List T) (ak bk : Option Addr) (ck dk : Nat) (w : World) (hf : Forest w (· < B) f ak ck) (hg : Forest w (· < B) g bk dk) (ff : ∀ x ∈ f, Fits x) (fg : ∀ x ∈ g, Fits x) (lf : f.length * 88 ≤ 140737488351232) (lg : g.length * 88 ≤ 140737488351232) (hB : B ≤ w.heap.size) (hT : Tabs w) :
    Calls Tryd.prog 14 #[.slice ak f.length ck, .slice bk g.length dk] w (DPost w f g) := by
  obtain ⟨L, hL⟩ : ∃ L, L = w.heap.size := ⟨_, rfl⟩
  have HH := Lib.hid (And.intro hf (And.intro hg (And.intro ff (And.intro fg (And.intro lf (And.intro lg (And.intro hB (And.intro hT hL))))))))
  clear hf hg ff fg lf lg hB hT hL
  go_enter Tryd.func14, Tryd.ntmps14
  go_wp2
  rw [← HH.out.2.2.2.2.2.2.2.2]
  generalize hW : World.alloc _ _ = W1
  have B1 : Below w.heap.size w W1 := by rw [← hW]; exact below_al (Below.refl _ _) (Nat.le_refl _) _
  have L1 : Blk W1 L [.slice ak f.length ck, .slice bk g.length dk] 23 := by rw [← hW]; exact Blk.new' HH.out.2.2.2.2.2.2.2.2
  have H1 := Lib.hid (And.intro B1 L1)
  clear hW B1 L1
  go_loopg [7, 8, 14] 2 (fun kq v7 v8 v14 w' => ∃ i : Nat, v14 = .int .i64 i ∧ Hid (kq = 2 - i ∧ i ≤ 2 ∧ (1 ≤ i → canE f = 0) ∧ (2 ≤ i → canE g = 0)) ∧ Hid (Below w.heap.size w w') ∧ Hid (Blk w' L [.slice ak f.length ck, .slice bk g.length dk] 23))
  case atStart => exact ⟨0, rfl, Lib.hid ⟨rfl, Nat.zero_le _, fun h => by omega, fun h => by omega⟩, Lib.hid H1.out.1, Lib.hid H1.out.2⟩
  case round =>
    obtain ⟨i, rfl, HJ, HB, HL⟩ := hrel
    have b0 := HL.out.cell 0
    have b1 := HL.out.cell 1
    simp only [List.getElem?_cons_zero, List.getElem?_cons_succ] at b0 b1
    have Uw := Upd.ofBelow (F := fun _ => False) HB.out
    have hBr : B ≤ wr.heap.size := Nat.le_trans HH.out.2.2.2.2.2.2.1 HB.out.size
    have hTr : Tabs wr := HH.out.2.2.2.2.2.2.2.1.below HB.out
    by_cases h0 : i = 0
    · subst h0
      have C := dcan_any f ak ck wr B (HH.out.1.keep Uw (fun _ _ h => h)) HH.out.2.2.1 HH.out.2.2.2.2.1 hBr hTr
      obtain ⟨r, hr⟩ : ∃ r, r = canE f := ⟨_, rfl⟩
      rw [← hr] at C
      have HC := Lib.hid C
      have HR := Lib.hid hr
      clear C hr Uw hBr hTr
      simp only [Int.ofNat_zero, Int.natCast_zero]
      go_wp2_with fail
      refine HC.out.mono ?_
      rintro e w2 ⟨rfl, B2⟩
      have H2 := Lib.hid B2
      clear B2
      by_cases hr : r = 0
      · have hr1 : (r == 0) = true := beq_iff_eq.2 hr
        have hr2 : (r != 0) = false := by simp [hr]
        have HR0 := Lib.hid hr
        clear hr
        go_wp2
        go_roundg 1
        case measure => have := HJ.out; omega
        case rel => exact ⟨1, rfl, Lib.hid ⟨rfl, by omega, fun _ => HR.out.symm.trans HR0.out, fun h => by omega⟩, Lib.hid (below_tr HB.out H2.out), Lib.hid ((Upd.ofBelow (F := fun _ => False) H2.out).blk HL.out (fun h => h))⟩
      · have hr1 : (r == 0) = false := beq_eq_false_iff_ne.2 hr
        have hr2 : (r != 0) = true := by simp [hr]
        have HR0 := Lib.hid hr
        clear hr
        go_wp2
        go_ret2
        exact ⟨0, r, rfl, Lib.hid (by unfold distR; rw [← HR.out, if_pos HR0.out]), below_tr HB.out H2.out⟩
    · by_cases h1 : i = 1
      · subst h1
        have C := dcan_any g bk dk wr B (HH.out.2.1.keep Uw (fun _ _ h => h)) HH.out.2.2.2.1 HH.out.2.2.2.2.2.1 hBr hTr
        obtain ⟨r, hr⟩ : ∃ r, r = canE g := ⟨_, rfl⟩
        rw [← hr] at C
        have HC := Lib.hid C
        have HR := Lib.hid hr
        clear C hr Uw hBr hTr h0
        simp only [Int.ofNat_one, Int.natCast_one]
        go_wp2_with fail
        refine HC.out.mono ?_
        rintro e w2 ⟨rfl, B2⟩
        have H2 := Lib.hid B2
        clear B2
        by_cases hr : r = 0
        · have hr1 : (r == 0) = true := beq_iff_eq.2 hr
          have hr2 : (r != 0) = false := by simp [hr]
          have HR0 := Lib.hid hr
          clear hr
          go_wp2
          go_roundg 0
          case measure => have := HJ.out; omega
          case rel => exact ⟨2, rfl, Lib.hid ⟨rfl, by omega, fun _ => HJ.out.2.2.1 (by omega), fun _ => HR.out.symm.trans HR0.out⟩, Lib.hid (below_tr HB.out H2.out), Lib.hid ((Upd.ofBelow (F := fun _ => False) H2.out).blk HL.out (fun h => h))⟩
        · have hr1 : (r == 0) = false := beq_eq_false_iff_ne.2 hr
          have hr2 : (r != 0) = true := by simp [hr]
          have HR0 := Lib.hid hr
          clear hr
          go_wp2
          go_ret2
          exact ⟨0, r, rfl, Lib.hid (by unfold distR; rw [if_neg (fun h => h (HJ.out.2.2.1 (by omega))), ← HR.out, if_pos HR0.out]), below_tr HB.out H2.out⟩
      · have h2 : i = 2 := by have := HJ.out; omega
        subst h2
        have cf := HJ.out.2.2.1 (by omega)
        have cg := HJ.out.2.2.2 (by omega)
        obtain ⟨sf, kf⟩ := canGo_ok f 0 cf
        obtain ⟨sg, kg⟩ := canGo_ok g 0 cg
        have C := ends_any B f ak ck [] (.slice none 0 0) wr (HH.out.1.keep Uw (fun _ _ h => h)) HH.out.2.2.2.2.1 HH.out.2.2.1 (NodesOwn.nil wr B) hBr (by simp; omega)
        have fA := postL_fine f [] kf HH.out.2.2.1 Fine.nil
        have fB := postL_fine g [] kg HH.out.2.2.2.1 Fine.nil
        have HC := Lib.hid C
        have HF := Lib.hid (And.intro cf (And.intro cg (And.intro sf (And.intro sg (And.intro fA fB)))))
        clear h0 h1 cf cg sf kf sg kg C fA fB Uw hBr hTr b0 b1
        simp only [show ((2 : Nat) : Int) = 2 from rfl]
        go_wp2_with fail
        refine HC.out.mono ?_
        rintro e w2 ⟨v1, rfl, N2, O2⟩
        obtain ⟨a1, c1, rfl, _⟩ := N2.form
        have U2 : Upd w w2 (fun _ => False) := (Upd.ofBelow HB.out).trans O2.1 (fun g _ e => by cases e)
        have C2 := ends_any B g bk dk [] (.slice none 0 0) w2 (HH.out.2.1.keep U2 (fun _ _ h => h)) HH.out.2.2.2.2.2.1 HH.out.2.2.2.1 (NodesOwn.nil w2 B) (Nat.le_trans HH.out.2.2.2.2.2.2.1 U2.size) (by have := HF.out; simp; omega)
        obtain ⟨A, hA⟩ : ∃ A, A = postL f [] := ⟨_, rfl⟩
        rw [← hA] at N2 O2 ⊢
        have H2 := Lib.hid (And.intro N2 (And.intro U2 hA))
        have HC2 := Lib.hid C2
        clear N2 U2 C2 O2 hA
        go_wp2_with fail
        refine HC2.out.mono ?_
        rintro e w3 ⟨v2, rfl, N3, O3⟩
        obtain ⟨a2, c2, rfl, _⟩ := N3.form
        obtain ⟨A2, hA2⟩ : ∃ A, A = postL g [] := ⟨_, rfl⟩
        rw [← hA2] at N3 O3 ⊢
        have U3 : Upd w2 w3 (fun _ => False) := O3.1.mono (fun g _ e => by cases e)
        have H3 := Lib.hid (And.intro N3 (And.intro U3 hA2))
        clear N3 U3 O3 hA2
        obtain ⟨M, hM⟩ : ∃ M, M = w3.heap.size := ⟨_, rfl⟩
        have HM := Lib.hid hM
        clear hM
        have hmm := @run_makeMap Tryd.prog
        go_upto_region 9 with fail
        clear hmm
        rw [← HM.out]
        generalize hW : World.alloc _ _ = W4
        have hXM : Blk W4 (M + 1) [.slice a1 A.length c1, .slice a2 A2.length c2, .map (some M)] 97 := by rw [← hW]; exact Blk.new' (by rw [HM.out]; simp)
        have hMM : MapIs W4 M [] := by
          rw [← hW]
          exact (MapIs.new' HM.out).at_ (heap_alloc_lt _ _ _ (by rw [HM.out]; simp))
        have B4 : Below w3.heap.size w3 W4 := by rw [← hW]; exact below_al (below_al (Below.refl _ _) (Nat.le_refl _) _) (Nat.le_refl _) _
        have U4 : Upd w3 W4 (fun _ => False) := Upd.ofBelow B4
        have hBM : B ≤ M := by
          have h1 := HH.out.2.2.2.2.2.2.1
          have h2 := H2.out.2.1.size
          have h3 := H3.out.2.1.size
          have h4 := HM.out
          omega
        have NA := (H2.out.1.keep H3.out.2.1 (fun _ h => h.elim)).keep U4 (fun _ h => h.elim)
        have NB := H3.out.1.keep U4 (fun _ h => h.elim)
        have RA : NodesRd W4 (· ≠ M) A (.slice a1 A.length c1) := NA.rd hBM (fun g hg e => by
          have := (H2.out.1).lt hg
          have := H3.out.2.1.size
          have := HM.out
          omega)
        have RB : NodesRd W4 (· ≠ M) A2 (.slice a2 A2.length c2) := NB.rd hBM (fun g hg e => by
          have := (H3.out.1).lt hg
          have := HM.out
          omega)
        have UW : Upd w W4 (fun _ => False) := (H2.out.2.1.trans H3.out.2.1 (fun _ _ h => h)).trans U4 (fun _ _ h => h)
        have x0 := hXM.cell 0
        have x1 := hXM.cell 1
        simp only [List.getElem?_cons_zero, List.getElem?_cons_succ] at x0 x1
        have H4 := Lib.hid (And.intro hXM (And.intro hMM (And.intro RA (And.intro RB UW))))
        clear hW hXM hMM B4 U4 hBM NA NB RA RB UW
        have hd0 : distR f g = (if 32 < A.length ∨ 32 < A2.length then ((0 : Int), (2 : Int)) else (((distN f g : Nat) : Int), (0 : Int))) := by
          unfold distR
          rw [if_neg (fun h => h HF.out.1), if_neg (fun h => h HF.out.2.1), H2.out.2.2, H3.out.2.2]
        have HD := Lib.hid hd0
        clear hd0
        by_cases hA : 32 < A.length
        · have hA1 : (A.length : Int) > 32 := by omega
          have HA := Lib.hid hA
          clear hA
          go_wp2
          go_ret2
          exact ⟨0, 2, rfl, Lib.hid (by rw [HD.out, if_pos (Or.inl HA.out)]), H4.out.2.2.2.2.below (Nat.le_refl _) (fun _ _ h => h)⟩
        · have hA1 : ¬ (A.length : Int) > 32 := by omega
          have hA2 : decide (32 < A.length) = false := decide_eq_false hA
          by_cases hB2 : 32 < A2.length
          · have hB1 : (A2.length : Int) > 32 := by omega
            have HA := Lib.hid hB2
            clear hA hB2
            go_wp2
            go_ret2
            exact ⟨0, 2, rfl, Lib.hid (by rw [HD.out, if_pos (Or.inr HA.out)]), H4.out.2.2.2.2.below (Nat.le_refl _) (fun _ _ h => h)⟩
          · have hB1 : ¬ (A2.length : Int) > 32 := by omega
            have hB3 : decide (32 < A2.length) = false := decide_eq_false hB2
            have CO := of_any (M + 1) M A A2 (.slice a1 A.length c1) (.slice a2 A2.length c2) (by rw [H2.out.2.2]; exact (postL_ext f [] Good.nil).1) (by rw [H3.out.2.2]; exact (postL_ext g [] Good.nil).1) (by rw [H2.out.2.2]; exact HF.out.2.2.2.2.1) (by rw [H3.out.2.2]; exact HF.out.2.2.2.2.2) _ 0 A.length 0 A2.length (Nat.le_refl _) W4.drew
              (FarOk.keep ⟨H4.out.1, by omega, H4.out.2.2.1, H4.out.2.2.2.1⟩ (Upd.refl W4 _).drew) ⟨[], H4.out.2.1.at_ rfl, Right.nil A A2⟩ (Part.whole A) (Part.whole A2) (by omega) (by omega)
            obtain ⟨r, hr⟩ : ∃ r, r = far A A2 0 A.length 0 A2.length := ⟨_, rfl⟩
            rw [← hr] at CO
            have hrd : ((r : Int), (0 : Int)) = distR f g := by
              rw [HD.out, if_neg (by omega), hr]
              unfold distN
              rw [H2.out.2.2, H3.out.2.2]
            have HCO := Lib.hid CO
            have HR := Lib.hid hrd
            clear hA hB2 CO hr hrd
            go_wp2
            apply wp_reg (fun w' : World => w'.cell? ⟨M + 1, 0, none⟩ = some (.slice a1 A.length c1) ∧ w'.cell? ⟨M + 1, 1, none⟩ = some (.slice a2 A2.length c2)) [0, 1, 2, 3, 4, 5, 6, 7, 8, 9, 10] [11] [12, 13] (by kernel_rfl) (by kernel_rfl) (fun _ _ d _ _ h => by cases d <;> exact h) ⟨x0, x1⟩
            · iterate 11 (apply reads_consL rfl rfl; (· intro w0 hS; obtain ⟨hS0, hS1⟩ := hS; go_simp; try rfl); simp only [Act.put, List.setIfInBounds_toArray, List.set_cons_zero, List.set_cons_succ])
              exact rfl
            refine tail_consL rfl ?_
            clear x0 x1
            go_wp2_with fail
            simp only [Int.ofNat_zero, Int.natCast_zero] at HCO
            refine HCO.out.mono ?_
            rintro e w5 ⟨rfl, _, U5⟩
            have y0 : w5.cell? ⟨M + 1, 0, none⟩ = some (.slice a1 A.length c1) := ((U5.blk H4.out.1.drew (by show ¬ M + 1 = M; omega)).cell 0)
            have y1 : w5.cell? ⟨M + 1, 1, none⟩ = some (.slice a2 A2.length c2) := ((U5.blk H4.out.1.drew (by show ¬ M + 1 = M; omega)).cell 1)
            have HU := Lib.hid (H4.out.2.2.2.2.drew.trans U5 (G := (· = M)) (fun g hg e => by
              have h2 := H2.out.2.1.size
              have h3 := H3.out.2.1.size
              have h4 := HM.out
              omega))
            clear U5
            go_wp2_with fail
            refine ⟨⟨y0, y1⟩, tail_twoL rfl rfl ?_⟩
            clear y0 y1
            go_wp2
            go_ret2
            exact ⟨r, 0, rfl, HR, HU.out.below (Nat.le_refl _) (fun _ _ h => h)⟩

end Df
end Go.Proofs.YtemmkobgpciflaaDoor
