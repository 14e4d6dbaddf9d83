/- The program's distance of two parts: (*far).of, walked. -/
import Derived.Test.YtemmkobgpciflaaDoorFarP
namespace Go.Proofs.YtemmkobgpciflaaDoor
open Go.RowKit
open Ch
namespace Df

@[go_sem] theorem buildKey (a b c d : Int) (w : World) : (Instr.build 140 #[(0, .int .i64 a), (1, .int .i64 b), (2, .int .i64 c), (3, .int .i64 d)]).run Tryd.prog w = .ok (.agg #[.int .i64 a, .int .i64 b, .int .i64 c, .int .i64 d]) w := run_build w 140 _ _ (by kernel_rfl)

def FarOk (w : World) (X M : Nat) (A B : List Nd) (va vb : Value) : Prop := Blk w X [va, vb, .map (some M)] 97 ∧ X ≠ M ∧ NodesRd w (· ≠ M) A va ∧ NodesRd w (· ≠ M) B vb
theorem FarOk.keep {w w' : World} {X M : Nat} {A B : List Nd} {va vb : Value} (h : FarOk w X M A B va vb) (hU : Upd w w' (· = M)) : FarOk w' X M A B va vb :=
  ⟨hU.blk h.1 h.2.1, h.2.1, h.2.2.1.keep hU (fun g h e => h e), h.2.2.2.keep hU (fun g h e => h e)⟩
def MemoIs (w : World) (M : Nat) (A B : List Nd) : Prop := ∃ L, MapIs w M L ∧ Right A B L
def OfPost (w : World) (M : Nat) (A B : List Nd) (r : Nat) (e : Ending) (w' : World) : Prop := e = .returned (.int .i64 (r : Nat)) ∧ MemoIs w' M A B ∧ Upd w w' (· = M)

theorem cell_lt' {w : World} {a : Addr} {v : Value} (h : w.cell? a = some v) : a.block < w.heap.size := by
  rcases Nat.lt_or_ge a.block w.heap.size with h' | h'
  · exact h'
  · simp [World.cell?, Array.getElem?_eq_none h'] at h

section
variable {P : Program} {ops : Array Oper} {rest : List Oper} {o : Oper} {a : Act} {Q : Exit → Act → World → Prop} {w : World}
theorem wpl_memo (hg : o.guard = none) {m x v : Operand} {t : TypeId} (hop : o.op = .mapUpdate t m x v) {mb : Nat} {key val : Value} (hm : a.eval m = .map (some mb)) (hx : a.eval x = key) (hv : a.eval v = val) {w' : World}
    (hrun : (Instr.mapUpdate t (.map (some mb)) key val).run P w = .ok () w') (hK : wpList P ops Q rest (a.put o.dst undef) w') : wpList P ops Q (o :: rest) a w := by
  refine wpList_plain hg fun K' hK' => ?_
  unfold Oper.wp
  simp [execOp, hop, hm, hx, hv, hrun, Result.andThen]
  exact hK' _ _ hK
end

theorem of_zero (X M : Nat) (A B : List Nd) (va vb : Value) (i k : Nat) (hi : i = 0) (hk : k = 0) (w : World) (hX : FarOk w X M A B va vb) (hM : MemoIs w M A B) :
    Calls Tryd.prog 56 #[.pointer (some ⟨X, 0, none⟩), .int .i64 (i : Nat), .int .i64 ((0 : Nat) : Int), .int .i64 (k : Nat), .int .i64 ((0 : Nat) : Int)] w (OfPost w M A B (far A B i 0 k 0)) := by
  subst hi hk
  rw [far_end A B (Or.inl (Nat.le_refl _))]
  have HH := Lib.hid hM
  clear hX hM
  simp only [Int.ofNat_zero, Int.natCast_zero]
  go_enter Tryd.func56, Tryd.ntmps56
  go_wp2
  go_ret
  exact ⟨rfl, HH.out, Upd.refl _ _⟩

set_option maxRecDepth 100000 in
set_option maxHeartbeats 4000000 in
theorem of_step (X M : Nat) (A B : List Nd) (va vb : Value) (ga : Good A) (gb : Good B) (fa : Fine A) (fb : Fine B) (s i m k n : Nat) (hs : m + n ≤ s + 1)
    (ih : ∀ i m k n, m + n ≤ s → ∀ w, FarOk w X M A B va vb → MemoIs w M A B → Part A i m → Part B k n → m ≤ 32 → n ≤ 32 → Calls Tryd.prog 56 #[.pointer (some ⟨X, 0, none⟩), .int .i64 (i : Nat), .int .i64 (m : Nat), .int .i64 (k : Nat), .int .i64 (n : Nat)] w (OfPost w M A B (far A B i m k n)))
    (w : World) (hX : FarOk w X M A B va vb) (hM : MemoIs w M A B) (pa : Part A i m) (pb : Part B k n) (hm : m ≤ 32) (hn : n ≤ 32) :
    Calls Tryd.prog 56 #[.pointer (some ⟨X, 0, none⟩), .int .i64 (i : Nat), .int .i64 (m : Nat), .int .i64 (k : Nat), .int .i64 (n : Nat)] w (OfPost w M A B (far A B i m k n)) := by
  obtain ⟨d, hd⟩ : ∃ d, d = far A B i m k n := ⟨_, rfl⟩
  rw [← hd]
  obtain ⟨a, ca, rfl, hca⟩ : ∃ a ca, va = .slice a A.length ca ∧ A.length ≤ ca := by
    obtain ⟨_, r, _⟩ := hX.2.2.1
    exact r.form
  obtain ⟨b', cb, rfl, hcb⟩ : ∃ a ca, vb = .slice a B.length ca ∧ B.length ≤ ca := by
    obtain ⟨_, r, _⟩ := hX.2.2.2
    exact r.form
  have hi := pa.1
  have hk := pb.1
  have HH := Lib.hid (And.intro hX (And.intro hM (And.intro pa (And.intro pb (And.intro hd (And.intro hs (And.intro ih (And.intro ga (And.intro gb (And.intro fa fb))))))))))
  clear hX hM pa pb hd ih hs ga gb fa fb
  by_cases h1 : i = m
  · subst h1
    go_enter Tryd.func56, Tryd.ntmps56
    go_wp2
    go_ret
    refine ⟨ret_int ?_, HH.out.2.1, Upd.refl _ _⟩
    rw [HH.out.2.2.2.2.1, far_end A B (Or.inl (Nat.le_refl _))]
    simp
    omega
  · by_cases h2 : k = n
    · subst h2
      have h1' : ((i : Int) == (m : Int)) = false := beq_eq_false_iff_ne.2 (by omega)
      have h1n : (i == m) = false := beq_eq_false_iff_ne.2 h1
      clear h1
      go_enter Tryd.func56, Tryd.ntmps56
      go_wp2
      go_ret
      refine ⟨ret_int ?_, HH.out.2.1, Upd.refl _ _⟩
      rw [HH.out.2.2.2.2.1, far_end A B (Or.inr (Nat.le_refl _))]
      simp
      omega
    · have h1' : ((i : Int) == (m : Int)) = false := beq_eq_false_iff_ne.2 (by omega)
      have h1n : (i == m) = false := beq_eq_false_iff_ne.2 h1
      have h2' : ((k : Int) == (n : Int)) = false := beq_eq_false_iff_ne.2 (by omega)
      have h2n : (k == n) = false := beq_eq_false_iff_ne.2 h2
      have HI := Lib.hid (And.intro h1 h2)
      clear h1 h2
      go_enter Tryd.func56, Tryd.ntmps56
      obtain ⟨N, hN⟩ : ∃ N, N = w.heap.size := ⟨_, rfl⟩
      have HN := Lib.hid hN
      clear hN
      go_wp2
      rw [← HN.out]
      generalize hW : World.alloc _ _ = W1
      have KN : Blk W1 N [.int .i64 (i : Nat), .int .i64 (m : Nat), .int .i64 (k : Nat), .int .i64 (n : Nat)] 140 := by rw [← hW, HN.out]; exact Blk.new w _ _
      have B1 : Below w.heap.size w W1 := by rw [← hW]; exact below_al (Below.refl _ _) (Nat.le_refl _) _
      obtain ⟨L, hL, hR⟩ := HH.out.2.1
      have hMN : M ≠ N := fun e => by have := hL.lt; have := HN.out; omega
      have hL1 : MapIs W1 M L := hL.at_ (B1.block M hL.lt)
      have X1 : FarOk W1 X M A B (.slice a A.length ca) (.slice b' B.length cb) := HH.out.1.keep (Upd.ofBelow B1)
      obtain ⟨z, b, hz, hlook⟩ := memo_lookup hR (i := i) (m := m) (k := k) (n := n) (by omega) hm (by omega) hn M
      unfold key4 at hlook
      have x2 : W1.cell? ⟨X, 2, none⟩ = some (.map (some M)) := X1.1.cell 2
      have n0 : W1.cell? ⟨N, 0, none⟩ = some (.int .i64 (i : Nat)) := KN.cell 0
      have n1 : W1.cell? ⟨N, 1, none⟩ = some (.int .i64 (m : Nat)) := KN.cell 1
      have n2 : W1.cell? ⟨N, 2, none⟩ = some (.int .i64 (k : Nat)) := KN.cell 2
      have n3 : W1.cell? ⟨N, 3, none⟩ = some (.int .i64 (n : Nat)) := KN.cell 3
      have H1 := Lib.hid (And.intro KN (And.intro B1 (And.intro hR (And.intro hMN (And.intro hL1 X1)))))
      have HZ := Lib.hid hz
      have HK := Lib.hid hlook
      clear hW KN B1 hL hR hMN X1 hz hlook
      apply wp_reg (fun w' : World => w'.cell? ⟨X, 2, none⟩ = some (.map (some M)) ∧ w'.cell? ⟨N, 0, none⟩ = some (.int .i64 (i : Nat)) ∧ w'.cell? ⟨N, 1, none⟩ = some (.int .i64 (m : Nat)) ∧ w'.cell? ⟨N, 2, none⟩ = some (.int .i64 (k : Nat)) ∧ w'.cell? ⟨N, 3, none⟩ = some (.int .i64 (n : Nat)) ∧ MapIs w' M L) [0, 1, 2, 3, 4, 5, 6, 7, 8] [9] [10] (by kernel_rfl) (by kernel_rfl) (fun _ _ d _ _ h => by cases d <;> exact h) ⟨x2, n0, n1, n2, n3, hL1⟩
      · iterate 5 (apply reads_consL rfl rfl; (· intro w0 hS; obtain ⟨hS0, hS1, hS2, hS3, hS4, hS5⟩ := hS; go_simp; try rfl); simp only [Act.put, List.setIfInBounds_toArray, List.set_cons_zero, List.set_cons_succ])
        apply reads_consL rfl rfl
        · intro w0 hS
          obtain ⟨hS0, hS1, hS2, hS3, hS4, hS5⟩ := hS
          have h := HK.out w0 hS5
          go_simp
          try rfl
        simp only [Act.put, List.setIfInBounds_toArray, List.set_cons_zero, List.set_cons_succ]
        iterate 3 (apply reads_consL rfl rfl; (· intro w0 hS; go_simp; try rfl); simp only [Act.put, List.setIfInBounds_toArray, List.set_cons_zero, List.set_cons_succ])
        exact rfl
      refine tail_consL rfl ?_
      go_wp2_with fail
      refine ⟨⟨x2, n0, n1, n2, n3, hL1⟩, tail_oneL rfl ?_⟩
      clear x2 n0 n1 n2 n3 hL1
      cases b with
      | true =>
        have hz := HZ.out rfl
        subst hz
        go_wp2
        go_ret
        refine ⟨ret_int (by rw [HH.out.2.2.2.2.1]), ⟨L, H1.out.2.2.2.2.1.at_ rfl, H1.out.2.2.1⟩, (Upd.ofBelow H1.out.2.1).drew⟩
      | false =>
        clear HK HZ
        go_wp2
        obtain ⟨p, hp⟩ : ∃ p, m = p + 1 := ⟨m - 1, by have := HI.out; omega⟩
        obtain ⟨q, hq⟩ : ∃ q, n = q + 1 := ⟨n - 1, by have := HI.out; omega⟩
        have hpA : p < A.length := by have := HH.out.2.2.1.2.1; omega
        have hqB : q < B.length := by have := HH.out.2.2.2.1.2.1; omega
        obtain ⟨x, hx⟩ : ∃ x, A[p]? = some x := ⟨A[p], List.getElem?_eq_getElem hpA⟩
        obtain ⟨y, hy⟩ : ∃ y, B[q]? = some y := ⟨B[q], List.getElem?_eq_getElem hqB⟩
        have X2 : FarOk W1.drew X M A B (.slice a A.length ca) (.slice b' B.length cb) := H1.out.2.2.2.2.2.keep (Upd.refl W1 _).drew
        have M2 : MemoIs W1.drew M A B := ⟨L, H1.out.2.2.2.2.1.at_ rfl, H1.out.2.2.1⟩
        have N2 : Blk W1.drew N [.int .i64 (i : Nat), .int .i64 (m : Nat), .int .i64 (k : Nat), .int .i64 (n : Nat)] 140 := H1.out.1
        have U2 : Upd w W1.drew (fun _ => False) := (Upd.ofBelow H1.out.2.1).drew
        have hMN := H1.out.2.2.2.1
        clear H1
        generalize W1.drew = W2 at X2 M2 N2 U2 ⊢
        obtain ⟨g1, o1, k1, n1, a1, c1, t1, q1, r1, rfl, _, m1, x0, x1, x2, x3, x4, x5, xT⟩ := X2.2.2.1.node hx
        obtain ⟨g2, o2, k2, n2, a2, c2, t2, q2, r2, rfl, _, m2, y0, y1, y2, y3, y4, y5, yT⟩ := X2.2.2.2.node hy
        have em : wrap64 ((m : Int) - 1) = (p : Int) := by rw [Go.IntWalk.wrap64_in _ (by omega)]; omega
        have en : wrap64 ((n : Int) - 1) = (q : Int) := by rw [Go.IntWalk.wrap64_in _ (by omega)]; omega
        have emw : IntKind.i64.wrap ((m : Int) - 1) = (p : Int) := by rw [wrapj (by omega) (by omega)]; omega
        have enw : IntKind.i64.wrap ((n : Int) - 1) = (q : Int) := by rw [wrapj (by omega) (by omega)]; omega
        have p0 : (0 : Int) ≤ (p : Int) := by omega
        have q0 : (0 : Int) ≤ (q : Int) := by omega
        have pl : (p : Int) < (A.length : Int) := by omega
        have ql : (q : Int) < (B.length : Int) := by omega
        obtain ⟨SP, hSP⟩ : ∃ SP : World → Prop, ∀ w' : World, SP w' ↔ (w'.cell? ⟨X, 0, none⟩ = some (.slice (some ⟨g1, o1, none⟩) A.length ca) ∧ w'.cell? ⟨X, 1, none⟩ = some (.slice (some ⟨g2, o2, none⟩) B.length cb) ∧ (w'.cell? ⟨g1, o1 + p * 6, none⟩ = some (.int .i64 k1) ∧ w'.cell? ⟨g1, o1 + p * 6 + 1, none⟩ = some (.string n1) ∧ w'.cell? ⟨g1, o1 + p * 6 + 2, none⟩ = some (.slice a1 x.1.atts.length c1) ∧ w'.cell? ⟨g1, o1 + p * 6 + 3, none⟩ = some (.string t1) ∧ w'.cell? ⟨g1, o1 + p * 6 + 4, none⟩ = some (.slice q1 x.1.kids.length r1) ∧ w'.cell? ⟨g1, o1 + p * 6 + 5, none⟩ = some (.int .i64 (x.2 : Nat))) ∧ w'.cell? ⟨g2, o2 + q * 6, none⟩ = some (.int .i64 k2) ∧ w'.cell? ⟨g2, o2 + q * 6 + 1, none⟩ = some (.string n2) ∧ w'.cell? ⟨g2, o2 + q * 6 + 2, none⟩ = some (.slice a2 y.1.atts.length c2) ∧ w'.cell? ⟨g2, o2 + q * 6 + 3, none⟩ = some (.string t2) ∧ w'.cell? ⟨g2, o2 + q * 6 + 4, none⟩ = some (.slice q2 y.1.kids.length r2) ∧ w'.cell? ⟨g2, o2 + q * 6 + 5, none⟩ = some (.int .i64 (y.2 : Nat))) := ⟨fun w' => (w'.cell? ⟨X, 0, none⟩ = some (.slice (some ⟨g1, o1, none⟩) A.length ca) ∧ w'.cell? ⟨X, 1, none⟩ = some (.slice (some ⟨g2, o2, none⟩) B.length cb) ∧ (w'.cell? ⟨g1, o1 + p * 6, none⟩ = some (.int .i64 k1) ∧ w'.cell? ⟨g1, o1 + p * 6 + 1, none⟩ = some (.string n1) ∧ w'.cell? ⟨g1, o1 + p * 6 + 2, none⟩ = some (.slice a1 x.1.atts.length c1) ∧ w'.cell? ⟨g1, o1 + p * 6 + 3, none⟩ = some (.string t1) ∧ w'.cell? ⟨g1, o1 + p * 6 + 4, none⟩ = some (.slice q1 x.1.kids.length r1) ∧ w'.cell? ⟨g1, o1 + p * 6 + 5, none⟩ = some (.int .i64 (x.2 : Nat))) ∧ w'.cell? ⟨g2, o2 + q * 6, none⟩ = some (.int .i64 k2) ∧ w'.cell? ⟨g2, o2 + q * 6 + 1, none⟩ = some (.string n2) ∧ w'.cell? ⟨g2, o2 + q * 6 + 2, none⟩ = some (.slice a2 y.1.atts.length c2) ∧ w'.cell? ⟨g2, o2 + q * 6 + 3, none⟩ = some (.string t2) ∧ w'.cell? ⟨g2, o2 + q * 6 + 4, none⟩ = some (.slice q2 y.1.kids.length r2) ∧ w'.cell? ⟨g2, o2 + q * 6 + 5, none⟩ = some (.int .i64 (y.2 : Nat))), fun _ => Iff.rfl⟩
        have hSk : ∀ w' : World, Upd W2 w' (fun _ => False) → SP w' := by
          intro w' hU
          have XX := hU.blk X2.1 (fun h => h)
          have h1 : ∀ j v, W2.cell? ⟨g1, j, none⟩ = some v → w'.cell? ⟨g1, j, none⟩ = some v := fun j v h => (hU.cell (p := ⟨g1, j, none⟩) (cell_lt' h) (fun h => h)).trans h
          have h2 : ∀ j v, W2.cell? ⟨g2, j, none⟩ = some v → w'.cell? ⟨g2, j, none⟩ = some v := fun j v h => (hU.cell (p := ⟨g2, j, none⟩) (cell_lt' h) (fun h => h)).trans h
          exact (hSP _).2 ⟨XX.cell 0, XX.cell 1, ⟨h1 _ _ x0, h1 _ _ x1, h1 _ _ x2, h1 _ _ x3, h1 _ _ x4, h1 _ _ x5⟩, h2 _ _ y0, h2 _ _ y1, h2 _ _ y2, h2 _ _ y3, h2 _ _ y4, h2 _ _ y5⟩
        have hS0 := hSk W2.drew (Upd.refl W2 _).drew
        have HS := Lib.hid hSk
        have HSP := Lib.hid hSP
        have H2 := Lib.hid (And.intro X2 (And.intro M2 (And.intro N2 (And.intro U2 (And.intro hMN (And.intro hx (And.intro hy (And.intro hp (And.intro hq (And.intro xT yT))))))))))
        clear x0 x1 x2 x3 x4 x5 y0 y1 y2 y3 y4 y5 hSk hSP X2 M2 N2 U2 hMN hx hy hp hq xT yT hpA hqB m1 m2
        apply wp_regG SP [0, 1, 2, 3, 4, 5, 6, 7, 8, 9, 10, 11, 12, 13, 14, 15] [] 16 17 [18] [19] rfl rfl (by kernel_rfl) (by kernel_rfl) (fun _ _ d _ _ h => by cases d <;> exact h)
          (fun (r s : Nat) (w' : World) => Hid (W2.heap.size ≤ r ∧ W2.heap.size ≤ s ∧ r ≠ s ∧ Blk w' r [.int .i64 0, .string ⟨#[]⟩, .slice none 0 0, .string ⟨#[]⟩, .slice none 0 0, .int .i64 0] 139 ∧ Blk w' s [.int .i64 0, .string ⟨#[]⟩, .slice none 0 0, .string ⟨#[]⟩, .slice none 0 0, .int .i64 0] 139 ∧ Upd W2 w' (fun _ => False))) _ _ hS0
        · iterate 16 (apply reads_consL rfl rfl; (· intro w0 hS; have hS := (HSP.out w0).1 hS; obtain ⟨hS0, hS1, ⟨hx0, hx1, hx2, hx3, hx4, hx5⟩, hy0, hy1, hy2, hy3, hy4, hy5⟩ := hS; go_simp; try rfl); simp only [Act.put, List.setIfInBounds_toArray, List.set_cons_zero, List.set_cons_succ])
          exact rfl
        · have V0 : Upd W2 W2.drew (fun _ => False) := (Upd.refl W2 _).drew
          generalize W2.drew = W3 at V0 ⊢
          constructor
          · obtain ⟨r, hr⟩ : ∃ r, r = W3.heap.size := ⟨_, rfl⟩
            have Hr := Lib.hid hr
            have HV0 := Lib.hid V0
            clear V0
            go_wp2_with fail
            rw [← hr]
            generalize hW : World.alloc W3 _ = W4
            have V4 : Upd W2 W4 (fun _ => False) := by rw [← hW]; exact HV0.out.alloc _
            have R4 : Blk W4 r [.int .i64 0, .string ⟨#[]⟩, .slice none 0 0, .string ⟨#[]⟩, .slice none 0 0, .int .i64 0] 139 := by rw [← hW]; exact Blk.new' hr
            have HV4 := Lib.hid (And.intro V4 R4)
            have S4 := HS.out _ V4
            clear hW hr V4 R4
            refine ⟨S4, ?_⟩
            clear S4
            obtain ⟨s', hs⟩ : ∃ r, r = W4.heap.size := ⟨_, rfl⟩
            have Hs := Lib.hid hs
            go_wp2_with fail
            rw [← hs]
            generalize hW : World.alloc W4 _ = W5
            have V5 : Upd W2 W5 (fun _ => False) := by rw [← hW]; exact HV4.out.1.alloc _
            have R5 : Blk W5 r [.int .i64 0, .string ⟨#[]⟩, .slice none 0 0, .string ⟨#[]⟩, .slice none 0 0, .int .i64 0] 139 := by rw [← hW]; exact HV4.out.2.alloc _
            have Q5 : Blk W5 s' [.int .i64 0, .string ⟨#[]⟩, .slice none 0 0, .string ⟨#[]⟩, .slice none 0 0, .int .i64 0] 139 := by rw [← hW]; exact Blk.new' hs
            have l1 := HV4.out.2.lt
            have l2 := HV0.out.size
            have l3 := HV4.out.1.size
            have e1 := Hr.out
            have e2 := Hs.out
            exact ⟨HS.out _ V5, r, s', rfl, Lib.hid ⟨by omega, by omega, by omega, R5, Q5, V5⟩⟩
          · obtain ⟨s', hr⟩ : ∃ r, r = W3.heap.size := ⟨_, rfl⟩
            have Hr := Lib.hid hr
            have HV0 := Lib.hid V0
            clear V0
            go_wp2_with fail
            rw [← hr]
            generalize hW : World.alloc W3 _ = W4
            have V4 : Upd W2 W4 (fun _ => False) := by rw [← hW]; exact HV0.out.alloc _
            have R4 : Blk W4 s' [.int .i64 0, .string ⟨#[]⟩, .slice none 0 0, .string ⟨#[]⟩, .slice none 0 0, .int .i64 0] 139 := by rw [← hW]; exact Blk.new' hr
            have HV4 := Lib.hid (And.intro V4 R4)
            have S4 := HS.out _ V4
            clear hW hr V4 R4
            refine ⟨S4, ?_⟩
            clear S4
            obtain ⟨r, hs⟩ : ∃ r, r = W4.heap.size := ⟨_, rfl⟩
            have Hs := Lib.hid hs
            go_wp2_with fail
            rw [← hs]
            generalize hW : World.alloc W4 _ = W5
            have V5 : Upd W2 W5 (fun _ => False) := by rw [← hW]; exact HV4.out.1.alloc _
            have R5 : Blk W5 s' [.int .i64 0, .string ⟨#[]⟩, .slice none 0 0, .string ⟨#[]⟩, .slice none 0 0, .int .i64 0] 139 := by rw [← hW]; exact HV4.out.2.alloc _
            have Q5 : Blk W5 r [.int .i64 0, .string ⟨#[]⟩, .slice none 0 0, .string ⟨#[]⟩, .slice none 0 0, .int .i64 0] 139 := by rw [← hW]; exact Blk.new' hs
            have l1 := HV4.out.2.lt
            have l2 := HV0.out.size
            have l3 := HV4.out.1.size
            have e1 := Hr.out
            have e2 := Hs.out
            exact ⟨HS.out _ V5, r, s', rfl, Lib.hid ⟨by omega, by omega, by omega, Q5, R5, V5⟩⟩
        · intro r s' w5 hS5 hK
          have z0 := hK.out.2.2.2.1.cell 0
          have z1 := hK.out.2.2.2.1.cell 1
          have z2 := hK.out.2.2.2.1.cell 2
          have z3 := hK.out.2.2.2.1.cell 3
          have z4 := hK.out.2.2.2.1.cell 4
          have z5 := hK.out.2.2.2.1.cell 5
          have e0 := hK.out.2.2.2.1.free 0
          have e1 := hK.out.2.2.2.1.free 1
          have e2 := hK.out.2.2.2.1.free 2
          have e3 := hK.out.2.2.2.1.free 3
          have e4 := hK.out.2.2.2.1.free 4
          have e5 := hK.out.2.2.2.1.free 5
          simp only [List.getElem?_cons_zero, List.getElem?_cons_succ] at z0 z1 z2 z3 z4 z5
          clear hS5
          refine tail_consL rfl ?_
          go_wp2_with fail
          generalize hW : World.setCell _ _ _ = W6
          have R6 : Blk W6 r [.int .i64 k1, .string n1, .slice a1 x.1.atts.length c1, .string t1, .slice q1 x.1.kids.length r1, .int .i64 (x.2 : Nat)] 139 := by rw [← hW]; exact (((((hK.out.2.2.2.1.set 0 _).set 1 _).set 2 _).set 3 _).set 4 _).set 5 _
          have Q6 : Blk W6 s' [.int .i64 0, .string ⟨#[]⟩, .slice none 0 0, .string ⟨#[]⟩, .slice none 0 0, .int .i64 0] 139 := by rw [← hW]; exact (((((hK.out.2.2.2.2.1.far ⟨r, 0, none⟩ _ hK.out.2.2.1.symm).far ⟨r, 1, none⟩ _ hK.out.2.2.1.symm).far ⟨r, 2, none⟩ _ hK.out.2.2.1.symm).far ⟨r, 3, none⟩ _ hK.out.2.2.1.symm).far ⟨r, 4, none⟩ _ hK.out.2.2.1.symm).far ⟨r, 5, none⟩ _ hK.out.2.2.1.symm
          have hr : ∀ (q : Addr), q.block = r → q.block < W2.heap.size → False := fun q e h => by have := hK.out.1; omega
          have V6 : Upd W2 W6 (fun _ => False) := by rw [← hW]; exact (((((hK.out.2.2.2.2.2.set ⟨r, 0, none⟩ _ (hr _ rfl)).set ⟨r, 1, none⟩ _ (hr _ rfl)).set ⟨r, 2, none⟩ _ (hr _ rfl)).set ⟨r, 3, none⟩ _ (hr _ rfl)).set ⟨r, 4, none⟩ _ (hr _ rfl)).set ⟨r, 5, none⟩ _ (hr _ rfl)
          have HK6 := Lib.hid (And.intro R6 (And.intro Q6 V6))
          clear hW z0 z1 z2 z3 z4 z5 e0 e1 e2 e3 e4 e5 hr
          have S6 := HS.out _ V6
          have z0 := Q6.cell 0
          have z1 := Q6.cell 1
          have z2 := Q6.cell 2
          have z3 := Q6.cell 3
          have z4 := Q6.cell 4
          have z5 := Q6.cell 5
          have e0 := Q6.free 0
          have e1 := Q6.free 1
          have e2 := Q6.free 2
          have e3 := Q6.free 3
          have e4 := Q6.free 4
          have e5 := Q6.free 5
          simp only [List.getElem?_cons_zero, List.getElem?_cons_succ] at z0 z1 z2 z3 z4 z5
          clear R6 Q6 V6
          refine ⟨S6, tail_oneL rfl ?_⟩
          clear S6
          go_wp2_with fail
          generalize hW : World.setCell _ _ _ = W7
          have hss : ∀ (q : Addr), q.block = s' → q.block < W2.heap.size → False := fun q e h => by have := hK.out.2.1; omega
          have hne := hK.out.2.2.1
          have Q7 : Blk W7 s' [.int .i64 k2, .string n2, .slice a2 y.1.atts.length c2, .string t2, .slice q2 y.1.kids.length r2, .int .i64 (y.2 : Nat)] 139 := by rw [← hW]; exact (((((HK6.out.2.1.set 0 _).set 1 _).set 2 _).set 3 _).set 4 _).set 5 _
          have R7 : Blk W7 r [.int .i64 k1, .string n1, .slice a1 x.1.atts.length c1, .string t1, .slice q1 x.1.kids.length r1, .int .i64 (x.2 : Nat)] 139 := by rw [← hW]; exact (((((HK6.out.1.far ⟨s', 0, none⟩ _ hne).far ⟨s', 1, none⟩ _ hne).far ⟨s', 2, none⟩ _ hne).far ⟨s', 3, none⟩ _ hne).far ⟨s', 4, none⟩ _ hne).far ⟨s', 5, none⟩ _ hne
          have V7 : Upd W2 W7 (fun _ => False) := by rw [← hW]; exact (((((HK6.out.2.2.set ⟨s', 0, none⟩ _ (hss _ rfl)).set ⟨s', 1, none⟩ _ (hss _ rfl)).set ⟨s', 2, none⟩ _ (hss _ rfl)).set ⟨s', 3, none⟩ _ (hss _ rfl)).set ⟨s', 4, none⟩ _ (hss _ rfl)).set ⟨s', 5, none⟩ _ (hss _ rfl)
          obtain ⟨X2, M2, N2, U2, hMN, hx, hy, hp, hq, xT, yT⟩ := H2.out
          have X7 := X2.keep (V7.mono (fun _ _ h => h.elim))
          have M7 : MemoIs W7 M A B := by
            obtain ⟨L, hL, hR⟩ := M2
            exact ⟨L, hL.at_ (V7.block M hL.lt (fun h => h)), hR⟩
          have hMlt : M < W2.heap.size := by
            obtain ⟨L, hL, _⟩ := M2
            exact hL.lt
          have hrM : r ≠ M := by have := hK.out.1; omega
          have hsM : s' ≠ M := by have := hK.out.2.1; omega
          have N7 : Blk W7 N [.int .i64 (i : Nat), .int .i64 (m : Nat), .int .i64 (k : Nat), .int .i64 (n : Nat)] 140 := V7.blk N2 (fun h => h)
          have U7 : Upd w W7 (· = M) := U2.trans V7 (fun _ _ h => h.elim) |>.mono (fun _ _ h => h.elim)
          obtain ⟨_, _, pa, pb, hd, hs, ih, ga, gb, fa, fb⟩ := HH.out
          have e1 : m - 1 = p := by omega
          have e2 : n - 1 = q := by omega
          have him : i < m := by have := HI.out; omega
          have hkn : k < n := by have := HI.out; omega
          have pl1 := pa.less him
          have pl2 := pb.less hkn
          obtain ⟨_, _, pf1, pf2⟩ := pa.first ga him
          obtain ⟨_, _, pg1, pg2⟩ := pb.first gb hkn
          have eax : at_ A m = x := by
            have := at_get (A := A) (m := m) (by omega) pa.2.1
            rw [e1, hx] at this
            exact (Option.some.inj this).symm
          have eby : at_ B n = y := by
            have := at_get (A := B) (m := n) (by omega) pb.2.1
            rw [e2, hy] at this
            exact (Option.some.inj this).symm
          have hfar := far_on ga gb pa pb him hkn
          rw [eax] at pf1 pf2
          rw [eby] at pg1 pg2
          rw [e1] at pl1 pf2
          rw [e2] at pl2 pg2
          rw [eax, eby, e1, e2, ← hd] at hfar
          have hx2 : x.2 ≤ p := pf2.1
          have hy2 : y.2 ≤ q := pg2.1
          have C1 := ih i p k n (by omega) W7 X7 M7 pl1 pb (by omega) hn
          obtain ⟨d1, hd1⟩ : ∃ d1, d1 = far A B i p k n := ⟨_, rfl⟩
          rw [← hd1] at C1 hfar
          have HP := Lib.hid (And.intro pl2 (And.intro pf1 (And.intro pf2 (And.intro pg1 (And.intro pg2 (And.intro hx2 hy2))))))
          have HD := Lib.hid (And.intro hfar hd1)
          have xT7 := xT.keep V7 (fun _ _ h => h)
          have yT7 := yT.keep V7 (fun _ _ h => h)
          have HW := Lib.hid (And.intro Q7 (And.intro R7 (And.intro X7 (And.intro hrM (And.intro hsM (And.intro N7 (And.intro U7 (And.intro xT7 yT7))))))))
          clear xT7 yT7
          have HC1 := Lib.hid C1
          clear hW hss hne Q7 R7 V7 X2 M2 N2 U2 hMN hx hy hp hq xT yT X7 M7 hMlt hrM hsM N7 U7 pa pb hd hs ih ga gb fa fb e1 e2 him hkn pl1 pl2 pf1 pf2 pg1 pg2 eax eby hfar hx2 hy2 hd1 C1 z0 z1 z2 z3 z4 z5 e0 e3 e4 e5
          refine HC1.out.mono ?_
          rintro e w8 ⟨rfl, M8, U8⟩
          obtain ⟨_, _, pa, pb, hd, hs, ih, _⟩ := HH.out
          have hq := H2.out.2.2.2.2.2.2.2.2.1
          have C2 := ih i m k q (by omega) w8 (HW.out.2.2.1.keep U8) M8 pa HP.out.1 hm (by omega)
          obtain ⟨d2, hd2⟩ : ∃ d2, d2 = far A B i m k q := ⟨_, rfl⟩
          have hfar := HD.out.1
          rw [← hd2] at C2 hfar
          have l1 : d1 ≤ 64 := by rw [HD.out.2]; have := far_le A B _ i p k n (Nat.le_refl _); have := H2.out.2.2.2.2.2.2.2.1; omega
          have l2 : d2 ≤ 64 := by rw [hd2]; have := far_le A B _ i m k q (Nat.le_refl _); omega
          have H8 := Lib.hid (And.intro M8 (And.intro U8 (And.intro hfar hd2)))
          have HC2 := Lib.hid C2
          clear M8 U8 pa pb hd hs ih hq C2 hd2 hfar
          go_wp2_with fail
          refine HC2.out.mono ?_
          rintro e w9 ⟨rfl, M9, U9⟩
          have U79 : Upd W7 w9 (· = M) := H8.out.2.1.trans U9 (fun _ _ h => h)
          have H9 := Lib.hid (And.intro M9 U79)
          have S9 : Blk w9 r [.int .i64 k1, .string n1, .slice a1 x.1.atts.length c1, .string t1, .slice q1 x.1.kids.length r1, .int .i64 (x.2 : Nat)] 139 ∧ Blk w9 s' [.int .i64 k2, .string n2, .slice a2 y.1.atts.length c2, .string t2, .slice q2 y.1.kids.length r2, .int .i64 (y.2 : Nat)] 139 := ⟨U79.blk HW.out.2.1 HW.out.2.2.2.1, U79.blk HW.out.1 HW.out.2.2.2.2.1⟩
          clear M9 U9 U79
          go_wp2_with fail
          apply wp_reg2 (fun w' : World => Blk w' r [.int .i64 k1, .string n1, .slice a1 x.1.atts.length c1, .string t1, .slice q1 x.1.kids.length r1, .int .i64 (x.2 : Nat)] 139 ∧ Blk w' s' [.int .i64 k2, .string n2, .slice a2 y.1.atts.length c2, .string t2, .slice q2 y.1.kids.length r2, .int .i64 (y.2 : Nat)] 139) [0, 1, 2, 3, 4, 5, 6, 7, 9, 10, 11, 12, 13, 14, 15, 16, 17, 20, 21] [8, 18] [19] [22, 23, 24] [25] (by kernel_rfl) (by kernel_rfl) (fun _ _ d _ _ h => by cases d <;> exact h) S9
          · iterate 19 (apply reads_consL rfl rfl; (· intro w0 hS; have hr0 := hS.1.cell 0; have hr1 := hS.1.cell 1; have hr2 := hS.1.cell 2; have hr3 := hS.1.cell 3; have hr4 := hS.1.cell 4; have hr5 := hS.1.cell 5; have hs0 := hS.2.cell 0; have hs1 := hS.2.cell 1; have hs2 := hS.2.cell 2; have hs3 := hS.2.cell 3; have hs4 := hS.2.cell 4; have hs5 := hS.2.cell 5; clear hS; simp only [List.getElem?_cons_zero, List.getElem?_cons_succ] at hr0 hr1 hr2 hr3 hr4 hr5 hs0 hs1 hs2 hs3 hs4 hs5; go_simp; try rfl); simp only [Act.put, List.setIfInBounds_toArray, List.set_cons_zero, List.set_cons_succ])
            exact rfl
          clear S9
          obtain ⟨_, _, pa, pb, hd, hs, ih, _⟩ := HH.out
          have hpq := H2.out.2.2.2.2.2.2.2
          have hP := HP.out
          have U7d : Upd W7 w9.drew (· = M) := H9.out.2.drew
          have M9d : MemoIs w9.drew M A B := H9.out.1
          have C3 := ih i x.2 k y.2 (by omega) w9.drew (HW.out.2.2.1.keep U7d) M9d hP.2.1 hP.2.2.2.1 (by omega) (by omega)
          obtain ⟨d3, hd3⟩ : ∃ d3, d3 = far A B i x.2 k y.2 := ⟨_, rfl⟩
          rw [← hd3] at C3
          have l3 : d3 ≤ 64 := by rw [hd3]; have := far_le A B _ i x.2 k y.2 (Nat.le_refl _); omega
          have HC3 := Lib.hid (And.intro C3 hd3)
          clear pa pb hd hs ih hpq hP U7d M9d C3 hd3
          refine pre_consL rfl ?_
          go_wp2_with fail
          refine HC3.out.1.mono ?_
          rintro e w10 ⟨rfl, M10, U10⟩
          have U710 : Upd W7 w10 (· = M) := H9.out.2.drew.trans U10 (fun _ _ h => h)
          have S10 := And.intro (U710.blk HW.out.2.1 HW.out.2.2.2.1) (U710.blk HW.out.1 HW.out.2.2.2.2.1)
          obtain ⟨_, _, pa, pb, hd, hs, ih, _⟩ := HH.out
          have hpq := H2.out.2.2.2.2.2.2.2
          have hP := HP.out
          have C4 := ih x.2 p y.2 q (by omega) w10 (HW.out.2.2.1.keep U710) M10 hP.2.2.1 hP.2.2.2.2.1 (by omega) (by omega)
          obtain ⟨d4, hd4⟩ : ∃ d4, d4 = far A B x.2 p y.2 q := ⟨_, rfl⟩
          rw [← hd4] at C4
          have l4 : d4 ≤ 64 := by rw [hd4]; have := far_le A B _ x.2 p y.2 q (Nat.le_refl _); omega
          have H10 := Lib.hid U710
          have HC4 := Lib.hid (And.intro C4 hd4)
          clear M10 U10 U710 pa pb hd hs ih hpq hP C4 hd4
          go_wp2_with fail
          refine ⟨S10, pre_consL rfl ?_⟩
          clear S10
          go_wp2_with fail
          refine HC4.out.1.mono ?_
          rintro e w11 ⟨rfl, M11, U11⟩
          have U711 : Upd W7 w11 (· = M) := H10.out.trans U11 (fun _ _ h => h)
          have S11 := And.intro (U711.blk HW.out.2.1 HW.out.2.2.2.1) (U711.blk HW.out.1 HW.out.2.2.2.2.1)
          have hx := H2.out.2.2.2.2.2.1
          have hy := H2.out.2.2.2.2.2.2.1
          have fx := HH.out.2.2.2.2.2.2.2.2.2.1.get hx
          have CT := turn_any (· ≠ M) x.1 y.1 x.2 y.2 _ _ w11 (HW.out.2.2.2.2.2.2.2.1.keep U711 (fun g h e => h e)) (HW.out.2.2.2.2.2.2.2.2.keep U711 (fun g h e => h e)) fx.1 fx.2
          obtain ⟨d5, hd5⟩ : ∃ d5, d5 = turnN x.1 y.1 := ⟨_, rfl⟩
          have l5 : d5 ≤ 1 := by rw [hd5]; unfold turnN; split <;> omega
          rw [← hd5] at CT
          simp only [List.cons_append, List.nil_append] at CT
          have H11 := Lib.hid (And.intro M11 U711)
          have HCT := Lib.hid (And.intro CT hd5)
          clear M11 U11 U711 hx hy fx CT hd5
          go_wp2_with fail
          refine ⟨S11, ?_⟩
          apply pre_last
          · iterate 1 (apply reads_consL rfl rfl; (· intro w0 hS; clear hS; go_simp; try rfl); simp only [Act.put, List.setIfInBounds_toArray, List.set_cons_zero, List.set_cons_succ])
            exact rfl
          clear S11
          refine tail_consL rfl ?_
          go_wp2_with fail
          refine HCT.out.1.mono ?_
          rintro e w12 ⟨rfl, B12⟩
          have U712 : Upd W7 w12 (· = M) := H11.out.2.trans (Upd.ofBelow (F := fun _ => False) B12) (fun _ _ h => h.elim)
          have S12 := And.intro (U712.blk HW.out.2.1 HW.out.2.2.2.1) (U712.blk HW.out.1 HW.out.2.2.2.2.1)
          obtain ⟨L2, hL2, hR2⟩ := H11.out.1
          have hL12 : MapIs w12 M L2 := hL2.at_ (B12.block M hL2.lt)
          have H12 := Lib.hid (And.intro hL12 (And.intro hR2 U712))
          clear hL2 hR2 B12 U712 hL12
          go_wp2_with fail
          refine ⟨S12, tail_consL rfl ?_⟩
          go_wp2_with fail
          refine ⟨S12, tail_consL rfl ?_⟩
          go_wp2_with fail
          refine ⟨S12, tail_oneL rfl ?_⟩
          clear S12
          go_wp2_with fail
          have hval : min (min (d1 : Int) (d2 : Int) + 1) ((d3 : Int) + (d4 : Int) + (d5 : Int)) = (d : Int) := by
            have h := H8.out.2.2.1
            rw [← HC3.out.2, ← HC4.out.2, ← HCT.out.2] at h
            omega
          rw [hval]
          clear hval
          have x2 : w12.cell? ⟨X, 2, none⟩ = some (.map (some M)) := (H12.out.2.2.blk HW.out.2.2.1.1 HW.out.2.2.1.2.1).cell 2
          have hNM : N ≠ M := H2.out.2.2.2.2.1.symm
          have N12 := H12.out.2.2.blk HW.out.2.2.2.2.2.1 hNM
          have n0 : w12.cell? ⟨N, 0, none⟩ = some (.int .i64 (i : Nat)) := N12.cell 0
          have n1' : w12.cell? ⟨N, 1, none⟩ = some (.int .i64 (m : Nat)) := N12.cell 1
          have n2' : w12.cell? ⟨N, 2, none⟩ = some (.int .i64 (k : Nat)) := N12.cell 2
          have n3 : w12.cell? ⟨N, 3, none⟩ = some (.int .i64 (n : Nat)) := N12.cell 3
          clear N12 hNM
          apply wp_reg (fun w' : World => w'.cell? ⟨X, 2, none⟩ = some (.map (some M)) ∧ w'.cell? ⟨N, 0, none⟩ = some (.int .i64 (i : Nat)) ∧ w'.cell? ⟨N, 1, none⟩ = some (.int .i64 (m : Nat)) ∧ w'.cell? ⟨N, 2, none⟩ = some (.int .i64 (k : Nat)) ∧ w'.cell? ⟨N, 3, none⟩ = some (.int .i64 (n : Nat))) [0, 1, 2, 3, 4, 5] [] [6] (by kernel_rfl) (by kernel_rfl) (fun _ _ d _ _ h => by cases d <;> exact h) ⟨x2, n0, n1', n2', n3⟩
          · iterate 6 (apply reads_consL rfl rfl; (· intro w0 hS; obtain ⟨hS0, hS1, hS2, hS3, hS4⟩ := hS; go_simp; try rfl); simp only [Act.put, List.setIfInBounds_toArray, List.set_cons_zero, List.set_cons_succ])
            exact rfl
          refine tail_oneL rfl ?_
          obtain ⟨w13, L3, hrun, hL3, hR3, U13⟩ := memo_update H12.out.2.1 (i := i) (m := m) (k := k) (n := n) (by omega) hm (by omega) hn (w := w12.drew) (M := M) (H12.out.1.at_ rfl)
          rw [← HH.out.2.2.2.2.1] at hrun
          unfold key4 at hrun
          have H13 := Lib.hid (And.intro hL3 (And.intro hR3 U13))
          clear hL3 hR3 U13 x2 n0 n1' n2' n3
          refine wpl_memo rfl rfl rfl rfl rfl hrun ?_
          clear hrun
          go_wp2
          go_ret
          exact ⟨rfl, ⟨L3, H13.out.1, H13.out.2.1⟩, (HW.out.2.2.2.2.2.2.1.trans H12.out.2.2.drew (fun _ _ h => h)).trans H13.out.2.2 (fun _ _ h => h)⟩

theorem of_any (X M : Nat) (A B : List Nd) (va vb : Value) (ga : Good A) (gb : Good B) (fa : Fine A) (fb : Fine B) : ∀ s i m k n, m + n ≤ s → ∀ w, FarOk w X M A B va vb → MemoIs w M A B → Part A i m → Part B k n → m ≤ 32 → n ≤ 32 →
    Calls Tryd.prog 56 #[.pointer (some ⟨X, 0, none⟩), .int .i64 (i : Nat), .int .i64 (m : Nat), .int .i64 (k : Nat), .int .i64 (n : Nat)] w (OfPost w M A B (far A B i m k n))
  | 0, i, m, k, n, h => fun w h1 h2 h3 h4 h5 h6 => of_step X M A B va vb ga gb fa fb 0 i m k n (by omega) (fun i' m' k' n' h' w' x1 x2 x3 x4 x5 x6 => by
      obtain rfl : m' = 0 := by omega
      obtain rfl : n' = 0 := by omega
      have := x3.1
      have := x4.1
      exact of_zero X M A B va vb i' k' (by omega) (by omega) w' x1 x2) w h1 h2 h3 h4 h5 h6
  | s + 1, i, m, k, n, h => fun w h1 h2 h3 h4 h5 h6 => of_step X M A B va vb ga gb fa fb s i m k n h (fun i' m' k' n' h' w' x1 x2 x3 x4 x5 x6 => of_any X M A B va vb ga gb fa fb s i' m' k' n' h' w' x1 x2 x3 x4 x5 x6) w h1 h2 h3 h4 h5 h6

end Df
end Go.Proofs.YtemmkobgpciflaaDoor
