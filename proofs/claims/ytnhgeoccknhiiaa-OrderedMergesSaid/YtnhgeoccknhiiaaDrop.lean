/- Lists of items: slices.Clone, Drop; the document's Drop. -/
import Derived.Test.YtnhgeoccknhiiaaOrdI2
import Derived.Test.YtnhgeoccknhiiaaRef7
namespace Go.Proofs.Ytnhgeoccknhiiaa
open Go.RowKit
namespace OrdI

def OwnNew (w w' : World) (v : Value) (L : List It) : Prop := w'.ownsRow 0 36 2 v L.length (cells L) ∧ Upd w w' (fun _ => False) ∧ ∀ g, v.ownBlock = some g → w.heap.size ≤ g

theorem clone_any (v : Value) (L : List It) (w : World) (h : Rd w v L.length 2 (cells L)) (hl : L.length ≤ 1000000) :
    Calls Try.prog 89 #[v] w fun e w' => ∃ v', e = .returned v' ∧ OwnNew w w' v' L := by
  obtain ⟨a, c, rfl, hc⟩ := h.form
  cases a with
  | none =>
    have hL : L = [] := by
      obtain ⟨_, a, c', e, hc', hn, _⟩ := h
      cases e
      have := hn rfl
      exact List.eq_nil_of_length_eq_zero (by omega)
    subst hL
    have qn : ∀ (w : World) (n c : Nat), (binOp .eql 30 (.slice none n c) (.slice none 0 0)).run Try.prog w = .ok (.bool true) w := fun _ _ _ => by kernel_rfl
    go_enter Try.func89, Try.ntmps89
    go_wp2
    go_ret
    exact ⟨_, rfl, World.ownsRow_nil _ _ _ _, Upd.refl _ _, fun _ h => nomatch h⟩
  | some a =>
    have qn : ∀ (w : World) (a : Addr) (n c : Nat), (binOp .eql 30 (.slice (some a) n c) (.slice none 0 0)).run Try.prog w = .ok (.bool false) w := fun _ _ _ _ => by kernel_rfl
    have HR := Lib.hid h
    clear h
    go_enter Try.func89, Try.ntmps89
    obtain ⟨g0, hg0⟩ : ∃ g0, g0 = w.heap.size := ⟨_, rfl⟩
    have Hg0 := Lib.hid hg0
    go_wp2_with (at_builtin; refine halt_mk ?_)
    refine halt_go ?_
    rw [← hg0]
    generalize hW : World.alloc _ _ = W
    have T1 : Upd w W (fun _ => False) := by rw [← hW]; exact (Upd.refl w _).alloc _
    have O1 : W.ownsRow 0 36 2 (.slice (some ⟨g0, 0, none⟩) 0 0) 0 [] := by rw [← hW]; exact own_lit_sz hg0
    clear hW hg0
    refine wpl_app rfl rfl elem Try.underlying30 rfl O1 rfl (HR.out.keep T1 (fun _ _ h => h)) (cells_one L) (by omega) ?_
    rintro v1 w4 ⟨O2, U2, b2⟩
    rw [Nat.zero_add, List.nil_append] at O2
    have S4 : Hid (OwnNew w w4 v1 L) := by
      have h0 := Hg0.out
      refine Lib.hid ⟨O2, T1.trans U2 (fun i hi e => by have := ob_eq e; omega), fun g hg => ?_⟩
      rcases b2 with e | e
      · have := ob_eq (e.symm.trans hg)
        omega
      · have := ob_some (e.symm.trans hg)
        have := T1.size
        omega
    clear O2 U2 b2 T1 O1
    go_wp2
    go_ret
    exact ⟨_, rfl, S4.out⟩

def DropPost (key : It → Int) (p : Nat) (L : List It) (x : It) (w : World) (e : Ending) (w' : World) : Prop :=
  ∃ r : Nat, RankOf key L (key x) r ∧
    (((∃ y, L[r]? = some y ∧ key y = key x) ∧ e = .returned (.bool true) ∧ OrdFresh w.heap.size w' p (L.eraseIdx r) ∧ Upd w w' (· = p)) ∨
     ((∀ y, L[r]? = some y → key x < key y) ∧ e = .returned (.bool false) ∧ Below w.heap.size w w'))

set_option maxRecDepth 10000 in
set_option maxHeartbeats 1000000 in
theorem drop_any {S : World → Prop} {key : It → Int} (A : Ask S key) (p : Nat) (L : List It) (x : It) (w : World) (hS : S w) (h : OrdIs w p L) (hs : Sorted key L) (hl : L.length ≤ 8192) :
    Calls Try.prog 75 #[.pointer (some ⟨p, 0, none⟩), itv x] w (DropPost key p L x w) := by
  obtain ⟨w1, hw1⟩ : ∃ w1, w1 = w.alloc (.cells #[.int .i64 x.k, .int .i64 x.m] 36) := ⟨_, rfl⟩
  have U1 : Upd w w1 (fun _ => False) := by rw [hw1]; exact (Upd.refl w _).alloc _
  have B1 : Below w.heap.size w w1 := U1.below (Nat.le_refl _) (fun _ _ h => h)
  have hS := A.stays _ _ hS B1
  have h := h.below B1
  have HO := Lib.hid h
  have HC := Lib.hid (find_any A p L x w1 hS h hs hl)
  have HU := Lib.hid U1
  have HW1 := Lib.hid hw1
  clear A hS h hs U1 B1 hw1
  go_enter Try.func75, Try.ntmps75
  go_wp2_with fail
  rw [← HW1.out]
  refine HC.out.mono ?_
  rintro e w2 ⟨⟨r, hR, hcase⟩, hb⟩
  have HB : Hid (Below w.heap.size w w2) := Lib.hid ((HU.out.below (Nat.le_refl _) (fun _ _ h => h)).trans (Upd.below (Upd.ofBelow (F := fun _ => False) hb) HU.out.size (fun _ _ h => h)))
  have HR := Lib.hid hR
  obtain ⟨v, hB, hO⟩ := HO.out.below hb
  have hRd := Rd.ofOwn hO
  obtain ⟨a, c, rfl, hc⟩ := hRd.form
  have h1 : w2.cell? ⟨p, 1, none⟩ = some (.slice a L.length c) := hB.cell 1
  have hr0 : (0 : Int) ≤ (r : Int) := by omega
  have hrL := hR.le
  have HX := Lib.hid (And.intro hB (And.intro hO hRd))
  clear hb hR hB hO hRd HC
  rcases hcase with ⟨y, hy, hk, rfl⟩ | ⟨hno, rfl⟩
  · have hr1 : r + 1 ≤ L.length := (List.getElem?_eq_some_iff.1 hy).1
    have HY := Lib.hid (And.intro hy hk)
    clear hy hk
    obtain ⟨s1, r1, R1, b1⟩ := HX.out.2.2.cutH elem Try.underlying30 hrL .i64
    obtain ⟨s2, r2, R2, b2⟩ := HX.out.2.2.cutL elem Try.underlying30 hr1 .i64
    rw [cells_take] at R1
    rw [cells_drop] at R2
    have HR12 := Lib.hid (And.intro R1 R2)
    have hw1 : IntKind.i64.wrap ((r : Int) + 1) = (r : Int) + 1 := by rw [IntKind.wrap_i64]; omega
    have ecast : ((r + 1 : Nat) : Int) = (r : Int) + 1 := rfl
    simp only [ecast] at r2
    have hpl : p < w2.heap.size := HX.out.1.lt
    have lt1 : (L.take r).length = r := by rw [List.length_take]; omega
    have hCl : Calls Try.prog 89 #[s1] w2.drew fun e w' => ∃ v', e = .returned v' ∧ OwnNew w2.drew w' v' (L.take r) := clone_any s1 (L.take r) w2.drew (by rw [lt1]; exact R1.same rfl) (by rw [lt1]; omega)
    have HCl := Lib.hid hCl
    clear R1 R2 b1 b2 hCl
    go_wp2_with fail
    apply wp_reg (fun w' : World => w'.cell? ⟨p, 1, none⟩ = some (.slice a L.length c)) [0, 1, 2, 3, 4, 5, 6, 8, 9, 10, 11, 12, 13, 14] [7, 15] [16, 17, 18] (by kernel_rfl) (by kernel_rfl) (fun _ _ d _ _ h => by cases d <;> exact h) h1
    · iterate 14 (apply reads_consL rfl rfl; (· intro w0 hS; go_simp; try rfl); simp only [Act.put, List.setIfInBounds_toArray, List.set_cons_zero, List.set_cons_succ])
      exact rfl
    refine tail_consL rfl ?_
    go_wp2_with fail
    refine HCl.out.mono ?_
    rintro e w3 ⟨v1, rfl, hN⟩
    have U3 : Upd w2 w3 (fun _ => False) := (Upd.refl w2 _).drew.trans hN.2.1 (fun _ _ h => h)
    have h3 : w3.cell? ⟨p, 1, none⟩ = some (.slice a L.length c) := (U3.blk HX.out.1 (fun h => h)).cell 1
    have S3 := Lib.hid (And.intro hN U3)
    clear hN U3 HCl h1
    go_wp2_with fail
    refine ⟨h3, tail_consL rfl ?_⟩
    obtain ⟨⟨O2, V2, hv2⟩, U3⟩ := S3.out
    rw [lt1] at O2
    refine wpl_app rfl rfl elem Try.underlying30 rfl O2 rfl (HR12.out.2.keep U3 (fun _ _ h => h)) (cells_one _) (by omega) ?_
    rintro v3 w6 ⟨O3, U6, b3⟩
    have V6 : Upd w2 w6 (fun _ => False) := U3.trans U6 (fun i hi e => by have := hv2 i e; have hd : w2.drew.heap.size = w2.heap.size := rfl; omega)
    have B6 := V6.blk HX.out.1 (fun h => h)
    have f1 := B6.free 1
    have d1 : w6.cell? ⟨p, 1, none⟩ = some (.slice a L.length c) := B6.cell 1
    have hv3 : v3.ownBlock ≠ some p := fun e => by
      obtain ⟨vs, hv⟩ := own_ty O3 e
      exact absurd rfl (B6.ty hv (by decide))
    have hv4 : ∀ g, v3.ownBlock = some g → w.heap.size ≤ g := by
      intro g hg
      have := HB.out.size
      have hd : w2.drew.heap.size = w2.heap.size := rfl
      rcases b3 with e | e
      · have := hv2 g (e ▸ hg)
        omega
      · have := ob_some (e.symm.trans hg)
        have := U3.size
        omega
    obtain ⟨a3, c3, e3, _⟩ := (Rd.ofOwn O3).form
    have S6 := Lib.hid (And.intro O3 (And.intro hv3 (And.intro V6 B6)))
    have H4 := Lib.hid hv4
    clear O3 U6 b3 V6 B6 O2 V2 hv2 U3 S3 hv3 h3 hv4
    subst e3
    go_wp2_with fail
    refine ⟨d1, tail_threeL rfl rfl rfl ?_⟩
    go_wp2
    go_ret
    obtain ⟨O3, hv3, V6, B6⟩ := S6.out
    have V0 : Upd w w6 (fun _ => False) := (Upd.ofB HB.out).trans V6 (fun _ _ h => h)
    refine ⟨r, HR.out, Or.inl ⟨⟨y, HY.out⟩, rfl, ⟨_, B6.set 1 _, ?_, H4.out⟩, (V0.mono (fun _ _ h => h.elim)).set _ _ (fun _ => rfl)⟩⟩
    have O4 := own_keep O3 ((Upd.refl w6 (· = p)).set ⟨p, 1, none⟩ (.slice a3 (r + (L.length - (r + 1))) c3) (fun _ => rfl)) (fun g hg e => by
      have e' : g = p := e
      subst e'
      exact hv3 hg)
    have e1 : cells (L.eraseIdx r) = cells (L.take r) ++ cells (L.drop (r + 1)) := by rw [eraseIdx_td, cells_append]
    have e2 : (L.eraseIdx r).length = r + (L.length - (r + 1)) := by rw [eraseIdx_td, List.length_append, lt1, List.length_drop]
    rw [e1, e2]
    exact O4
  · have HN := Lib.hid hno
    clear hno
    go_wp2
    go_ret
    exact ⟨r, HR.out, Or.inr ⟨HN.out, rfl, HB.out⟩⟩

def RDropPost (d : Nat) (L : List It) (kx : Int) (w : World) (e : Ending) (w' : World) : Prop :=
  ∃ r : Nat, RankOf It.k L kx r ∧
    (((∃ y, L[r]? = some y ∧ y.k = kx) ∧ e = .returned (.bool true) ∧ RefFresh w.heap.size w' d (L.eraseIdx r) ∧ Upd w w' (· = d)) ∨
     ((∀ y, L[r]? = some y → kx < y.k) ∧ e = .returned (.bool false) ∧ Below w.heap.size w w'))

set_option maxRecDepth 10000 in
set_option maxHeartbeats 1000000 in
theorem rdrop_any (d : Nat) (L : List It) (kx : Int) (w : World) (h : RefL w d L) (hs : Sorted It.k L) (hl : L.length ≤ 8192) :
    Calls Try.prog 76 #[.pointer (some ⟨d, 0, none⟩), .int .i64 kx] w (RDropPost d L kx w) := by
  have HO := Lib.hid (And.intro h hs)
  have HC := Lib.hid (rhas_any d L kx w h hs hl)
  clear h hs
  go_enter Try.func76, Try.ntmps76
  go_wp2_with fail
  refine HC.out.mono ?_
  rintro e w2 ⟨⟨r, hR, hcase⟩, hb⟩
  have HB : Hid (Below w.heap.size w w2) := Lib.hid hb
  have HR := Lib.hid hR
  have hRL := HO.out.1.below hb
  have HRK := Lib.hid (rrank_any d L kx w2 hRL HO.out.2 hl)
  obtain ⟨v, hB, hO⟩ := hRL
  have hRd := Rd.ofOwn hO
  obtain ⟨a, c, rfl, hc⟩ := hRd.form
  have h1 : w2.cell? ⟨d, 0, none⟩ = some (.slice a L.length c) := hB.cell 0
  have hr0 : (0 : Int) ≤ (r : Int) := by omega
  have hrL := hR.le
  have HX := Lib.hid (And.intro hB (And.intro hO hRd))
  clear hb hR hB hO hRd HC
  rcases hcase with ⟨y, hy, hk, rfl⟩ | ⟨hno, rfl⟩
  · have hr1 : r + 1 ≤ L.length := (List.getElem?_eq_some_iff.1 hy).1
    have HY := Lib.hid (And.intro hy hk)
    clear hy hk
    obtain ⟨s1, r1, R1, b1⟩ := HX.out.2.2.cutH elem Try.underlying30 hrL .i64
    obtain ⟨s2, r2, R2, b2⟩ := HX.out.2.2.cutL elem Try.underlying30 hr1 .i64
    rw [cells_take] at R1
    rw [cells_drop] at R2
    have HR12 := Lib.hid (And.intro R1 R2)
    have hw1 : IntKind.i64.wrap ((r : Int) + 1) = (r : Int) + 1 := by rw [IntKind.wrap_i64]; omega
    have ecast : ((r + 1 : Nat) : Int) = (r : Int) + 1 := rfl
    simp only [ecast] at r2
    have hpl : d < w2.heap.size := HX.out.1.lt
    have lt1 : (L.take r).length = r := by rw [List.length_take]; omega
    clear R1 R2 b1 b2
    go_wp2_with fail
    refine HRK.out.mono ?_
    rintro e w3 ⟨⟨r', hr', rfl⟩, rfl⟩
    have er : r' = r := rank_uniq hr' HR.out
    subst er
    clear hr' HRK
    obtain ⟨g0, hg0⟩ : ∃ g0, g0 = w3.heap.size := ⟨_, rfl⟩
    have Hg0 := Lib.hid hg0
    go_wp2_with fail
    apply wp_reg (fun w' : World => w'.cell? ⟨d, 0, none⟩ = some (.slice a L.length c)) [0, 2, 3, 4, 5, 6, 7, 9, 10, 11, 12, 13, 14, 15] [1, 8, 16] [17, 18, 19] (by kernel_rfl) (by kernel_rfl) (fun _ _ d _ _ h => by cases d <;> exact h) h1
    · iterate 14 (apply reads_consL rfl rfl; (· intro w0 hS; go_simp; try rfl); simp only [Act.put, List.setIfInBounds_toArray, List.set_cons_zero, List.set_cons_succ])
      exact rfl
    refine tail_consL rfl ?_
    go_wp2_with fail
    rw [← hg0]
    generalize hW : World.drew (World.alloc _ _) = W
    have T1 : Upd w3 W (fun _ => False) := by rw [← hW]; exact ((Upd.refl w3 _).alloc _).drew
    have O1 : W.ownsRow 0 36 2 (.slice (some ⟨g0, 0, none⟩) 0 0) 0 [] := by rw [← hW]; exact own_same (own_lit_sz hg0) rfl
    have h2 : W.cell? ⟨d, 0, none⟩ = some (.slice a L.length c) := (T1.blk HX.out.1 (fun h => h)).cell 0
    have S2 := Lib.hid (And.intro T1 O1)
    clear hW hg0 T1 O1 h1
    refine ⟨h2, tail_consL rfl ?_⟩
    obtain ⟨T1, O1⟩ := S2.out
    refine wpl_app rfl rfl elem Try.underlying30 rfl O1 rfl (HR12.out.1.keep T1 (fun _ _ h => h)) (cells_one _) (by omega) ?_
    rintro v1 w4 ⟨O2, U2, b2⟩
    rw [Nat.zero_add, List.nil_append] at O2
    have hd : w3.drew.heap.size = w3.heap.size := rfl
    have V2 : Upd w3 w4 (fun _ => False) := T1.trans U2 (fun i hi e => by have := ob_eq e; have := Hg0.out; omega)
    have hv2 : ∀ g, v1.ownBlock = some g → w3.heap.size ≤ g := by
      intro g hg
      have := Hg0.out
      rcases b2 with e | e
      · have := ob_eq (e.symm.trans hg)
        omega
      · have := ob_some (e.symm.trans hg)
        have := T1.size
        omega
    have h3 : w4.cell? ⟨d, 0, none⟩ = some (.slice a L.length c) := (V2.blk HX.out.1 (fun h => h)).cell 0
    have S3 := Lib.hid (And.intro O2 (And.intro V2 hv2))
    clear O2 V2 hv2 U2 b2 T1 O1 S2 h2
    go_wp2_with fail
    refine ⟨h3, tail_consL rfl ?_⟩
    obtain ⟨O2, V2, hv2⟩ := S3.out
    refine wpl_app rfl rfl elem Try.underlying30 rfl O2 rfl (HR12.out.2.keep V2 (fun _ _ h => h)) (cells_one _) (by omega) ?_
    rintro v3 w6 ⟨O3, U6, b3⟩
    have V6 : Upd w3 w6 (fun _ => False) := V2.trans U6 (fun i hi e => by have := hv2 i e; omega)
    have B6 := V6.blk HX.out.1 (fun h => h)
    have f1 := B6.free 0
    have d1 : w6.cell? ⟨d, 0, none⟩ = some (.slice a L.length c) := B6.cell 0
    have hv3 : v3.ownBlock ≠ some d := fun e => by
      obtain ⟨vs, hv⟩ := own_ty O3 e
      exact absurd rfl (B6.ty hv (by decide))
    have hv4 : ∀ g, v3.ownBlock = some g → w.heap.size ≤ g := by
      intro g hg
      have := HB.out.size
      rcases b3 with e | e
      · have := hv2 g (e ▸ hg)
        omega
      · have := ob_some (e.symm.trans hg)
        have := V2.size
        omega
    obtain ⟨a3, c3, e3, _⟩ := (Rd.ofOwn O3).form
    have S6 := Lib.hid (And.intro O3 (And.intro hv3 (And.intro V6 B6)))
    have H4 := Lib.hid hv4
    clear O3 U6 b3 V6 B6 O2 V2 hv2 S3 hv3 h3 hv4
    subst e3
    go_wp2_with fail
    refine ⟨d1, tail_threeL rfl rfl rfl ?_⟩
    go_wp2
    go_ret
    obtain ⟨O3, hv3, V6, B6⟩ := S6.out
    have V0 : Upd w w6 (fun _ => False) := (Upd.ofB HB.out).trans V6 (fun _ _ h => h)
    refine ⟨r', HR.out, Or.inl ⟨⟨y, HY.out⟩, rfl, ⟨_, B6.set 0 _, ?_, H4.out⟩, (V0.mono (fun _ _ h => h.elim)).set _ _ (fun _ => rfl)⟩⟩
    have O4 := own_keep O3 ((Upd.refl w6 (· = d)).set ⟨d, 0, none⟩ (.slice a3 (r' + (L.length - (r' + 1))) c3) (fun _ => rfl)) (fun g hg e => by
      have e' : g = d := e
      subst e'
      exact hv3 hg)
    have e1 : cells (L.eraseIdx r') = cells (L.take r') ++ cells (L.drop (r' + 1)) := by rw [eraseIdx_td, cells_append]
    have e2 : (L.eraseIdx r').length = r' + (L.length - (r' + 1)) := by rw [eraseIdx_td, List.length_append, lt1, List.length_drop]
    rw [e1, e2]
    exact O4
  · have HN := Lib.hid hno
    clear hno
    go_wp2
    go_ret
    exact ⟨r, HR.out, Or.inr ⟨HN.out, rfl, HB.out⟩⟩

end OrdI
end Go.Proofs.Ytnhgeoccknhiiaa
