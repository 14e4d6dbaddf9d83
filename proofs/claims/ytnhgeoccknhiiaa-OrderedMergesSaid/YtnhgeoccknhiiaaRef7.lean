/- The document's list of items: Rank, Has, Put. -/
import Derived.Test.YtnhgeoccknhiiaaOrdI
namespace Go.Proofs.Ytnhgeoccknhiiaa
open Go.RowKit
namespace OrdI

def RefL (w : World) (d : Nat) (L : List It) : Prop := ∃ v, Blk w d [v] 32 ∧ w.ownsRow 0 36 2 v L.length (cells L)
theorem RefL.below {w w' : World} {p : Nat} {L : List It} (h : RefL w p L) (hB : Below w.heap.size w w') : RefL w' p L := by
  obtain ⟨v, h1, h2⟩ := h
  have U : Upd w w' (fun _ => False) := Upd.ofBelow hB
  exact ⟨v, U.blk h1 (fun h => h), own_keep h2 U (fun _ _ h => h)⟩

theorem rrank_any (d : Nat) (L : List It) (key : Int) (w : World) (h : RefL w d L) (hs : Sorted It.k L) (hl : L.length ≤ 8192) :
    Calls Try.prog 17 #[.pointer (some ⟨d, 0, none⟩), .int .i64 key] w fun e w' => (∃ r : Nat, RankOf It.k L key r ∧ e = .returned (.int .i64 r)) ∧ w' = w := by
  obtain ⟨v, hB, hO⟩ := h
  have hR := Rd.ofOwn hO
  obtain ⟨a, c, rfl, hc⟩ := hR.form
  have h1 : w.cell? ⟨d, 0, none⟩ = some (.slice a L.length c) := hB.cell 0
  have HR := Lib.hid (And.intro hR hs)
  clear hB hO hR hs
  go_enter Try.func17, Try.ntmps17
  go_wp2
  go_loopg [5] L.length (fun kq v5 w' => ∃ i : Nat, v5 = .int .i64 i ∧ Hid (kq = L.length - i ∧ i ≤ L.length) ∧ Hid (∀ (t : Nat) (y : It), L[t]? = some y → t < i → y.k < key) ∧ Hid (w' = w))
  case atStart => exact ⟨0, rfl, Lib.hid ⟨rfl, Nat.zero_le _⟩, Lib.hid (fun t y _ h => by omega), Lib.hid rfl⟩
  case round =>
    obtain ⟨i, rfl, HI, HK, HW⟩ := hrel
    have hw := HW.out
    subst hw
    by_cases hi : i < L.length
    · obtain ⟨y, hy⟩ : ∃ y, L[i]? = some y := ⟨L[i], List.getElem?_eq_getElem hi⟩
      obtain ⟨g, off, c', e1, _, k0, k1⟩ := it_at HR.out.1 hy
      cases e1
      have hi0 : (0 : Int) ≤ (i : Int) := by omega
      have hi1 : (i : Int) < (L.length : Int) := by omega
      have hi2 : decide ((i : Int) < (L.length : Int)) = true := decide_eq_true hi1
      have HY := Lib.hid hy
      clear hy
      by_cases hk : y.k < key
      · have dk : decide (y.k < key) = true := decide_eq_true hk
        have hKK := Lib.hid hk
        go_wp2
        go_roundg (L.length - (i + 1))
        case rel =>
          refine ⟨i + 1, by go_num, Lib.hid ⟨rfl, by omega⟩, Lib.hid (fun t z hz ht => ?_), Lib.hid rfl⟩
          by_cases e : t = i
          · subst e
            rw [HY.out] at hz
            cases hz
            exact hKK.out
          · exact HK.out t z hz (by omega)
        case measure => have := HI.out; omega
      · have dk : decide (y.k < key) = false := decide_eq_false hk
        have hKK := Lib.hid hk
        clear hk
        go_wp2
        go_ret
        refine ⟨⟨i, ⟨by omega, HK.out, fun t z hz ht => ?_⟩, rfl⟩, rfl⟩
        have h1 := hKK.out
        by_cases e : t = i
        · subst e
          rw [HY.out] at hz
          cases hz
          omega
        · have := HR.out.2 i t y z HY.out hz (by omega)
          omega
    · have hi1 : ¬ (i : Int) < (L.length : Int) := by omega
      have hi2 : decide ((i : Int) < (L.length : Int)) = false := decide_eq_false hi1
      go_wp2
      go_ret
      refine ⟨⟨i, ⟨by have := HI.out; omega, HK.out, fun t z hz ht => ?_⟩, rfl⟩, rfl⟩
      rw [List.getElem?_eq_none (by omega)] at hz
      cases hz

theorem rhas_any (d : Nat) (L : List It) (key : Int) (w : World) (h : RefL w d L) (hs : Sorted It.k L) (hl : L.length ≤ 8192) :
    Calls Try.prog 54 #[.pointer (some ⟨d, 0, none⟩), .int .i64 key] w fun e w' => (∃ r : Nat, RankOf It.k L key r ∧ ((∃ y, L[r]? = some y ∧ y.k = key ∧ e = .returned (.bool true)) ∨ ((∀ y, L[r]? = some y → key < y.k) ∧ e = .returned (.bool false)))) ∧ Below w.heap.size w w' := by
  have HC := Lib.hid (rrank_any d L key w h hs hl)
  obtain ⟨v, hB, hO⟩ := h
  have hR := Rd.ofOwn hO
  obtain ⟨a, c, rfl, hc⟩ := hR.form
  have h1 : w.cell? ⟨d, 0, none⟩ = some (.slice a L.length c) := hB.cell 0
  have HR := Lib.hid (And.intro hR hs)
  clear hB hO hR hs
  go_enter Try.func54, Try.ntmps54
  go_wp2_with fail
  refine HC.out.mono ?_
  rintro e w2 ⟨⟨r, hr, rfl⟩, rfl⟩
  have HP := Lib.hid hr
  clear hr HC
  by_cases hi : r < L.length
  · obtain ⟨y, hy⟩ : ∃ y, L[r]? = some y := ⟨L[r], List.getElem?_eq_getElem hi⟩
    obtain ⟨g, off, c', e1, _, k0, k1⟩ := it_at HR.out.1 hy
    cases e1
    have hi0 : (0 : Int) ≤ (r : Int) := by omega
    have hi1 : (r : Int) < (L.length : Int) := by omega
    have hi2 : decide ((r : Int) < (L.length : Int)) = true := decide_eq_true hi1
    have HY := Lib.hid hy
    clear hy
    by_cases hk : y.k = key
    · have dk : (y.k == key) = true := by rw [beq_iff_eq]; exact hk
      have hKK := Lib.hid hk
      clear hk
      go_wp2
      try go_quiet (fail)
      try go_wp2
      go_ret
      exact ⟨⟨r, HP.out, Or.inl ⟨y, HY.out, hKK.out, rfl⟩⟩, by first | exact Below.refl _ _ | exact ((Upd.refl w (fun _ => False)).drewN _).below (Nat.le_refl _) (fun _ _ h => h)⟩
    · have dk : (y.k == key) = false := by rw [beq_eq_false_iff_ne]; exact hk
      have hKK := Lib.hid hk
      clear hk
      go_wp2
      try go_quiet (fail)
      try go_wp2
      go_ret
      refine ⟨⟨r, HP.out, Or.inr ⟨fun z hz => ?_, rfl⟩⟩, by first | exact Below.refl _ _ | exact ((Upd.refl w (fun _ => False)).drewN _).below (Nat.le_refl _) (fun _ _ h => h)⟩
      have h1 := hKK.out
      rw [HY.out] at hz
      cases hz
      have := HP.out.right r y HY.out (Nat.le_refl _)
      omega
  · have hi1 : ¬ (r : Int) < (L.length : Int) := by omega
    have hi2 : decide ((r : Int) < (L.length : Int)) = false := decide_eq_false hi1
    go_wp2
    try go_quiet (fail)
    try go_wp2
    go_ret
    refine ⟨⟨r, HP.out, Or.inr ⟨fun z hz => ?_, rfl⟩⟩, by first | exact Below.refl _ _ | exact ((Upd.refl w (fun _ => False)).drewN _).below (Nat.le_refl _) (fun _ _ h => h)⟩
    rw [List.getElem?_eq_none (by omega)] at hz
    cases hz

/-- .. and its row lies in memory from B on. -/
def RefFresh (B : Nat) (w : World) (p : Nat) (L : List It) : Prop := ∃ v, Blk w p [v] 32 ∧ w.ownsRow 0 36 2 v L.length (cells L) ∧ ∀ g, v.ownBlock = some g → B ≤ g
theorem RefFresh.is {B : Nat} {w : World} {p : Nat} {L : List It} (h : RefFresh B w p L) : RefL w p L := by
  obtain ⟨v, h1, h2, _⟩ := h
  exact ⟨v, h1, h2⟩
theorem rank_uniq {key : It → Int} {L : List It} {kx : Int} {r s : Nat} (h : RankOf key L kx r) (k : RankOf key L kx s) : r = s := by
  have one : ∀ r s, RankOf key L kx r → RankOf key L kx s → ¬ r < s := by
    intro r s h k hlt
    have hr : r < L.length := by have := k.le; omega
    have h1 := k.left r L[r] (List.getElem?_eq_getElem hr) hlt
    have h2 := h.right r L[r] (List.getElem?_eq_getElem hr) (Nat.le_refl _)
    omega
  have h1 := one r s h k
  have h2 := one s r k h
  omega

def RPutPost (d : Nat) (L : List It) (x : It) (w : World) (e : Ending) (w' : World) : Prop :=
  ∃ r : Nat, RankOf It.k L x.k r ∧
    (((∃ y, L[r]? = some y ∧ y.k = x.k) ∧ e = .returned (.int .i64 70) ∧ Below w.heap.size w w') ∨
     ((∀ y, L[r]? = some y → x.k < y.k) ∧ 8192 ≤ L.length ∧ e = .returned (.int .i64 2) ∧ Below w.heap.size w w') ∨
     ((∀ y, L[r]? = some y → x.k < y.k) ∧ L.length < 8192 ∧ e = .returned (.int .i64 0) ∧ RefFresh w.heap.size w' d (L.insertIdx r x) ∧ Upd w w' (· = d)))

set_option maxRecDepth 10000 in
set_option maxHeartbeats 1000000 in
theorem rput_any (d : Nat) (L : List It) (x : It) (w : World) (h : RefL w d L) (hs : Sorted It.k L) (hl : L.length ≤ 8192) :
    Calls Try.prog 15 #[.pointer (some ⟨d, 0, none⟩), itv x] w (RPutPost d L x w) := by
  obtain ⟨w1, hw1⟩ : ∃ w1, w1 = w.alloc (.cells #[.int .i64 x.k, .int .i64 x.m] 36) := ⟨_, rfl⟩
  have U1 : Upd w w1 (fun _ => False) := by rw [hw1]; exact (Upd.refl w _).alloc _
  have X1 : Blk w1 w.heap.size (icells x) 36 := by rw [hw1]; exact Blk.new w _ _
  have B1 : Below w.heap.size w w1 := U1.below (Nat.le_refl _) (fun _ _ h => h)
  have h := h.below B1
  have HO := Lib.hid (And.intro h hs)
  have HC := Lib.hid (rhas_any d L x.k w1 h hs hl)
  have HU := Lib.hid (And.intro U1 X1)
  have HW1 := Lib.hid hw1
  clear h hs U1 X1 B1 hw1
  go_enter Try.func15, Try.ntmps15
  go_wp2_with fail
  rw [← HW1.out]
  refine HC.out.mono ?_
  rintro e w2 ⟨⟨r, hR, hcase⟩, hb⟩
  obtain ⟨n, hn⟩ : ∃ n, n = w.heap.size := ⟨_, rfl⟩
  have X2 : Blk w2 n (icells x) 36 := by rw [hn]; exact (Upd.ofBelow (F := fun _ => False) hb).blk HU.out.2 (fun h => h)
  have HB : Hid (Below w.heap.size w w2) := Lib.hid ((HU.out.1.below (Nat.le_refl _) (fun _ _ h => h)).trans (Upd.below (Upd.ofBelow (F := fun _ => False) hb) HU.out.1.size (fun _ _ h => h)))
  rw [← hn]
  have HN0 := Lib.hid hn
  clear hn
  have HR := Lib.hid hR
  have hRL := HO.out.1.below hb
  have HRK := Lib.hid (rrank_any d L x.k w2 hRL HO.out.2 hl)
  obtain ⟨v, hB, hO⟩ := hRL
  have hRd := Rd.ofOwn hO
  obtain ⟨a, c, rfl, hc⟩ := hRd.form
  have h1 : w2.cell? ⟨d, 0, none⟩ = some (.slice a L.length c) := hB.cell 0
  have k0 : w2.cell? ⟨n, 0, none⟩ = some (.int .i64 x.k) := X2.cell 0
  have k1 : w2.cell? ⟨n, 1, none⟩ = some (.int .i64 x.m) := X2.cell 1
  have hr0 : (0 : Int) ≤ (r : Int) := by omega
  have hrL := hR.le
  have HX := Lib.hid (And.intro hB (And.intro hO hRd))
  have HK := Lib.hid X2
  clear hb hR hB hO hRd HC X2
  rcases hcase with ⟨y, hy, hk, rfl⟩ | ⟨hno, rfl⟩
  · have HY := Lib.hid (And.intro hy hk)
    clear hy hk
    go_wp2
    go_ret
    exact ⟨r, HR.out, Or.inl ⟨⟨y, HY.out⟩, rfl, HB.out⟩⟩
  · have HN := Lib.hid hno
    clear hno
    by_cases hn : 8192 ≤ L.length
    · have hn1 : decide ((L.length : Int) ≥ 8192) = true := decide_eq_true (by omega)
      go_wp2
      go_ret
      exact ⟨r, HR.out, Or.inr (Or.inl ⟨HN.out, hn, rfl, HB.out⟩)⟩
    · have hn1 : decide ((L.length : Int) ≥ 8192) = false := decide_eq_false (by omega)
      obtain ⟨s1, r1, R1, b1⟩ := HX.out.2.2.cutH elem Try.underlying30 hrL .i64
      obtain ⟨s2, r2, R2, b2⟩ := HX.out.2.2.cutL elem Try.underlying30 hrL .i64
      have HR12 := Lib.hid (And.intro R1 R2)
      have hpl : d < w2.heap.size := HX.out.1.lt
      clear R1 R2 b1 b2
      go_wp2_with fail
      refine HRK.out.mono ?_
      rintro e w3 ⟨⟨r', hr', rfl⟩, rfl⟩
      have er : r' = r := rank_uniq hr' HR.out
      subst er
      clear hr' HRK
      go_wp2
      apply wp_regS (fun w' : World => w'.cell? ⟨d, 0, none⟩ = some (.slice a L.length c) ∧ w'.cell? ⟨n, 0, none⟩ = some (.int .i64 x.k) ∧ w'.cell? ⟨n, 1, none⟩ = some (.int .i64 x.m)) [1, 2, 3, 4, 5, 6, 8] [0, 7] 9 [10] [11] (by kernel_rfl) (by kernel_rfl) (fun _ _ d _ _ h => by cases d <;> exact h)
        (fun (v : Value) (b : Nat) (_ : Nat) (w' : World) => Hid (w'.ownsRow 0 36 2 v r' (cells (L.take r')) ∧ Blk w' b (icells x) 36 ∧ Upd w3 w' (fun _ => False) ∧ w3.heap.size ≤ b ∧ v.ownBlock ≠ some b ∧ ∀ g, v.ownBlock = some g → w3.heap.size ≤ g)) _ _ ⟨h1, k0, k1⟩
      · iterate 7 (apply reads_consL rfl rfl; (· intro w0 hS; obtain ⟨hS1, hS2, hS3⟩ := hS; go_simp; try rfl); simp only [Act.put, List.setIfInBounds_toArray, List.set_cons_zero, List.set_cons_succ])
        exact rfl
      · have V0 : Upd w3 w3.drew (fun _ => False) := (Upd.refl w3 _).drew
        generalize w3.drew = w0 at V0 ⊢
        have H0 := Lib.hid V0
        clear V0
        refine shuf_consL rfl rfl ?_ ?_
        · have V0 := H0.out
          obtain ⟨g0, hg0⟩ : ∃ g0, g0 = w0.heap.size := ⟨_, rfl⟩
          have Hg0 := Lib.hid hg0
          go_wp2_with fail
          rw [← hg0]
          generalize hW : World.alloc w0 _ = W1
          have TW1 : Upd w0 W1 (fun _ => False) := by rw [← hW]; exact (Upd.refl w0 _).alloc _
          have OW1 : W1.ownsRow 0 36 2 (.slice (some ⟨g0, 0, none⟩) 0 0) 0 [] := by rw [← hW]; exact own_lit_sz hg0
          have VW1 : Upd w3 W1 (fun _ => False) := Upd.trans V0 TW1 (fun _ _ h => h)
          have Hg : Hid (w3.heap.size ≤ g0) := Lib.hid (by rw [hg0]; exact (Upd.size V0))
          clear hW hg0
          refine ⟨⟨(VW1.blk HX.out.1 (fun h => h)).cell 0, (VW1.blk HK.out (fun h => h)).cell 0, (VW1.blk HK.out (fun h => h)).cell 1⟩, ?_⟩
          have HF := Lib.hid (And.intro OW1 (And.intro VW1 (own_lt OW1 (g := g0) rfl)))
          clear TW1 OW1 VW1 V0
          refine shuf_consL rfl rfl ?_ ?_
          · obtain ⟨OW1, VW1, _⟩ := HF.out
            have RR := HR12.out.1.keep VW1 (fun _ _ h => h)
            have r1c : ∀ u ∈ (cells L).take (r' * 2), u.oneCell' = true := fun u hu => cells_one L u (List.mem_of_mem_take hu)
            refine wpl_app rfl rfl elem Try.underlying30 rfl OW1 rfl RR r1c (by omega) ?_
            rintro v1 w4 ⟨O1, U1, b1⟩
            rw [Nat.zero_add, List.nil_append, cells_take] at O1
            have V4 : Upd w3 w4 (fun _ => False) := Upd.trans VW1 U1 (fun i hi e => by have := ob_eq e; have := Hg.out; omega)
            have hv1 : ∀ g, v1.ownBlock = some g → w3.heap.size ≤ g := by
              intro g hg
              have hgo := Hg.out
              rcases b1 with e | e
              · have := ob_eq (e.symm.trans hg)
                omega
              · have := ob_some (e.symm.trans hg)
                have := Upd.size VW1
                omega
            have e0 : w4.cell? ⟨d, 0, none⟩ = some (.slice a L.length c) := (V4.blk HX.out.1 (fun h => h)).cell 0
            have k4 : w4.cell? ⟨n, 0, none⟩ = some (.int .i64 x.k) := (V4.blk HK.out (fun h => h)).cell 0
            have k5 : w4.cell? ⟨n, 1, none⟩ = some (.int .i64 x.m) := (V4.blk HK.out (fun h => h)).cell 1
            obtain ⟨b, hb⟩ : ∃ b, b = w4.heap.size := ⟨_, rfl⟩
            have S4 := Lib.hid (And.intro O1 (And.intro V4 (And.intro hv1 hb)))
            clear O1 U1 b1 V4 hv1 OW1 VW1 RR r1c
            go_wp2_with fail
            refine ⟨⟨e0, k4, k5⟩, shuf_nilL rfl ?_⟩
            go_wp2_with fail
            obtain ⟨O1, V4, hv1, hb⟩ := S4.out
            rw [← hb]
            generalize hW : World.alloc _ _ = W
            have T1 : Upd w4 W (fun _ => False) := by rw [← hW]; exact (Upd.refl w4 _).alloc _
            have X1 : Blk W b (icells x) 36 := by rw [← hW, hb]; exact Blk.new' rfl
            have V5 : Upd w3 W (fun _ => False) := V4.trans T1 (fun _ _ h => h)
            refine ⟨⟨(V5.blk HX.out.1 (fun h => h)).cell 0, (V5.blk HK.out (fun h => h)).cell 0, (V5.blk HK.out (fun h => h)).cell 1⟩, v1, b, g0, rfl, Lib.hid ⟨own_keep O1 T1 (fun _ _ h => h), X1, V5, ?_, ?_, hv1⟩⟩
            · rw [hb]; exact V4.size
            · intro e
              have := own_lt O1 e
              omega
          · obtain ⟨OW1, VW1, hlt⟩ := HF.out
            obtain ⟨b, hb⟩ : ∃ b, b = W1.heap.size := ⟨_, rfl⟩
            have Hb := Lib.hid hb
            go_wp2_with fail
            rw [← hb]
            generalize hW : World.alloc W1 _ = W2
            have TW2 : Upd W1 W2 (fun _ => False) := by rw [← hW]; exact (Upd.refl W1 _).alloc _
            have XW2 : Blk W2 b (icells x) 36 := by rw [← hW, hb]; exact Blk.new' rfl
            have VW2 : Upd w3 W2 (fun _ => False) := Upd.trans VW1 TW2 (fun _ _ h => h)
            have Hw : Hid (w3.heap.size ≤ b) := Lib.hid (by rw [hb]; exact (Upd.size VW1))
            have Hws : Hid (W2.heap.size = b + 1) := Lib.hid (by rw [← hW, hb]; simp)
            clear hW hb
            have Hgb : Hid (g0 ≠ b ∧ g0 < b) := Lib.hid (by have := Hws.out; have := TW2.size; have h1 := Hb.out; omega)
            have Hsz : Hid (b < W2.heap.size) := Lib.hid (by have := Hws.out; omega)
            have HG := Lib.hid (And.intro (own_keep OW1 TW2 (fun _ _ h => h)) (And.intro XW2 VW2))
            refine ⟨⟨(VW2.blk HX.out.1 (fun h => h)).cell 0, (VW2.blk HK.out (fun h => h)).cell 0, (VW2.blk HK.out (fun h => h)).cell 1⟩, pre_consL rfl ?_⟩
            clear OW1 VW1 TW2 XW2 VW2 hlt
            obtain ⟨OW2, XB, VW2⟩ := HG.out
            have RR := HR12.out.1.keep VW2 (fun _ _ h => h)
            have r1c : ∀ u ∈ (cells L).take (r' * 2), u.oneCell' = true := fun u hu => cells_one L u (List.mem_of_mem_take hu)
            refine wpl_app rfl rfl elem Try.underlying30 rfl OW2 rfl RR r1c (by omega) ?_
            rintro v1 w4 ⟨O1, U1, b1⟩
            rw [Nat.zero_add, List.nil_append, cells_take] at O1
            have V4 : Upd w3 w4 (fun _ => False) := Upd.trans VW2 U1 (fun i hi e => by have := ob_eq e; have := Hg.out; omega)
            have hv1 : ∀ g, v1.ownBlock = some g → w3.heap.size ≤ g := by
              intro g hg
              have hgo := Hg.out
              rcases b1 with e | e
              · have := ob_eq (e.symm.trans hg)
                omega
              · have := ob_some (e.symm.trans hg)
                have := Upd.size VW2
                omega
            have e0 : w4.cell? ⟨d, 0, none⟩ = some (.slice a L.length c) := (V4.blk HX.out.1 (fun h => h)).cell 0
            have k4 : w4.cell? ⟨n, 0, none⟩ = some (.int .i64 x.k) := (V4.blk HK.out (fun h => h)).cell 0
            have k5 : w4.cell? ⟨n, 1, none⟩ = some (.int .i64 x.m) := (V4.blk HK.out (fun h => h)).cell 1
            have hbv : v1.ownBlock ≠ some b := by
              intro e0
              have hgb := Hgb.out
              have hws := Hws.out
              rcases b1 with e | e
              · have := ob_eq (e.symm.trans e0)
                omega
              · have := ob_some (e.symm.trans e0)
                have := Hsz.out
                omega
            have X2 : Blk w4 b (icells x) 36 := U1.blk XB (fun e => by have := ob_eq e; have := Hgb.out; omega)
            have F := Lib.hid (And.intro O1 (And.intro X2 (And.intro V4 (And.intro hv1 hbv))))
            clear O1 X2 V4 hv1 hbv U1 b1 RR r1c
            go_wp2_with fail
            obtain ⟨O1, X2, V5, hv1, hbv⟩ := F.out
            refine ⟨⟨e0, k4, k5⟩, v1, b, g0, rfl, Lib.hid ⟨O1, X2, V5, Hw.out, hbv, hv1⟩⟩
        · have V0 := H0.out
          obtain ⟨b, hb⟩ : ∃ b, b = w0.heap.size := ⟨_, rfl⟩
          have Hb := Lib.hid hb
          go_wp2_with fail
          rw [← hb]
          generalize hW : World.alloc w0 _ = W1
          have TW1 : Upd w0 W1 (fun _ => False) := by rw [← hW]; exact (Upd.refl w0 _).alloc _
          have XW1 : Blk W1 b (icells x) 36 := by rw [← hW, hb]; exact Blk.new' rfl
          have VW1 : Upd w3 W1 (fun _ => False) := Upd.trans V0 TW1 (fun _ _ h => h)
          have Hw : Hid (w3.heap.size ≤ b) := Lib.hid (by rw [hb]; exact (Upd.size V0))
          have Hws : Hid (W1.heap.size = b + 1) := Lib.hid (by rw [← hW, hb]; simp)
          clear hW hb
          have HG := Lib.hid (And.intro XW1 VW1)
          refine ⟨⟨(VW1.blk HX.out.1 (fun h => h)).cell 0, (VW1.blk HK.out (fun h => h)).cell 0, (VW1.blk HK.out (fun h => h)).cell 1⟩, pre_consL rfl ?_⟩
          clear V0 TW1 XW1 VW1
          have V1 := HG.out.2
          obtain ⟨g0, hg0⟩ : ∃ g0, g0 = W1.heap.size := ⟨_, rfl⟩
          have Hg0 := Lib.hid hg0
          go_wp2_with fail
          rw [← hg0]
          generalize hW : World.alloc W1 _ = W2
          have TW2 : Upd W1 W2 (fun _ => False) := by rw [← hW]; exact (Upd.refl W1 _).alloc _
          have OW2 : W2.ownsRow 0 36 2 (.slice (some ⟨g0, 0, none⟩) 0 0) 0 [] := by rw [← hW]; exact own_lit_sz hg0
          have VW2 : Upd w3 W2 (fun _ => False) := Upd.trans V1 TW2 (fun _ _ h => h)
          have Hg : Hid (w3.heap.size ≤ g0) := Lib.hid (by rw [hg0]; exact (Upd.size V1))
          clear hW hg0
          have Hgb : Hid (g0 ≠ b ∧ b < g0) := Lib.hid (by have := Hws.out; have h1 := Hg0.out; omega)
          have hs2 : W2.heap.size = g0 + 1 ∨ g0 < W2.heap.size := Or.inr (own_lt OW2 (g := g0) rfl)
          have Hsz : Hid (b < W2.heap.size) := Lib.hid (by have := Hgb.out; omega)
          have HG2 := Lib.hid (And.intro OW2 (And.intro (TW2.blk HG.out.1 (fun h => h)) VW2))
          refine ⟨⟨(VW2.blk HX.out.1 (fun h => h)).cell 0, (VW2.blk HK.out (fun h => h)).cell 0, (VW2.blk HK.out (fun h => h)).cell 1⟩, pre_consL rfl ?_⟩
          clear V1 TW2 OW2 VW2 hs2
          obtain ⟨OW2, XB, VW2⟩ := HG2.out
          have RR := HR12.out.1.keep VW2 (fun _ _ h => h)
          have r1c : ∀ u ∈ (cells L).take (r' * 2), u.oneCell' = true := fun u hu => cells_one L u (List.mem_of_mem_take hu)
          refine wpl_app rfl rfl elem Try.underlying30 rfl OW2 rfl RR r1c (by omega) ?_
          rintro v1 w4 ⟨O1, U1, b1⟩
          rw [Nat.zero_add, List.nil_append, cells_take] at O1
          have V4 : Upd w3 w4 (fun _ => False) := Upd.trans VW2 U1 (fun i hi e => by have := ob_eq e; have := Hg.out; omega)
          have hv1 : ∀ g, v1.ownBlock = some g → w3.heap.size ≤ g := by
            intro g hg
            have hgo := Hg.out
            rcases b1 with e | e
            · have := ob_eq (e.symm.trans hg)
              omega
            · have := ob_some (e.symm.trans hg)
              have := Upd.size VW2
              omega
          have e0 : w4.cell? ⟨d, 0, none⟩ = some (.slice a L.length c) := (V4.blk HX.out.1 (fun h => h)).cell 0
          have k4 : w4.cell? ⟨n, 0, none⟩ = some (.int .i64 x.k) := (V4.blk HK.out (fun h => h)).cell 0
          have k5 : w4.cell? ⟨n, 1, none⟩ = some (.int .i64 x.m) := (V4.blk HK.out (fun h => h)).cell 1
          have hbv : v1.ownBlock ≠ some b := by
            intro e0
            have hgb := Hgb.out
            have hws := Hws.out
            rcases b1 with e | e
            · have := ob_eq (e.symm.trans e0)
              omega
            · have := ob_some (e.symm.trans e0)
              have := Hsz.out
              omega
          have X2 : Blk w4 b (icells x) 36 := U1.blk XB (fun e => by have := ob_eq e; have := Hgb.out; omega)
          have F := Lib.hid (And.intro O1 (And.intro X2 (And.intro V4 (And.intro hv1 hbv))))
          clear O1 X2 V4 hv1 hbv U1 b1 RR r1c
          go_wp2_with fail
          obtain ⟨O1, X2, V5, hv1, hbv⟩ := F.out
          refine ⟨⟨e0, k4, k5⟩, v1, b, g0, rfl, Lib.hid ⟨O1, X2, V5, Hw.out, hbv, hv1⟩⟩
      rintro v1 b g0 w4 - HM
      obtain ⟨O1, X1, V4, hbw, hvb, hv1⟩ := HM.out
      refine tail_consL rfl ?_
      refine wpl_app rfl rfl elem Try.underlying30 rfl O1 rfl (Rd.ofBlk X1 1 2 rfl) (by simp [icells, Value.oneCell']) (by omega) ?_
      rintro v2 w5 ⟨O2, U2, b2⟩
      have hv2 : ∀ g, v2.ownBlock = some g → w3.heap.size ≤ g := by
        intro g hg
        rcases b2 with e | e
        · exact hv1 g (e ▸ hg)
        · have := ob_some (e.symm.trans hg)
          have := V4.size
          omega
      have V5 : Upd w3 w5 (fun _ => False) := V4.trans U2 (fun i hi e => by have := hv1 i e; omega)
      have B5 := V5.blk HX.out.1 (fun h => h)
      have d5 : w5.cell? ⟨d, 0, none⟩ = some (.slice a L.length c) := B5.cell 0
      have S5 := Lib.hid (And.intro O2 (And.intro V5 hv2))
      clear O2 U2 b2 V5 hv2 B5 O1 V4 hv1 X1 HM h1 k0 k1
      go_wp2_with fail
      refine ⟨⟨d5, (S5.out.2.1.blk HK.out (fun h => h)).cell 0, (S5.out.2.1.blk HK.out (fun h => h)).cell 1⟩, tail_oneL rfl ?_⟩
      go_wp2_with (at_builtin; refine halt_mk ?_)
      refine halt_go ?_
      obtain ⟨O2, V5, hv2⟩ := S5.out
      refine wpl_app rfl rfl elem Try.underlying30 rfl O2 rfl (HR12.out.2.keep V5 (fun _ _ h => h)) (fun u hu => cells_one L u (List.mem_of_mem_drop hu)) (by omega) ?_
      rintro v3 w6 ⟨O3, U3, b3⟩
      have V6 : Upd w3 w6 (fun _ => False) := V5.trans U3 (fun i hi e => by have := hv2 i e; omega)
      have B6 := V6.blk HX.out.1 (fun h => h)
      have f1 := B6.free 0
      have d1 : w6.cell? ⟨d, 0, none⟩ = some (.slice a L.length c) := B6.cell 0
      have hv3 : v3.ownBlock ≠ some d := fun e => by
        obtain ⟨vs, hv⟩ := own_ty O3 e
        exact absurd rfl (B6.ty hv (by decide))
      have hv4 : ∀ g, v3.ownBlock = some g → w.heap.size ≤ g := by
        intro g hg
        have := HB.out.size
        rcases b3 with e | e
        · have := hv2 g (e ▸ hg)
          omega
        · have := ob_some (e.symm.trans hg)
          have := V5.size
          omega
      obtain ⟨a3, c3, e3, _⟩ := (Rd.ofOwn O3).form
      have S6 := Lib.hid (And.intro O3 (And.intro hv3 (And.intro V6 B6)))
      have H4 := Lib.hid hv4
      clear O3 U3 b3 V6 B6 O2 V5 hv2 S5 hv3 d5 hv4
      subst e3
      go_wp2
      go_ret
      obtain ⟨O3, hv3, V6, B6⟩ := S6.out
      have V0 : Upd w w6 (fun _ => False) := (Upd.ofB HB.out).trans V6 (fun _ _ h => h)
      refine ⟨r', HR.out, Or.inr (Or.inr ⟨HN.out, by omega, rfl, ⟨_, B6.set 0 _, ?_, H4.out⟩, (V0.mono (fun _ _ h => h.elim)).set _ _ (fun _ => rfl)⟩)⟩
      have O4 := own_keep O3 ((Upd.refl w6 (· = d)).set ⟨d, 0, none⟩ (.slice a3 (r' + 1 + (L.length - r')) c3) (fun _ => rfl)) (fun g hg e => by
        have e' : g = d := e
        subst e'
        exact hv3 hg)
      have e1 : cells (L.insertIdx r' x) = cells (L.take r') ++ icells x ++ (cells L).drop (r' * 2) := by
        rw [insertIdx_td _ _ _ hrL, cells_append, cells_cons, cells_drop, List.append_assoc]
      have e2 : (L.insertIdx r' x).length = r' + 1 + (L.length - r') := by rw [List.length_insertIdx, if_pos hrL]; omega
      rw [e1, e2]
      exact O4

end OrdI
end Go.Proofs.Ytnhgeoccknhiiaa
