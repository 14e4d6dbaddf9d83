/- The program's Script, walked: roots taken away, trees put in. -/
import Derived.Test.YtemmkobgpciflaaDoorOwnD
import Derived.Test.YtemmkobgpciflaaDoorCan
import Derived.Laws.Bits64b
namespace Go.Proofs.YtemmkobgpciflaaDoor
open Go.RowKit
open Ch
namespace Df

def delRow (h : Nat) : List Value := [.int .i64 3, .int .u64 (h : Nat), .int .u64 0, .int .i64 0, .string ⟨#[]⟩, .string ⟨#[]⟩, .int .i64 0, .string ⟨#[]⟩, .slice none 0 0, .string ⟨#[]⟩, .slice none 0 0]
def insRow (c : List Value) : List Value := [.int .i64 1, .int .u64 0, .int .u64 0, .int .i64 2, .string ⟨#[]⟩, .string ⟨#[]⟩] ++ c
/-- The first i edits: the i-th root's handle. -/
def delC (f : List T) (i : Nat) : List Value := (List.range i).flatMap fun j => delRow (4294967297 + T.sizeL (f.take j))
theorem delC_succ (f : List T) (i : Nat) : delC f (i + 1) = delC f i ++ delRow (4294967297 + T.sizeL (f.take i)) := by
  unfold delC
  rw [List.range_succ, List.flatMap_append]
  simp
theorem delC_len (f : List T) : ∀ i, (delC f i).length = i * 11
  | 0 => rfl
  | i + 1 => by rw [delC_succ, List.length_append, delC_len f i]; simp [delRow]; omega
theorem delC_at (f : List T) {i j : Nat} (h : j < i) (c : Nat) (hc : c < 11) : (delC f i)[j * 11 + c]? = (delRow (4294967297 + T.sizeL (f.take j)))[c]? := by
  induction i with
  | zero => omega
  | succ i ih =>
    rw [delC_succ]
    by_cases hj : j < i
    · rw [List.getElem?_append_left (by rw [delC_len]; omega)]
      exact ih hj
    · obtain rfl : j = i := by omega
      rw [List.getElem?_append_right (by rw [delC_len]; omega), delC_len, show j * 11 + c - j * 11 = c by omega]

/-- Edits that put trees in. -/
def InsIs (w : World) (P : Nat → Prop) : List T → List Value → Prop
  | [], xs => xs = []
  | t :: l, xs => ∃ c d, xs = insRow c ++ d ∧ TreeAt w P t c ∧ InsIs w P l d
theorem InsIs.keep {w w' : World} {P Q : Nat → Prop} (hk : ∀ t c, TreeAt w P t c → TreeAt w' Q t c) : ∀ {l : List T} {xs : List Value}, InsIs w P l xs → InsIs w' Q l xs
  | [], _, h => h
  | t :: l, xs, ⟨c, d, e, h1, h2⟩ => ⟨c, d, e, hk t c h1, InsIs.keep hk h2⟩
theorem InsIs.snoc {w : World} {P : Nat → Prop} {t : T} {c : List Value} (ht : TreeAt w P t c) : ∀ {l : List T} {xs : List Value}, InsIs w P l xs → InsIs w P (l ++ [t]) (xs ++ insRow c)
  | [], xs, h => by
    have h : xs = [] := h
    subst h
    exact ⟨c, [], by simp, ht, rfl⟩
  | s :: l, xs, ⟨a, d, e, h1, h2⟩ => ⟨a, d ++ insRow c, by rw [e, List.append_assoc], h1, InsIs.snoc ht h2⟩
theorem InsIs.get {w : World} {P : Nat → Prop} : ∀ {l : List T} {xs : List Value} {i : Nat} {t : T}, InsIs w P l xs → l[i]? = some t → ∃ c, TreeAt w P t c ∧ ∀ j, j < 11 → xs[i * 11 + j]? = (insRow c)[j]?
  | [], _, _, _, _, h => by simp at h
  | s :: l, xs, 0, t, ⟨c, d, e, h1, h2⟩, ht => by
    simp at ht
    subst ht
    refine ⟨c, h1, fun j hj => ?_⟩
    rw [e, List.getElem?_append_left (by have := TreeIs.len h1; simp [insRow, this]; omega)]
    simp
  | s :: l, xs, i + 1, t, ⟨c, d, e, h1, h2⟩, ht => by
    obtain ⟨c', h3, h4⟩ := InsIs.get h2 (i := i) (by simpa using ht)
    refine ⟨c', h3, fun j hj => ?_⟩
    have hl : (insRow c).length = 11 := by have := TreeIs.len h1; simp [insRow, this]
    rw [e, List.getElem?_append_right (by omega), hl, show (i + 1) * 11 + j - 11 = i * 11 + j by omega]
    exact h4 j hj

def ScrIs (w' : World) (f g : List T) (a : Option Addr) (n c : Nat) (r : Int) : Prop :=
  if canE f ≠ 0 then n = 0 ∧ r = canE f else if canE g ≠ 0 then n = 0 ∧ r = canE g else r = 0 ∧ (if same4L f g = true then n = 0 else n = f.length + g.length ∧ ∃ ys, Rd w' (.slice a n c) n 11 (delC f f.length ++ ys) ∧ InsIs w' (fun _ => True) g ys)
def ScrPost (w : World) (f g : List T) (e : Ending) (w' : World) : Prop := ∃ (a : Option Addr) (n c : Nat) (r : Int), e = .returned (.tuple #[.slice a n c, .int .i64 r]) ∧ Below w.heap.size w w' ∧ Hid (ScrIs w' f g a n c r) ∧ n ≤ c

theorem elemOp : Elem Tryd.prog 106 11 152 (.agg #[.int .i64 0, .int .u64 0, .int .u64 0, .int .i64 0, .string ⟨#[]⟩, .string ⟨#[]⟩, .int .i64 0, .string ⟨#[]⟩, .slice none 0 0, .string ⟨#[]⟩, .slice none 0 0]) := Elem.mk' (by kernel_rfl) rfl (by omega) (by omega)

theorem or32 (n : Nat) (h : n < 4294967296) : bits .or .u64 4294967296 (n : Int) = ((4294967296 + n : Nat) : Int) := by
  have h1 := bits_or_u64_nat 4294967296 n (by omega) (by omega)
  have h2 : (4294967296 : Nat) ||| n = 4294967296 + n := by
    have := Nat.shiftLeft_add_eq_or_of_lt (a := 1) (b := n) (i := 32) (by simpa using h)
    simpa using this.symm
  rw [h2] at h1
  exact h1

theorem sizeL_len : ∀ f : List T, f.length ≤ T.sizeL f
  | [] => by simp [T.sizeL]
  | t :: f => by
    have := T.size_pos t
    have := sizeL_len f
    rw [T.sizeL, List.length_cons]
    omega

/-- The list of edits while trees are put in. -/
structure InsSt (N : Nat) (w : World) (f g : List T) (i : Nat) (v : Value) (ys : List Value) : Prop where
  own : w.ownsRow 0 106 11 v (f.length + i) (delC f f.length ++ ys)
  low : ∀ b, v.ownBlock = some b → N ≤ b
  ins : InsIs w (fun b => N ≤ b ∧ b < w.heap.size ∧ v.ownBlock ≠ some b) (g.take i) ys

set_option maxRecDepth 100000 in
set_option maxHeartbeats 4000000 in
theorem script_any (B : Nat) (f g : List T) (ak bk : Option Addr) (ck dk : Nat) (w : World) (hf : Forest w (· < B) f ak ck) (hg : Forest w (· < B) g bk dk) (ff : ∀ x ∈ f, Fits x) (fg : ∀ x ∈ g, Fits x) (lf : f.length * 88 ≤ 140737488351232) (lg : g.length * 88 ≤ 140737488351232) (hB : B ≤ w.heap.size) (hT : Tabs w) :
    Calls Tryd.prog 17 #[.slice ak f.length ck, .slice bk g.length dk] w (ScrPost w f g) := by
  obtain ⟨L, hL⟩ : ∃ L, L = w.heap.size := ⟨_, rfl⟩
  have HH := Lib.hid (And.intro hf (And.intro hg (And.intro ff (And.intro fg (And.intro lf (And.intro lg (And.intro hB (And.intro hT hL))))))))
  clear hf hg ff fg lf lg hB hT hL
  go_enter Tryd.func17, Tryd.ntmps17
  go_wp2
  rw [← HH.out.2.2.2.2.2.2.2.2]
  generalize hW : World.alloc _ _ = W1
  have B1 : Below w.heap.size w W1 := by rw [← hW]; exact below_al (Below.refl _ _) (Nat.le_refl _) _
  have L1 : Blk W1 L [.slice ak f.length ck, .slice bk g.length dk] 23 := by rw [← hW]; exact Blk.new' HH.out.2.2.2.2.2.2.2.2
  have H1 := Lib.hid (And.intro B1 L1)
  clear hW B1 L1
  go_loopg [7, 8, 19] 2 (fun kq v7 v8 v14 w' => ∃ i : Nat, v14 = .int .i64 i ∧ Hid (kq = 2 - i ∧ i ≤ 2 ∧ (1 ≤ i → canE f = 0) ∧ (2 ≤ i → canE g = 0)) ∧ Hid (Below w.heap.size w w') ∧ Hid (Blk w' L [.slice ak f.length ck, .slice bk g.length dk] 23))
  case atStart => exact ⟨0, rfl, Lib.hid ⟨rfl, Nat.zero_le _, fun h => by omega, fun h => by omega⟩, Lib.hid H1.out.1, Lib.hid H1.out.2⟩
  case round =>
    obtain ⟨i, rfl, HJ, HB, HL⟩ := hrel
    have b0 := HL.out.cell 0
    have b1 := HL.out.cell 1
    simp only [List.getElem?_cons_zero, List.getElem?_cons_succ] at b0 b1
    have Uw := Upd.ofBelow (F := fun _ => False) HB.out
    have hBr : B ≤ wr.heap.size := Nat.le_trans HH.out.2.2.2.2.2.2.1 HB.out.size
    have hTr : Tabs wr := HH.out.2.2.2.2.2.2.2.1.below HB.out
    by_cases h0 : i = 0
    · subst h0
      have C := dcan_any f ak ck wr B (HH.out.1.keep Uw (fun _ _ h => h)) HH.out.2.2.1 HH.out.2.2.2.2.1 hBr hTr
      obtain ⟨r, hr⟩ : ∃ r, r = canE f := ⟨_, rfl⟩
      rw [← hr] at C
      have HC := Lib.hid C
      have HR := Lib.hid hr
      clear C hr Uw hBr hTr
      simp only [Int.ofNat_zero, Int.natCast_zero]
      go_wp2_with fail
      refine HC.out.mono ?_
      rintro e w2 ⟨rfl, B2⟩
      have H2 := Lib.hid B2
      clear B2
      by_cases hr : r = 0
      · have hr1 : (r == 0) = true := beq_iff_eq.2 hr
        have hr2 : (r != 0) = false := by simp [hr]
        have HR0 := Lib.hid hr
        clear hr
        go_wp2
        go_roundg 1
        case measure => have := HJ.out; omega
        case rel => exact ⟨1, rfl, Lib.hid ⟨rfl, by omega, fun _ => HR.out.symm.trans HR0.out, fun h => by omega⟩, Lib.hid (below_tr HB.out H2.out), Lib.hid ((Upd.ofBelow (F := fun _ => False) H2.out).blk HL.out (fun h => h))⟩
      · have hr1 : (r == 0) = false := beq_eq_false_iff_ne.2 hr
        have hr2 : (r != 0) = true := by simp [hr]
        have HR0 := Lib.hid hr
        clear hr
        go_wp2
        go_ret2
        exact ⟨none, 0, 0, r, rfl, below_tr HB.out H2.out, Lib.hid (by unfold ScrIs; rw [← HR.out, if_pos HR0.out]; exact ⟨rfl, rfl⟩), Nat.le_refl _⟩
    · by_cases h1 : i = 1
      · subst h1
        have C := dcan_any g bk dk wr B (HH.out.2.1.keep Uw (fun _ _ h => h)) HH.out.2.2.2.1 HH.out.2.2.2.2.2.1 hBr hTr
        obtain ⟨r, hr⟩ : ∃ r, r = canE g := ⟨_, rfl⟩
        rw [← hr] at C
        have HC := Lib.hid C
        have HR := Lib.hid hr
        clear C hr Uw hBr hTr h0
        simp only [Int.ofNat_one, Int.natCast_one]
        go_wp2_with fail
        refine HC.out.mono ?_
        rintro e w2 ⟨rfl, B2⟩
        have H2 := Lib.hid B2
        clear B2
        by_cases hr : r = 0
        · have hr1 : (r == 0) = true := beq_iff_eq.2 hr
          have hr2 : (r != 0) = false := by simp [hr]
          have HR0 := Lib.hid hr
          clear hr
          go_wp2
          go_roundg 0
          case measure => have := HJ.out; omega
          case rel => exact ⟨2, rfl, Lib.hid ⟨rfl, by omega, fun _ => HJ.out.2.2.1 (by omega), fun _ => HR.out.symm.trans HR0.out⟩, Lib.hid (below_tr HB.out H2.out), Lib.hid ((Upd.ofBelow (F := fun _ => False) H2.out).blk HL.out (fun h => h))⟩
        · have hr1 : (r == 0) = false := beq_eq_false_iff_ne.2 hr
          have hr2 : (r != 0) = true := by simp [hr]
          have HR0 := Lib.hid hr
          clear hr
          go_wp2
          go_ret2
          exact ⟨none, 0, 0, r, rfl, below_tr HB.out H2.out, Lib.hid (by unfold ScrIs; rw [if_neg (fun h => h (HJ.out.2.2.1 (by omega))), ← HR.out, if_pos HR0.out]; exact ⟨rfl, rfl⟩), Nat.le_refl _⟩
      · have h2 : i = 2 := by have := HJ.out; omega
        subst h2
        have cf := HJ.out.2.2.1 (by omega)
        have cg := HJ.out.2.2.2 (by omega)
        obtain ⟨sf, kf⟩ := canGo_ok f 0 cf
        obtain ⟨sg, kg⟩ := canGo_ok g 0 cg
        have C := msame_any (· < B) f g ak bk ck dk wr (HH.out.1.keep Uw (fun _ _ h => h)) (HH.out.2.1.keep Uw (fun _ _ h => h)) HH.out.2.2.1 HH.out.2.2.2.2.1
        obtain ⟨s, hs⟩ : ∃ s, s = same4L f g := ⟨_, rfl⟩
        rw [← hs] at C
        have HC := Lib.hid C
        have HF := Lib.hid (And.intro cf (And.intro cg (And.intro sf (And.intro sg hs))))
        clear h0 h1 cf cg sf kf sg kg C Uw hBr hTr b0 b1 hs
        simp only [show ((2 : Nat) : Int) = 2 from rfl]
        go_wp2_with fail
        refine HC.out.mono ?_
        rintro e w2 ⟨rfl, B2⟩
        have H2 := Lib.hid (below_tr HB.out B2)
        clear B2
        cases s with
        | true =>
          go_wp2
          go_ret2
          exact ⟨none, 0, 0, 0, rfl, H2.out, Lib.hid (by unfold ScrIs; rw [if_neg (fun h => h HF.out.1), if_neg (fun h => h HF.out.2.1), ← HF.out.2.2.2.2, if_pos rfl]; exact ⟨rfl, rfl⟩), Nat.le_refl _⟩
        | false =>
          go_wp2
          go_loopg [9, 10, 34] f.length (fun kq v9 v10 v34 w' => ∃ (i : Nat) (l : Option Addr) (c : Nat), v9 = .slice l i c ∧ v10 = .int .i64 ((1 + T.sizeL (f.take i) : Nat) : Int) ∧ v34 = .int .i64 i ∧ Hid (kq = f.length - i ∧ i ≤ f.length) ∧ Hid (w'.ownsRow 0 106 11 (.slice l i c) i (delC f i) ∧ ∀ b, (Value.slice l i c).ownBlock = some b → w.heap.size ≤ b) ∧ Hid (Below w.heap.size w w'))
          case atStart => exact ⟨0, none, 0, rfl, by simp [T.sizeL], rfl, Lib.hid ⟨rfl, Nat.zero_le _⟩, Lib.hid ⟨own_none, fun b h => by cases h⟩, H2⟩
          case round =>
            obtain ⟨i, l, c, rfl, rfl, rfl, HI, HO, HB2⟩ := hrel
            have hi0 : (0 : Int) ≤ (i : Int) := by omega
            by_cases hi : i < f.length
            · have hi1 : (i : Int) < (f.length : Int) := by omega
              have hi2 : decide (i < f.length) = true := decide_eq_true hi
              obtain ⟨x, hx⟩ : ∃ x, f[i]? = some x := ⟨f[i], List.getElem?_eq_getElem hi⟩
              have hsz := size_mem hx
              have hat := sizeL_at hx
              have h44 := HF.out.2.2.1
              have hfl := sizeL_len f
              have Uw := Upd.ofBelow (F := fun _ => False) HB2.out
              obtain ⟨g1, off, k, n, a1, l1, c1, t, q1, ql, qc, rfl, hck, y0, y1, y2, y3, y4, hxA⟩ := (HH.out.1.keep Uw (fun _ _ h => h)).kid hx
              have fx := HH.out.2.2.1 x (List.mem_of_getElem? hx)
              obtain ⟨S, hS⟩ : ∃ S, S = 1 + T.sizeL (f.take i) := ⟨_, rfl⟩
              rw [← hS]
              have hS1 : S ≤ 4096 := by have := T.size_pos x; omega
              have q1' : bits .or .u64 4294967296 (S : Int) = ((4294967296 + S : Nat) : Int) := or32 S (by omega)
              have q2' : IntKind.u64.wrap (S : Int) = (S : Int) := by rw [IntKind.wrap_u64]; omega
              have HX := Lib.hid (And.intro hx (And.intro hi (And.intro hsz (And.intro hat (And.intro hS (And.intro hxA (And.intro fx (And.intro h44 hfl))))))))
              have hS2 : (S : Int) ≤ 4096 := by omega
              clear hx hi hsz hat hS hxA fx Uw hS1 h44 hfl
              go_wp2_with (at_builtin; refine halt_mk ?_)
              refine halt_go ?_
              obtain ⟨K, hK⟩ : ∃ K, K = wr.heap.size := ⟨_, rfl⟩
              have HKK := Lib.hid hK
              clear hK
              rw [← HKK.out]
              generalize hW : World.alloc (World.alloc _ _) _ = W3
              have B3 : Below wr.heap.size wr W3 := by rw [← hW]; exact below_al (below_al (Below.refl _ _) (Nat.le_refl _) _) (Nat.le_refl _) _
              have K3 : Blk W3 K [.int .i64 k, .string n, .slice a1 l1 c1, .string t, .slice q1 ql qc] 25 := by rw [← hW]; exact (Blk.new' HKK.out).alloc _
              have O3 : Blk W3 (K + 1) (delRow (4294967296 + S)) 106 := by
                rw [← hW]
                unfold delRow
                simp only [Int.natCast_add]
                exact Blk.new' (by rw [HKK.out]; simp)
              clear hW
              have U3 := Upd.ofBelow (F := fun _ => False) B3
              have OW := own_keep HO.out.1 U3 (fun _ _ h => h)
              refine wpl_app rfl rfl elemOp Tryd.underlying34 rfl OW rfl (Rd.ofBlk O3 1 11 rfl) (fun u hu => List.all_eq_true.1 (rfl : (delRow (4294967296 + S)).all Value.oneCell' = true) u hu) (by have := HX.out.2.1; have := HX.out.2.2.2.2.2.2.2.2; have := HX.out.2.2.2.2.2.2.2.1; omega) ?_
              intro v4 w4 hA
              obtain ⟨l4, c4, rfl, _⟩ := (Rd.ofOwn hA.1).form
              have hlK : ∀ b, (Value.slice l i c).ownBlock = some b → b < K := fun b hb => by rw [HKK.out]; exact own_lt HO.out.1 hb
              have K4 := hA.2.1.blk K3 (fun h => by have := hlK _ h; omega)
              have hT4 := (HX.out.2.2.2.2.2.1.keep U3 (fun _ _ h => h)).keep hA.2.1 (fun g (hg : g < B) e => by
                have h1 := HO.out.2 _ e
                have h2 := HH.out.2.2.2.2.2.2.1
                omega)
              have C4 := count_any (· < B) x _ w4 hT4 HX.out.2.2.2.2.2.2.1 (by have := HX.out.2.2.1; have := HX.out.2.2.2.2.2.2.2.1; omega)
              have UU : Upd w w4 (fun _ => False) := ((Upd.ofBelow HB2.out).trans U3 (fun _ _ h => h)).trans hA.2.1 (fun b hb e => by have := HO.out.2 _ e; omega)
              have hlow : ∀ b, (Value.slice l4 (i + 1) c4).ownBlock = some b → w.heap.size ≤ b := fun b hb => by
                rcases hA.2.2 with e | e
                · exact HO.out.2 b (e ▸ hb)
                · have := ob_some (e.symm.trans hb)
                  have := UU.size
                  have h3 := B3.size
                  have hK := HKK.out
                  have h4 := HB2.out.size
                  omega
              have x0 := K4.cell 0
              have x1 := K4.cell 1
              have x2 := K4.cell 2
              have x3 := K4.cell 3
              have x4 := K4.cell 4
              simp only [List.getElem?_cons_zero, List.getElem?_cons_succ] at x0 x1 x2 x3 x4
              have HC4 := Lib.hid C4
              have H4 := Lib.hid (And.intro hA.1 (And.intro UU hlow))
              clear B3 K3 O3 U3 OW hA hlK K4 hT4 C4 UU hlow y0 y1 y2 y3 y4 q1' q2'
              obtain ⟨r, hr⟩ : ∃ r, r = T.size x := ⟨_, rfl⟩
              have HRR := Lib.hid hr
              rw [← hr] at HC4
              have hrS : (r : Int) ≤ 4096 := by have := HX.out.2.2.1; have := HX.out.2.2.2.2.2.2.2.1; omega
              clear hr
              go_wp2_with fail
              refine HC4.out.mono ?_
              rintro e w5 ⟨rfl, B5⟩
              have H5 := Lib.hid B5
              clear B5 x0 x1 x2 x3 x4
              go_wp2
              go_roundg (f.length - (i + 1))
              case measure => have := HI.out; have := HX.out; omega
              case rel =>
                have hx := HX.out
                refine ⟨i + 1, l4, c4, rfl, ?_, v64s hx.2.1 (by have := HH.out; omega), Lib.hid ⟨rfl, hx.2.1⟩, Lib.hid ⟨?_, H4.out.2.2⟩, Lib.hid (below_tr (H4.out.2.1.below (Nat.le_refl _) (fun _ _ h => h)) H5.out)⟩
                · rw [hx.2.2.2.1, ← HRR.out]
                  congr 1
                  have := hx.2.2.2.2.1
                  omega
                · have h := own_keep H4.out.1 (Upd.ofBelow (F := fun _ => False) H5.out) (fun _ _ h => h)
                  rw [delC_succ, show 4294967297 + T.sizeL (f.take i) = 4294967296 + S by have := hx.2.2.2.2.1; omega]
                  exact h
            · have hi1 : ¬ (i : Int) < (f.length : Int) := by omega
              have hi2 : decide (i < f.length) = false := decide_eq_false hi
              have ei : i = f.length := by have := HI.out; omega
              have HE := Lib.hid ei
              clear hi ei
              go_wp2
              have IS : InsSt w.heap.size wr f g 0 (.slice l i c) [] := by
                have ei := HE.out
                subst ei
                refine ⟨by simpa using HO.out.1, HO.out.2, ?_⟩
                rw [List.take_zero]
                exact rfl
              have HIS := Lib.hid (And.intro IS HB2.out)
              obtain ⟨W0, hW0⟩ : ∃ W0, W0 = wr := ⟨_, rfl⟩
              rw [← hW0] at HIS ⊢
              clear IS HO HB2 hi0 hi1 hi2 hW0
              go_loopg [9, 52] g.length (fun kq v9 v52 w' => ∃ (j : Nat) (l : Option Addr) (c : Nat), v9 = .slice l (f.length + j) c ∧ v52 = .int .i64 j ∧ Hid (kq = g.length - j ∧ j ≤ g.length) ∧ Hid (∃ ys, InsSt w.heap.size w' f g j (.slice l (f.length + j) c) ys) ∧ Hid (Below w.heap.size w w'))
              case atStart =>
                have ei := HE.out
                refine ⟨0, l, c, by rw [ei]; rfl, rfl, Lib.hid ⟨rfl, Nat.zero_le _⟩, Lib.hid ⟨[], ?_⟩, Lib.hid HIS.out.2⟩
                have h := HIS.out.1
                rw [ei] at h
                exact h
              case round =>
                obtain ⟨j, l5, c5, rfl, rfl, HI, HO, HB2⟩ := hrel
                have hj0 : (0 : Int) ≤ (j : Int) := by omega
                by_cases hj : j < g.length
                · have hj1 : (j : Int) < (g.length : Int) := by omega
                  have hj2 : decide (j < g.length) = true := decide_eq_true hj
                  obtain ⟨x, hx⟩ : ∃ x, g[j]? = some x := ⟨g[j], List.getElem?_eq_getElem hj⟩
                  have Uw := Upd.ofBelow (F := fun _ => False) HB2.out
                  obtain ⟨g1, off, k, n, a1, l1, c1, t, q1, ql, qc, rfl, hck, y0, y1, y2, y3, y4, hxA⟩ := (HH.out.2.1.keep Uw (fun _ _ h => h)).kid hx
                  have fx := HH.out.2.2.2.1 x (List.mem_of_getElem? hx)
                  have hfl := sizeL_len f
                  have hgl := sizeL_len g
                  have h44 := HF.out.2.2.1
                  have h45 := HF.out.2.2.2.1
                  obtain ⟨K, hK⟩ : ∃ K, K = wr.heap.size := ⟨_, rfl⟩
                  have B3 : ∀ o : Obj, Below wr.heap.size wr (wr.alloc o) := fun o => below_al (Below.refl _ _) (Nat.le_refl _) _
                  have C := ownd_any (· < B) x _ (wr.alloc (.cells #[Value.int .i64 k, .string n, .slice a1 l1 c1, .string t, .slice q1 ql qc] 25)) (hxA.keep (Upd.ofBelow (F := fun _ => False) (B3 _)) (fun _ _ h => h)) fx
                  have B3 := B3 (.cells #[Value.int .i64 k, .string n, .slice a1 l1 c1, .string t, .slice q1 ql qc] 25)
                  have HC := Lib.hid (And.intro C B3)
                  have HX := Lib.hid (And.intro hx (And.intro hj (And.intro hK (show f.length + g.length ≤ 8192 by omega))))
                  clear hx hj hxA fx Uw hfl hgl h44 h45 hK C B3
                  go_wp2_with fail
                  refine HC.out.1.mono ?_
                  rintro e w6 ⟨cs', rfl, hO, hB6⟩
                  obtain ⟨ya, yn, yaa, yla, yca, yt, ykk, ylk, ykc, rfl⟩ : ∃ a n b c d t e f g, cs' = [.int .i64 a, .string n, .slice b c d, .string t, .slice e f g] := by
                    cases x
                    obtain ⟨_, _, _, _, _, rfl, _⟩ := hO.parts
                    exact ⟨_, _, _, _, _, _, _, _, _, rfl⟩
                  have BR6 : Below wr.heap.size wr w6 := below_tr HC.out.2 hB6
                  have H6 := Lib.hid (And.intro (OTree.at_ _ _ _ _ hO) BR6)
                  have h6s : wr.heap.size + 1 ≤ w6.heap.size := by have := hB6.size; simp at this; omega
                  have H6s := Lib.hid h6s
                  clear hO hB6 BR6 h6s y0 y1 y2 y3 y4
                  go_wp2_with (at_builtin; refine halt_mk ?_)
                  refine halt_go ?_
                  obtain ⟨q, hq⟩ : ∃ q, q = w6.heap.size := ⟨_, rfl⟩
                  have HQ := Lib.hid hq
                  clear hq
                  rw [← HQ.out]
                  generalize hW : World.alloc _ _ = W7
                  have B7 : Below w6.heap.size w6 W7 := by rw [← hW]; exact below_al (Below.refl _ _) (Nat.le_refl _) _
                  have X7 : Blk W7 q (insRow [.int .i64 ya, .string yn, .slice yaa yla yca, .string yt, .slice ykk ylk ykc]) 106 := by rw [← hW]; exact Blk.new' HQ.out
                  clear hW
                  obtain ⟨ys, hC⟩ := HO.out
                  have U6 := Upd.ofBelow (F := fun _ => False) H6.out.2
                  have U7 := Upd.ofBelow (F := fun _ => False) B7
                  have O7 := own_keep (own_keep hC.own U6 (fun _ _ h => h)) U7 (fun _ _ h => h)
                  refine wpl_app rfl rfl elemOp Tryd.underlying34 rfl O7 rfl (Rd.ofBlk X7 1 11 rfl) (fun u hu => List.all_eq_true.1 (rfl : (insRow [.int .i64 ya, .string yn, .slice yaa yla yca, .string yt, .slice ykk ylk ykc]).all Value.oneCell' = true) u hu) (by have := HX.out; omega) ?_
                  intro v8 w8 hA
                  obtain ⟨l8, c8, rfl, _⟩ := (Rd.ofOwn hA.1).form
                  have hlt : ∀ b, (Value.slice l5 (f.length + j) c5).ownBlock = some b → b < wr.heap.size := fun b hb => own_lt hC.own hb
                  have hWs : w.heap.size ≤ wr.heap.size := HB2.out.size
                  have hq6 : q = w6.heap.size := HQ.out
                  have s7 := B7.size
                  have s8 := hA.2.1.size
                  have s6 := H6.out.2.size
                  have hnew : ∀ b, b < w6.heap.size → (w.heap.size ≤ b) → ((Value.slice l5 (f.length + j) c5).ownBlock ≠ some b) → (w.heap.size ≤ b ∧ b < w8.heap.size ∧ (Value.slice l8 (f.length + j + 1) c8).ownBlock ≠ some b) := by
                    intro b hb h1 h2
                    refine ⟨h1, by omega, fun h => ?_⟩
                    rcases hA.2.2 with e | e
                    · exact h2 (e ▸ h)
                    · have := ob_some (e.symm.trans h)
                      omega
                  have I8 : InsSt w.heap.size w8 f g (j + 1) (.slice l8 (f.length + (j + 1)) c8) (ys ++ insRow [.int .i64 ya, .string yn, .slice yaa yla yca, .string yt, .slice ykk ylk ykc]) := by
                    refine ⟨?_, fun b hb => ?_, ?_⟩
                    · have h := hA.1
                      rw [List.append_assoc] at h
                      exact h
                    · rcases hA.2.2 with e | e
                      · exact hC.low b (e ▸ hb)
                      · have := ob_some (e.symm.trans hb)
                        omega
                    · rw [take_at HX.out.1]
                      refine InsIs.snoc ?_ ?_
                      · refine ((H6.out.1.keep U7 (fun _ _ h => h)).keep hA.2.1 (fun b hb e => ?_)).mono (fun b hb => ?_)
                        · have := hlt b e
                          have := hb.1
                          simp at this
                          omega
                        · have h1 := hb.1
                          simp at h1
                          exact hnew b hb.2 (by omega) (fun e => by have := hlt b e; omega)
                      · refine hC.ins.keep fun t c ht => ?_
                        refine (((ht.keep U6 (fun _ _ h => h)).keep U7 (fun _ _ h => h)).keep hA.2.1 (fun b hb e => hb.2.2 e)).mono (fun b hb => ?_)
                        exact hnew b (by omega) hb.1 hb.2.2
                  have UU : Upd w w8 (fun _ => False) := (((Upd.ofBelow HB2.out).trans U6 (fun _ _ h => h)).trans U7 (fun _ _ h => h)).trans hA.2.1 (fun b hb e => by have := hC.low _ e; omega)
                  have H8 := Lib.hid (And.intro I8 (UU.below (Nat.le_refl _) (fun _ _ h => h)))
                  clear B7 X7 hC U6 U7 O7 hA hlt hWs hq6 s7 s8 s6 hnew I8 UU
                  go_wp2
                  go_roundg (g.length - (j + 1))
                  case measure => have := HI.out; have := HX.out; omega
                  case rel => exact ⟨j + 1, l8, c8, rfl, v64s HX.out.2.1 (by have := HH.out; omega), Lib.hid ⟨rfl, HX.out.2.1⟩, Lib.hid ⟨_, H8.out.1⟩, Lib.hid H8.out.2⟩
                · have hj1 : ¬ (j : Int) < (g.length : Int) := by omega
                  have hj2 : decide (j < g.length) = false := decide_eq_false hj
                  have ej : j = g.length := by have := HI.out; omega
                  have HEj := Lib.hid ej
                  clear hj ej
                  go_wp2
                  go_ret2
                  have ej := HEj.out
                  subst ej
                  obtain ⟨ys, hC⟩ := HO.out
                  have hR := Rd.ofOwn hC.own
                  have hI := hC.ins
                  rw [List.take_length] at hI
                  obtain ⟨_, _, e1, hc⟩ := hR.form
                  simp only [Value.slice.injEq] at e1
                  obtain ⟨rfl, _, rfl⟩ := e1
                  refine ⟨l5, f.length + g.length, c5, 0, rfl, HB2.out, Lib.hid ?_, hc⟩
                  unfold ScrIs
                  rw [if_neg (fun h => h HF.out.1), if_neg (fun h => h HF.out.2.1), ← HF.out.2.2.2.2, if_neg (by simp)]
                  exact ⟨rfl, rfl, ys, hR, hI.keep fun t c ht => ht.mono (fun _ _ => trivial)⟩

end Df
end Go.Proofs.YtemmkobgpciflaaDoor
