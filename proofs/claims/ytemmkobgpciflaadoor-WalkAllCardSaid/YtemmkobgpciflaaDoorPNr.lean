/- A node of the program's document in plain; Get: walked. -/
import Derived.Test.YtemmkobgpciflaaDoorPDs
import Derived.Test.YtemmkobgpciflaaDoorPNd
import Derived.Laws.ResultCell
import Derived.Test.YtemmkobgpciflaaDoorNearS
namespace Go.Proofs.YtemmkobgpciflaaDoor
open Go.RowKit
open Ch
namespace Pd

theorem res_row_tmp {P : Program} {fn : Func} {p u : Tmp} {ty : TypeId} (h : fn.results = #[.cell p ty, .tmp u]) (tmps : Array Value) (w : World) (g : Nat) (t : TypeId) (cs : Array Value) (fr : Nat × Nat) (d : TypeDesc)
    (hp : tmps.getD p undef = .pointer (some ⟨g, 0, none⟩)) (hg : w.heap[g]? = some (.cells cs t fr))
    (hu : P.underlying ty = some d) (hd : (match d with | .struct _ | .array _ _ => true | _ => false) = true) (hi : (P.info? ty).map (·.size) = some cs.size) :
    (results fn tmps).run P w = .ok (.tuple #[.agg cs, tmps.getD u undef]) w := by
  have hp' : tmps[p]?.getD undef = .pointer (some ⟨g, 0, none⟩) := by simpa using hp
  rw [results_cell_tmp h]
  simp [hp', asAddr, run_loadVar_row w g t ty cs fr d hg hu hd hi, Result.andThen]

def treeC (k : Int) (n : ByteArray) (al : List Att) (a : Option Addr) (c : Nat) (t : ByteArray) : List Value := [.int .i64 k, .string n, .slice a al.length c, .string t, .slice none 0 0]
def PlainPost (w : World) (k : Int) (n : ByteArray) (al : List Att) (t : ByteArray) (e : Ending) (w' : World) : Prop := ∃ a c, e = .returned (.agg (treeC k n al a c t).toArray) ∧ w'.ownsRow 0 146 2 (.slice a al.length c) al.length (atc al) ∧ InB w.heap.size w'.heap.size (.slice a al.length c) ∧ Below w.heap.size w w'

set_option maxRecDepth 100000 in
set_option maxHeartbeats 1600000 in
theorem plain_any (b ix ge : Nat) (lv : Bool) (k : Int) (n : ByteArray) (al : List Att) (av : Value) (t : ByteArray) (pv kv : Value) (w : World) (hb : Blk w b (nodeC ix ge lv k n av t pv kv) 160) (ha : Rd w av al.length 2 (atc al)) (hal : al.length * 32 ≤ 140737488351232) :
    Calls Tryd.prog 118 #[ptr b] w (PlainPost w k n al t) := by
  obtain ⟨a, c, rfl, _⟩ := ha.form
  obtain ⟨l, hl⟩ : ∃ l, l = al.length := ⟨_, rfl⟩
  rw [← hl] at hb
  have HH := Lib.hid (And.intro hb (And.intro ha (And.intro hal hl)))
  obtain ⟨X, hX⟩ : ∃ X, X = w.heap.size := ⟨_, rfl⟩
  have HX := Lib.hid hX
  obtain ⟨P, hP⟩ : ∃ P : Ending → World → Prop, P = PlainPost w k n al t := ⟨_, rfl⟩
  have HP := Lib.hid hP
  rw [← hP]
  unfold ptr
  clear hb ha hal hl hX hP
  go_enter Tryd.func118, Tryd.ntmps118
  go_wp2
  rw [← HX.out]
  generalize hW : World.alloc _ _ = W1
  have T1 : Upd w W1 (fun _ => False) := by rw [← hW]; exact (Upd.refl w _).alloc _
  have X1 : Blk W1 X [.int .i64 0, .string ⟨#[]⟩, .slice none 0 0, .string ⟨#[]⟩, .slice none 0 0] 25 := by rw [← hW]; exact Blk.new' HX.out
  have B1 := T1.blk HH.out.1 (fun h => h)
  have b3 := B1.cell 3
  have b4 := B1.cell 4
  have b5 := B1.cell 5
  have b6 := B1.cell 6
  unfold nodeC at b3 b4 b5 b6
  simp only [List.getElem?_cons_zero, List.getElem?_cons_succ] at b3 b4 b5 b6
  have C := clone_any al a c W1.drew ((HH.out.2.1.keep T1 (fun _ _ h => h)).keep (Upd.refl W1 (fun _ => False)).drew (fun _ _ h => h)) HH.out.2.2.1
  rw [← HH.out.2.2.2] at C
  have H1 := Lib.hid (And.intro T1 (And.intro X1 B1))
  have HC := Lib.hid C
  clear hW T1 X1 B1 C
  apply wp_reg (w := W1) (fun w' : World => w'.cell? ⟨b, 3, none⟩ = some (.int .i64 k) ∧ w'.cell? ⟨b, 4, none⟩ = some (.string n) ∧ w'.cell? ⟨b, 5, none⟩ = some (.slice a l c) ∧ w'.cell? ⟨b, 6, none⟩ = some (.string t)) [0, 1, 2, 3, 4, 5, 6, 7, 8, 9, 10, 11, 13, 14, 15, 16] [12, 17] [18] (by kernel_rfl) (by kernel_rfl) (fun _ _ d _ _ h => by cases d <;> exact h) ⟨b3, b4, b5, b6⟩
  · iterate 16 (apply reads_consL rfl rfl; (· intro w0 hS; obtain ⟨hS0, hS1, hS2, hS3⟩ := hS; go_simp; try rfl); simp only [Act.put, List.setIfInBounds_toArray, List.set_cons_zero, List.set_cons_succ])
    exact rfl
  refine tail_consL rfl ?_
  go_wp2_with fail
  refine HC.out.mono ?_
  rintro e w4 ⟨a4, c4, rfl, O4, I4, E4⟩
  rw [← HH.out.2.2.2] at O4 I4 ⊢
  have U4 : Upd W1 w4 (fun _ => False) := (Upd.refl W1 _).drew.trans (Upd.ofBelow E4) (fun _ _ h => h)
  have X4 := U4.blk H1.out.2.1 (fun h => h)
  have B4 := U4.blk H1.out.2.2 (fun h => h)
  have b3 := B4.cell 3
  have b4 := B4.cell 4
  have b5 := B4.cell 5
  have b6 := B4.cell 6
  unfold nodeC at b3 b4 b5 b6
  simp only [List.getElem?_cons_zero, List.getElem?_cons_succ] at b3 b4 b5 b6
  have x0 := X4.cell 0
  have x1 := X4.cell 1
  have x2 := X4.cell 2
  have x3 := X4.cell 3
  have x4 := X4.cell 4
  have z0 := X4.free 0
  have z1 := X4.free 1
  have z2 := X4.free 2
  have z3 := X4.free 3
  have z4 := X4.free 4
  simp only [List.getElem?_cons_zero, List.getElem?_cons_succ] at x0 x1 x2 x3 x4
  have H4 := Lib.hid (And.intro U4 (And.intro X4 (And.intro O4 I4)))
  clear O4 I4 E4 U4 X4 B4 HC
  go_wp2_with fail
  refine ⟨⟨b3, b4, b5, b6⟩, tail_consL rfl ?_⟩
  go_wp2_with fail
  refine ⟨⟨b3, b4, b5, b6⟩, tail_oneL rfl ?_⟩
  go_wp2
  generalize hW : World.setCell _ _ _ = W9
  obtain ⟨U4, X4, O4, I4⟩ := H4.out
  have R9 : Blk W9 X [.int .i64 k, .string n, .slice a4 l c4, .string t, .slice none 0 0] 25 := by
    rw [← hW]
    exact ((((X4.set 0 _).set 1 _).set 2 _).set 3 _).set 4 _
  have U9 : Upd w4 W9 (· = X) := by
    rw [← hW]
    exact ((((((Upd.refl w4 (· = X)).set ⟨X, 0, none⟩ _ (fun _ => rfl)).set ⟨X, 1, none⟩ _ (fun _ => rfl)).set ⟨X, 2, none⟩ _ (fun _ => rfl)).set ⟨X, 3, none⟩ _ (fun _ => rfl)).set ⟨X, 4, none⟩ _ (fun _ => rfl))
  refine bodyPost_ret (results_cell_row rfl _ _ X 25 _ (0, 0) _ rfl R9 Tryd.underlying25 rfl (by kernel_rfl)) rfl ?_
  rw [HP.out]
  have hXw := H1.out.1.size
  have U : Upd w W9 (fun _ => False) := (H1.out.1.trans U4 (fun _ _ h => h)).trans U9 (fun g hg e => by have := HX.out; have e : g = X := e; omega)
  have hne : ∀ g, (Value.slice a4 l c4).ownBlock = some g → ¬ (g = X) := fun g hg e => by
    obtain ⟨vs, hv⟩ := own_ty O4 hg
    rw [e] at hv
    exact X4.ty hv (by decide) rfl
  refine ⟨a4, c4, ?_, ?_, ?_, U.below (Nat.le_refl _) (fun _ _ h => h)⟩
  · unfold treeC; rw [← HH.out.2.2.2]
  · rw [← HH.out.2.2.2]; exact own_keep O4 U9 hne
  · rw [← HH.out.2.2.2]
    have hs : w4.heap.size = W9.heap.size := by rw [← hW]; simp
    have h1 : W1.heap.size ≤ W1.drew.heap.size := Nat.le_refl _
    exact fun g hg => ⟨Nat.le_trans hXw (I4 g hg).1, by rw [← hs]; exact (I4 g hg).2⟩

def GetPost (w : World) (o : Option Im.Sl) (e : Ending) (w' : World) : Prop := Below w.heap.size w w' ∧ match o with
  | none => e = .returned (.tuple #[.agg #[.int .i64 0, .string ⟨#[]⟩, .slice none 0 0, .string ⟨#[]⟩, .slice none 0 0], .int .i64 8])
  | some s => ∃ a c, e = .returned (.tuple #[.agg (treeC s.k s.n s.al a c s.t).toArray, .int .i64 0]) ∧ w'.ownsRow 0 146 2 (.slice a s.al.length c) s.al.length (atc s.al) ∧ ∀ g, (Value.slice a s.al.length c).ownBlock = some g → w.heap.size ≤ g

set_option maxRecDepth 100000 in
set_option maxHeartbeats 1600000 in
theorem getP_any (Bd d : Nat) (B : List Nat) (S : List Im.Sl) (roots : List Nat) (ts : List Im.LT) (n : Nat) (w : World) (hD : PD w Bd d B S roots ts) (hn : n < 18446744073709551616) :
    Calls Tryd.prog 74 #[ptr d, .int .u64 (n : Nat)] w (GetPost w ((Im.atP S n).bind (S[·]?))) := by
  obtain ⟨X, hX⟩ : ∃ X, X = w.heap.size := ⟨_, rfl⟩
  have HX := Lib.hid hX
  obtain ⟨P, hP⟩ : ∃ P : Ending → World → Prop, P = GetPost w ((Im.atP S n).bind (S[·]?)) := ⟨_, rfl⟩
  have HP := Lib.hid hP
  obtain ⟨W1, hW1⟩ : ∃ W1, W1 = w.alloc (.cells #[Value.int .i64 0, .string ⟨#[]⟩, .slice none 0 0, .string ⟨#[]⟩, .slice none 0 0] 25) := ⟨_, rfl⟩
  have T1 : Upd w W1 (fun _ => False) := by rw [hW1]; exact (Upd.refl w _).alloc _
  have R1 : Blk W1 X [.int .i64 0, .string ⟨#[]⟩, .slice none 0 0, .string ⟨#[]⟩, .slice none 0 0] 25 := by rw [hW1]; exact Blk.new' hX
  have D1 := hD.below (T1.below hD.le (fun _ _ h => h))
  obtain ⟨V, hV⟩ : ∃ V, V = atV B S n := ⟨_, rfl⟩
  have C := D1.atC n hn
  rw [← hV] at C
  have HH := Lib.hid (And.intro T1 (And.intro R1 (And.intro D1 (And.intro C (And.intro hV hW1)))))
  rw [← hP]
  unfold ptr at HH ⊢
  clear hD hn hX hP T1 R1 D1 C hV hW1
  go_enter Tryd.func74, Tryd.ntmps74
  go_wp2_with fail
  rw [← HH.out.2.2.2.2.2, ← HX.out]
  refine HH.out.2.2.2.1.mono ?_
  rintro e w2 ⟨rfl, m, hw2⟩
  have U2 : Upd W1 w2 (fun _ => False) := by rw [hw2]; exact (Upd.refl W1 _).drewN m
  have R2 := U2.blk HH.out.2.1 (fun h => h)
  have D2 := HH.out.2.2.1.below (U2.below HH.out.2.2.1.le (fun _ _ h => h))
  have e0 := R2.cell 0
  have e1 := R2.cell 1
  have e2 := R2.cell 2
  have e3 := R2.cell 3
  have e4 := R2.cell 4
  have f0 := R2.free 0
  have f1 := R2.free 1
  have f2 := R2.free 2
  have f3 := R2.free 3
  have f4 := R2.free 4
  simp only [List.getElem?_cons_zero, List.getElem?_cons_succ] at e0 e1 e2 e3 e4
  have U02 := HH.out.1.trans U2 (fun _ _ h => h)
  have H2 := Lib.hid (And.intro U02 (And.intro R2 D2))
  clear hw2 U2 R2 D2 U02
  cases hat : Im.atP S n with
  | none =>
    have hz : V = .pointer none := by rw [HH.out.2.2.2.2.1, atV_none hat]
    have HZ := Lib.hid hat
    subst hz
    clear hat
    go_wp2
    generalize hW : World.setCell _ _ _ = W9
    obtain ⟨U02, R2, D2⟩ := H2.out
    have R9 : Blk W9 X [.int .i64 0, .string ⟨#[]⟩, .slice none 0 0, .string ⟨#[]⟩, .slice none 0 0] 25 := by
      rw [← hW]
      exact ((((R2.set 0 _).set 1 _).set 2 _).set 3 _).set 4 _
    have U9 : Upd w2 W9 (· = X) := by
      rw [← hW]
      exact ((((((Upd.refl w2 (· = X)).set ⟨X, 0, none⟩ _ (fun _ => rfl)).set ⟨X, 1, none⟩ _ (fun _ => rfl)).set ⟨X, 2, none⟩ _ (fun _ => rfl)).set ⟨X, 3, none⟩ _ (fun _ => rfl)).set ⟨X, 4, none⟩ _ (fun _ => rfl))
    refine bodyPost_ret (res_row_tmp rfl _ _ X 25 _ (0, 0) _ rfl R9 Tryd.underlying25 rfl (by kernel_rfl)) rfl ?_
    have U : Upd w W9 (fun _ => False) := U02.trans U9 (fun g hg e => by have := HX.out; have e : g = X := e; omega)
    rw [HP.out, HZ.out]
    exact ⟨U.below (Nat.le_refl _) (fun _ _ h => h), rfl⟩
  | some i =>
    obtain ⟨s, b, av, kv, hs, hl, hb, hN, hv, hne, hn64, _⟩ := H2.out.2.2.atL hat
    have hz : V = .pointer (some ⟨b, 0, none⟩) := by rw [HH.out.2.2.2.2.1, hv]; rfl
    have hpost : (Im.atP S n).bind (S[·]?) = some s := by rw [hat]; exact hs
    have C := plain_any b (i + 1) s.g s.lv s.k s.n s.al av s.t _ kv w2 hN.c (Rd.ofOwn hN.a) (H2.out.2.2.als s (List.mem_of_getElem? hs))
    unfold ptr at C
    have HC := Lib.hid C
    have HZ := Lib.hid hpost
    subst hz
    clear hat hs hl hb hN hv hne hn64 C hpost
    go_wp2_with fail
    refine HC.out.mono ?_
    rintro e w3 ⟨a, c, rfl, O3, I3, B3⟩
    have U3 := Upd.ofBelow (F := fun _ => False) B3
    have R3 := U3.blk H2.out.2.1 (fun h => h)
    have e0 := R3.cell 0
    have e1 := R3.cell 1
    have e2 := R3.cell 2
    have e3 := R3.cell 3
    have e4 := R3.cell 4
    have f0 := R3.free 0
    have f1 := R3.free 1
    have f2 := R3.free 2
    have f3 := R3.free 3
    have f4 := R3.free 4
    simp only [List.getElem?_cons_zero, List.getElem?_cons_succ] at e0 e1 e2 e3 e4
    obtain ⟨l, hl⟩ : ∃ l, l = s.al.length := ⟨_, rfl⟩
    have H3 := Lib.hid (And.intro U3 (And.intro R3 (And.intro O3 (And.intro I3 hl))))
    unfold treeC
    rw [← hl]
    clear U3 R3 O3 I3 B3 hl HC
    go_wp2
    generalize hW : World.setCell _ _ _ = W9
    obtain ⟨U02, R2, D2⟩ := H2.out
    obtain ⟨U3, R3, O3, I3, hl⟩ := H3.out
    have R9 : Blk W9 X [.int .i64 s.k, .string s.n, .slice a l c, .string s.t, .slice none 0 0] 25 := by
      rw [← hW]
      exact ((((R3.set 0 _).set 1 _).set 2 _).set 3 _).set 4 _
    have U9 : Upd w3 W9 (· = X) := by
      rw [← hW]
      exact ((((((Upd.refl w3 (· = X)).set ⟨X, 0, none⟩ _ (fun _ => rfl)).set ⟨X, 1, none⟩ _ (fun _ => rfl)).set ⟨X, 2, none⟩ _ (fun _ => rfl)).set ⟨X, 3, none⟩ _ (fun _ => rfl)).set ⟨X, 4, none⟩ _ (fun _ => rfl))
    refine bodyPost_ret (res_row_tmp rfl _ _ X 25 _ (0, 0) _ rfl R9 Tryd.underlying25 rfl (by kernel_rfl)) rfl ?_
    have U : Upd w W9 (fun _ => False) := (U02.trans U3 (fun _ _ h => h)).trans U9 (fun g hg e => by have := HX.out; have e : g = X := e; omega)
    rw [HP.out, HZ.out]
    refine ⟨U.below (Nat.le_refl _) (fun _ _ h => h), a, c, by unfold treeC; rw [← hl]; rfl, ?_, fun g hg => Nat.le_trans U02.size (I3 g hg).1⟩
    exact own_keep O3 U9 (fun g hg e => by
      obtain ⟨vs, hv⟩ := own_ty O3 hg
      have e : g = X := e
      rw [e] at hv
      exact R3.ty hv (by decide) rfl)

end Pd
end Go.Proofs.YtemmkobgpciflaaDoor

namespace Go.Proofs.YtemmkobgpciflaaDoor
open Go.RowKit
open Ch
open Df (hcv hcv_at hcv_app hcv_one elemHd MList nearL)
namespace Pd

set_option maxRecDepth 100000 in
set_option maxHeartbeats 1600000 in
theorem aroundP_any (Bd d : Nat) (B : List Nat) (S : List Im.Sl) (roots : List Nat) (ts : List Im.LT) (n : Nat) (up : List Nat) (w : World) (hD : PD w Bd d B S roots ts) (hC : Im.Climb S n (n :: up)) (hl : up.length ≤ 64) :
    Calls Tryd.prog 75 #[ptr d, .int .u64 (n : Nat)] w (fun e w' => ∃ v, e = .returned v ∧ MList w' w.heap.size v up ∧ Below w.heap.size w w') := by
  obtain ⟨i, s, l', _, e, ha, hs, hup⟩ : ∃ i s l', n ≠ 0 ∧ n :: up = n :: l' ∧ Im.atP S n = some i ∧ S[i]? = some s ∧ Im.Climb S s.p l' := by
    rcases Df.Climb.ne hC with ⟨_, h⟩ | h
    · cases h
    · exact h
  simp only [List.cons.injEq, true_and] at e
  subst e
  have C := parentP_any Bd d B S roots ts n i s _ w hD ha hs hup
  unfold ptr at C ⊢
  have HC := Lib.hid C
  obtain ⟨p0, hp0⟩ : ∃ p0, p0 = s.p := ⟨_, rfl⟩
  rw [← hp0] at HC hup
  obtain ⟨P, hP⟩ : ∃ P : Ending → World → Prop, P = fun e w' => ∃ v, e = .returned v ∧ MList w' w.heap.size v up ∧ Below w.heap.size w w' := ⟨_, rfl⟩
  rw [← hP]
  have HP := Lib.hid hP
  have HH := Lib.hid (And.intro hD (And.intro hup hl))
  clear hD hC hl ha hs hup hp0 C hP
  go_enter Tryd.func75, Tryd.ntmps75
  go_wp2_with fail
  refine HC.out.mono ?_
  rintro e w1 ⟨rfl, B1⟩
  have HB1 := Lib.hid B1
  clear B1 HC
  go_wp2
  go_loopg [5, 6] up.length (fun kq v5 v6 w' => ∃ (dn rs : List Nat) (p : Nat) (a : Option Addr) (k c : Nat), v5 = .slice a k c ∧ v6 = .int .u64 (p : Nat) ∧ Hid (kq = rs.length) ∧ Hid (up = dn ++ rs ∧ k = dn.length ∧ Im.Climb S p rs) ∧ Hid (w'.ownsRow 0 46 1 (.slice a k c) k (hcv dn)) ∧ Hid (∀ g, (Value.slice a k c).ownBlock = some g → w.heap.size ≤ g) ∧ Hid (Below w.heap.size w w'))
  case atStart => exact ⟨[], up, p0, none, 0, 0, rfl, rfl, Lib.hid rfl, Lib.hid ⟨rfl, rfl, HH.out.2.1⟩, Lib.hid own_none, Lib.hid (fun g hg => by cases hg), HB1⟩
  case round =>
    obtain ⟨dn, rs, p, a, k, c, rfl, rfl, HK, HS, HO, HG, HB⟩ := hrel
    rcases Df.Climb.ne HS.out.2.2 with ⟨h0, hr0⟩ | ⟨i', s', l', h0, hr0, ha', hs', hup'⟩
    · subst h0
      have hfin : up = dn := by rw [HS.out.1, hr0, List.append_nil]
      have HF := Lib.hid hfin
      clear hr0 hfin
      go_wp2
      rw [HP.out]
      have hk : k = up.length := by rw [HF.out]; exact HS.out.2.1
      have hO := HO.out
      have hG := HG.out
      rw [← HF.out] at hO
      rw [hk] at hO hG ⊢
      exact ⟨_, rfl, ⟨a, c, rfl, hO, hG⟩, HB.out⟩
    · have b1 : ((p : Int) == 0) = false := beq_eq_false_iff_ne.2 (by omega)
      have b2 : ((p : Int) != 0) = true := bne_iff_ne.2 (by omega)
      have b3 : (p == 0) = false := beq_eq_false_iff_ne.2 h0
      have hD := HH.out.1.below (HB.out.mono HH.out.1.le)
      have hkl : k + 1 ≤ 64 := by have h1 := HS.out.1; have h2 := HS.out.2.1; have h3 := HH.out.2.2; rw [h1, List.length_append, hr0, List.length_cons] at h3; omega
      obtain ⟨q, hq⟩ : ∃ q, q = wr.heap.size := ⟨_, rfl⟩
      have HX := Lib.hid (And.intro hr0 (And.intro ha' (And.intro hs' (And.intro hup' (And.intro hD (And.intro hq hkl))))))
      clear h0 hr0 ha' hs' hup' hD hq hkl
      go_wp2_with (at_builtin; refine halt_mk ?_)
      refine halt_go ?_
      rw [← HX.out.2.2.2.2.2.1]
      generalize hW : World.alloc _ _ = W1
      have U1 : Upd wr W1 (fun _ => False) := by rw [← hW]; exact (Upd.refl wr _).alloc _
      have X1 : Blk W1 q [.int .u64 (p : Nat)] 46 := by rw [← hW]; exact Blk.new' HX.out.2.2.2.2.2.1
      have O1 := own_keep HO.out U1 (fun _ _ h => h)
      refine wpl_app (n := k) (m := 1) rfl rfl elemHd Tryd.underlying42 rfl O1 rfl (Rd.ofBlk X1 1 1 rfl) (by intro u hu; simp at hu; subst hu; rfl) (by have := HX.out; omega) ?_
      rintro v2 W2 ⟨O2, U2, b4⟩
      obtain ⟨a2, c2, rfl, _⟩ := (Rd.ofOwn O2).form
      have hwr := HB.out.size
      have G2 : ∀ g, (Value.slice a2 (k + 1) c2).ownBlock = some g → w.heap.size ≤ g := fun g hg => by
        rcases b4 with e | e
        · exact HG.out g (e.symm.trans hg)
        · have := ob_some (e.symm.trans hg)
          have := U1.size
          omega
      have B2 : Below w.heap.size wr W2 := (U1.below hwr (fun _ _ h => h)).trans (U2.below (Nat.le_trans hwr U1.size) (fun g hg e => by have := HG.out g e; omega))
      have C := parentP_any Bd d B S roots ts p i' s' _ W2 (HX.out.2.2.2.2.1.below (B2.mono HH.out.1.le)) HX.out.2.1 HX.out.2.2.1 HX.out.2.2.2.1
      unfold ptr at C
      have HC := Lib.hid C
      obtain ⟨p2, hp2⟩ : ∃ p2, p2 = s'.p := ⟨_, rfl⟩
      rw [← hp2] at HC
      have HF := Lib.hid (And.intro O2 (And.intro G2 (And.intro B2 hp2)))
      clear hW U1 X1 O1 O2 U2 b4 hwr G2 B2 C hp2
      go_wp2_with fail
      refine HC.out.mono ?_
      rintro e w3 ⟨rfl, B3⟩
      have H3 := Lib.hid B3
      clear B3 HC
      go_wp2
      go_roundg (rs.length - 1)
      case measure => have := HK.out; have h1 := congrArg List.length HX.out.1; rw [List.length_cons] at h1; omega
      case rel =>
        obtain ⟨O2, G2, B2, hp2⟩ := HF.out
        obtain ⟨hr0, ha', hs', hup', hD, hq, hkl⟩ := HX.out
        refine ⟨dn ++ [p], _, p2, a2, k + 1, c2, rfl, rfl, Lib.hid ?_, Lib.hid ⟨?_, ?_, by rw [hp2]; exact hup'⟩, Lib.hid ?_, Lib.hid G2, Lib.hid ((HB.out.trans B2).trans (H3.out.mono (HB.out.trans B2).size))⟩
        · rw [hr0]; rfl
        · rw [HS.out.1, hr0, List.append_assoc]; rfl
        · rw [List.length_append, HS.out.2.1]; rfl
        · rw [hcv_app]
          exact own_keep O2 (Upd.ofBelow (F := fun _ => False) H3.out) (fun _ _ h => h)


/-- Where a value stands first. -/
def IdxIs (L : List Nat) (n : Nat) (r : Int) : Prop := (∃ i : Nat, r = (i : Int) ∧ L[i]? = some n ∧ ∀ j x, j < i → L[j]? = some x → x ≠ n) ∨ (r = -1 ∧ n ∉ L)
theorem IdxIs.ge {L : List Nat} {n : Nat} {r : Int} (h : IdxIs L n r) : decide (r ≥ 0) = decide (n ∈ L) := by
  rcases h with ⟨i, rfl, h, _⟩ | ⟨rfl, h⟩
  · rw [decide_eq_true (show (i : Int) ≥ 0 by omega), decide_eq_true (List.mem_of_getElem? h)]
  · rw [decide_eq_false h]
    rfl

set_option maxRecDepth 100000 in
set_option maxHeartbeats 1600000 in
theorem index_any (L : List Nat) (a : Option Addr) (c n B : Nat) (w : World) (hR : RdP w (· < B) 1 (.slice a L.length c) L.length (hcv L)) (hl : L.length ≤ 1099511627776) :
    Calls Tryd.prog 120 #[.slice a L.length c, .int .u64 (n : Nat)] w (fun e w' => (∃ r, e = .returned (.int .i64 r) ∧ IdxIs L n r) ∧ w' = w) := by
  obtain ⟨m, hm⟩ : ∃ m, m = L.length := ⟨_, rfl⟩
  obtain ⟨P, hP⟩ : ∃ P : Ending → World → Prop, P = fun e w' => (∃ r, e = .returned (.int .i64 r) ∧ IdxIs L n r) ∧ w' = w := ⟨_, rfl⟩
  have HP := Lib.hid hP
  rw [← hm, ← hP]
  have HH := Lib.hid (And.intro hR (And.intro hl hm))
  clear hR hl hm hP
  go_enter Tryd.func120, Tryd.ntmps120
  go_wp2
  go_loopg [5, 8] m (fun kq v5 v8 w' => ∃ i : Nat, v8 = .int .i64 i ∧ Hid (kq = m - i ∧ i ≤ m) ∧ Hid (∀ j x, j < i → L[j]? = some x → x ≠ n) ∧ w' = w)
  case atStart => exact ⟨0, rfl, Lib.hid ⟨rfl, Nat.zero_le _⟩, Lib.hid (fun j x hj => by omega), rfl⟩
  case round =>
    obtain ⟨i, rfl, HI, HN, rfl⟩ := hrel
    have hi0 : (0 : Int) ≤ (i : Int) := by omega
    by_cases hi : i < m
    · have hi1 : (i : Int) < (m : Int) := by omega
      have hi2 : decide (i < m) = true := decide_eq_true hi
      obtain ⟨x, hx⟩ : ∃ x, L[i]? = some x := ⟨L[i]'(by have := HH.out.2.2; omega), List.getElem?_eq_getElem _⟩
      obtain ⟨lg, loff, lc', el, hlc, hcell⟩ := HH.out.1.1.at_ (hcv_at hx)
      simp only [Value.slice.injEq] at el
      obtain ⟨rfl, _, rfl⟩ := el
      rw [← HH.out.2.2] at hlc
      have HX := Lib.hid (And.intro hx hi)
      clear hx hi
      by_cases hxn : n = x
      · have b1 : ((n : Int) == (x : Int)) = true := beq_iff_eq.2 (by omega)
        have b2 : (n == x) = true := beq_iff_eq.2 hxn
        have HXn := Lib.hid hxn
        subst hxn
        go_wp2
        rw [HP.out]
        exact ⟨⟨_, rfl, Or.inl ⟨i, rfl, HX.out.1, HN.out⟩⟩, rfl⟩
      · have b1 : ((n : Int) == (x : Int)) = false := beq_eq_false_iff_ne.2 (by omega)
        have b2 : (n == x) = false := beq_eq_false_iff_ne.2 hxn
        have HXn := Lib.hid hxn
        clear hxn
        go_wp2
        go_roundg (m - (i + 1))
        case measure => have := HI.out; have := HX.out; omega
        case rel =>
          refine ⟨i + 1, v64s HX.out.2 (by have := HH.out; omega), Lib.hid ⟨rfl, HX.out.2⟩, Lib.hid (fun j y hj hy => ?_), rfl⟩
          by_cases ej : j < i
          · exact HN.out j y ej hy
          · obtain rfl : j = i := by omega
            rw [HX.out.1] at hy
            rw [← Option.some.inj hy]
            exact fun e => HXn.out e.symm
    · have hi1 : ¬ (i : Int) < (m : Int) := by omega
      have hi2 : decide (i < m) = false := decide_eq_false hi
      have ei : i = L.length := by have := HI.out; have := HH.out.2.2; omega
      have HE := Lib.hid ei
      clear hi ei
      go_wp2
      rw [HP.out]
      refine ⟨⟨_, rfl, Or.inr ⟨rfl, fun h => ?_⟩⟩, rfl⟩
      obtain ⟨j, hj⟩ := List.getElem?_of_mem h
      exact HN.out j n (by rw [HE.out]; exact (List.getElem?_eq_some_iff.1 hj).1) hj rfl

set_option maxRecDepth 100000 in
set_option maxHeartbeats 1600000 in
theorem contains_any (L : List Nat) (a : Option Addr) (c n B : Nat) (w : World) (hR : RdP w (· < B) 1 (.slice a L.length c) L.length (hcv L)) (hl : L.length ≤ 1099511627776) :
    Calls Tryd.prog 76 #[.slice a L.length c, .int .u64 (n : Nat)] w (fun e w' => e = .returned (.bool (decide (n ∈ L))) ∧ w' = w) := by
  have C := index_any L a c n B w hR hl
  have HC := Lib.hid C
  obtain ⟨P, hP⟩ : ∃ P : Ending → World → Prop, P = fun e w' => e = .returned (.bool (decide (n ∈ L))) ∧ w' = w := ⟨_, rfl⟩
  have HP := Lib.hid hP
  rw [← hP]
  obtain ⟨m, hm⟩ : ∃ m, m = L.length := ⟨_, rfl⟩
  rw [← hm] at HC ⊢
  clear hR hl C hP hm
  go_enter Tryd.func76, Tryd.ntmps76
  go_wp2_with fail
  refine HC.out.mono ?_
  rintro e w2 ⟨⟨r, rfl, hr⟩, rfl⟩
  have HR := Lib.hid hr
  clear hr HC
  go_wp2
  rw [HP.out]
  exact ⟨by rw [← HR.out.ge]; rfl, rfl⟩

end Pd
end Go.Proofs.YtemmkobgpciflaaDoor

namespace Go.Proofs.YtemmkobgpciflaaDoor
open Go.RowKit
open Ch
open Df (hcv hcv_at hcv_app hcv_one elemHd MList nearL own_of_blk)
namespace Pd

def NearPost (S : List Im.Sl) (a b : Nat) (w : World) (e : Ending) (w' : World) : Prop := Below w.heap.size w w' ∧
  ((∃ ua ub, Im.Climb S a (a :: ua) ∧ Im.Climb S b (b :: ub) ∧ e = .returned (.tuple #[.int .u64 ((nearL (a :: ua) (b :: ub)).1 : Nat), .bool (nearL (a :: ua) (b :: ub)).2, .int .i64 0])) ∨
   ((Im.atP S a = none ∨ Im.atP S b = none) ∧ e = .returned (.tuple #[.int .u64 0, .bool false, .int .i64 8])))
theorem climb_live {S : List Im.Sl} {roots : List Nat} {ts : List Im.LT} (h : Im.Valid S roots ts) {a : Nat} (ha : Im.atP S a ≠ none) : ∃ ua, Im.Climb S a (a :: ua) ∧ ua.length ≤ 64 := by
  cases hat : Im.atP S a with
  | none => exact absurd hat ha
  | some i =>
    obtain ⟨u, q, l, _, _, hC, hl, _⟩ := h.find hat
    rcases Df.Climb.ne hC with ⟨h0, _⟩ | ⟨_, _, l', _, e, _⟩
    · rw [h0, Im.atP_zero] at hat; cases hat
    · subst e
      exact ⟨l', hC, by rw [List.length_cons] at hl; omega⟩

set_option maxRecDepth 100000 in
set_option maxHeartbeats 4000000 in
theorem nearP_any (Bd d : Nat) (B : List Nat) (S : List Im.Sl) (roots : List Nat) (ts : List Im.LT) (a b : Nat) (w : World) (hD : PD w Bd d B S roots ts) (ha : a < 18446744073709551616) (hb : b < 18446744073709551616) :
    Calls Tryd.prog 27 #[ptr d, .int .u64 (a : Nat), .int .u64 (b : Nat)] w (NearPost S a b w) := by
  obtain ⟨P, hP⟩ : ∃ P : Ending → World → Prop, P = NearPost S a b w := ⟨_, rfl⟩
  have HP := Lib.hid hP
  have HH := Lib.hid (And.intro hD (And.intro ha hb))
  rw [← hP]
  unfold ptr
  clear hP hD ha hb
  obtain ⟨q, hq⟩ : ∃ q, q = w.heap.size := ⟨_, rfl⟩
  go_enter Tryd.func27, Tryd.ntmps27
  go_upto_region 4 with fail
  rw [← hq]
  generalize hW : World.alloc _ _ = W1
  have U1 : Upd w W1 (fun _ => False) := by rw [← hW]; exact (Upd.refl w _).alloc _
  have Q1 : Blk W1 q [.int .u64 (a : Nat), .int .u64 (b : Nat)] 46 := by rw [← hW]; exact Blk.new' hq
  have H1 := Lib.hid (And.intro (U1.below (F := fun _ => False) (Nat.le_refl _) (fun _ _ h => h)) Q1)
  clear hW U1 Q1 hq
  go_loopg [10, 11, 12, 22] 2 (fun kq v10 v11 v12 v22 w' => ∃ i : Nat, v22 = .int .i64 i ∧ Hid (kq = 2 - i ∧ i ≤ 2) ∧ Hid (∀ j x, j < i → [a, b][j]? = some x → Im.atP S x ≠ none) ∧ Hid (Below w.heap.size w w') ∧ Hid (Blk w' q [.int .u64 (a : Nat), .int .u64 (b : Nat)] 46))
  case atStart => exact ⟨0, rfl, Lib.hid ⟨rfl, Nat.zero_le _⟩, Lib.hid (fun j x hj => by omega), Lib.hid H1.out.1, Lib.hid H1.out.2⟩
  case round =>
    obtain ⟨i, rfl, HI, HN, HB, HQ⟩ := hrel
    have hi0 : (0 : Int) ≤ (i : Int) := by omega
    by_cases hi : i < 2
    · have hi1 : (i : Int) < 2 := by omega
      have hi2 : decide (i < 2) = true := decide_eq_true hi
      obtain ⟨x, hx⟩ : ∃ x, [a, b][i]? = some x := ⟨[a, b][i]'(by simpa using hi), List.getElem?_eq_getElem _⟩
      have hx64 : x < 18446744073709551616 := by
        have := List.mem_of_getElem? hx
        simp at this
        rcases this with rfl | rfl
        · exact HH.out.2.1
        · exact HH.out.2.2
      have c0 : wr.cell? ⟨q, i, none⟩ = some (.int .u64 (x : Nat)) := by
        rw [HQ.out.cell i]
        have : ([a, b].map fun y : Nat => Value.int .u64 (y : Nat))[i]? = some (.int .u64 (x : Nat)) := by rw [List.getElem?_map, hx]; rfl
        exact this
      have C := getP_any Bd d B S roots ts x wr (HH.out.1.below (HB.out.mono HH.out.1.le)) hx64
      unfold ptr at C
      have HC := Lib.hid C
      have HX := Lib.hid (And.intro hx hi)
      clear hx hx64 C hi
      go_wp2_with fail
      refine HC.out.mono ?_
      rintro e w2 ⟨B2, hres⟩
      have HB2 := Lib.hid (HB.out.trans (B2.mono HB.out.size))
      have HQ2 := Lib.hid ((Upd.ofBelow (F := fun _ => False) B2).blk HQ.out (fun h => h))
      clear B2 HC c0
      cases hat : (Im.atP S x).bind (S[·]?) with
      | none =>
        rw [hat] at hres
        dsimp only at hres
        subst hres
        have hnone : Im.atP S a = none ∨ Im.atP S b = none := by
          have hx0 : Im.atP S x = none := by
            cases h1 : Im.atP S x with
            | none => rfl
            | some k =>
              rw [h1] at hat
              obtain ⟨s, hs, _⟩ := Im.atP_some h1
              simp only [Option.bind_some] at hat
              rw [hs] at hat
              cases hat
          have := List.mem_of_getElem? HX.out.1
          simp at this
          rcases this with rfl | rfl
          · exact Or.inl hx0
          · exact Or.inr hx0
        have HZ := Lib.hid hnone
        clear hnone hat
        go_wp2
        go_ret3
        rw [HP.out]
        refine ⟨?_, Or.inr ⟨HZ.out, rfl⟩⟩
        exact below_al HB2.out (Nat.le_refl _) _
      | some s =>
        rw [hat] at hres
        obtain ⟨ga, gc, rfl, _, _⟩ := hres
        have hsome : Im.atP S x ≠ none := fun h => by rw [h] at hat; cases hat
        have HZ := Lib.hid hsome
        obtain ⟨gl, hgl⟩ : ∃ gl, gl = s.al.length := ⟨_, rfl⟩
        unfold treeC
        rw [← hgl]
        clear hsome hat hgl
        go_wp2
        go_roundg (2 - (i + 1))
        case measure => have := HI.out; have := HX.out; omega
        case rel =>
          refine ⟨i + 1, by first | rfl | exact v64s HX.out.2 (by omega), Lib.hid ⟨rfl, HX.out.2⟩, Lib.hid (fun j y hj hy => ?_), Lib.hid (below_al HB2.out (Nat.le_refl _) _), Lib.hid (HQ2.out.alloc _)⟩
          by_cases ej : j < i
          · exact HN.out j y ej hy
          · obtain rfl : j = i := by omega
            rw [HX.out.1] at hy
            rw [← Option.some.inj hy]
            exact HZ.out
    · have hi1 : ¬ (i : Int) < 2 := by omega
      have hi2 : decide (i < 2) = false := decide_eq_false hi
      have ei : i = 2 := by have := HI.out; omega
      obtain ⟨ua, hCa, hla⟩ := climb_live HH.out.1.val (a := a) (HN.out 0 a (by omega) rfl)
      obtain ⟨ub, hCb, hlb⟩ := climb_live HH.out.1.val (a := b) (HN.out 1 b (by omega) rfl)
      have HC := Lib.hid (And.intro hCa (And.intro hCb (And.intro hla hlb)))
      obtain ⟨z, hz⟩ : ∃ z, z = wr.heap.size := ⟨_, rfl⟩
      clear hCa hCb hla hlb ei hi
      go_wp2_with fail
      rw [← hz]
      generalize hW : World.alloc _ _ = W2
      have U2 : Upd wr W2 (fun _ => False) := by rw [← hW]; exact (Upd.refl wr _).alloc _
      have Z2 : Blk W2 z [.int .u64 (b : Nat)] 46 := by rw [← hW]; exact Blk.new' hz
      have B2 := HB.out.trans (U2.below HB.out.size (fun _ _ h => h))
      have C := aroundP_any Bd d B S roots ts b ub W2 (HH.out.1.below (B2.mono HH.out.1.le)) HC.out.2.1 HC.out.2.2.2
      unfold ptr at C
      have HC2 := Lib.hid C
      have H2 := Lib.hid (And.intro B2 Z2)
      have HZw := Lib.hid (show w.heap.size ≤ z by have := HB.out.size; omega)
      clear hW U2 Z2 B2 C hz
      refine HC2.out.mono ?_
      rintro e w3 ⟨v3, rfl, ⟨a3, c3, rfl, O3, G3⟩, B3⟩
      obtain ⟨l3, hl3⟩ : ∃ l3, l3 = ub.length := ⟨_, rfl⟩
      have Z3 := (Upd.ofBelow (F := fun _ => False) B3).blk H2.out.2 (fun h => h)
      have HB3 := Lib.hid (H2.out.1.trans (B3.mono H2.out.1.size))
      rw [← hl3] at O3 G3 ⊢
      have H3 := Lib.hid (And.intro O3 (And.intro Z3 hl3))
      clear O3 G3 B3 Z3 hl3 HC2
      go_wp2_with (at_builtin; refine halt_mk ?_)
      refine halt_go ?_
      refine wpl_app (n := 1) (m := l3) rfl rfl elemHd Tryd.underlying42 rfl (own_of_blk H3.out.2.1 rfl (by unfold maxLen; omega)) rfl (Rd.ofOwn H3.out.1) (hcv_one _) (by have := HC.out.2.2.2; have := H3.out.2.2; omega) ?_
      rintro v4 w4 ⟨O4, U4, b4⟩
      obtain ⟨a4, c4, rfl, _⟩ := (Rd.ofOwn O4).form
      obtain ⟨lb, hlb⟩ : ∃ lb, lb = b :: ub := ⟨_, rfl⟩
      have hlbl : lb.length = 1 + l3 := by rw [hlb, List.length_cons, H3.out.2.2]; omega
      have O4' : w4.ownsRow 0 46 1 (.slice a4 (1 + l3) c4) (1 + l3) (hcv lb) := by rw [hlb]; exact O4
      rw [← hlbl] at O4' ⊢
      have hzq : w.heap.size ≤ z := HZw.out
      have B4 := HB3.out.trans (U4.below HB3.out.size (fun g hg e => by have := ob_eq e; omega))
      have H4 := Lib.hid (And.intro O4' (And.intro B4 (And.intro hlb (by rw [hlbl, H3.out.2.2]; have := HC.out.2.2.2; omega : lb.length ≤ 65))))
      obtain ⟨mb, hmb⟩ : ∃ mb, mb = lb.length := ⟨_, rfl⟩
      rw [← hmb]
      have HMb := Lib.hid hmb
      clear O4 U4 b4 hlb hlbl O4' B4 hmb hzq H3 HB3
      obtain ⟨z2, hz2⟩ : ∃ z2, z2 = w4.heap.size := ⟨_, rfl⟩
      go_wp2_with fail
      rw [← hz2]
      generalize hW : World.alloc _ _ = W5
      have U5 : Upd w4 W5 (fun _ => False) := by rw [← hW]; exact (Upd.refl w4 _).alloc _
      have Z5 : Blk W5 z2 [.int .u64 (a : Nat)] 46 := by rw [← hW]; exact Blk.new' hz2
      have B5 := H4.out.2.1.trans (U5.below H4.out.2.1.size (fun _ _ h => h))
      have C := aroundP_any Bd d B S roots ts a ua W5 (HH.out.1.below (B5.mono HH.out.1.le)) HC.out.1 HC.out.2.2.1
      unfold ptr at C
      have HC5 := Lib.hid C
      have H5 := Lib.hid (And.intro B5 (And.intro Z5 (And.intro (own_keep H4.out.1 U5 (fun _ _ h => h)) (Nat.le_of_eq hz2.symm))))
      clear hW U5 Z5 B5 C hz2
      refine HC5.out.mono ?_
      rintro e w6 ⟨v6, rfl, ⟨a6, c6, rfl, O6, G6⟩, B6⟩
      obtain ⟨l6, hl6⟩ : ∃ l6, l6 = ua.length := ⟨_, rfl⟩
      have U6 := Upd.ofBelow (F := fun _ => False) B6
      rw [← hl6] at O6 G6 ⊢
      have H6 := Lib.hid (And.intro O6 (And.intro (U6.blk H5.out.2.1 (fun h => h)) (And.intro (own_keep H5.out.2.2.1 U6 (fun _ _ h => h)) (And.intro (H5.out.1.trans (B6.mono H5.out.1.size)) hl6))))
      clear O6 G6 B6 U6 hl6 HC5
      go_wp2_with (at_builtin; refine halt_mk ?_)
      refine halt_go ?_
      refine wpl_app (n := 1) (m := l6) rfl rfl elemHd Tryd.underlying42 rfl (own_of_blk H6.out.2.1 rfl (by unfold maxLen; omega)) rfl (Rd.ofOwn H6.out.1) (hcv_one _) (by have := HC.out.2.2.1; have := H6.out.2.2.2.2; omega) ?_
      rintro v7 w7 ⟨O7, U7, b7⟩
      obtain ⟨a7, c7, rfl, _⟩ := (Rd.ofOwn O7).form
      obtain ⟨la, hla⟩ : ∃ la, la = a :: ua := ⟨_, rfl⟩
      have hlal : la.length = 1 + l6 := by rw [hla, List.length_cons, H6.out.2.2.2.2]; omega
      have O7' : w7.ownsRow 0 46 1 (.slice a7 (1 + l6) c7) (1 + l6) (hcv la) := by rw [hla]; exact O7
      rw [← hlal] at O7' ⊢
      have h4s := H4.out.2.1.size
      have hz2g : w4.heap.size ≤ z2 := H5.out.2.2.2
      have O4' : w7.ownsRow 0 46 1 (.slice a4 lb.length c4) lb.length (hcv lb) := own_keep H6.out.2.2.1 U7 (fun g hg e => by
        have h1 := own_lt H4.out.1 hg
        have h2 := ob_eq e
        omega)
      have B7 := H6.out.2.2.2.1.trans (U7.below H6.out.2.2.2.1.size (fun g hg e => by have := ob_eq e; omega))
      have HO := Lib.hid (And.intro O7' (And.intro O4' (And.intro (by rw [hlal, H6.out.2.2.2.2]; have := HC.out.2.2.1; omega : la.length ≤ 65) H4.out.2.2.2)))
      have H7 := Lib.hid (And.intro B7 (And.intro hla H4.out.2.2.1))
      obtain ⟨m, hm⟩ : ∃ m, m = la.length := ⟨_, rfl⟩
      rw [← hm]
      have HM := Lib.hid hm
      clear O7 U7 b7 hla hlal O7' O4' B7 h4s hz2g hm H5 H6 H4 H2
      go_wp2
      go_loopg [15, 49] m (fun kq v15 v49 w' => ∃ i : Nat, v49 = .int .i64 i ∧ Hid (kq = m - i ∧ i ≤ m) ∧ Hid (∀ j x, j < i → la[j]? = some x → x ∉ lb) ∧ w' = w7)
      case atStart => exact ⟨0, rfl, Lib.hid ⟨rfl, Nat.zero_le _⟩, Lib.hid (fun j x hj => by omega), rfl⟩
      case round =>
        clear HN HI hi0 hi1 hi2 HB HQ
        obtain ⟨i, rfl, HI, HN, rfl⟩ := hrel
        have hi0 : (0 : Int) ≤ (i : Int) := by omega
        by_cases hi : i < m
        · have hi1 : (i : Int) < (m : Int) := by omega
          have hi2 : decide (i < m) = true := decide_eq_true hi
          obtain ⟨x, hx⟩ : ∃ x, la[i]? = some x := ⟨la[i]'(by have := HM.out; omega), List.getElem?_eq_getElem _⟩
          obtain ⟨lg, loff, lc', el, hlc, hcell⟩ := (Rd.ofOwn HO.out.1).at_ (hcv_at hx)
          simp only [Value.slice.injEq] at el
          obtain ⟨rfl, _, rfl⟩ := el
          rw [← HM.out] at hlc
          have C := contains_any lb a4 c4 x wr.heap.size wr ⟨Rd.ofOwn HO.out.2.1, fun _ g hg => own_lt HO.out.2.1 hg⟩ (by have := HO.out.2.2.2; omega)
          rw [← HMb.out] at C
          obtain ⟨bb, hbb⟩ : ∃ bb, bb = decide (x ∈ lb) := ⟨_, rfl⟩
          rw [← hbb] at C
          have HC8 := Lib.hid C
          have HX := Lib.hid (And.intro hx (And.intro hi hbb))
          clear hx hi hbb C
          go_wp2_with fail
          refine HC8.out.mono ?_
          rintro e w5 ⟨rfl, rfl⟩
          cases hb : bb with
          | true =>
            subst hb
            go_wp2
            go_ret3
            rw [HP.out]
            have hf : nearL la lb = (x, true) := by
              unfold nearL
              have h1 : la.find? (fun x => decide (x ∈ lb)) = some x := by
                rw [List.find?_eq_some_iff_getElem]
                obtain ⟨hx, hi, hbb⟩ := HX.out
                obtain ⟨h1, h2⟩ := List.getElem?_eq_some_iff.1 hx
                refine ⟨hbb.symm, i, h1, h2, fun j hj => ?_⟩
                have := HN.out j _ hj (List.getElem?_eq_getElem (by omega))
                simpa using this
              rw [h1]
            refine ⟨H7.out.1, Or.inl ⟨ua, ub, HC.out.1, HC.out.2.1, ?_⟩⟩
            rw [← H7.out.2.1, ← H7.out.2.2, hf]
            rfl
          | false =>
            subst hb
            go_wp2
            go_roundg (m - (i + 1))
            case measure => have := HI.out; have := HX.out; omega
            case rel =>
              refine ⟨i + 1, v64s HX.out.2.1 (by have := HM.out; have := HO.out.2.2.1; omega), Lib.hid ⟨rfl, HX.out.2.1⟩, Lib.hid (fun j y hj hy => ?_), rfl⟩
              by_cases ej : j < i
              · exact HN.out j y ej hy
              · obtain rfl : j = i := by omega
                rw [HX.out.1] at hy
                rw [← Option.some.inj hy]
                exact of_decide_eq_false HX.out.2.2.symm
        · have hi1 : ¬ (i : Int) < (m : Int) := by omega
          have hi2 : decide (i < m) = false := decide_eq_false hi
          have ei : i = la.length := by have := HI.out; have := HM.out; omega
          have hf : nearL la lb = (0, false) := by
            unfold nearL
            have h1 : la.find? (fun x => decide (x ∈ lb)) = none := by
              rw [List.find?_eq_none]
              intro x hx
              obtain ⟨j, hj⟩ := List.getElem?_of_mem hx
              have := HN.out j x (by rw [ei]; exact (List.getElem?_eq_some_iff.1 hj).1) hj
              simpa using this
            rw [h1]
          have HF := Lib.hid hf
          clear hi ei hf
          go_wp2
          go_ret3
          rw [HP.out]
          refine ⟨H7.out.1, Or.inl ⟨ua, ub, HC.out.1, HC.out.2.1, ?_⟩⟩
          rw [← H7.out.2.1, ← H7.out.2.2, HF.out]
          rfl

end Pd
end Go.Proofs.YtemmkobgpciflaaDoor
