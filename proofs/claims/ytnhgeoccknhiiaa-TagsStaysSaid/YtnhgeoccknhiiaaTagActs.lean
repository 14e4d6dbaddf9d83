/- TagsActs, walked: whatever acts come in. -/
import Derived.Test.YtnhgeoccknhiiaaTagRises
namespace Go.Proofs.Ytnhgeoccknhiiaa
open Go.RowKit

structure ActD where
  kind : Int
  how : Int
  tag : Nat
  other : Nat
def ActD.cells (a : ActD) : List Value := [.int .i64 a.kind, .int .i64 a.how, .int .u64 a.tag, .int .u64 a.other]
def ActD.ok (a : ActD) : Prop := a.tag < 18446744073709551616

/-- Acts as they came in. -/
def ActsAt (w : World) (v : Value) (l : List ActD) : Prop := Rd w v l.length 4 (l.flatMap ActD.cells) ∧ ∀ a ∈ l, a.ok

theorem flat4 {l : List ActD} {i : Nat} {a : ActD} (h : l[i]? = some a) (j : Nat) (hj : j < 4) : (l.flatMap ActD.cells)[4 * i + j]? = a.cells[j]? := by
  induction l generalizing i with
  | nil => simp at h
  | cons b l ih =>
    rw [List.flatMap_cons]
    cases i with
    | zero =>
      simp at h
      subst h
      rw [Nat.mul_zero, Nat.zero_add, List.getElem?_append_left (by simp [ActD.cells]; omega)]
    | succ i =>
      rw [List.getElem?_append_right (by simp [ActD.cells]; omega)]
      rw [← ih (by simpa using h)]
      congr 1
      simp [ActD.cells]
      omega

theorem acts_at {w w' : World} {v : Value} {l : List ActD} (h : ActsAt w v l) (hB : Below w.heap.size w w') {i : Nat} (hi : i < l.length) : ∃ a g off c, l[i]? = some a ∧ a.ok ∧ v = .slice (some ⟨g, off, none⟩) l.length c ∧
    w'.cell? ⟨g, off + i * 4, none⟩ = some (.int .i64 a.kind) ∧ w'.cell? ⟨g, off + i * 4 + 1, none⟩ = some (.int .i64 a.how) ∧ w'.cell? ⟨g, off + i * 4 + 2, none⟩ = some (.int .u64 a.tag) ∧ w'.cell? ⟨g, off + i * 4 + 3, none⟩ = some (.int .u64 a.other) := by
  rw [Nat.mul_comm i 4]
  have hla : l[i]? = some l[i] := List.getElem?_eq_getElem hi
  obtain ⟨hR, hok⟩ := h
  obtain ⟨g, off, c, e, _, h0⟩ := hR.at_ (j := 4 * i + 0) (u := .int .i64 l[i].kind) (by rw [flat4 hla 0 (by omega)]; rfl)
  have get : ∀ j u, l[i].cells[j]? = some u → j < 4 → w'.cell? ⟨g, off + (4 * i + j), none⟩ = some u := by
    intro j u hu hj
    obtain ⟨g', off', c', e', _, h1⟩ := hR.at_ (j := 4 * i + j) (u := u) (by rw [flat4 hla j hj]; exact hu)
    rw [e] at e'
    cases e'
    rw [hB.cell (World.block_lt_of_cell? w _ h1)]
    exact h1
  exact ⟨l[i], g, off, c, hla, hok _ (List.getElem_mem hi), e, get 0 _ rfl (by omega), get 1 _ rfl (by omega), get 2 _ rfl (by omega), get 3 _ rfl (by omega)⟩

def TruePost (w : World) (e : Ending) (w' : World) : Prop := e = .returned (.bool true) ∧ Below w.heap.size w w'

theorem pair_new (w w' : World) (p d : Nat) (hp : w.heap.size ≤ p) (hd : w.heap.size ≤ d) (h1 : TagsNew w' p) (h2 : Blk w' d [.slice none 0 0, .int .u64 0] 86) : Pair w.heap.size w' p d [] 0 0 :=
  ⟨⟨hp, Or.inl ⟨h1, rfl, rfl, rfl⟩⟩, ⟨_, h2, World.ownsRow_nil _ _ _ _⟩, inv_nil, hd⟩

set_option maxRecDepth 20000 in
set_option maxHeartbeats 1000000 in
theorem tagsActs_calls (w : World) (v : Value) (l : List ActD) (h : ActsAt w v l) (hl : l.length * 32 ≤ 140737488351232) :
    Calls Try.prog 8 #[v] w (TruePost w) := by
  obtain ⟨a, c, rfl, hc⟩ := h.1.form
  have HA := Lib.hid h
  clear h
  go_enter Try.func8, Try.ntmps8
  go_wp2
  obtain ⟨w1, hw1⟩ : ∃ w1, w1 = (w.alloc (.cells #[.map none, .pointer none, .int .u64 0, .int .u64 0] 73)).alloc (.cells #[.slice none 0 0, .int .u64 0] 86) := ⟨_, rfl⟩
  obtain ⟨p, hp⟩ : ∃ p, p = w.heap.size := ⟨_, rfl⟩
  obtain ⟨d, hd⟩ : ∃ d, d = p + 1 := ⟨_, rfl⟩
  obtain ⟨B, hBw⟩ : ∃ B, B = w.heap.size := ⟨_, rfl⟩
  rw [← hw1, ← hp, ← hd]
  have S0 : Hid (Pair B w1 p d [] 0 0 ∧ Below B w w1) := by
    have U1 : Upd w (w.alloc (.cells #[.map none, .pointer none, .int .u64 0, .int .u64 0] 73)) (fun _ => False) := (Upd.refl w _).alloc _
    have U2 : Upd (w.alloc (.cells #[.map none, .pointer none, .int .u64 0, .int .u64 0] 73)) w1 (fun _ => False) := by rw [hw1]; exact (Upd.refl _ _).alloc _
    have B1 : Blk w1 p [.map none, .pointer none, .int .u64 0, .int .u64 0] 73 := by rw [hp]; exact U2.blk (Blk.new w _ _) (fun h => h)
    have B2 : Blk w1 d [.slice none 0 0, .int .u64 0] 86 := by
      rw [hd, hp, hw1]
      have := Blk.new (w.alloc (.cells #[.map none, .pointer none, .int .u64 0, .int .u64 0] 73)) [.slice none 0 0, .int .u64 0] 86
      simpa using this
    refine Lib.hid ⟨?_, ?_⟩
    · have := pair_new w w1 p d (by omega) (by omega) B1 B2
      rw [hBw]; exact this
    · have hle : B ≤ w.heap.size := by omega
      exact (below_0 hle U1).trans (below_0 (Nat.le_trans hle U1.size) U2)
  have HBw := Lib.hid hBw
  clear hw1 hp hd hBw
  go_loopg [5] l.length (fun kq v5 w' => ∃ i : Nat, v5 = .int .i64 i ∧ Hid (kq = l.length - i ∧ i ≤ l.length) ∧ Hid (∃ N g nw, Pair B w' p d N g nw ∧ g ≤ i ∧ Below B w w'))
  case atStart => exact ⟨0, rfl, Lib.hid ⟨rfl, Nat.zero_le _⟩, Lib.hid ⟨[], 0, 0, S0.out.1, Nat.le_refl _, S0.out.2⟩⟩
  case round =>
    obtain ⟨i, rfl, HI, HS⟩ := hrel
    by_cases hi : i < l.length
    · obtain ⟨N, g, nw, hP, hg, hL⟩ := HS.out
      obtain ⟨act, gb, off, c', hla, hok, e1, k0, k1, k2, k3⟩ := acts_at HA.out (by rw [← HBw.out]; exact hL) hi
      cases e1
      have hi0 : (0 : Int) ≤ (i : Int) := by omega
      have hi1 : (i : Int) < (l.length : Int) := by omega
      have hi2 : decide (i < l.length) = true := decide_eq_true hi
      have HC := Lib.hid (does_any B p d N g nw act.kind act.how act.tag act.other wr hP (by omega) hok)
      have HL := Lib.hid (And.intro hL hg)
      have HG := Lib.hid HBw
      clear hP hL hg hla hok
      go_wp2_with fail
      refine HC.out.mono ?_
      rintro e w2 ⟨N', g', nw', rfl, hP, _, hg2, hL2, _⟩
      have HS2 := Lib.hid (And.intro hP (And.intro (HL.out.1.trans hL2) (Nat.le_trans hg2 (Nat.succ_le_succ HL.out.2))))
      clear hP hL2 hg2 HC k0 k1 k2 k3 HS
      by_cases h8 : (i : Int) % 8 = 7
      · have d8 : ((i : Int) % 8 == 7) = true := by rw [beq_iff_eq]; exact h8
        clear h8
        have HC := Lib.hid (rises_any B p d N' g' nw' w2 HS2.out.1 (by have := HS2.out.2.2; omega))
        go_wp2_with fail
        refine HC.out.mono ?_
        rintro e w3 ⟨rfl, hP, hL⟩
        have HS3 := Lib.hid (And.intro hP (And.intro (HS2.out.2.1.trans hL) HS2.out.2.2))
        clear hP hL HC HS2
        go_wp2
        go_roundg (l.length - (i + 1))
        case rel => exact ⟨i + 1, by go_num, Lib.hid ⟨rfl, by omega⟩, Lib.hid ⟨N', g', nw', HS3.out.1, HS3.out.2.2, HS3.out.2.1⟩⟩
        case measure => have := HI.out; omega
      · have d8 : ((i : Int) % 8 == 7) = false := by rw [beq_eq_false_iff_ne]; exact h8
        clear h8
        go_wp2
        go_roundg (l.length - (i + 1))
        case rel => exact ⟨i + 1, by go_num, Lib.hid ⟨rfl, by omega⟩, Lib.hid ⟨N', g', nw', HS2.out.1, HS2.out.2.2, HS2.out.2.1⟩⟩
        case measure => have := HI.out; omega
    · have hi2 : decide (i < l.length) = false := decide_eq_false hi
      obtain ⟨N, g, nw, P2, hg, L2⟩ := HS.out
      have HG := Lib.hid (show g < 4503599627370494 by have := HI.out; omega)
      clear HI hg HS
      go_wp2_with fail
      refine (after_p B p d 0 N g nw wr P2 (by have := HG.out; omega)).mono ?_
      rintro e w3 ⟨x, y, N', g', nw', rfl, hA, hT, hI, hR, hU⟩
      have hg' : g ≤ g' ∧ g' ≤ g + 1 := by
        rcases hA with ⟨_, _, _, _, rfl⟩ | ⟨k, _, ⟨_, _, _, _, rfl⟩ | ⟨_, _, _, rfl, _⟩⟩ <;> omega
      have HC := Lib.hid (after_d B p d 0 N N' g g' nw' x y w3 hA hT hI hR P2.inv.len P2.nd (by have := HG.out; omega) P2.low)
      have S3 := Lib.hid (And.intro (L2.trans (below_tf P2.lt hU)) (And.intro (show g' < 4503599627370496 by have := HG.out; omega) (And.intro P2.low (Nat.le_trans P2.lt hU.size))))
      clear hA hT hI hR hU P2 L2 hg'
      go_wp2_with fail
      refine HC.out.mono ?_
      rintro e w4 ⟨rfl, P4, U4⟩
      have S4 := Lib.hid (And.intro P4 (S3.out.1.trans (below_d S3.out.2.2.2 S3.out.2.2.1 U4)))
      have HR := Lib.hid (rises_any B p d N' g' nw' w4 P4 S3.out.2.1)
      clear P4 U4 HC
      go_wp2_with fail
      refine HR.out.mono ?_
      rintro e w5 ⟨rfl, _, L5⟩
      have S5 := Lib.hid (S4.out.2.trans L5)
      clear L5 HR
      go_wp2
      go_ret
      exact ⟨rfl, by rw [← HBw.out]; exact S5.out⟩

end Go.Proofs.Ytnhgeoccknhiiaa
