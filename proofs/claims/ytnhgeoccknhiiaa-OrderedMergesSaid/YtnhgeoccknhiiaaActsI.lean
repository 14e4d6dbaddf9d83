/- OrderedActs, walked. -/
import Derived.Test.YtnhgeoccknhiiaaDoesI
namespace Go.Proofs.Ytnhgeoccknhiiaa
open Go.RowKit Go.Shelf
namespace OrdI

theorem new_none (w : World) : Calls Try.prog 12 #[.nilFunc] w fun e w' => e = .returned (.tuple #[.pointer none, .int .i64 1]) ∧ w' = w := by
  have qn : ∀ (w : World), (binOp .eql 28 .nilFunc .nilFunc).run Try.prog w = .ok (.bool true) w := fun _ => by kernel_rfl
  go_enter Try.func12, Try.ntmps12
  go_wp2
  go_ret2
  exact ⟨rfl, rfl⟩

structure AI where
  kind : Int
  stop : Int
  x : It
def acells (a : AI) : List Value := [.int .i64 a.kind, .int .i64 a.stop, .int .i64 a.x.k, .int .i64 a.x.m]
def AActs (w : World) (v : Value) (l : List AI) : Prop := Rd w v l.length 4 (l.flatMap acells)
theorem flatA {l : List AI} {i : Nat} {a : AI} (h : l[i]? = some a) (j : Nat) (hj : j < 4) : (l.flatMap acells)[i * 4 + j]? = (acells a)[j]? := by
  induction l generalizing i with
  | nil => simp at h
  | cons b l ih =>
    rw [List.flatMap_cons]
    cases i with
    | zero =>
      simp at h
      subst h
      rw [Nat.zero_mul, Nat.zero_add, List.getElem?_append_left (by simp [acells]; omega)]
    | succ i =>
      rw [List.getElem?_append_right (by simp [acells]; omega)]
      rw [← ih (by simpa using h)]
      congr 1
      simp [acells]
      omega
theorem act_at {w w' : World} {v : Value} {l : List AI} (h : AActs w v l) (hB : Below w.heap.size w w') {i : Nat} (hi : i < l.length) : ∃ a g off c, l[i]? = some a ∧ v = .slice (some ⟨g, off, none⟩) l.length c ∧
    w'.cell? ⟨g, off + i * 4, none⟩ = some (.int .i64 a.kind) ∧ w'.cell? ⟨g, off + i * 4 + 1, none⟩ = some (.int .i64 a.stop) ∧ w'.cell? ⟨g, off + i * 4 + 2, none⟩ = some (.int .i64 a.x.k) ∧ w'.cell? ⟨g, off + i * 4 + 3, none⟩ = some (.int .i64 a.x.m) := by
  have hla : l[i]? = some l[i] := List.getElem?_eq_getElem hi
  obtain ⟨g, off, c, e, _, h0⟩ := Rd.at_ h (j := i * 4 + 0) (u := .int .i64 l[i].kind) (by rw [flatA hla 0 (by omega)]; rfl)
  have get : ∀ j u, (acells l[i])[j]? = some u → j < 4 → w'.cell? ⟨g, off + (i * 4 + j), none⟩ = some u := by
    intro j u hu hj
    obtain ⟨g', off', c', e', _, h1⟩ := Rd.at_ h (j := i * 4 + j) (u := u) (by rw [flatA hla j hj]; exact hu)
    rw [e] at e'
    cases e'
    rw [hB.cell (World.block_lt_of_cell? w _ h1)]
    exact h1
  exact ⟨l[i], g, off, c, hla, e, get 0 _ rfl (by omega), get 1 _ rfl (by omega), get 2 _ rfl (by omega), get 3 _ rfl (by omega)⟩

def TruePost (w : World) (e : Ending) (w' : World) : Prop := e = .returned (.bool true) ∧ Below w.heap.size w w'

theorem two_new {w w2 w3 : World} {p d : Nat} (hp : w.heap.size ≤ p) (hF : OrdFresh w.heap.size w2 p []) (hb : Below w.heap.size w w2) (hd : d = w2.heap.size) (h3 : w3 = w2.alloc (.cells #[.slice none 0 0] 32)) : Two w.heap.size w3 p d [] ∧ Below w.heap.size w w3 := by
  have U : Upd w2 w3 (fun _ => False) := by rw [h3]; exact (Upd.refl w2 _).alloc _
  have hsz := hb.size
  refine ⟨⟨hF.is.below (U.below (Nat.le_refl _) (fun _ _ h => h)), ⟨.slice none 0 0, ?_, World.ownsRow_nil _ _ _ _⟩, ?_, Nat.zero_le _, hp, by omega, Nat.le_trans hsz U.size⟩, hb.trans (U.below hsz (fun _ _ h => h))⟩
  · rw [h3, hd]
    exact Blk.new w2 _ _
  · intro i j x y hx
    simp at hx

set_option maxRecDepth 20000 in
set_option maxHeartbeats 1000000 in
theorem acts_calls (w : World) (v : Value) (l : List AI) (h : AActs w v l) (hl : l.length * 32 ≤ 140737488351232) :
    Calls Try.prog 10 #[v] w (TruePost w) := by
  obtain ⟨a, c, rfl, hc⟩ := Rd.form h
  have HA := Lib.hid h
  have HN := Lib.hid (new_any w)
  clear h
  go_enter Try.func10, Try.ntmps10
  go_wp2_with fail
  refine HN.out.mono ?_
  rintro e w2 ⟨p, rfl, hp, hF, hb⟩
  obtain ⟨d, hd⟩ : ∃ d, d = w2.heap.size := ⟨_, rfl⟩
  obtain ⟨w3, hw3⟩ : ∃ w3, w3 = w2.alloc (.cells #[.slice none 0 0] 32) := ⟨_, rfl⟩
  have S0 := Lib.hid (two_new hp hF hb hd hw3)
  clear hp hF hb HN
  go_wp2_with fail
  rw [← hd, ← hw3]
  clear hd hw3
  go_loopg [6] l.length (fun kq v6 w' => ∃ i : Nat, v6 = .int .i64 i ∧ Hid (kq = l.length - i ∧ i ≤ l.length) ∧ Hid (∃ L, Two w.heap.size w' p d L ∧ Below w.heap.size w w'))
  case atStart => exact ⟨0, rfl, Lib.hid ⟨rfl, Nat.zero_le _⟩, Lib.hid ⟨[], S0.out⟩⟩
  case round =>
    obtain ⟨i, rfl, HI, HS⟩ := hrel
    by_cases hi : i < l.length
    · obtain ⟨L, hT, hL⟩ := HS.out
      obtain ⟨act, gb, off, c', hla, e1, k0, k1, k2, k3⟩ := act_at HA.out hL hi
      cases e1
      have hi0 : (0 : Int) ≤ (i : Int) := by omega
      have hi1 : (i : Int) < (l.length : Int) := by omega
      have hi2 : decide ((i : Int) < (l.length : Int)) = true := decide_eq_true hi1
      have HC := Lib.hid (does_any w.heap.size p d L act.kind act.stop act.x wr hT)
      have HL := Lib.hid (And.intro hL hT.low)
      clear hT hL hla
      go_wp2_with fail
      refine HC.out.mono ?_
      rintro e w4 ⟨L', rfl, hT, hU, _⟩
      have hb4 : Below w.heap.size w w4 := HL.out.1.trans (hU.below HL.out.2.2.2 (fun i hi hm => by
        obtain ⟨l1, l2, _⟩ := HL.out.2
        rcases hm with e | e <;> omega))
      have HS2 := Lib.hid (And.intro hT hb4)
      clear hT hU hb4 HC k0 k1 k2 k3 HS
      by_cases h4 : (i : Int) % 4 = 3
      · have d4 : ((i : Int) % 4 == 3) = true := by rw [beq_iff_eq]; exact h4
        clear h4
        have HC := Lib.hid (same_any p d L' w4 HS2.out.1.ord HS2.out.1.ref HS2.out.1.big)
        go_wp2_with fail
        refine HC.out.mono ?_
        rintro e w5 ⟨rfl, hb5⟩
        have HS3 := Lib.hid (And.intro (HS2.out.1.below hb5) (HS2.out.2.trans (hb5.mono HS2.out.1.low.2.2)))
        clear hb5 HC HS2
        go_wp2
        go_roundg (l.length - (i + 1))
        case rel => exact ⟨i + 1, by go_num, Lib.hid ⟨rfl, by omega⟩, Lib.hid ⟨L', HS3.out⟩⟩
        case measure => have := HI.out; omega
      · have d4 : ((i : Int) % 4 == 3) = false := by rw [beq_eq_false_iff_ne]; exact h4
        clear h4
        go_wp2
        go_roundg (l.length - (i + 1))
        case rel => exact ⟨i + 1, by go_num, Lib.hid ⟨rfl, by omega⟩, Lib.hid ⟨L', HS2.out⟩⟩
        case measure => have := HI.out; omega
    · have hi1 : ¬ (i : Int) < (l.length : Int) := by omega
      have hi2 : decide ((i : Int) < (l.length : Int)) = false := decide_eq_false hi1
      obtain ⟨L, hT, hL⟩ := HS.out
      have HN := Lib.hid (new_none wr)
      have HC := Lib.hid (same_any p d L wr hT.ord hT.ref hT.big)
      have HL := Lib.hid (And.intro hL hT.low)
      clear hT hL HS
      go_wp2_with fail
      refine HN.out.mono ?_
      rintro e w4 ⟨rfl, rfl⟩
      clear HN
      go_wp2_with fail
      refine HC.out.mono ?_
      rintro e w5 ⟨rfl, hb5⟩
      have HF : Hid (TruePost w (.returned (.bool true)) w5) := Lib.hid ⟨rfl, HL.out.1.trans (hb5.mono HL.out.2.2.2)⟩
      clear hb5 HC
      go_wp2
      go_ret
      exact HF.out

end OrdI
end Go.Proofs.Ytnhgeoccknhiiaa
