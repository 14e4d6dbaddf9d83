/- How many nodes and attributes a forest has: weight, walked. -/
import Derived.Test.YtmmjmfadipmfiaaDoorFarP
namespace Go.Proofs.YtmmjmfadipmfiaaDoor
open Go.RowKit
open Ch
namespace Df

mutual
def weight : T → Nat
  | .mk k _ al _ ks => 1 + al.length + (if k = 1 then weightL ks else 0)
def weightL : List T → Nat
  | [] => 0
  | t :: r => weight t + weightL r
end
theorem weightL_append : ∀ (a b : List T), weightL (a ++ b) = weightL a + weightL b
  | [], b => by simp [weightL]
  | x :: a, b => by rw [List.cons_append, weightL, weightL, weightL_append a b]; omega
theorem weightL_at {f : List T} {i : Nat} {x : T} (h : f[i]? = some x) : weightL (f.take (i + 1)) = weightL (f.take i) + weight x := by
  rw [take_at h, weightL_append]
  simp [weightL]
theorem weightL_le {f : List T} {i : Nat} : weightL (f.take i) ≤ weightL f := by
  have := weightL_append (f.take i) (f.drop i)
  rw [List.take_append_drop] at this
  omega

set_option maxRecDepth 100000 in
set_option maxHeartbeats 4000000 in
theorem weight_step (P : Nat → Prop) (f : List T) (ih : ∀ x ∈ f, ∀ (ak : Option Addr) (ck : Nat) (w : World), Forest w P x.kids ak ck → x.kids.length * 88 ≤ 140737488351232 → (∀ y ∈ x.kids, Fits y) → weightL x.kids ≤ 1152921504606846976 → Calls Tryd.prog 15 #[.slice ak x.kids.length ck] w fun e w' => e = .returned (.int .i64 (weightL x.kids : Nat)) ∧ Below w.heap.size w w')
    (ak : Option Addr) (ck : Nat) (w : World) (hf : Forest w P f ak ck) (lf : f.length * 88 ≤ 140737488351232) (ff : ∀ x ∈ f, Fits x) (hw : weightL f ≤ 1152921504606846976) : Calls Tryd.prog 15 #[.slice ak f.length ck] w fun e w' => e = .returned (.int .i64 (weightL f : Nat)) ∧ Below w.heap.size w w' := by
  obtain ⟨r, hr⟩ : ∃ r, r = weightL f := ⟨_, rfl⟩
  rw [← hr]
  have HH := Lib.hid (And.intro hf (And.intro lf (And.intro ff (And.intro hw (And.intro hr ih)))))
  clear hf lf ff hw ih hr
  go_enter Tryd.func15, Tryd.ntmps15
  go_wp2
  go_loopg [3, 4] f.length (fun kq v3 v4 w' => ∃ i s : Nat, v3 = .int .i64 s ∧ v4 = .int .i64 i ∧ Hid (kq = f.length - i ∧ i ≤ f.length ∧ s = weightL (f.take i)) ∧ Hid (Below w.heap.size w w'))
  case atStart => exact ⟨0, 0, rfl, rfl, Lib.hid ⟨rfl, Nat.zero_le _, by simp [weightL]⟩, Lib.hid (Below.refl _ _)⟩
  case round =>
    obtain ⟨i, s, rfl, rfl, HJ, HB⟩ := hrel
    have hi0 : (0 : Int) ≤ (i : Int) := by omega
    by_cases hi : i < f.length
    · have hi1 : (i : Int) < (f.length : Int) := by omega
      have hi2 : decide (i < f.length) = true := decide_eq_true hi
      obtain ⟨x, hx⟩ : ∃ x, f[i]? = some x := ⟨f[i], List.getElem?_eq_getElem hi⟩
      have hxm := List.mem_of_getElem? hx
      have U := Upd.ofBelow (F := fun _ => False) HB.out
      have IH := HH.out.2.2.2.2.2 x hxm
      have hfx := HH.out.2.2.1 x hxm
      obtain ⟨g, off, k, n, xa, xla, xca, t, xkk, xlk, xkc, rfl, hck, y0, y1, y2, y3, y4, hxA⟩ := (HH.out.1.keep U (fun _ _ h => h)).kid hx
      cases x with
      | mk k' n' al t' ks =>
      obtain ⟨aa, ca', bk, bc, e, hAl, hKs⟩ := TreeAt.forest hxA
      simp at e
      obtain ⟨rfl, rfl, ⟨rfl, rfl, rfl⟩, rfl, rfl, rfl, rfl⟩ := e
      have hsum := weightL_at hx
      have hle := weightL_le (f := f) (i := i + 1)
      rw [weight] at hsum
      have hw := HH.out.2.2.2.1
      have hsr := HJ.out.2.2
      have hal : al.length ≤ 1152921504606846976 := by omega
      have hs1 : s ≤ 1152921504606846976 := by omega
      have hall : (al.length : Int) ≤ 1152921504606846976 := by omega
      have hsl : (s : Int) ≤ 1152921504606846976 := by omega
      have HX := Lib.hid (And.intro hx (And.intro hi (And.intro hsum (And.intro hle (And.intro hsr hfx)))))
      clear hx hi hxm U hxA hAl hsum hle hw hsr hfx hal hs1
      by_cases hk : k = 1
      · subst hk
        have hfx := HX.out.2.2.2.2.2
        have hwk : weightL ks ≤ 1152921504606846976 := by
          have h1 := HX.out.2.2.1
          have h2 := HX.out.2.2.2.1
          have h3 := HH.out.2.2.2.1
          simp only [if_true] at h1
          omega
        have C := IH xkk xkc wr hKs hfx.small.2.2.2.2 (fun y hy => hfx.kid y hy) hwk
        have C : Calls Tryd.prog 15 #[.slice xkk ks.length xkc] wr fun e w' => e = .returned (.int .i64 (weightL ks : Nat)) ∧ Below wr.heap.size wr w' := C
        obtain ⟨r2, hr2⟩ : ∃ r2, r2 = weightL ks := ⟨_, rfl⟩
        rw [← hr2] at C hwk
        have hr2l : (r2 : Int) ≤ 1152921504606846976 := by omega
        have HC := Lib.hid (And.intro C hr2)
        clear C hr2 hwk IH hKs hfx
        go_wp2_with fail
        refine HC.out.1.mono ?_
        rintro e w2 ⟨rfl, B2⟩
        have H2 := Lib.hid B2
        clear B2
        go_wp2
        go_roundg (f.length - (i + 1))
        case measure => have := HJ.out; have := HX.out; omega
        case rel =>
          have h1 := HX.out.2.2.1
          simp only [if_true] at h1
          rw [← HC.out.2] at h1
          refine ⟨i + 1, s + 1 + al.length + r2, ?_, v64s HX.out.2.1 (by have := HH.out; omega), Lib.hid ⟨rfl, HX.out.2.1, by rw [h1, ← HX.out.2.2.2.2.1]; omega⟩, Lib.hid (below_tr HB.out H2.out)⟩
          congr 1
      · have hkb : (k == 1) = false := beq_eq_false_iff_ne.2 hk
        have HK := Lib.hid hk
        clear hk IH hKs
        go_wp2
        go_roundg (f.length - (i + 1))
        case measure => have := HJ.out; have := HX.out; omega
        case rel =>
          have h1 := HX.out.2.2.1
          rw [if_neg HK.out] at h1
          refine ⟨i + 1, s + 1 + al.length, ?_, v64s HX.out.2.1 (by have := HH.out; omega), Lib.hid ⟨rfl, HX.out.2.1, by rw [h1, ← HX.out.2.2.2.2.1]; omega⟩, HB⟩
          congr 1
    · have hi1 : ¬ (i : Int) < (f.length : Int) := by omega
      have hi2 : decide (i < f.length) = false := decide_eq_false hi
      have ei : i = f.length := by have := HJ.out; omega
      have HE := Lib.hid ei
      clear hi ei
      go_wp2
      go_ret
      refine ⟨ret_int ?_, HB.out⟩
      rw [HJ.out.2.2, HE.out, List.take_length, HH.out.2.2.2.2.1]

theorem weight_kids (P : Nat → Prop) : ∀ t : T, ∀ (ak : Option Addr) (ck : Nat) (w : World), Forest w P t.kids ak ck → t.kids.length * 88 ≤ 140737488351232 → (∀ y ∈ t.kids, Fits y) → weightL t.kids ≤ 1152921504606846976 → Calls Tryd.prog 15 #[.slice ak t.kids.length ck] w fun e w' => e = .returned (.int .i64 (weightL t.kids : Nat)) ∧ Below w.heap.size w w' := by
  refine T.ind ?_
  intro k n al t ks ih ak ck w h1 h2 h3 h4
  exact weight_step P ks ih ak ck w h1 h2 h3 h4
theorem weight_any (P : Nat → Prop) (f : List T) (ak : Option Addr) (ck : Nat) (w : World) (hf : Forest w P f ak ck) (lf : f.length * 88 ≤ 140737488351232) (ff : ∀ x ∈ f, Fits x) (hw : weightL f ≤ 1152921504606846976) : Calls Tryd.prog 15 #[.slice ak f.length ck] w fun e w' => e = .returned (.int .i64 (weightL f : Nat)) ∧ Below w.heap.size w w' :=
  weight_step P f (fun x _ => weight_kids P x) ak ck w hf lf ff hw

/-- No forest that fits weighs more than its nodes let it. -/
theorem weight_size : ∀ t : T, Fits t → weight t ≤ T.size t * 4398046511104 := by
  refine T.ind ?_
  intro k n al t ks ih hF
  have hal := hF.small.2.2.2.1
  rw [weight, T.size]
  have key : ∀ (r : List T), (∀ x ∈ r, x ∈ ks) → weightL r ≤ T.sizeL r * 4398046511104 := by
    intro r
    induction r with
    | nil => intro _; simp [weightL]
    | cons x r ihr =>
      intro hr
      rw [weightL, T.sizeL]
      have h1 := ih x (hr x (by simp)) (hF.kid x (hr x (by simp)))
      have h2 := ihr (fun y hy => hr y (by simp [hy]))
      omega
  have h := key ks (fun _ h => h)
  split
  · omega
  · omega
theorem weightL_size : ∀ f : List T, (∀ x ∈ f, Fits x) → weightL f ≤ T.sizeL f * 4398046511104
  | [], _ => by simp [weightL]
  | x :: f, h => by
    rw [weightL, T.sizeL]
    have h1 := weight_size x (h x (by simp))
    have h2 := weightL_size f (fun y hy => h y (by simp [hy]))
    omega

end Df
end Go.Proofs.YtmmjmfadipmfiaaDoor
