/- Trees in what their kinds use: normal forms; the document's Same is equality of them. No program. -/
import Derived.Test.YtemmkobgpciflaaDoorSame3
import Derived.Test.YtemmkobgpciflaaDoorEqG
namespace Go.Proofs.YtemmkobgpciflaaDoor
namespace Df

mutual
/-- A tree in what its kind uses. -/
def norm : T → T
  | .mk k n al t ks => if k = 2 then .mk 2 ⟨#[]⟩ [] t [] else .mk k n al ⟨#[]⟩ (normL ks)
def normL : List T → List T
  | [] => []
  | x :: r => norm x :: normL r
end
theorem normL_map : ∀ l : List T, normL l = l.map norm
  | [] => by rw [normL]; rfl
  | x :: r => by rw [normL, normL_map r]; rfl

theorem same3_norm : ∀ a b : T, same3 a b = true ↔ norm a = norm b := by
  refine T.ind ?_
  intro k n al t ks ih b
  cases b with
  | mk k' n' al' t' ks' =>
  have key : ∀ (r : List T), (∀ x ∈ r, x ∈ ks) → ∀ l, same3L r l = true ↔ normL r = normL l := by
    intro r
    induction r with
    | nil =>
      intro _ l
      cases l with
      | nil => simp [same3L, normL]
      | cons y l => simp [same3L, normL]
    | cons x r ihr =>
      intro hr l
      cases l with
      | nil => simp [same3L, normL]
      | cons y l =>
        rw [same3L, normL, normL]
        simp only [Bool.and_eq_true, ih x (hr x (by simp)) y, ihr (fun z hz => hr z (by simp [hz])) l, List.cons.injEq]
  have hk := key ks (fun _ h => h) ks'
  by_cases e : k = k'
  · subst e
    by_cases h2 : k = 2
    · subst h2
      rw [same3_text (a := .mk 2 n al t ks) (b := .mk 2 n' al' t' ks') rfl rfl, norm, norm, if_pos rfl, if_pos rfl]
      show (t == t') = true ↔ _
      simp
    · rw [same3_rest (a := .mk k n al t ks) (b := .mk k n' al' t' ks') rfl h2, norm, norm, if_neg h2, if_neg h2]
      show ((n == n' && al == al') && same3L ks ks') = true ↔ _
      simp only [Bool.and_eq_true, beq_iff_eq, hk, T.mk.injEq, true_and]
      constructor
      · rintro ⟨⟨h1, h2⟩, h3⟩; exact ⟨h1, h2, h3⟩
      · rintro ⟨h1, h2, h3⟩; exact ⟨⟨h1, h2⟩, h3⟩
  · rw [same3_kind (a := .mk k n al t ks) (b := .mk k' n' al' t' ks') e]
    constructor
    · intro h; cases h
    · intro h
      rw [norm, norm] at h
      split at h <;> split at h <;> simp at h <;> omega
theorem same3L_norm (a b : List T) : same3L a b = true ↔ normL a = normL b := by
  rw [same3L_iff, normL_map, normL_map]
  constructor
  · rintro ⟨h1, h2⟩
    apply List.ext_getElem?
    intro i
    rw [List.getElem?_map, List.getElem?_map]
    by_cases hi : i < a.length
    · have ha : a[i]? = some a[i] := List.getElem?_eq_getElem hi
      have hb : b[i]? = some (b[i]'(by omega)) := List.getElem?_eq_getElem _
      rw [ha, hb]
      exact congrArg some ((same3_norm _ _).1 (h2 i _ _ ha hb))
    · rw [List.getElem?_eq_none (by omega), List.getElem?_eq_none (by omega)]
  · intro h
    have hl : a.length = b.length := by simpa using congrArg List.length h
    refine ⟨hl, fun i x y hx hy => (same3_norm _ _).2 ?_⟩
    have := congrArg (·[i]?) h
    simp only [List.getElem?_map, hx, hy, Option.map_some] at this
    exact Option.some.inj this

end Df
end Go.Proofs.YtemmkobgpciflaaDoor

namespace Go.Proofs.YtemmkobgpciflaaDoor
open Go.RowKit
open Ch
namespace Df

mutual
/-- Whether two trees are the same, as the document's layer 4 says. -/
def same4 : T → T → Bool
  | .mk k n al t ks, b => decide (k = b.kind) && (if k = 1 then (n == b.name && al == b.atts) && same4L ks b.kids else if k = 2 then t == b.text else true)
def same4L : List T → List T → Bool
  | [], l => l.isEmpty
  | x :: r, l => match l with
    | [] => false
    | y :: l' => same4 x y && same4L r l'
end
theorem same4L_iff : ∀ (a b : List T), same4L a b = true ↔ a.length = b.length ∧ ∀ (i : Nat) (x y : T), a[i]? = some x → b[i]? = some y → same4 x y = true
  | [], b => by
    rw [same4L]
    cases b with
    | nil => simp
    | cons y b => simp
  | x :: a, [] => by simp [same4L]
  | x :: a, y :: b => by
    rw [same4L]
    simp only [Bool.and_eq_true, same4L_iff a b, List.length_cons]
    constructor
    · rintro ⟨h1, h2, h3⟩
      refine ⟨by omega, fun i u v hu hv => ?_⟩
      cases i with
      | zero => simp at hu hv; rw [← hu, ← hv]; exact h1
      | succ i => exact h3 i u v (by simpa using hu) (by simpa using hv)
    · rintro ⟨h1, h2⟩
      exact ⟨h2 0 x y rfl rfl, by omega, fun i u v hu hv => h2 (i + 1) u v (by simpa using hu) (by simpa using hv)⟩
theorem same4_kind {a b : T} (h : a.kind ≠ b.kind) : same4 a b = false := by
  cases a with
  | mk k n al t ks => rw [same4, decide_eq_false (show ¬ k = b.kind from h), Bool.false_and]
theorem same4_elem {a b : T} (h : a.kind = b.kind) (h2 : a.kind = 1) : same4 a b = ((a.name == b.name && a.atts == b.atts) && same4L a.kids b.kids) := by
  cases a with
  | mk k n al t ks =>
    have h2 : k = 1 := h2
    rw [same4, decide_eq_true (show k = b.kind from h), Bool.true_and, if_pos h2]
    rfl
theorem same4_text {a b : T} (h : a.kind = b.kind) (h2 : a.kind = 2) : same4 a b = (a.text == b.text) := by
  cases a with
  | mk k n al t ks =>
    have h2 : k = 2 := h2
    rw [same4, decide_eq_true (show k = b.kind from h), Bool.true_and, if_neg (by omega), if_pos h2]
    rfl
theorem same4_rest {a b : T} (h : a.kind = b.kind) (h1 : a.kind ≠ 1) (h2 : a.kind ≠ 2) : same4 a b = true := by
  cases a with
  | mk k n al t ks =>
    have h2 : k ≠ 2 := h2
    have h1 : k ≠ 1 := h1
    rw [same4, decide_eq_true (show k = b.kind from h), Bool.true_and, if_neg h1, if_neg h2]

mutual
/-- A tree of elements and texts alone, as far as it is looked at. -/
def Kinds : T → Prop
  | .mk k _ _ _ ks => (k = 1 ∧ KindsL ks) ∨ k = 2
def KindsL : List T → Prop
  | [] => True
  | t :: l => Kinds t ∧ KindsL l
end
theorem KindsL.all : ∀ {l : List T}, KindsL l ↔ ∀ x ∈ l, Kinds x
  | [] => by simp [KindsL]
  | t :: l => by rw [KindsL, KindsL.all]; simp

theorem same4_norm : ∀ a b : T, Kinds a → (same4 a b = true ↔ norm a = norm b) := by
  refine T.ind ?_
  intro k n al t ks ih b hK
  cases b with
  | mk k' n' al' t' ks' =>
  rw [Kinds] at hK
  by_cases e : k = k'
  · subst e
    rcases hK with ⟨h1, hK⟩ | h2
    · subst h1
      have key : ∀ (r : List T), (∀ x ∈ r, x ∈ ks) → ∀ l, same4L r l = true ↔ normL r = normL l := by
        intro r
        induction r with
        | nil =>
          intro _ l
          cases l with
          | nil => simp [same4L, normL]
          | cons y l => simp [same4L, normL]
        | cons x r ihr =>
          intro hr l
          cases l with
          | nil => simp [same4L, normL]
          | cons y l =>
            rw [same4L, normL, normL]
            simp only [Bool.and_eq_true, ih x (hr x (by simp)) y (KindsL.all.1 hK x (hr x (by simp))), ihr (fun z hz => hr z (by simp [hz])) l, List.cons.injEq]
      have hk := key ks (fun _ h => h) ks'
      rw [same4_elem (a := .mk 1 n al t ks) (b := .mk 1 n' al' t' ks') rfl rfl, norm, norm, if_neg (by omega), if_neg (by omega)]
      show ((n == n' && al == al') && same4L ks ks') = true ↔ _
      simp only [Bool.and_eq_true, beq_iff_eq, hk, T.mk.injEq, true_and]
      constructor
      · rintro ⟨⟨h1, h2⟩, h3⟩; exact ⟨h1, h2, h3⟩
      · rintro ⟨h1, h2, h3⟩; exact ⟨⟨h1, h2⟩, h3⟩
    · subst h2
      rw [same4_text (a := .mk 2 n al t ks) (b := .mk 2 n' al' t' ks') rfl rfl, norm, norm, if_pos rfl, if_pos rfl]
      show (t == t') = true ↔ _
      simp
  · rw [same4_kind (a := .mk k n al t ks) (b := .mk k' n' al' t' ks') e]
    constructor
    · intro h; cases h
    · intro h
      rw [norm, norm] at h
      split at h <;> split at h <;> simp at h <;> omega
theorem same4L_norm (a b : List T) (hK : KindsL a) : same4L a b = true ↔ normL a = normL b := by
  rw [same4L_iff, normL_map, normL_map]
  have hK := KindsL.all.1 hK
  constructor
  · rintro ⟨h1, h2⟩
    apply List.ext_getElem?
    intro i
    rw [List.getElem?_map, List.getElem?_map]
    by_cases hi : i < a.length
    · have ha : a[i]? = some a[i] := List.getElem?_eq_getElem hi
      have hb : b[i]? = some (b[i]'(by omega)) := List.getElem?_eq_getElem _
      rw [ha, hb]
      exact congrArg some ((same4_norm _ _ (hK _ (List.mem_of_getElem? ha))).1 (h2 i _ _ ha hb))
    · rw [List.getElem?_eq_none (by omega), List.getElem?_eq_none (by omega)]
  · intro h
    have hl : a.length = b.length := by simpa using congrArg List.length h
    refine ⟨hl, fun i x y hx hy => (same4_norm _ _ (hK _ (List.mem_of_getElem? hx))).2 ?_⟩
    have := congrArg (·[i]?) h
    simp only [List.getElem?_map, hx, hy, Option.map_some] at this
    exact Option.some.inj this

theorem chk_kinds : ∀ t deep m, chk t deep m = 0 → Kinds t := by
  refine T.ind ?_
  intro k n al t ks ih deep m h
  rw [chk] at h
  rw [Kinds]
  split at h
  · cases h
  · split at h
    · rename_i h2; exact absurd h h2
    · rename_i h2
      rcases own_kind (by simpa using h2) with h3 | h3
      · left
        rw [if_pos h3] at h
        refine ⟨h3, ?_⟩
        have key : ∀ (r : List T), (∀ x ∈ r, x ∈ ks) → ∀ m', chkL r (deep + 1) m' = 0 → KindsL r := by
          intro r
          induction r with
          | nil => intro _ m' _; simp [KindsL]
          | cons x r ihr =>
            intro hr m' h
            rw [chkL] at h
            split at h
            · rename_i h4; exact absurd h h4
            · rename_i h4
              rw [KindsL]
              exact ⟨ih x (hr x (by simp)) _ m' (by simpa using h4), ihr (fun y hy => hr y (by simp [hy])) _ h⟩
        exact key ks (fun _ h => h) _ h
      · right; exact h3

theorem text_eq {a b : ByteArray} : (a.toList == b.toList) = (a == b) := by
  by_cases h : a = b
  · subst h; simp
  · rw [beq_eq_false_iff_ne.2 h, beq_eq_false_iff_ne.2 (fun e => h (toList_inj'.1 e))]

def nodeCells (k : Int) (n : ByteArray) (a : Option Addr) (l c : Nat) (t : ByteArray) (q : Option Addr) (ql qc : Nat) : List Value := [.int .i64 k, .string n, .slice a l c, .string t, .slice q ql qc]

set_option maxRecDepth 100000 in
set_option maxHeartbeats 4000000 in
theorem s4_step (P : Nat → Prop) (f : List T) (ih : ∀ x ∈ f, ∀ (l : List T) (ak bk : Option Addr) (ck dk : Nat) (w : World), Forest w P x.kids ak ck → Forest w P l bk dk → (∀ y ∈ x.kids, Fits y) → x.kids.length * 88 ≤ 140737488351232 → Calls Tryd.prog 21 #[.slice ak x.kids.length ck, .slice bk l.length dk] w (SPost w (same4L x.kids l)))
    (g : List T) (ak bk : Option Addr) (ck dk : Nat) (w : World) (hf : Forest w P f ak ck) (hg : Forest w P g bk dk) (ff : ∀ x ∈ f, Fits x) (lf : f.length * 88 ≤ 140737488351232) : Calls Tryd.prog 21 #[.slice ak f.length ck, .slice bk g.length dk] w (SPost w (same4L f g)) := by
  obtain ⟨r, hr⟩ : ∃ r, r = same4L f g := ⟨_, rfl⟩
  rw [← hr]
  have HH := Lib.hid (And.intro hf (And.intro hg (And.intro ff (And.intro lf (And.intro hr ih)))))
  clear hf hg ff lf ih hr
  by_cases hl : f.length = g.length
  · obtain ⟨m, hm⟩ : ∃ m, m = g.length := ⟨_, rfl⟩
    have HL := Lib.hid (And.intro hl hm)
    rw [← hm] at hl ⊢
    rw [hl]
    clear hl hm
    go_enter Tryd.func21, Tryd.ntmps21
    go_wp2
    go_loopg [5] m (fun kq v5 w' => ∃ i : Nat, v5 = .int .i64 i ∧ Hid (kq = m - i ∧ i ≤ m ∧ ∀ (j : Nat) (x y : T), j < i → f[j]? = some x → g[j]? = some y → same4 x y = true) ∧ Hid (Below w.heap.size w w'))
    case atStart => exact ⟨0, rfl, Lib.hid ⟨rfl, Nat.zero_le _, fun j _ _ hj => by omega⟩, Lib.hid (Below.refl _ _)⟩
    case round =>
      obtain ⟨i, rfl, HJ, HB⟩ := hrel
      have hi0 : (0 : Int) ≤ (i : Int) := by omega
      by_cases hi : i < m
      · have hi1 : (i : Int) < (m : Int) := by omega
        have hi2 : decide (i < m) = true := decide_eq_true hi
        obtain ⟨x, hx⟩ : ∃ x, f[i]? = some x := ⟨f[i]'(by have := HL.out; omega), List.getElem?_eq_getElem _⟩
        obtain ⟨y, hy⟩ : ∃ y, g[i]? = some y := ⟨g[i]'(by have := HL.out; omega), List.getElem?_eq_getElem _⟩
        have U := Upd.ofBelow (F := fun _ => False) HB.out
        obtain ⟨g1, o1, k1, n1, a1, l1, c1, t1, q1, ql1, r1, rfl, hc1, v0, v1, v2, v3, v4, xT⟩ := (HH.out.1.keep U (fun _ _ h => h)).kid hx
        obtain ⟨g2, o2, k2, n2, a2, l2, c2, t2, q2, ql2, r2, rfl, hc2, u0, u1, u2, u3, u4, yT⟩ := (HH.out.2.1.keep U (fun _ _ h => h)).kid hy
        have hca : m ≤ ck := by have := HL.out; omega
        have hcb : m ≤ dk := by have := HL.out; omega
        obtain ⟨s, hs⟩ : ∃ s, s = same4 x y := ⟨_, rfl⟩
        have IH := HH.out.2.2.2.2.2 x (List.mem_of_getElem? hx)
        have fx := HH.out.2.2.1 x (List.mem_of_getElem? hx)
        have hnext : s = true → ∀ (j : Nat) (x' y' : T), j < i + 1 → f[j]? = some x' → g[j]? = some y' → same4 x' y' = true := by
          intro hs1 j x' y' hj h1 h2
          by_cases ej : j < i
          · exact HJ.out.2.2 j x' y' ej h1 h2
          · obtain rfl : j = i := by omega
            rw [hx] at h1
            rw [hy] at h2
            rw [← Option.some.inj h1, ← Option.some.inj h2, ← hs]
            exact hs1
        have hstop : s = false → r = false := by
          intro hs0
          rw [HH.out.2.2.2.2.1]
          cases h : same4L f g with
          | true =>
            have := ((same4L_iff f g).1 h).2 i x y hx hy
            rw [← hs, hs0] at this
            cases this
          | false => rfl
        cases x with
        | mk k1' n1' al1 t1' ks1 =>
        cases y with
        | mk k2' n2' al2 t2' ks2 =>
        obtain ⟨aa1, xa1, kk1, xk1, e, hAl, hAk⟩ := TreeAt.forest xT
        simp at e
        obtain ⟨rfl, rfl, ⟨rfl, rfl, rfl⟩, rfl, rfl, rfl, rfl⟩ := e
        obtain ⟨aa2, xa2, kk2, xk2, e, hBl, hBk⟩ := TreeAt.forest yT
        simp at e
        obtain ⟨rfl, rfl, ⟨rfl, rfl, rfl⟩, rfl, rfl, rfl, rfl⟩ := e
        have HX := Lib.hid (And.intro hi (And.intro hnext (And.intro hstop (And.intro hs (And.intro fx (And.intro IH (And.intro hAl (And.intro hAk (And.intro hBl hBk)))))))))
        clear hx hy hi hs hc1 hc2 U xT yT fx IH hnext hstop hAl hAk hBl hBk
        obtain ⟨W2, hW2⟩ : ∃ W2, W2 = wr := ⟨_, rfl⟩
        obtain ⟨SP, hSP⟩ : ∃ SP : World → Prop, ∀ w' : World, SP w' ↔ ((w'.cell? ⟨g1, o1 + i * 5, none⟩ = some (.int .i64 k1) ∧ w'.cell? ⟨g1, o1 + i * 5 + 1, none⟩ = some (.string n1) ∧ w'.cell? ⟨g1, o1 + i * 5 + 2, none⟩ = some (.slice a1 al1.length c1) ∧ w'.cell? ⟨g1, o1 + i * 5 + 3, none⟩ = some (.string t1) ∧ w'.cell? ⟨g1, o1 + i * 5 + 4, none⟩ = some (.slice q1 ks1.length r1)) ∧ w'.cell? ⟨g2, o2 + i * 5, none⟩ = some (.int .i64 k2) ∧ w'.cell? ⟨g2, o2 + i * 5 + 1, none⟩ = some (.string n2) ∧ w'.cell? ⟨g2, o2 + i * 5 + 2, none⟩ = some (.slice a2 al2.length c2) ∧ w'.cell? ⟨g2, o2 + i * 5 + 3, none⟩ = some (.string t2) ∧ w'.cell? ⟨g2, o2 + i * 5 + 4, none⟩ = some (.slice q2 ks2.length r2)) := ⟨fun w' => (w'.cell? ⟨g1, o1 + i * 5, none⟩ = some (.int .i64 k1) ∧ w'.cell? ⟨g1, o1 + i * 5 + 1, none⟩ = some (.string n1) ∧ w'.cell? ⟨g1, o1 + i * 5 + 2, none⟩ = some (.slice a1 al1.length c1) ∧ w'.cell? ⟨g1, o1 + i * 5 + 3, none⟩ = some (.string t1) ∧ w'.cell? ⟨g1, o1 + i * 5 + 4, none⟩ = some (.slice q1 ks1.length r1)) ∧ w'.cell? ⟨g2, o2 + i * 5, none⟩ = some (.int .i64 k2) ∧ w'.cell? ⟨g2, o2 + i * 5 + 1, none⟩ = some (.string n2) ∧ w'.cell? ⟨g2, o2 + i * 5 + 2, none⟩ = some (.slice a2 al2.length c2) ∧ w'.cell? ⟨g2, o2 + i * 5 + 3, none⟩ = some (.string t2) ∧ w'.cell? ⟨g2, o2 + i * 5 + 4, none⟩ = some (.slice q2 ks2.length r2), fun _ => Iff.rfl⟩
        have hSk : ∀ w' : World, Upd W2 w' (fun _ => False) → SP w' := by
          intro w' hU
          rw [hW2] at hU
          have hh : ∀ g j v, wr.cell? ⟨g, j, none⟩ = some v → w'.cell? ⟨g, j, none⟩ = some v := fun g j v h => (hU.cell (p := ⟨g, j, none⟩) (cell_lt0 h) (fun h => h)).trans h
          exact (hSP _).2 ⟨⟨hh _ _ _ v0, hh _ _ _ v1, hh _ _ _ v2, hh _ _ _ v3, hh _ _ _ v4⟩, hh _ _ _ u0, hh _ _ _ u1, hh _ _ _ u2, hh _ _ _ u3, hh _ _ _ u4⟩
        have hS0 := hSk W2.drew (Upd.refl W2 _).drew
        have HS := Lib.hid hSk
        have HSP := Lib.hid hSP
        clear hSk hSP v0 v1 v2 v3 v4 u0 u1 u2 u3 u4
        go_wp2
        rw [← hW2] at HB HX ⊢
        clear hW2
        apply wp_regG SP [0, 1, 2, 3, 4, 5, 6, 7] [] 8 9 [10, 11] [] rfl rfl (by kernel_rfl) (by kernel_rfl) (fun _ _ d _ _ h => by cases d <;> exact h)
          (fun (r s : Nat) (w' : World) => Hid (W2.heap.size ≤ r ∧ W2.heap.size ≤ s ∧ r ≠ s ∧ Blk w' r [.int .i64 0, .string ⟨#[]⟩, .slice none 0 0, .string ⟨#[]⟩, .slice none 0 0] 25 ∧ Blk w' s [.int .i64 0, .string ⟨#[]⟩, .slice none 0 0, .string ⟨#[]⟩, .slice none 0 0] 25 ∧ Upd W2 w' (fun _ => False))) _ _ hS0
        · iterate 8 (apply reads_consL rfl rfl; (· intro w0 hS; have hS := (HSP.out w0).1 hS; obtain ⟨⟨hx0, hx1, hx2, hx3, hx4⟩, hy0, hy1, hy2, hy3, hy4⟩ := hS; go_simp; try rfl); simp only [Act.put, List.setIfInBounds_toArray, List.set_cons_zero, List.set_cons_succ])
          exact rfl
        · have V0 : Upd W2 W2.drew (fun _ => False) := (Upd.refl W2 _).drew
          generalize W2.drew = W3 at V0 ⊢
          constructor
          · obtain ⟨r, hr⟩ : ∃ r, r = W3.heap.size := ⟨_, rfl⟩
            have Hr := Lib.hid hr
            have HV0 := Lib.hid V0
            clear V0
            go_wp2_with fail
            rw [← hr]
            generalize hW : World.alloc W3 _ = W4
            have V4 : Upd W2 W4 (fun _ => False) := by rw [← hW]; exact HV0.out.alloc _
            have R4 : Blk W4 r [.int .i64 0, .string ⟨#[]⟩, .slice none 0 0, .string ⟨#[]⟩, .slice none 0 0] 25 := by rw [← hW]; exact Blk.new' hr
            have HV4 := Lib.hid (And.intro V4 R4)
            have S4 := HS.out _ V4
            clear hW hr V4 R4
            refine ⟨S4, ?_⟩
            clear S4
            obtain ⟨s', hs⟩ : ∃ r, r = W4.heap.size := ⟨_, rfl⟩
            have Hs := Lib.hid hs
            go_wp2_with fail
            rw [← hs]
            generalize hW : World.alloc W4 _ = W5
            have V5 : Upd W2 W5 (fun _ => False) := by rw [← hW]; exact HV4.out.1.alloc _
            have R5 : Blk W5 r [.int .i64 0, .string ⟨#[]⟩, .slice none 0 0, .string ⟨#[]⟩, .slice none 0 0] 25 := by rw [← hW]; exact HV4.out.2.alloc _
            have Q5 : Blk W5 s' [.int .i64 0, .string ⟨#[]⟩, .slice none 0 0, .string ⟨#[]⟩, .slice none 0 0] 25 := by rw [← hW]; exact Blk.new' hs
            have l1 := HV4.out.2.lt
            have l2 := HV0.out.size
            have l3 := HV4.out.1.size
            have e1 := Hr.out
            have e2 := Hs.out
            exact ⟨HS.out _ V5, r, s', rfl, Lib.hid ⟨by omega, by omega, by omega, R5, Q5, V5⟩⟩
          · obtain ⟨s', hr⟩ : ∃ r, r = W3.heap.size := ⟨_, rfl⟩
            have Hr := Lib.hid hr
            have HV0 := Lib.hid V0
            clear V0
            go_wp2_with fail
            rw [← hr]
            generalize hW : World.alloc W3 _ = W4
            have V4 : Upd W2 W4 (fun _ => False) := by rw [← hW]; exact HV0.out.alloc _
            have R4 : Blk W4 s' [.int .i64 0, .string ⟨#[]⟩, .slice none 0 0, .string ⟨#[]⟩, .slice none 0 0] 25 := by rw [← hW]; exact Blk.new' hr
            have HV4 := Lib.hid (And.intro V4 R4)
            have S4 := HS.out _ V4
            clear hW hr V4 R4
            refine ⟨S4, ?_⟩
            clear S4
            obtain ⟨r, hs⟩ : ∃ r, r = W4.heap.size := ⟨_, rfl⟩
            have Hs := Lib.hid hs
            go_wp2_with fail
            rw [← hs]
            generalize hW : World.alloc W4 _ = W5
            have V5 : Upd W2 W5 (fun _ => False) := by rw [← hW]; exact HV4.out.1.alloc _
            have R5 : Blk W5 s' [.int .i64 0, .string ⟨#[]⟩, .slice none 0 0, .string ⟨#[]⟩, .slice none 0 0] 25 := by rw [← hW]; exact HV4.out.2.alloc _
            have Q5 : Blk W5 r [.int .i64 0, .string ⟨#[]⟩, .slice none 0 0, .string ⟨#[]⟩, .slice none 0 0] 25 := by rw [← hW]; exact Blk.new' hs
            have l1 := HV4.out.2.lt
            have l2 := HV0.out.size
            have l3 := HV4.out.1.size
            have e1 := Hr.out
            have e2 := Hs.out
            exact ⟨HS.out _ V5, r, s', rfl, Lib.hid ⟨by omega, by omega, by omega, Q5, R5, V5⟩⟩
        · intro r1' s' w5 hS5 hK
          have z0 := hK.out.2.2.2.1.cell 0
          have z1 := hK.out.2.2.2.1.cell 1
          have z2 := hK.out.2.2.2.1.cell 2
          have z3 := hK.out.2.2.2.1.cell 3
          have z4 := hK.out.2.2.2.1.cell 4
          have e0 := hK.out.2.2.2.1.free 0
          have e1 := hK.out.2.2.2.1.free 1
          have e2 := hK.out.2.2.2.1.free 2
          have e3 := hK.out.2.2.2.1.free 3
          have e4 := hK.out.2.2.2.1.free 4
          simp only [List.getElem?_cons_zero, List.getElem?_cons_succ] at z0 z1 z2 z3 z4
          clear hS5
          refine tail_consL rfl ?_
          go_wp2_with fail
          generalize hW : World.setCell _ _ _ = W6
          have R6 : Blk W6 r1' [.int .i64 k1, .string n1, .slice a1 al1.length c1, .string t1, .slice q1 ks1.length r1] 25 := by rw [← hW]; exact ((((hK.out.2.2.2.1.set 0 _).set 1 _).set 2 _).set 3 _).set 4 _
          have Q6 : Blk W6 s' [.int .i64 0, .string ⟨#[]⟩, .slice none 0 0, .string ⟨#[]⟩, .slice none 0 0] 25 := by rw [← hW]; exact ((((hK.out.2.2.2.2.1.far ⟨r1', 0, none⟩ _ hK.out.2.2.1.symm).far ⟨r1', 1, none⟩ _ hK.out.2.2.1.symm).far ⟨r1', 2, none⟩ _ hK.out.2.2.1.symm).far ⟨r1', 3, none⟩ _ hK.out.2.2.1.symm).far ⟨r1', 4, none⟩ _ hK.out.2.2.1.symm
          have hrr : ∀ (q : Addr), q.block = r1' → q.block < W2.heap.size → False := fun q e h => by have := hK.out.1; omega
          have V6 : Upd W2 W6 (fun _ => False) := by rw [← hW]; exact ((((hK.out.2.2.2.2.2.set ⟨r1', 0, none⟩ _ (hrr _ rfl)).set ⟨r1', 1, none⟩ _ (hrr _ rfl)).set ⟨r1', 2, none⟩ _ (hrr _ rfl)).set ⟨r1', 3, none⟩ _ (hrr _ rfl)).set ⟨r1', 4, none⟩ _ (hrr _ rfl)
          have HK6 := Lib.hid (And.intro R6 (And.intro Q6 V6))
          clear hW z0 z1 z2 z3 z4 e0 e1 e2 e3 e4 hrr
          have S6 := HS.out _ V6
          have z0 := Q6.cell 0
          have z1 := Q6.cell 1
          have z2 := Q6.cell 2
          have z3 := Q6.cell 3
          have z4 := Q6.cell 4
          have e0 := Q6.free 0
          have e1 := Q6.free 1
          have e2 := Q6.free 2
          have e3 := Q6.free 3
          have e4 := Q6.free 4
          simp only [List.getElem?_cons_zero, List.getElem?_cons_succ] at z0 z1 z2 z3 z4
          clear R6 Q6 V6
          refine ⟨S6, tail_consL rfl ?_⟩
          clear S6
          go_wp2_with fail
          generalize hW : World.setCell _ _ _ = W7
          have hss : ∀ (q : Addr), q.block = s' → q.block < W2.heap.size → False := fun q e h => by have := hK.out.2.1; omega
          have hne := hK.out.2.2.1
          have Q7 : Blk W7 s' [.int .i64 k2, .string n2, .slice a2 al2.length c2, .string t2, .slice q2 ks2.length r2] 25 := by rw [← hW]; exact ((((HK6.out.2.1.set 0 _).set 1 _).set 2 _).set 3 _).set 4 _
          have R7 : Blk W7 r1' [.int .i64 k1, .string n1, .slice a1 al1.length c1, .string t1, .slice q1 ks1.length r1] 25 := by rw [← hW]; exact ((((HK6.out.1.far ⟨s', 0, none⟩ _ hne).far ⟨s', 1, none⟩ _ hne).far ⟨s', 2, none⟩ _ hne).far ⟨s', 3, none⟩ _ hne).far ⟨s', 4, none⟩ _ hne
          have V7 : Upd W2 W7 (fun _ => False) := by rw [← hW]; exact ((((HK6.out.2.2.set ⟨s', 0, none⟩ _ (hss _ rfl)).set ⟨s', 1, none⟩ _ (hss _ rfl)).set ⟨s', 2, none⟩ _ (hss _ rfl)).set ⟨s', 3, none⟩ _ (hss _ rfl)).set ⟨s', 4, none⟩ _ (hss _ rfl)
          have HW := Lib.hid (And.intro R7 (And.intro Q7 (And.intro V7 (V7.below (Nat.le_refl _) (fun _ _ h => h)))))
          clear hW hss hne z0 z1 z2 z3 z4 e0 e1 e2 e3 e4
          have x0 := R7.cell 0
          have x1 := R7.cell 1
          have x2 := R7.cell 2
          have x3 := R7.cell 3
          have x4 := R7.cell 4
          have y0 := Q7.cell 0
          have y1 := Q7.cell 1
          have y2 := Q7.cell 2
          have y3 := Q7.cell 3
          have y4 := Q7.cell 4
          simp only [List.getElem?_cons_zero, List.getElem?_cons_succ] at x0 x1 x2 x3 x4 y0 y1 y2 y3 y4
          clear R7 Q7 V7
          have BW : Below w.heap.size w W7 := below_tr HB.out HW.out.2.2.2
          have HBW := Lib.hid BW
          clear BW
          refine ⟨HS.out _ HW.out.2.2.1, tail_zero ?_⟩
          by_cases hk : k1 = k2
          · subst hk
            by_cases hk1 : k1 = 1
            · subst hk1
              have hs := HX.out.2.2.2.1.trans (same4_elem rfl rfl)
              by_cases hn : n1 = n2
              · subst hn
                have hs' : s = (al1 == al2 && same4L ks1 ks2) := by rw [hs]; show ((n1 == n1 && al1 == al2) && same4L ks1 ks2) = _; simp
                have C := eqA_any al1 al2 a1 a2 c1 c2 W7 (HX.out.2.2.2.2.2.2.1.1.keep HW.out.2.2.1 (fun _ _ h => h)) (HX.out.2.2.2.2.2.2.2.2.1.1.keep HW.out.2.2.1 (fun _ _ h => h)) HX.out.2.2.2.2.1.small.2.2.2.1
                have HC := Lib.hid (And.intro C hs')
                clear C hs hs'
                go_wp2_with fail
                refine HC.out.1.mono ?_
                rintro e w8 ⟨r3, rfl, h3, b3⟩
                have hal : (al1 == al2) = r3 := by
                  cases r3 with
                  | true => rw [h3.1 rfl]; simp
                  | false =>
                    have : al1 ≠ al2 := fun h => by have := h3.2 h; cases this
                    simp [this]
                have U8 := Upd.ofBelow (F := fun _ => False) b3
                have U28 : Upd W2 w8 (fun _ => False) := HW.out.2.2.1.trans U8 (fun _ _ h => h)
                have X8 := U8.blk HW.out.1 (fun h => h)
                have Y8 := U8.blk HW.out.2.1 (fun h => h)
                have B8 := below_tr HBW.out b3
                clear x0 x1 x2 x3 x4 y0 y1 y2 y3 y4
                cases r3 with
                | false =>
                  have H8 := Lib.hid (And.intro hal B8)
                  clear hal B8 h3 b3 U8 U28 X8 Y8
                  go_wp2
                  go_ret
                  exact ⟨ret_bool (HX.out.2.2.1 (by rw [HC.out.2, H8.out.1]; rfl)).symm, H8.out.2⟩
                | true =>
                  have x4 := X8.cell 4
                  have y4 := Y8.cell 4
                  simp only [List.getElem?_cons_zero, List.getElem?_cons_succ] at x4 y4
                  have CF := HX.out.2.2.2.2.2.1 ks2 q1 q2 r1 r2 w8 (HX.out.2.2.2.2.2.2.2.1.keep U28 (fun _ _ h => h)) (HX.out.2.2.2.2.2.2.2.2.2.keep U28 (fun _ _ h => h)) HX.out.2.2.2.2.1.kid HX.out.2.2.2.2.1.small.2.2.2.2
                  have CF : Calls Tryd.prog 21 #[.slice q1 ks1.length r1, .slice q2 ks2.length r2] w8 (SPost w8 (same4L ks1 ks2)) := CF
                  obtain ⟨r4, hr4⟩ : ∃ r4, r4 = same4L ks1 ks2 := ⟨_, rfl⟩
                  rw [← hr4] at CF
                  have H8 := Lib.hid (And.intro hal (And.intro B8 hr4))
                  have HCF := Lib.hid CF
                  clear hal B8 h3 b3 U8 U28 X8 Y8 CF hr4
                  go_wp2_with fail
                  refine HCF.out.mono ?_
                  rintro e w9 ⟨rfl, b4⟩
                  have H9 := Lib.hid b4
                  clear b4
                  cases r4 with
                  | true =>
                    go_wp2
                    go_roundg (m - (i + 1))
                    case measure => have := HJ.out; have := HX.out; omega
                    case rel => exact ⟨i + 1, v64s HX.out.1 (by have := HL.out; have := HH.out; omega), Lib.hid ⟨rfl, HX.out.1, HX.out.2.1 (by rw [HC.out.2, H8.out.1, ← H8.out.2.2]; rfl)⟩, Lib.hid (below_tr H8.out.2.1 H9.out)⟩
                  | false =>
                    go_wp2
                    go_ret
                    exact ⟨ret_bool (HX.out.2.2.1 (by rw [HC.out.2, H8.out.1, ← H8.out.2.2]; rfl)).symm, below_tr H8.out.2.1 H9.out⟩
              · have hs' : s = false := by rw [hs]; show ((n1 == n2 && al1 == al2) && same4L ks1 ks2) = _; simp [hn]
                have hnl : (n1.toList == n2.toList) = false := by rw [text_eq]; exact beq_eq_false_iff_ne.2 hn
                have hnl' : ¬ n1.toList = n2.toList := fun h => hn (toList_inj'.1 h)
                have HC := Lib.hid (HX.out.2.2.1 hs')
                clear hs hs' hn
                go_wp2
                go_ret
                exact ⟨ret_bool HC.out.symm, HBW.out⟩
            · by_cases hk2 : k1 = 2
              · subst hk2
                have hs := HX.out.2.2.2.1.trans (same4_text rfl rfl)
                have hs : s = (t1 == t2) := hs
                by_cases ht : t1 = t2
                · subst ht
                  have hs' : s = true := by rw [hs]; simp
                  have HC := Lib.hid (HX.out.2.1 hs')
                  clear hs hs'
                  go_wp2
                  go_roundg (m - (i + 1))
                  case measure => have := HJ.out; have := HX.out; omega
                  case rel => exact ⟨i + 1, v64s HX.out.1 (by have := HL.out; have := HH.out; omega), Lib.hid ⟨rfl, HX.out.1, HC.out⟩, HBW⟩
                · have hs' : s = false := by rw [hs]; simp [ht]
                  have hnl : (t1.toList == t2.toList) = false := by rw [text_eq]; exact beq_eq_false_iff_ne.2 ht
                  have hnl' : ¬ t1.toList = t2.toList := fun h => ht (toList_inj'.1 h)
                  have HC := Lib.hid (HX.out.2.2.1 hs')
                  clear hs hs' ht
                  go_wp2
                  go_ret
                  exact ⟨ret_bool HC.out.symm, HBW.out⟩
              · have hs := HX.out.2.2.2.1.trans (same4_rest rfl hk1 hk2)
                have HC := Lib.hid (HX.out.2.1 hs)
                have hkb1 : (k1 == 1) = false := beq_eq_false_iff_ne.2 hk1
                have hkb2 : (k1 == 2) = false := beq_eq_false_iff_ne.2 hk2
                clear hs
                go_wp2
                go_roundg (m - (i + 1))
                case measure => have := HJ.out; have := HX.out; omega
                case rel => exact ⟨i + 1, v64s HX.out.1 (by have := HL.out; have := HH.out; omega), Lib.hid ⟨rfl, HX.out.1, HC.out⟩, HBW⟩
          · have hs := HX.out.2.2.2.1.trans (same4_kind hk)
            have HC := Lib.hid (HX.out.2.2.1 hs)
            have hkb : (k1 == k2) = false := beq_eq_false_iff_ne.2 hk
            have hkb2 : (k1 != k2) = true := by simp [hk]
            clear hs
            go_wp2
            go_ret
            exact ⟨ret_bool HC.out.symm, HBW.out⟩
      · have hi1 : ¬ (i : Int) < (m : Int) := by omega
        have hi2 : decide (i < m) = false := decide_eq_false hi
        have HE := Lib.hid (And.intro hi HJ.out)
        clear hi
        go_wp2
        go_ret
        have h := HE.out
        refine ⟨ret_bool ?_, HB.out⟩
        rw [HH.out.2.2.2.2.1]
        exact ((same4L_iff f g).2 ⟨HL.out.1, fun j x y hx hy => h.2.2.2 j x y (by have := (List.getElem?_eq_some_iff.1 hx).1; have := HL.out; omega) hx hy⟩).symm
  · have hl2 : (f.length : Int) ≠ (g.length : Int) := by omega
    have HL := Lib.hid hl
    clear hl
    go_enter Tryd.func21, Tryd.ntmps21
    go_wp2
    go_ret
    refine ⟨ret_bool ?_, Below.refl _ _⟩
    rw [HH.out.2.2.2.2.1]
    cases h : same4L f g with
    | true => exact absurd ((same4L_iff f g).1 h).1 HL.out
    | false => rfl

theorem s4_kids (P : Nat → Prop) : ∀ x : T, ∀ (l : List T) (ak bk : Option Addr) (ck dk : Nat) (w : World), Forest w P x.kids ak ck → Forest w P l bk dk → (∀ y ∈ x.kids, Fits y) → x.kids.length * 88 ≤ 140737488351232 → Calls Tryd.prog 21 #[.slice ak x.kids.length ck, .slice bk l.length dk] w (SPost w (same4L x.kids l)) := by
  refine T.ind ?_
  intro k n al t ks ih l ak bk ck dk w h1 h2 h3 h4
  exact s4_step P ks ih l ak bk ck dk w h1 h2 h3 h4
theorem s4_any (P : Nat → Prop) (f g : List T) (ak bk : Option Addr) (ck dk : Nat) (w : World) (hf : Forest w P f ak ck) (hg : Forest w P g bk dk) (ff : ∀ x ∈ f, Fits x) (lf : f.length * 88 ≤ 140737488351232) : Calls Tryd.prog 21 #[.slice ak f.length ck, .slice bk g.length dk] w (SPost w (same4L f g)) :=
  s4_step P f (fun x _ => s4_kids P x) g ak bk ck dk w hf hg ff lf

end Df
end Go.Proofs.YtemmkobgpciflaaDoor

namespace Go.Proofs.YtemmkobgpciflaaDoor
open Go.RowKit
open Ch
namespace Df

set_option maxRecDepth 100000 in
set_option maxHeartbeats 4000000 in
theorem ef_step (P : Nat → Prop) (f : List T) (ih : ∀ x ∈ f, ∀ (y : T) (cx cy : List Value) (w : World), TreeAt w P x cx → TreeAt w P y cy → Fits x → Calls Tryd.prog 93 #[.agg cx.toArray, .agg cy.toArray] w (SPost w (same4 x y)))
    (g : List T) (ak bk : Option Addr) (ck dk : Nat) (w : World) (hf : Forest w P f ak ck) (hg : Forest w P g bk dk) (ff : ∀ x ∈ f, Fits x) (lf : f.length * 88 ≤ 140737488351232) : Calls Tryd.prog 92 #[.slice ak f.length ck, .slice bk g.length dk, .func (.func 93) #[] #[]] w (SPost w (same4L f g)) := by
  obtain ⟨r, hr⟩ : ∃ r, r = same4L f g := ⟨_, rfl⟩
  rw [← hr]
  have HH := Lib.hid (And.intro hf (And.intro hg (And.intro ff (And.intro lf (And.intro hr ih)))))
  clear hf hg ff lf ih hr
  by_cases hl : f.length = g.length
  · obtain ⟨m, hm⟩ : ∃ m, m = g.length := ⟨_, rfl⟩
    have HL := Lib.hid (And.intro hl hm)
    rw [← hm] at hl ⊢
    rw [hl]
    clear hl hm
    go_enter Tryd.func92, Tryd.ntmps92
    go_wp2
    go_loopg [17] m (fun kq v5 w' => ∃ i : Nat, v5 = .int .i64 i ∧ Hid (kq = m - i ∧ i ≤ m ∧ ∀ (j : Nat) (x y : T), j < i → f[j]? = some x → g[j]? = some y → same4 x y = true) ∧ Hid (Below w.heap.size w w'))
    case atStart => exact ⟨0, rfl, Lib.hid ⟨rfl, Nat.zero_le _, fun j _ _ hj => by omega⟩, Lib.hid (Below.refl _ _)⟩
    case round =>
      obtain ⟨i, rfl, HJ, HB⟩ := hrel
      have hi0 : (0 : Int) ≤ (i : Int) := by omega
      by_cases hi : i < m
      · have hi1 : (i : Int) < (m : Int) := by omega
        have hi2 : decide (i < m) = true := decide_eq_true hi
        obtain ⟨x, hx⟩ : ∃ x, f[i]? = some x := ⟨f[i]'(by have := HL.out; omega), List.getElem?_eq_getElem _⟩
        obtain ⟨y, hy⟩ : ∃ y, g[i]? = some y := ⟨g[i]'(by have := HL.out; omega), List.getElem?_eq_getElem _⟩
        have U := Upd.ofBelow (F := fun _ => False) HB.out
        obtain ⟨g1, o1, k1, n1, a1, l1, c1, t1, q1, ql1, r1, rfl, hc1, v0, v1, v2, v3, v4, xT⟩ := (HH.out.1.keep U (fun _ _ h => h)).kid hx
        obtain ⟨g2, o2, k2, n2, a2, l2, c2, t2, q2, ql2, r2, rfl, hc2, u0, u1, u2, u3, u4, yT⟩ := (HH.out.2.1.keep U (fun _ _ h => h)).kid hy
        have hca : m ≤ ck := by have := HL.out; omega
        have hcb : m ≤ dk := by have := HL.out; omega
        obtain ⟨s, hs⟩ : ∃ s, s = same4 x y := ⟨_, rfl⟩
        have C := fun w' (hB : Below wr.heap.size wr w') => HH.out.2.2.2.2.2 x (List.mem_of_getElem? hx) y _ _ w' (xT.keep (Upd.ofBelow (F := fun _ => False) hB) (fun _ _ h => h)) (yT.keep (Upd.ofBelow (F := fun _ => False) hB) (fun _ _ h => h)) (HH.out.2.2.1 x (List.mem_of_getElem? hx))
        rw [← hs] at C
        have hcl : ∀ j v, wr.cell? ⟨g2, j, none⟩ = some v → g2 < wr.heap.size := fun j v h => cell_lt0 h
        have hg2 := hcl _ _ u0
        obtain ⟨Bx, hBx⟩ : ∃ o, o = Obj.cells #[Value.int .i64 k1, .string n1, .slice a1 l1 c1, .string t1, .slice q1 ql1 r1] 25 := ⟨_, rfl⟩
        obtain ⟨By, hBy⟩ : ∃ o, o = Obj.cells #[Value.int .i64 k2, .string n2, .slice a2 l2 c2, .string t2, .slice q2 ql2 r2] 25 := ⟨_, rfl⟩
        have B2 : Below wr.heap.size wr ((wr.alloc Bx).alloc By) := below_al (below_al (Below.refl _ _) (Nat.le_refl _) _) (Nat.le_refl _) _
        have C := C _ B2
        have BB := below_tr HB.out B2
        rw [hBx, hBy] at C BB
        have HX := Lib.hid (And.intro hx (And.intro hy (And.intro hi hs)))
        have HC := Lib.hid (And.intro C BB)
        clear hx hy hi hs hc1 hc2 U C xT yT hcl hBx hBy B2 BB
        go_wp2_with fail
        refine HC.out.1.mono ?_
        rintro e w2 ⟨rfl, B2⟩
        have H2 := Lib.hid (below_tr HC.out.2 B2)
        clear B2
        cases s with
        | true =>
          go_wp2
          go_roundg (m - (i + 1))
          case measure => have := HJ.out; have := HX.out; omega
          case rel =>
            refine ⟨i + 1, v64s HX.out.2.2.1 (by have := HL.out; have := HH.out; omega), Lib.hid ⟨rfl, HX.out.2.2.1, fun j x' y' hj h1 h2 => ?_⟩, H2⟩
            by_cases ej : j < i
            · exact HJ.out.2.2 j x' y' ej h1 h2
            · obtain rfl : j = i := by omega
              rw [HX.out.1] at h1
              rw [HX.out.2.1] at h2
              rw [← Option.some.inj h1, ← Option.some.inj h2]
              exact HX.out.2.2.2.symm
        | false =>
          go_wp2
          go_ret
          refine ⟨ret_bool ?_, H2.out⟩
          rw [HH.out.2.2.2.2.1]
          cases h : same4L f g with
          | true =>
            have := ((same4L_iff f g).1 h).2 i x y HX.out.1 HX.out.2.1
            rw [← HX.out.2.2.2] at this
            cases this
          | false => rfl
      · have hi1 : ¬ (i : Int) < (m : Int) := by omega
        have hi2 : decide (i < m) = false := decide_eq_false hi
        have HE := Lib.hid (And.intro hi HJ.out)
        clear hi
        go_wp2
        go_ret
        have h := HE.out
        refine ⟨ret_bool ?_, HB.out⟩
        rw [HH.out.2.2.2.2.1]
        exact ((same4L_iff f g).2 ⟨HL.out.1, fun j x y hx hy => h.2.2.2 j x y (by have := (List.getElem?_eq_some_iff.1 hx).1; have := HL.out; omega) hx hy⟩).symm
  · have hl2 : (f.length : Int) ≠ (g.length : Int) := by omega
    have HL := Lib.hid hl
    clear hl
    go_enter Tryd.func92, Tryd.ntmps92
    go_wp2
    go_ret
    refine ⟨ret_bool ?_, Below.refl _ _⟩
    rw [HH.out.2.2.2.2.1]
    cases h : same4L f g with
    | true => exact absurd ((same4L_iff f g).1 h).1 HL.out
    | false => rfl

set_option maxRecDepth 100000 in
set_option maxHeartbeats 4000000 in
theorem ms_any (P : Nat → Prop) : ∀ (a b : T) (ca cb : List Value) (w : World), TreeAt w P a ca → TreeAt w P b cb → Fits a → Calls Tryd.prog 93 #[.agg ca.toArray, .agg cb.toArray] w (SPost w (same4 a b)) := by
  refine T.ind ?_
  intro k n al t ks ih b ca cb w hA hB fa
  cases b with
  | mk k' n' al' t' ks' =>
  obtain ⟨aa, xa, ak, xk, rfl, hAl, hAk⟩ := TreeAt.forest hA
  obtain ⟨ba, ya, bk, yk, rfl, hBl, hBk⟩ := TreeAt.forest hB
  have hs := fa.small.2.2.2
  have fk := fa.kid
  clear hA hB fa
  obtain ⟨r, hr⟩ : ∃ r, r = same4 (.mk k n al t ks) (.mk k' n' al' t' ks') := ⟨_, rfl⟩
  rw [← hr]
  have B0 : ∀ o o' : Obj, Below w.heap.size w ((w.alloc o).alloc o') := fun o o' => below_al (below_al (Below.refl _ _) (Nat.le_refl _) _) (Nat.le_refl _) _
  by_cases hk : k = k'
  · subst hk
    by_cases h2 : k = 2
    · subst h2
      have hr' : r = (t == t') := hr.trans (same4_text rfl rfl)
      have HC := Lib.hid (And.intro (hr'.trans text_eq.symm) B0)
      clear hr hr' B0 hAl hBl hAk hBk hs fk ih
      go_enter Tryd.func93, Tryd.ntmps93
      go_wp2
      go_ret
      exact ⟨ret_bool HC.out.1.symm, HC.out.2 _ _⟩
    · by_cases h1 : k = 1
      · subst h1
        have hr' : r = ((n == n' && al == al') && same4L ks ks') := hr.trans (same4_elem rfl rfl)
        by_cases hn : n = n'
        · subst hn
          obtain ⟨Bx, hBx⟩ : ∃ o, o = Obj.cells #[Value.int .i64 1, .string n, .slice aa al.length xa, .string t, .slice ak ks.length xk] 25 := ⟨_, rfl⟩
          obtain ⟨By, hBy⟩ : ∃ o, o = Obj.cells #[Value.int .i64 1, .string n, .slice ba al'.length ya, .string t', .slice bk ks'.length yk] 25 := ⟨_, rfl⟩
          have U : Upd w ((w.alloc Bx).alloc By) (fun _ => False) := Upd.ofBelow (B0 _ _)
          have C := eqG_any al al' aa ba xa ya ((w.alloc Bx).alloc By) (hAl.1.keep U (fun _ _ h => h)) (hBl.1.keep U (fun _ _ h => h)) hs.1
          have X1 : Blk ((w.alloc Bx).alloc By) w.heap.size [.int .i64 1, .string n, .slice aa al.length xa, .string t, .slice ak ks.length xk] 25 := by rw [hBx]; exact (Blk.new w _ _).alloc _
          have Y1 : Blk ((w.alloc Bx).alloc By) (w.heap.size + 1) [.int .i64 1, .string n, .slice ba al'.length ya, .string t', .slice bk ks'.length yk] 25 := by rw [hBy]; exact Blk.new' (by simp)
          have BB := B0 Bx By
          rw [hBx, hBy] at C BB X1 Y1
          have HC := Lib.hid (And.intro C (And.intro hr' (And.intro BB (And.intro X1 (And.intro Y1 (And.intro hAk (And.intro hBk (And.intro hs (And.intro fk ih)))))))))
          clear C hr' hr BB U hBx hBy B0 hAl hBl hAk hBk hs X1 Y1 fk ih h2
          go_enter Tryd.func93, Tryd.ntmps93
          go_wp2_with fail
          refine HC.out.1.mono ?_
          rintro e w3 ⟨r3, rfl, h3, b3⟩
          have hal : (al == al') = r3 := by
            cases r3 with
            | true => rw [h3.1 rfl]; simp
            | false =>
              have : al ≠ al' := fun h => by have := h3.2 h; cases this
              simp [this]
          have U3 := Upd.ofBelow (F := fun _ => False) b3
          have BB := below_tr HC.out.2.2.1 b3
          cases r3 with
          | false =>
            have H3 := Lib.hid (And.intro hal BB)
            clear h3 b3 hal U3 BB
            go_wp2
            go_ret
            exact ⟨ret_bool (by rw [HC.out.2.1, H3.out.1]; simp), H3.out.2⟩
          | true =>
            have X3 := U3.blk HC.out.2.2.2.1 (fun h => h)
            have Y3 := U3.blk HC.out.2.2.2.2.1 (fun h => h)
            have x4 := X3.cell 4
            have y4 := Y3.cell 4
            simp only [List.getElem?_cons_zero, List.getElem?_cons_succ] at x4 y4
            have Uw := Upd.ofBelow (F := fun _ => False) BB
            have CF := ef_step P ks (fun x hx => HC.out.2.2.2.2.2.2.2.2.2 x hx) ks' ak bk xk yk w3 (HC.out.2.2.2.2.2.1.keep Uw (fun _ _ h => h)) (HC.out.2.2.2.2.2.2.1.keep Uw (fun _ _ h => h)) HC.out.2.2.2.2.2.2.2.2.1 HC.out.2.2.2.2.2.2.2.1.2
            obtain ⟨r4, hr4⟩ : ∃ r4, r4 = same4L ks ks' := ⟨_, rfl⟩
            rw [← hr4] at CF
            have H3 := Lib.hid (And.intro hal (And.intro BB hr4))
            have HCF := Lib.hid CF
            clear h3 b3 hal U3 BB X3 Y3 Uw CF hr4
            go_wp2_with fail
            refine HCF.out.mono ?_
            rintro e w4 ⟨rfl, b4⟩
            have H4 := Lib.hid b4
            clear b4
            go_wp2
            go_ret
            refine ⟨ret_bool ?_, below_tr H3.out.2.1 H4.out⟩
            rw [HC.out.2.1, H3.out.1, ← H3.out.2.2]
            simp
        · have hr2 : r = false := by rw [hr']; simp [hn]
          have hnl : (n.toList == n'.toList) = false := by
            rw [beq_eq_false_iff_ne]
            exact fun h => hn (toList_inj'.1 h)
          have hnl' : ¬ n.toList = n'.toList := fun h => hn (toList_inj'.1 h)
          have HC := Lib.hid (And.intro hr2 B0)
          clear hr hr' hr2 hn B0 hAl hBl hAk hBk hs fk ih h2
          go_enter Tryd.func93, Tryd.ntmps93
          go_wp2
          go_ret
          exact ⟨ret_bool HC.out.1.symm, HC.out.2 _ _⟩
      · have hr' : r = true := hr.trans (same4_rest rfl h1 h2)
        have hk1 : (k == 1) = false := beq_eq_false_iff_ne.2 h1
        have hk2 : (k == 2) = false := beq_eq_false_iff_ne.2 h2
        have HC := Lib.hid (And.intro hr' B0)
        clear hr hr' B0 hAl hBl hAk hBk hs fk ih
        go_enter Tryd.func93, Tryd.ntmps93
        go_wp2
        go_ret
        exact ⟨ret_bool HC.out.1.symm, HC.out.2 _ _⟩
  · have hr' : r = false := hr.trans (same4_kind hk)
    have hk1 : (k == k') = false := beq_eq_false_iff_ne.2 hk
    have hk2 : (k != k') = true := by simp [hk]
    have HC := Lib.hid (And.intro hr' B0)
    clear hr hr' B0 hAl hBl hAk hBk hs fk ih
    go_enter Tryd.func93, Tryd.ntmps93
    go_wp2
    go_ret
    exact ⟨ret_bool HC.out.1.symm, HC.out.2 _ _⟩

theorem msame_any (P : Nat → Prop) (f g : List T) (ak bk : Option Addr) (ck dk : Nat) (w : World) (hf : Forest w P f ak ck) (hg : Forest w P g bk dk) (ff : ∀ x ∈ f, Fits x) (lf : f.length * 88 ≤ 140737488351232) : Calls Tryd.prog 51 #[.slice ak f.length ck, .slice bk g.length dk] w (SPost w (same4L f g)) := by
  have C := ef_step P f (fun x _ => ms_any P x) g ak bk ck dk w hf hg ff lf
  obtain ⟨r, hr⟩ : ∃ r, r = same4L f g := ⟨_, rfl⟩
  rw [← hr] at C ⊢
  have HC := Lib.hid C
  clear C hf hg ff lf hr
  go_enter Tryd.func51, Tryd.ntmps51
  go_wp2_with fail
  refine HC.out.mono ?_
  rintro e w2 ⟨rfl, B2⟩
  have H2 := Lib.hid B2
  clear B2
  go_wp2
  go_ret
  exact ⟨rfl, H2.out⟩

end Df
end Go.Proofs.YtemmkobgpciflaaDoor
