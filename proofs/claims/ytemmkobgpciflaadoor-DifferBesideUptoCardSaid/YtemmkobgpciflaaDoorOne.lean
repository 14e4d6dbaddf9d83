/- Whether two nodes are the same: the document's one and least, the program's turn. -/
import Derived.Test.YtemmkobgpciflaaDoorPosted
import Derived.Test.YtemmkobgpciflaaDoorEqG
namespace Go.Proofs.YtemmkobgpciflaaDoor
open Go.RowKit
open Ch
namespace Df

instance lawBA : LawfulBEq ByteArray where
  eq_of_beq {a b} h := by
    rw [beq_toListBytes] at h
    exact toList_inj'.1 (eq_of_beq h)
  rfl {a} := by rw [beq_toListBytes]; exact beq_self_eq_true _

theorem least_any (a b : Int) (w : World) : Calls Tryd.prog 98 #[.int .i64 a, .int .i64 b] w fun e w' => e = .returned (.int .i64 (if b < a then b else a)) ∧ w' = w := by
  by_cases h : b < a
  · rw [if_pos h]
    go_enter Tryd.func98, Tryd.ntmps98
    go_wp2
    go_ret
    exact ⟨rfl, rfl⟩
  · rw [if_neg h]
    have h' : decide (b < a) = false := decide_eq_false h
    go_enter Tryd.func98, Tryd.ntmps98
    go_wp2
    go_ret
    exact ⟨rfl, rfl⟩

theorem oneB_kind {a b : T} (h : a.kind ≠ b.kind) : oneB a b = false := by
  unfold oneB
  rw [decide_eq_false h, Bool.false_and]
theorem oneB_text {a b : T} (h : a.kind = b.kind) (h1 : a.kind ≠ 1) : oneB a b = (a.text == b.text) := by
  unfold oneB
  rw [decide_eq_true h, Bool.true_and, if_neg h1]
theorem oneB_name {a b : T} (h : a.kind = b.kind) (h1 : a.kind = 1) : oneB a b = (a.name == b.name && a.atts == b.atts) := by
  unfold oneB
  rw [decide_eq_true h, Bool.true_and, if_pos h1]

set_option maxRecDepth 100000 in
set_option maxHeartbeats 4000000 in
theorem one_any (P : Nat → Prop) (a b : T) (ca cb : List Value) (w : World) (hA : TreeAt w P a ca) (hB : TreeAt w P b cb) (ka : a.kind = 1 ∨ a.kind = 2) (fa : Fits a) :
    Calls Tryd.prog 99 #[.agg ca.toArray, .agg cb.toArray] w fun e w' => e = .returned (.bool (oneB a b)) ∧ Below w.heap.size w w' := by
  cases a with
  | mk k n al t ks =>
  cases b with
  | mk k' n' al' t' ks' =>
  obtain ⟨aa, xa, ak, xk, rfl, hAl, _⟩ := TreeAt.forest hA
  obtain ⟨ba, ya, bk, yk, rfl, hBl, _⟩ := TreeAt.forest hB
  have hs := fa.small.2.2.2.1
  clear hA hB fa
  obtain ⟨r, hr⟩ : ∃ r, r = oneB (.mk k n al t ks) (.mk k' n' al' t' ks') := ⟨_, rfl⟩
  rw [← hr]
  have B0 : ∀ o o' : Obj, Below w.heap.size w ((w.alloc o).alloc o') := fun o o' => below_al (below_al (Below.refl _ _) (Nat.le_refl _) _) (Nat.le_refl _) _
  by_cases hk : k = k'
  · subst hk
    rcases ka with h1 | h2
    · have h1 : k = 1 := h1
      subst h1
      have hr' : r = (n == n' && al == al') := hr.trans (oneB_name rfl rfl)
      by_cases hn : n = n'
      · subst hn
        obtain ⟨Bx, hBx⟩ : ∃ o, o = Obj.cells #[Value.int .i64 1, .string n, .slice aa al.length xa, .string t, .slice ak ks.length xk] 25 := ⟨_, rfl⟩
        obtain ⟨By, hBy⟩ : ∃ o, o = Obj.cells #[Value.int .i64 1, .string n, .slice ba al'.length ya, .string t', .slice bk ks'.length yk] 25 := ⟨_, rfl⟩
        have U : Upd w ((w.alloc Bx).alloc By) (fun _ => False) := Upd.ofBelow (B0 _ _)
        have C := eqA_any al al' aa ba xa ya ((w.alloc Bx).alloc By) (hAl.1.keep U (fun _ _ h => h)) (hBl.1.keep U (fun _ _ h => h)) hs
        have BB := B0 Bx By
        rw [hBx, hBy] at C BB
        have HC := Lib.hid (And.intro C (And.intro hr' BB))
        clear C hr' hr BB U hBx hBy B0 hAl hBl hs
        go_enter Tryd.func99, Tryd.ntmps99
        go_wp2_with fail
        refine HC.out.1.mono ?_
        rintro e w3 ⟨r3, rfl, h3, b3⟩
        have h3' : r = r3 := by
          rw [HC.out.2.1]
          cases r3 with
          | true => rw [h3.1 rfl]; simp
          | false =>
            have : al ≠ al' := fun h => by have := h3.2 h; cases this
            simp [this]
        have H3 := Lib.hid (And.intro h3' b3)
        clear h3 h3' b3
        go_wp2
        go_ret
        exact ⟨ret_bool H3.out.1.symm, below_tr HC.out.2.2 H3.out.2⟩
      · have hr2 : r = false := by rw [hr']; simp [hn]
        have hnl : (n.toList == n'.toList) = false := by
          rw [beq_eq_false_iff_ne]
          exact fun h => hn (toList_inj'.1 h)
        have hnl' : ¬ n.toList = n'.toList := fun h => hn (toList_inj'.1 h)
        have HC := Lib.hid (And.intro hr2 B0)
        clear hr hr' hr2 hn B0 hAl hBl hs
        go_enter Tryd.func99, Tryd.ntmps99
        go_wp2
        go_ret
        exact ⟨ret_bool HC.out.1.symm, HC.out.2 _ _⟩
    · have h2 : k = 2 := h2
      subst h2
      have hr' : r = (t == t') := hr.trans (oneB_text rfl (show (2 : Int) ≠ 1 by decide))
      obtain ⟨q, hq⟩ : ∃ q, q = (t.toList == t'.toList) := ⟨_, rfl⟩
      have hqr : r = q := by
        rw [hr', hq]
        by_cases ht : t = t'
        · subst ht; simp
        · rw [beq_eq_false_iff_ne.2 ht, beq_eq_false_iff_ne.2 (fun h => ht (toList_inj'.1 h))]
      have HC := Lib.hid (And.intro hqr (And.intro B0 hq))
      clear hr hr' hqr hq B0 hAl hBl hs
      go_enter Tryd.func99, Tryd.ntmps99
      go_wp2
      go_ret
      exact ⟨ret_bool (HC.out.1.trans HC.out.2.2).symm, HC.out.2.1 _ _⟩
  · have hr' : r = false := hr.trans (oneB_kind hk)
    have hk1 : (k == k') = false := beq_eq_false_iff_ne.2 hk
    have hk2 : (k != k') = true := by simp [hk]
    have HC := Lib.hid (And.intro hr' B0)
    clear hr hr' B0 ka hAl hBl hs
    go_enter Tryd.func99, Tryd.ntmps99
    go_wp2
    go_ret
    exact ⟨ret_bool HC.out.1.symm, HC.out.2 _ _⟩

theorem turn_of {a b : T} {r : Bool} (h : r = oneB a b) : turnN a b = if r then 0 else 1 := by rw [h]; rfl

set_option maxRecDepth 100000 in
set_option maxHeartbeats 4000000 in
theorem turn_any (P : Nat → Prop) (a b : T) (fa fb : Nat) (ca cb : List Value) (w : World) (hA : TreeAt w P a ca) (hB : TreeAt w P b cb) (ka : a.kind = 1 ∨ a.kind = 2) (ft : Fits a) :
    Calls Tryd.prog 97 #[.agg (ca ++ [Value.int .i64 (fa : Nat)]).toArray, .agg (cb ++ [Value.int .i64 (fb : Nat)]).toArray] w fun e w' => e = .returned (.int .i64 (turnN a b : Nat)) ∧ Below w.heap.size w w' := by
  cases a with
  | mk k n al t ks =>
  cases b with
  | mk k' n' al' t' ks' =>
  obtain ⟨aa, xa, ak, xk, rfl, hAl, _⟩ := TreeAt.forest hA
  obtain ⟨ba, ya, bk, yk, rfl, hBl, _⟩ := TreeAt.forest hB
  have hs := ft.small.2.2.2.1
  clear hA hB ft
  obtain ⟨r, hr⟩ : ∃ r, r = oneB (.mk k n al t ks) (.mk k' n' al' t' ks') := ⟨_, rfl⟩
  rw [turn_of hr]
  have B0 : ∀ o o' : Obj, Below w.heap.size w ((w.alloc o).alloc o') := fun o o' => below_al (below_al (Below.refl _ _) (Nat.le_refl _) _) (Nat.le_refl _) _
  simp only [List.cons_append, List.nil_append]
  by_cases hk : k = k'
  · subst hk
    rcases ka with h1 | h2
    · have h1 : k = 1 := h1
      subst h1
      have hr' : r = (n == n' && al == al') := hr.trans (oneB_name rfl rfl)
      by_cases hn : n = n'
      · subst hn
        obtain ⟨Bx, hBx⟩ : ∃ o, o = Obj.cells #[Value.int .i64 1, .string n, .slice aa al.length xa, .string t, .slice ak ks.length xk, .int .i64 (fa : Nat)] 139 := ⟨_, rfl⟩
        obtain ⟨By, hBy⟩ : ∃ o, o = Obj.cells #[Value.int .i64 1, .string n, .slice ba al'.length ya, .string t', .slice bk ks'.length yk, .int .i64 (fb : Nat)] 139 := ⟨_, rfl⟩
        have U : Upd w ((w.alloc Bx).alloc By) (fun _ => False) := Upd.ofBelow (B0 _ _)
        have C := eqG_any al al' aa ba xa ya ((w.alloc Bx).alloc By) (hAl.1.keep U (fun _ _ h => h)) (hBl.1.keep U (fun _ _ h => h)) hs
        have BB := B0 Bx By
        rw [hBx, hBy] at C BB
        have HC := Lib.hid (And.intro C (And.intro hr' BB))
        clear C hr' hr BB U hBx hBy B0 hAl hBl hs
        go_enter Tryd.func97, Tryd.ntmps97
        go_wp2_with fail
        refine HC.out.1.mono ?_
        rintro e w3 ⟨r3, rfl, h3, b3⟩
        have h3' : r = r3 := by
          rw [HC.out.2.1]
          cases r3 with
          | true => rw [h3.1 rfl]; simp
          | false =>
            have : al ≠ al' := fun h => by have := h3.2 h; cases this
            simp [this]
        subst h3'
        have H3 := Lib.hid b3
        clear h3 b3
        cases r with
        | true =>
          go_wp2
          go_ret
          exact ⟨rfl, below_tr HC.out.2.2 H3.out⟩
        | false =>
          go_wp2
          go_ret
          exact ⟨rfl, below_tr HC.out.2.2 H3.out⟩
      · have hr2 : r = false := by rw [hr']; simp [hn]
        subst hr2
        have hnl : (n.toList == n'.toList) = false := by
          rw [beq_eq_false_iff_ne]
          exact fun h => hn (toList_inj'.1 h)
        have hnl' : ¬ n.toList = n'.toList := fun h => hn (toList_inj'.1 h)
        have HC := Lib.hid B0
        clear hr hr' hn B0 hAl hBl hs
        go_enter Tryd.func97, Tryd.ntmps97
        go_wp2
        go_ret
        exact ⟨rfl, HC.out _ _⟩
    · have h2 : k = 2 := h2
      subst h2
      have hr' : r = (t == t') := hr.trans (oneB_text rfl (show (2 : Int) ≠ 1 by decide))
      by_cases ht : t = t'
      · subst ht
        have hr2 : r = true := by rw [hr']; simp
        subst hr2
        have HC := Lib.hid B0
        clear hr hr' B0 hAl hBl hs
        go_enter Tryd.func97, Tryd.ntmps97
        go_wp2
        go_ret
        exact ⟨rfl, HC.out _ _⟩
      · have hr2 : r = false := by rw [hr']; simp [ht]
        subst hr2
        have hnl : (t.toList == t'.toList) = false := by
          rw [beq_eq_false_iff_ne]
          exact fun h => ht (toList_inj'.1 h)
        have hnl' : ¬ t.toList = t'.toList := fun h => ht (toList_inj'.1 h)
        have HC := Lib.hid B0
        clear hr hr' B0 ht hAl hBl hs
        go_enter Tryd.func97, Tryd.ntmps97
        go_wp2
        go_ret
        exact ⟨rfl, HC.out _ _⟩
  · have hr' : r = false := hr.trans (oneB_kind hk)
    subst hr'
    have hk1 : (k == k') = false := beq_eq_false_iff_ne.2 hk
    have HC := Lib.hid B0
    clear hr B0 hAl hBl hs
    rcases ka with h1 | h2
    · have h1 : k = 1 := h1
      subst h1
      go_enter Tryd.func97, Tryd.ntmps97
      go_wp2
      go_ret
      exact ⟨rfl, HC.out _ _⟩
    · have h2 : k = 2 := h2
      subst h2
      go_enter Tryd.func97, Tryd.ntmps97
      go_wp2
      go_ret
      exact ⟨rfl, HC.out _ _⟩

end Df
end Go.Proofs.YtemmkobgpciflaaDoor
