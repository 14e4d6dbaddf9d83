/- OrderedLive, plainly: places among keys that rise, in two lists. -/
import Derived.Test.YtnhgeoccknhiiaaOrdN2
import Derived.Test.YtnhgeoccknhiiaaRef7
namespace Go.Proofs.Ytnhgeoccknhiiaa
open Go.RowKit

theorem insert_get {α : Type} (L : List α) (r : Nat) (x : α) (hr : r ≤ L.length) (i : Nat) : (L.insertIdx r x)[i]? = if i < r then L[i]? else if i = r then some x else L[i - 1]? := by
  rw [insertIdx_td x L r hr]
  by_cases h1 : i < r
  · rw [if_pos h1, List.getElem?_append_left (by rw [List.length_take]; omega), List.getElem?_take, if_pos h1]
  · rw [if_neg h1, List.getElem?_append_right (by rw [List.length_take]; omega), List.length_take, Nat.min_eq_left hr]
    by_cases h2 : i = r
    · subst h2
      simp
    · rw [if_neg h2]
      obtain ⟨j, hj⟩ : ∃ j, i - r = j + 1 := ⟨i - r - 1, by omega⟩
      rw [hj, List.getElem?_cons_succ, List.getElem?_drop]
      congr 1
      omega


namespace OrdI
theorem sorted_insert {key : It → Int} {L : List It} {x : It} {r : Nat} (hs : Sorted key L) (hR : RankOf key L (key x) r) (hn : ∀ y, L[r]? = some y → key x < key y) : Sorted key (L.insertIdx r x) := by
  have right : ∀ (i : Nat) (y : It), L[i]? = some y → r ≤ i → key x < key y := by
    intro i y hy hi
    by_cases e : i = r
    · subst e
      exact hn y hy
    · have hi2 : i < L.length := (List.getElem?_eq_some_iff.1 hy).1
      have hz : L[r]? = some L[r] := List.getElem?_eq_getElem (by omega)
      have h1 := hn _ hz
      have h2 := hs r i _ _ hz hy (by omega)
      omega
  intro i j y z hy hz hij
  rw [insert_get L r x hR.le] at hy hz
  by_cases i1 : i < r
  · rw [if_pos i1] at hy
    by_cases j1 : j < r
    · rw [if_pos j1] at hz
      exact hs i j y z hy hz hij
    · rw [if_neg j1] at hz
      by_cases j2 : j = r
      · rw [if_pos j2] at hz
        cases hz
        exact hR.left i y hy i1
      · rw [if_neg j2] at hz
        exact hs i (j - 1) y z hy hz (by omega)
  · rw [if_neg i1] at hy
    rw [if_neg (by omega : ¬ j < r), if_neg (by omega : ¬ j = r)] at hz
    by_cases i2 : i = r
    · rw [if_pos i2] at hy
      cases hy
      exact right (j - 1) z hz (by omega)
    · rw [if_neg i2] at hy
      exact hs (i - 1) (j - 1) y z hy hz (by omega)


end OrdI
namespace OrdN
variable {N tv : Nat}
theorem sorted_insert {key : Fin N → Int} {L : List (Fin N)} {x : Fin N} {r : Nat} (hs : Sorted key L) (hR : RankOf key L (key x) r) (hn : ∀ y, L[r]? = some y → key x < key y) : Sorted key (L.insertIdx r x) := by
  have right : ∀ (i : Nat) (y : Fin N), L[i]? = some y → r ≤ i → key x < key y := by
    intro i y hy hi
    by_cases e : i = r
    · subst e
      exact hn y hy
    · have hi2 : i < L.length := (List.getElem?_eq_some_iff.1 hy).1
      have hz : L[r]? = some L[r] := List.getElem?_eq_getElem (by omega)
      have h1 := hn _ hz
      have h2 := hs r i _ _ hz hy (by omega)
      omega
  intro i j y z hy hz hij
  rw [insert_get L r x hR.le] at hy hz
  by_cases i1 : i < r
  · rw [if_pos i1] at hy
    by_cases j1 : j < r
    · rw [if_pos j1] at hz
      exact hs i j y z hy hz hij
    · rw [if_neg j1] at hz
      by_cases j2 : j = r
      · rw [if_pos j2] at hz
        cases hz
        exact hR.left i y hy i1
      · rw [if_neg j2] at hz
        exact hs i (j - 1) y z hy hz (by omega)
  · rw [if_neg i1] at hy
    rw [if_neg (by omega : ¬ j < r), if_neg (by omega : ¬ j = r)] at hz
    by_cases i2 : i = r
    · rw [if_pos i2] at hy
      cases hy
      exact right (j - 1) z hz (by omega)
    · rw [if_neg i2] at hy
      exact hs (i - 1) (j - 1) y z hy hz (by omega)


/-- What the table says of a number. -/
def tk (T : List Int) (x : Fin N) : Int := (T[x.val]?).getD 0
def Mono (T : List Int) : Prop := ∀ (i j : Nat) (x y : Int), T[i]? = some x → T[j]? = some y → i < j → x < y
def vk (x : Fin N) : Int := (x.val : Int)
def toIt (x : Fin N) : It := ⟨(x.val : Int), 0⟩

theorem tk_get {T : List Int} (hN : T.length = N) (x : Fin N) : T[x.val]? = some (tk T x) := by
  unfold tk
  rw [List.getElem?_eq_getElem (by rw [hN]; exact x.isLt)]
  rfl
theorem tk_lt {T : List Int} (hN : T.length = N) (hM : Mono T) (x y : Fin N) : tk T x < tk T y ↔ x.val < y.val := by
  have hx := tk_get hN x
  have hy := tk_get hN y
  constructor
  · intro h
    rcases Nat.lt_trichotomy x.val y.val with e | e | e
    · exact e
    · rw [e] at hx
      rw [hx] at hy
      have := Option.some.inj hy
      omega
    · have := hM _ _ _ _ hy hx e
      omega
  · intro h
    exact hM _ _ _ _ hx hy h
theorem tk_le {T : List Int} (hN : T.length = N) (hM : Mono T) (x y : Fin N) : tk T x ≤ tk T y ↔ x.val ≤ y.val := by
  have := tk_lt hN hM y x
  omega
theorem tk_eq {T : List Int} (hN : T.length = N) (hM : Mono T) {x y : Fin N} (h : tk T x = tk T y) : x = y := by
  have h1 := tk_lt hN hM x y
  have h2 := tk_lt hN hM y x
  exact Fin.ext (by omega)
theorem sorted_tk {T : List Int} (hN : T.length = N) (hM : Mono T) {L : List (Fin N)} (h : Sorted vk L) : Sorted (tk T) L := by
  intro i j x y hx hy hij
  have := h i j x y hx hy hij
  unfold vk at this
  exact (tk_lt hN hM x y).2 (by omega)
theorem sorted_it {L : List (Fin N)} (h : Sorted vk L) : OrdI.Sorted It.k (L.map toIt) := by
  intro i j x y hx hy hij
  rw [List.getElem?_map] at hx hy
  obtain ⟨x', hx', rfl⟩ := Option.map_eq_some_iff.1 hx
  obtain ⟨y', hy', rfl⟩ := Option.map_eq_some_iff.1 hy
  exact h i j x' y' hx' hy' hij
theorem rank_it {T : List Int} (hN : T.length = N) (hM : Mono T) {L : List (Fin N)} {x : Fin N} {r : Nat} (h : RankOf (tk T) L (tk T x) r) : OrdI.RankOf It.k (L.map toIt) (x.val : Int) r := by
  refine ⟨by rw [List.length_map]; exact h.le, fun i y hy hi => ?_, fun i y hy hi => ?_⟩
  · rw [List.getElem?_map] at hy
    obtain ⟨y', hy', rfl⟩ := Option.map_eq_some_iff.1 hy
    have := (tk_lt hN hM y' x).1 (h.left i y' hy' hi)
    show (y'.val : Int) < _
    omega
  · rw [List.getElem?_map] at hy
    obtain ⟨y', hy', rfl⟩ := Option.map_eq_some_iff.1 hy
    have := (tk_le hN hM x y').1 (h.right i y' hy' hi)
    show _ ≤ (y'.val : Int)
    omega
theorem rank_vk {T : List Int} (hN : T.length = N) (hM : Mono T) {L : List (Fin N)} {x : Fin N} {r : Nat} (h : RankOf (tk T) L (tk T x) r) : RankOf vk L (vk x) r := by
  refine ⟨h.le, fun i y hy hi => ?_, fun i y hy hi => ?_⟩
  · have := (tk_lt hN hM y x).1 (h.left i y hy hi)
    unfold vk
    omega
  · have := (tk_le hN hM x y).1 (h.right i y hy hi)
    unfold vk
    omega
theorem map_insert {α β : Type} (f : α → β) (L : List α) (r : Nat) (x : α) (hr : r ≤ L.length) : (L.insertIdx r x).map f = (L.map f).insertIdx r (f x) := by
  rw [insertIdx_td x L r hr, insertIdx_td (f x) (L.map f) r (by rw [List.length_map]; exact hr), List.map_append, List.map_cons, List.map_take, List.map_drop]

end OrdN
end Go.Proofs.Ytnhgeoccknhiiaa
