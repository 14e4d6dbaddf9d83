/- OrderedTexts, walked: texts by their lengths. -/
import Derived.Test.YtnhgeoccknhiiaaOrdS2
namespace Go.Proofs.Ytnhgeoccknhiiaa
open Go.RowKit
namespace OrdS

/-- Texts as they came in. -/
def TextsAt (w : World) (v : Value) (l : List ByteArray) : Prop := Rd w v l.length 1 (cells l)

def sz (b : ByteArray) : Int := (b.size : Int)
theorem askT : Ask (fun _ => True) sz := ⟨fun _ _ _ _ => trivial, fun w a b _ => (less_any a b w).mono fun e w' ⟨he, hw⟩ => ⟨by rw [he]; unfold sz; congr 2; simp, hw ▸ Below.refl _ _⟩⟩

/-- The list that is ordered holds just the texts that were kept. -/
structure Kept (L K : List ByteArray) : Prop where
  perm : L.Perm K
  sorted : Sorted sz L

theorem insert_get {α : Type} (L : List α) (r : Nat) (x : α) (hr : r ≤ L.length) (i : Nat) : (L.insertIdx r x)[i]? = if i < r then L[i]? else if i = r then some x else L[i - 1]? := by
  rw [insertIdx_td x L r hr]
  by_cases h1 : i < r
  · rw [if_pos h1, List.getElem?_append_left (by rw [List.length_take]; omega), List.getElem?_take, if_pos h1]
  · rw [if_neg h1, List.getElem?_append_right (by rw [List.length_take]; omega), List.length_take, Nat.min_eq_left hr]
    by_cases h2 : i = r
    · subst h2
      simp
    · rw [if_neg h2]
      obtain ⟨j, hj⟩ : ∃ j, i - r = j + 1 := ⟨i - r - 1, by omega⟩
      rw [hj, List.getElem?_cons_succ, List.getElem?_drop]
      congr 1
      omega

theorem sorted_insert {key : ByteArray → Int} {L : List ByteArray} {x : ByteArray} {r : Nat} (hs : Sorted key L) (hR : RankOf key L (key x) r) (hn : ∀ y, L[r]? = some y → key x < key y) : Sorted key (L.insertIdx r x) := by
  have right : ∀ (i : Nat) (y : ByteArray), L[i]? = some y → r ≤ i → key x < key y := by
    intro i y hy hi
    by_cases e : i = r
    · subst e
      exact hn y hy
    · have hi2 : i < L.length := (List.getElem?_eq_some_iff.1 hy).1
      have hz : L[r]? = some L[r] := List.getElem?_eq_getElem (by omega)
      have h1 := hn _ hz
      have h2 := hs r i _ _ hz hy (by omega)
      omega
  intro i j y z hy hz hij
  rw [insert_get L r x hR.le] at hy hz
  by_cases i1 : i < r
  · rw [if_pos i1] at hy
    by_cases j1 : j < r
    · rw [if_pos j1] at hz
      exact hs i j y z hy hz hij
    · rw [if_neg j1] at hz
      by_cases j2 : j = r
      · rw [if_pos j2] at hz
        cases hz
        exact hR.left i y hy i1
      · rw [if_neg j2] at hz
        exact hs i (j - 1) y z hy hz (by omega)
  · rw [if_neg i1] at hy
    rw [if_neg (by omega : ¬ j < r), if_neg (by omega : ¬ j = r)] at hz
    by_cases i2 : i = r
    · rw [if_pos i2] at hy
      cases hy
      exact right (j - 1) z hz (by omega)
    · rw [if_neg i2] at hy
      exact hs (i - 1) (j - 1) y z hy hz (by omega)

theorem Kept.put {L K : List ByteArray} {x : ByteArray} {r : Nat} (h : Kept L K) (hR : RankOf sz L (sz x) r) (hn : ∀ y, L[r]? = some y → sz x < sz y) : Kept (L.insertIdx r x) (K ++ [x]) := by
  refine ⟨?_, sorted_insert h.sorted hR hn⟩
  rw [insertIdx_td x L r hR.le]
  have h1 : (L.take r ++ x :: L.drop r).Perm (x :: L) := by
    have := List.perm_middle (a := x) (l₁ := L.take r) (l₂ := L.drop r)
    rwa [List.take_append_drop] at this
  exact h1.trans ((h.perm.cons x).trans (List.perm_append_comm (l₁ := [x]) (l₂ := K)))

theorem Kept.there {L K : List ByteArray} {kx : Int} {r : Nat} (h : Kept L K) (_hR : RankOf sz L kx r) {y : ByteArray} (hy : L[r]? = some y) (hk : sz y = kx) : ∃ z ∈ K, sz z = kx :=
  ⟨y, h.perm.subset (List.mem_of_getElem? hy), hk⟩
theorem Kept.away {L K : List ByteArray} {kx : Int} {r : Nat} (h : Kept L K) (hR : RankOf sz L kx r) (hn : ∀ y, L[r]? = some y → kx < sz y) : ∀ z ∈ K, sz z ≠ kx := by
  intro z hz e
  obtain ⟨i, hi, ei⟩ := List.mem_iff_getElem.1 (h.perm.symm.subset hz)
  have hg : L[i]? = some z := by rw [List.getElem?_eq_getElem hi, ei]
  by_cases h1 : i < r
  · have := hR.left i z hg h1
    omega
  · by_cases h2 : i = r
    · subst h2
      have := hn z hg
      omega
    · have hz : L[r]? = some L[r] := List.getElem?_eq_getElem (by omega)
      have h3 := hn _ hz
      have h4 := h.sorted r i _ _ hz hg (by omega)
      omega

def below (K : List ByteArray) (kx : Int) : Nat := K.countP fun y => decide (sz y < kx)
theorem sorted_count {L : List ByteArray} (hs : Sorted sz L) {r : Nat} {z : ByteArray} (hz : L[r]? = some z) : below L (sz z) = r := by
  have hr : r < L.length := (List.getElem?_eq_some_iff.1 hz).1
  unfold below
  rw [← List.take_append_drop r L, List.countP_append]
  have h1 : (L.take r).countP (fun y => decide (sz y < sz z)) = (L.take r).length := by
    rw [List.countP_eq_length]
    intro y hy
    obtain ⟨i, hi, e⟩ := List.mem_iff_getElem.1 hy
    rw [List.length_take] at hi
    have hg : L[i]? = some y := by rw [List.getElem?_eq_getElem (by omega), ← e, List.getElem_take]
    exact decide_eq_true (hs i r y z hg hz (by omega))
  have h2 : (L.drop r).countP (fun y => decide (sz y < sz z)) = 0 := by
    rw [List.countP_eq_zero]
    intro y hy
    obtain ⟨i, hi, e⟩ := List.mem_iff_getElem.1 hy
    rw [List.length_drop] at hi
    have hg : L[r + i]? = some y := by rw [List.getElem?_eq_getElem (by omega), ← e, List.getElem_drop]
    by_cases h0 : i = 0
    · subst h0
      rw [Nat.add_zero, hz] at hg
      cases hg
      simp
    · have := hs r (r + i) z y hz hg (by omega)
      simp
      omega
  rw [h1, h2, List.length_take]
  omega
theorem Kept.at_ {L K : List ByteArray} (h : Kept L K) {z : ByteArray} (hz : z ∈ K) : L[below K (sz z)]? = some z := by
  obtain ⟨r, hr, e⟩ := List.mem_iff_getElem.1 (h.perm.symm.subset hz)
  have hg : L[r]? = some z := by rw [List.getElem?_eq_getElem hr, e]
  have := sorted_count h.sorted hg
  have e2 : below K (sz z) = below L (sz z) := (h.perm.countP_eq _).symm
  rw [e2, this]
  exact hg
theorem rank_uniq {key : ByteArray → Int} {L : List ByteArray} (hs : Sorted key L) {z : ByteArray} {r r' : Nat} (hz : L[r]? = some z) (hR : RankOf key L (key z) r') : r' = r := by
  rcases Nat.lt_trichotomy r r' with h | h | h
  · have := hR.left r z hz h
    omega
  · exact h.symm
  · have hr : r < L.length := (List.getElem?_eq_some_iff.1 hz).1
    have hg : L[r']? = some L[r'] := List.getElem?_eq_getElem (by omega)
    have h1 := hR.right r' _ hg (Nat.le_refl _)
    have h2 := hs r' r _ _ hg hz h
    omega
theorem below_succ (K : List ByteArray) (k : Nat) (y : ByteArray) (kx : Int) (h : K[k]? = some y) : below (K.take (k + 1)) kx = below (K.take k) kx + (if sz y < kx then 1 else 0) := by
  unfold below
  rw [List.take_add_one, h, List.countP_append]
  simp [List.countP_cons]
theorem below_le (K : List ByteArray) (k : Nat) (kx : Int) : below (K.take k) kx ≤ k := Nat.le_trans List.countP_le_length (by rw [List.length_take]; omega)

structure TS (w0 w : World) (p : Nat) (L K : List ByteArray) (vk : Value) : Prop where
  ord : ∃ v, Blk w p [lessV, v] 119 ∧ w.ownsRow 0 9 1 v L.length (cells L) ∧ ∀ g, v.ownBlock = some g → vk.ownBlock ≠ some g
  kept : w.ownsRow 0 9 1 vk K.length (cells K)
  low : ∀ g, vk.ownBlock = some g → w0.heap.size ≤ g
  lowp : w0.heap.size ≤ p
  same : Kept L K
  below : Below w0.heap.size w0 w
  size : w0.heap.size ≤ w.heap.size

section
variable {w0 w w' : World} {p : Nat} {L K : List ByteArray} {vk : Value}
theorem TS.is (h : TS w0 w p L K vk) : OrdIs w p L := by
  obtain ⟨v, h1, h2, _⟩ := h.ord
  exact ⟨v, h1, h2⟩
theorem TS.keep (h : TS w0 w p L K vk) (hB : Below w.heap.size w w') : TS w0 w' p L K vk := by
  obtain ⟨v, h1, h2, h3⟩ := h.ord
  have U : Upd w w' (fun _ => False) := Upd.ofBelow hB
  exact ⟨⟨v, U.blk h1 (fun h => h), own_keep h2 U (fun _ _ h => h), h3⟩, own_keep h.kept U (fun _ _ h => h), h.low, h.lowp, h.same, h.below.trans (U.below h.size (fun _ _ h => h)), Nat.le_trans h.size U.size⟩
theorem TS.drewN (h : TS w0 w p L K vk) (n : Nat) : TS w0 (w.drewN n) p L K vk := h.keep (((Upd.refl w (fun _ => False)).drewN n).below (Nat.le_refl _) (fun _ _ h => h))
structure Grown (w0 w : World) (p : Nat) (L K : List ByteArray) (vk : Value) : Prop where
  ord : OrdIs w p L
  kept : w.ownsRow 0 9 1 vk K.length (cells K)
  low : ∀ g, vk.ownBlock = some g → w0.heap.size ≤ g
  lowp : w0.heap.size ≤ p
  below : Below w0.heap.size w0 w
  size : w0.heap.size ≤ w.heap.size

theorem TS.grow {W : World} {x : ByteArray} {v' : Value} (h : TS w0 w p L K vk) (T : Upd w W (fun _ => False)) (hA : AppPost W 9 1 vk K.length (cells K) 1 [.string x] v' w') : Grown w0 w' p L (K ++ [x]) v' := by
  obtain ⟨O, U, b⟩ := hA
  obtain ⟨v, h1, h2, h3⟩ := h.ord
  have OW := own_keep h.kept T (fun _ _ h => h)
  refine ⟨⟨v, U.blk (T.blk h1 (fun h => h)) (fun hf => ?_), own_keep (own_keep h2 T (fun _ _ h => h)) U (fun g hg hf => h3 g hg hf)⟩, ?_, ?_, h.lowp, ?_, Nat.le_trans h.size (Nat.le_trans T.size U.size)⟩
  · obtain ⟨us, hv⟩ := own_ty OW hf
    exact absurd rfl ((T.blk h1 (fun h => h)).ty hv (by decide))
  · have e : cells (K ++ [x]) = cells K ++ [.string x] := by simp [cells]
    rw [e, List.length_append]
    exact O
  · intro g hg
    rcases b with e | e
    · exact h.low g (e ▸ hg)
    · have := ob_some (e.symm.trans hg)
      have := T.size
      have := h.size
      omega
  · refine (h.below.trans (T.below h.size (fun _ _ h => h))).trans (U.below (Nat.le_trans h.size T.size) (fun i hi hf => ?_))
    have := h.low i hf
    omega

theorem Grown.close {L' : List ByteArray} (h : Grown w0 w p L K vk) (hF : OrdFresh w.heap.size w' p L') (hU : Upd w w' (· = p)) (hK : Kept L' K) : TS w0 w' p L' K vk := by
  obtain ⟨v, h1, h2, h3⟩ := hF
  obtain ⟨v0, q1, _⟩ := h.ord
  refine ⟨⟨v, h1, h2, fun g hg e => ?_⟩, own_keep h.kept hU (fun g hg e => ?_), h.low, h.lowp, hK, h.below.trans (hU.below h.size (fun i hi e => ?_)), Nat.le_trans h.size hU.size⟩
  · have := own_lt h.kept e
    have := h3 g hg
    omega
  · obtain ⟨us, hv⟩ := own_ty h.kept hg
    have e' : g = p := e
    subst e'
    exact absurd rfl (q1.ty hv (by decide))
  · have e' : i = p := e
    have := h.lowp
    omega
theorem TS.len (h : TS w0 w p L K vk) : L.length = K.length := h.same.perm.length_eq
end

set_option maxRecDepth 20000 in
set_option maxHeartbeats 400000 in
theorem texts_calls (w : World) (v : Value) (l : List ByteArray) (h : TextsAt w v l) (hl : l.length * 16 ≤ 140737488351232) (hsz : ∀ b ∈ l, b.size ≤ 9223372036854775807) :
    Calls Try.prog 4 #[v] w fun e w' => e = .returned (.bool true) ∧ Below w.heap.size w w' := by
  obtain ⟨a, c, rfl, hc⟩ := h.form
  have HA := Lib.hid h
  have HN := Lib.hid (new_any w)
  clear h
  go_enter Try.func4, Try.ntmps4
  go_wp2_with fail
  refine HN.out.mono ?_
  rintro e w1 ⟨p, rfl, hp, hO, hB⟩
  have H1 := Lib.hid (And.intro hp (And.intro hO hB))
  clear hp hO hB HN
  go_wp2
  generalize hW : World.alloc _ _ = W
  have S0 : Hid (TS w W p [] [] (.slice (some ⟨w1.heap.size, 0, none⟩) 0 0)) := Lib.hid (by
    obtain ⟨hp, hO, hB⟩ := H1.out
    have T : Upd w1 W (fun _ => False) := by rw [← hW]; exact (Upd.refl w1 _).alloc _
    obtain ⟨vv, q1, q2⟩ := hO
    refine ⟨⟨vv, T.blk q1 (fun h => h), own_keep q2 T (fun _ _ h => h), fun g hg e => ?_⟩, ?_, fun g hg => ?_, hp, ⟨List.Perm.refl _, fun i j x y h => by simp at h⟩, hB.trans (T.below hB.size (fun _ _ h => h)), Nat.le_trans hB.size T.size⟩
    · have h1 := own_lt q2 hg
      have h2 := ob_eq e
      omega
    · rw [← hW]
      exact own_lit rfl
    · have h2 := ob_eq hg
      have := hB.size
      omega)
  clear hW H1
  go_loopg [5, 6] l.length (fun kq v5 v6 w' => ∃ i : Nat, v6 = .int .i64 i ∧ Hid (kq = l.length - i ∧ i ≤ l.length) ∧ Hid (∃ L K, TS w w' p L K v5 ∧ K.length ≤ 8192))
  case atStart => exact ⟨0, rfl, Lib.hid ⟨rfl, Nat.zero_le _⟩, Lib.hid ⟨[], [], S0.out, by simp⟩⟩
  case round =>
    obtain ⟨i, rfl, HI, HS⟩ := hrel
    obtain ⟨L, K, hT, hK⟩ := HS.out
    obtain ⟨ak, ck, rfl, hck⟩ := (Rd.ofOwn hT.kept).form
    have HT := Lib.hid (And.intro hT hK)
    clear hT hK HS
    have hi0 : (0 : Int) ≤ (i : Int) := by omega
    by_cases hi : i < l.length
    · have hi1 : (i : Int) < (l.length : Int) := by omega
      have hi2 : decide (i < l.length) = true := decide_eq_true hi
      obtain ⟨x, hx⟩ : ∃ x, l[i]? = some x := ⟨l[i], List.getElem?_eq_getElem hi⟩
      have HX := Lib.hid hx
      clear hx
      go_wp2
      go_loopg [7, 8] K.length (fun kq v7 v8 w' => ∃ (k : Nat) (b : Bool), v7 = .bool b ∧ v8 = .int .i64 k ∧ Hid (b = true ↔ ∃ z ∈ K.take k, sz z = sz x) ∧ Hid (kq = K.length - k ∧ k ≤ K.length) ∧ Hid (TS w w' p L K (.slice ak K.length ck)))
      case atStart => exact ⟨0, false, rfl, rfl, Lib.hid (by simp), Lib.hid ⟨rfl, Nat.zero_le _⟩, Lib.hid HT.out.1⟩
      case round =>
        obtain ⟨k, b, rfl, rfl, HB, HK, HT2⟩ := hrel
        have hk0 : (0 : Int) ≤ (k : Int) := by omega
        have hK8 : K.length ≤ 8192 := HT.out.2
        by_cases hk : k < K.length
        · have hk1 : (k : Int) < (K.length : Int) := by omega
          have hk2 : decide (k < K.length) = true := decide_eq_true hk
          obtain ⟨z, hz⟩ : ∃ z, K[k]? = some z := ⟨K[k], List.getElem?_eq_getElem hk⟩
          have HZ := Lib.hid hz
          obtain ⟨g, off, c', e1, _, hcell⟩ := (Rd.ofOwn HT2.out.kept).at_ (j := k) (u := .string z) (by rw [cells_get, hz]; rfl)
          cases e1
          obtain ⟨g2, off2, c2, e2, _, xcell0⟩ := HA.out.at_ (j := i) (u := .string x) (by rw [cells_get, HX.out]; rfl)
          cases e2
          have xcell : wr.cell? ⟨g2, off2 + i, none⟩ = some (.string x) := by
            rw [HT2.out.below.cell (World.block_lt_of_cell? w _ xcell0)]
            exact xcell0
          clear xcell0 hz
          cases b with
          | true =>
            go_wp2
            go_quiet (fail)
            clear hcell xcell
            go_wp2
            go_roundg (K.length - (k + 1))
            case rel =>
              refine ⟨k + 1, true, rfl, by go_num, Lib.hid ⟨fun _ => ?_, fun _ => rfl⟩, Lib.hid ⟨rfl, by omega⟩, Lib.hid (HT2.out.drewN _)⟩
              obtain ⟨y, hy, hy2⟩ := HB.out.1 (by trivial)
              exact ⟨y, (List.take_sublist_take_left (Nat.le_succ k)).subset hy, hy2⟩
            case measure => have := HK.out; omega
          | false =>
            go_wp2
            go_quiet (fail)
            clear hcell xcell
            go_wp2
            go_roundg (K.length - (k + 1))
            case rel =>
              refine ⟨k + 1, _, rfl, by go_num, Lib.hid ?_, Lib.hid ⟨rfl, by omega⟩, Lib.hid (HT2.out.drewN _)⟩
              rw [List.take_add_one, HZ.out]
              have hno : ¬ ∃ y ∈ K.take k, sz y = sz x := fun h => by have := HB.out.2 h; cases this
              simp only [Option.toList, List.mem_append, List.mem_singleton, sz, beq_iff_eq, decide_eq_true_eq]
              constructor
              · intro h
                exact ⟨z, Or.inr rfl, by omega⟩
              · rintro ⟨y, hy | rfl, h⟩
                · exact absurd ⟨y, hy, h⟩ hno
                · omega
            case measure => have := HK.out; omega
        · have hk1 : ¬ (k : Int) < (K.length : Int) := by omega
          have hk2 : decide (k < K.length) = false := decide_eq_false hk
          have ek : k = K.length := by have := HK.out; omega
          subst ek
          rw [List.take_length] at HB
          have HC := Lib.hid (put_any askT p L x wr trivial HT2.out.is HT2.out.same.sorted (by rw [HT2.out.len]; exact hK8))
          obtain ⟨g2, off2, c2, e2, _, xcell0⟩ := HA.out.at_ (j := i) (u := .string x) (by rw [cells_get, HX.out]; rfl)
          cases e2
          have xcell : wr.cell? ⟨g2, off2 + i, none⟩ = some (.string x) := by
            rw [HT2.out.below.cell (World.block_lt_of_cell? w _ xcell0)]
            exact xcell0
          clear xcell0
          cases b with
          | true =>
            go_wp2_with fail
            refine HC.out.mono ?_
            rintro e w3 ⟨r, hR, ⟨_, rfl, hb⟩ | ⟨hn, _⟩ | ⟨hn, _⟩⟩
            · have HT3 := Lib.hid (HT2.out.keep hb)
              clear hb hR HC xcell
              go_wp2
              go_roundg (l.length - (i + 1))
              case rel => exact ⟨i + 1, by go_num, Lib.hid ⟨rfl, by omega⟩, Lib.hid ⟨L, K, HT3.out, hK8⟩⟩
              case measure => have := HI.out; omega
            · obtain ⟨z, hz, hz2⟩ := HB.out.1 (by trivial)
              exact absurd hz2 (HT2.out.same.away hR hn z hz)
            · obtain ⟨z, hz, hz2⟩ := HB.out.1 (by trivial)
              exact absurd hz2 (HT2.out.same.away hR hn z hz)
          | false =>
            have hno : Hid (∀ z ∈ K, sz z ≠ sz x) := Lib.hid fun z hz e => by have := HB.out.2 ⟨z, hz, e⟩; cases this
            by_cases h8 : 8192 ≤ K.length
            · have h81 : decide ((K.length : Int) ≥ 8192) = true := decide_eq_true (by omega)
              go_wp2_with fail
              refine HC.out.mono ?_
              rintro e w3 ⟨r, hR, ⟨⟨y, hy, hk⟩, _, _⟩ | ⟨hn, _, rfl, hb⟩ | ⟨hn, hl8, _⟩⟩
              · obtain ⟨z, hz, hz2⟩ := HT2.out.same.there hR hy hk
                exact absurd hz2 (hno.out z hz)
              · have HT3 := Lib.hid (HT2.out.keep hb)
                clear hb hR HC xcell hn
                go_wp2
                go_roundg (l.length - (i + 1))
                case rel => exact ⟨i + 1, by go_num, Lib.hid ⟨rfl, by omega⟩, Lib.hid ⟨L, K, HT3.out, hK8⟩⟩
                case measure => have := HI.out; omega
              · have := HT2.out.len
                omega
            · have h81 : decide ((K.length : Int) ≥ 8192) = false := decide_eq_false (by omega)
              clear HC
              go_wp2_with (at_builtin; refine halt_mk ?_)
              refine halt_go ?_
              generalize hW : World.alloc _ _ = W
              have T1 : Upd wr W (fun _ => False) := by rw [← hW]; exact (Upd.refl wr _).alloc _
              have X1 : Blk W wr.heap.size [.string x] 9 := by rw [← hW]; exact Blk.new' rfl
              clear hW
              refine wpl_app rfl rfl elem Try.underlying43 rfl (own_keep HT2.out.kept T1 (fun _ _ h => h)) rfl (Rd.ofBlk X1 1 1 rfl) (by simp [Value.oneCell']) (by omega) ?_
              intro v2 w4 hA
              have HG := Lib.hid (HT2.out.grow T1 hA)
              clear hA T1 X1 xcell
              obtain ⟨a2, c2', rfl, _⟩ := (Rd.ofOwn HG.out.kept).form
              obtain ⟨_, _, _, e3, _, xcell0⟩ := HA.out.at_ (j := i) (u := .string x) (by rw [cells_get, HX.out]; rfl)
              cases e3
              have xcell : w4.cell? ⟨g2, off2 + i, none⟩ = some (.string x) := by
                rw [HG.out.below.cell (World.block_lt_of_cell? w _ xcell0)]
                exact xcell0
              clear xcell0
              have HC := Lib.hid (put_any askT p L x w4 trivial HG.out.ord HT2.out.same.sorted (by rw [HT2.out.len]; exact hK8))
              go_wp2_with fail
              refine HC.out.mono ?_
              rintro e w5 ⟨r, hR, ⟨⟨y, hy, hk⟩, _, _⟩ | ⟨hn, hl8, _⟩ | ⟨hn, _, rfl, hF, hU⟩⟩
              · obtain ⟨z, hz, hz2⟩ := HT2.out.same.there hR hy hk
                exact absurd hz2 (hno.out z hz)
              · have := HT2.out.len
                omega
              · have HT3 := Lib.hid (HG.out.close hF hU (HT2.out.same.put hR hn))
                clear hF hU hR HC xcell hn
                go_wp2
                go_roundg (l.length - (i + 1))
                case rel => exact ⟨i + 1, by go_num, Lib.hid ⟨rfl, by omega⟩, Lib.hid ⟨L.insertIdx r x, K ++ [x], by have h9 := HT3.out; rw [show (K ++ [x]).length = K.length + 1 by simp] at h9; exact h9, by rw [List.length_append, List.length_singleton]; omega⟩⟩
                case measure => have := HI.out; omega
    · have hi1 : ¬ (i : Int) < (l.length : Int) := by omega
      have hi2 : decide (i < l.length) = false := decide_eq_false hi
      go_wp2
      go_loopg [10] K.length (fun kq v10 w' => ∃ k : Nat, v10 = .int .i64 k ∧ Hid (kq = K.length - k ∧ k ≤ K.length) ∧ Hid (TS w w' p L K (.slice ak K.length ck)))
      case atStart => exact ⟨0, rfl, Lib.hid ⟨rfl, Nat.zero_le _⟩, Lib.hid HT.out.1⟩
      case round =>
        obtain ⟨k, rfl, HK, HT2⟩ := hrel
        have hk0 : (0 : Int) ≤ (k : Int) := by omega
        have hK8 : K.length ≤ 8192 := HT.out.2
        by_cases hk : k < K.length
        · have hk1 : (k : Int) < (K.length : Int) := by omega
          have hk2 : decide (k < K.length) = true := decide_eq_true hk
          obtain ⟨z, hz⟩ : ∃ z, K[k]? = some z := ⟨K[k], List.getElem?_eq_getElem hk⟩
          have HZ := Lib.hid hz
          clear hz
          go_wp2
          go_loopg [11, 12] K.length (fun kq v11 v12 w' => ∃ n j : Nat, v11 = .int .i64 n ∧ v12 = .int .i64 j ∧ Hid (n = below (K.take j) (sz z) ∧ n ≤ j) ∧ Hid (kq = K.length - j ∧ j ≤ K.length) ∧ Hid (TS w w' p L K (.slice ak K.length ck)))
          case atStart => exact ⟨0, 0, rfl, rfl, Lib.hid ⟨rfl, Nat.le_refl _⟩, Lib.hid ⟨rfl, Nat.zero_le _⟩, HT2⟩
          case round =>
            obtain ⟨n, j, rfl, rfl, HN, HJ, HT3⟩ := hrel
            have hj0 : (0 : Int) ≤ (j : Int) := by omega
            have hn0 : (0 : Int) ≤ (n : Int) := by omega
            have hnj : n ≤ j := HN.out.2
            have hjK : j ≤ K.length := HJ.out.2
            have getK : Hid (∀ (t : Nat) (y : ByteArray) (w' : World), K[t]? = some y → TS w w' p L K (.slice ak K.length ck) → ∃ g off, ak = some ⟨g, off, none⟩ ∧ w'.cell? ⟨g, off + t, none⟩ = some (.string y)) := Lib.hid (by
              intro t y w' hy hT
              obtain ⟨g, off, c', e1, _, hcell⟩ := (Rd.ofOwn hT.kept).at_ (j := t) (u := .string y) (by rw [cells_get, hy]; rfl)
              cases e1
              exact ⟨g, off, rfl, hcell⟩)
            obtain ⟨g, off, rfl, zcell⟩ := getK.out k z _ HZ.out HT3.out
            by_cases hj : j < K.length
            · have hj1 : (j : Int) < (K.length : Int) := by omega
              have hj2 : decide (j < K.length) = true := decide_eq_true hj
              obtain ⟨y, hy⟩ : ∃ y, K[j]? = some y := ⟨K[j], List.getElem?_eq_getElem hj⟩
              have HY := Lib.hid hy
              obtain ⟨_, _, e2, ycell⟩ := getK.out j y _ hy HT3.out
              cases e2
              clear hy
              by_cases hyz : (y.size : Int) < (z.size : Int)
              · have hd : decide (y.size < z.size) = true := decide_eq_true (by omega)
                have HD := Lib.hid (show sz y < sz z from hyz)
                go_wp2
                go_quiet (fail)
                clear zcell ycell
                go_wp2
                go_roundg (K.length - (j + 1))
                case rel =>
                  refine ⟨n + 1, j + 1, by go_num, by go_num, Lib.hid ⟨?_, by omega⟩, Lib.hid ⟨rfl, by omega⟩, Lib.hid (HT3.out.drewN _)⟩
                  rw [below_succ K j y _ HY.out, if_pos HD.out, HN.out.1]
                case measure => have := HJ.out; omega
              · have hd : decide (y.size < z.size) = false := decide_eq_false (by omega)
                have HD := Lib.hid (show ¬ sz y < sz z from hyz)
                go_wp2
                go_quiet (fail)
                clear zcell ycell
                go_wp2
                go_roundg (K.length - (j + 1))
                case rel =>
                  refine ⟨n, j + 1, rfl, by go_num, Lib.hid ⟨?_, by omega⟩, Lib.hid ⟨rfl, by omega⟩, Lib.hid (HT3.out.drewN _)⟩
                  rw [below_succ K j y _ HY.out, if_neg (by have := HD.out; omega), HN.out.1]
                  rfl
                case measure => have := HJ.out; omega
            · have hj1 : ¬ (j : Int) < (K.length : Int) := by omega
              have hj2 : decide (j < K.length) = false := decide_eq_false hj
              have ej : j = K.length := by omega
              have hat : L[n]? = some z := by
                have := HT3.out.same.at_ (List.mem_of_getElem? HZ.out)
                rw [HN.out.1, ej, List.take_length]
                exact this
              have HAT := Lib.hid hat
              have hL8 : L.length ≤ 8192 := by rw [HT3.out.len]; exact hK8
              have HC := Lib.hid (at_any p L n z wr HT3.out.is hat hL8)
              clear ej hat zcell
              go_wp2_with fail
              refine HC.out.mono ?_
              rintro e w3 ⟨rfl, hb⟩
              have HT4 := Lib.hid (HT3.out.keep hb)
              clear hb HC HT3
              obtain ⟨_, _, e2, zcell⟩ := getK.out k z _ HZ.out HT4.out
              cases e2
              have HC := Lib.hid (rank_any askT p L z w3 trivial HT4.out.is HT4.out.same.sorted hL8)
              go_wp2_with fail
              refine HC.out.mono ?_
              rintro e w4 ⟨⟨r, hR, rfl⟩, hb⟩
              have er := rank_uniq HT4.out.same.sorted HAT.out hR
              subst er
              have HT5 := Lib.hid (HT4.out.keep hb)
              clear hb HC HT4 hR zcell
              obtain ⟨_, _, e2, zcell⟩ := getK.out k z _ HZ.out HT5.out
              cases e2
              have HC := Lib.hid (has_any askT p L z w4 trivial HT5.out.is HT5.out.same.sorted hL8)
              go_wp2_with fail
              refine HC.out.mono ?_
              rintro e w5 ⟨⟨r2, hR, hc2⟩, hb⟩
              have er := rank_uniq HT5.out.same.sorted HAT.out hR
              subst er
              have he : e = .returned (.bool true) := by
                rcases hc2 with ⟨_, _, _, he⟩ | ⟨hn, _⟩
                · exact he
                · have := hn z HAT.out
                  omega
              subst he
              have HT6 := Lib.hid (HT5.out.keep hb)
              clear hb HC HT5 hR zcell hc2
              go_wp2
              go_roundg (K.length - (k + 1))
              case rel => exact ⟨k + 1, by go_num, Lib.hid ⟨rfl, by omega⟩, HT6⟩
              case measure => have := HK.out; omega
        · have hk1 : ¬ (k : Int) < (K.length : Int) := by omega
          have hk2 : decide (k < K.length) = false := decide_eq_false hk
          have HC := Lib.hid (len_any p L wr HT2.out.is)
          have hlen : (L.length : Int) = (K.length : Int) := by rw [HT2.out.len]
          rw [hlen] at HC
          have HF := Lib.hid HT2.out.below
          clear hlen
          go_wp2_with fail
          refine HC.out.mono ?_
          rintro e w3 ⟨rfl, rfl⟩
          clear HC
          go_wp2
          go_ret
          exact ⟨rfl, HF.out⟩

end OrdS
end Go.Proofs.Ytnhgeoccknhiiaa
