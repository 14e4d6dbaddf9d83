/- OrderedLive: the table, the order that goes by it, the two lists beside each other. -/
import Derived.Test.YtnhgeoccknhiiaaLiveP
import Derived.Test.YtnhgeoccknhiiaaAllN
namespace Go.Proofs.Ytnhgeoccknhiiaa
open Go.RowKit
namespace OrdN
variable {N tv : Nat}

/-- The table: a variable that holds a slice over all of a block. -/
structure Tab (w : World) (tv tg : Nat) (T : List Int) : Prop where
  var : Blk w tv [.slice (some ⟨tg, 0, none⟩) T.length T.length] 23
  row : Blk w tg (T.map (Value.int .i64)) 3
theorem Tab.upd {w w' : World} {tv tg : Nat} {T : List Int} (h : Tab w tv tg T) {F : Nat → Prop} (U : Upd w w' F) (h1 : ¬ F tv) (h2 : ¬ F tg) : Tab w' tv tg T := ⟨U.blk h.var h1, U.blk h.row h2⟩
theorem Tab.cell {w : World} {tv tg : Nat} {T : List Int} (h : Tab w tv tg T) {i : Nat} {x : Int} (hx : T[i]? = some x) : w.cell? ⟨tg, i, none⟩ = some (.int .i64 x) := by
  rw [h.row.cell, List.getElem?_map, hx]
  rfl

theorem Tab.set {w : World} {tv tg : Nat} {T : List Int} (h : Tab w tv tg T) (i : Nat) (x : Int) : Tab (w.setCell ⟨tg, i, none⟩ (.int .i64 x)) tv tg (T.set i x) := by
  refine ⟨?_, ?_⟩
  · rw [List.length_set]
    exact h.var.far _ _ (h.var.ty h.row (by decide))
  · rw [List.map_set]
    exact h.row.set i _

theorem less_any {T : List Int} {tg : Nat} (hN : T.length = N) (hl : T.length ≤ 2000000) (a b : Fin N) (w : World) (h : Tab w tv tg T) :
    Calls Try.prog 13 #[.int .i64 (a.val : Int), .int .i64 (b.val : Int), .pointer (some ⟨tv, 0, none⟩)] w fun e w' => e = .returned (.bool (decide (tk T a < tk T b))) ∧ Below w.heap.size w w' := by
  have h0 : w.cell? ⟨tv, 0, none⟩ = some (.slice (some ⟨tg, 0, none⟩) T.length T.length) := h.var.cell 0
  have ha := h.cell (tk_get hN a)
  have hb := h.cell (tk_get hN b)
  have a1 : a.val < T.length := by rw [hN]; exact a.isLt
  have b1 : b.val < T.length := by rw [hN]; exact b.isLt
  generalize tk T a = x at *
  generalize tk T b = y at *
  generalize a.val = i at *
  generalize b.val = j at *
  clear a b h hN
  generalize T.length = n at *
  clear T
  have i0 : (0 : Int) ≤ (i : Int) := by omega
  have j0 : (0 : Int) ≤ (j : Int) := by omega
  have i1 : (i : Int) < (n : Int) := by omega
  have j1 : (j : Int) < (n : Int) := by omega
  go_enter Try.func13, Try.ntmps13
  go_wp2
  go_quiet (fail)
  go_wp2
  go_ret
  exact ⟨rfl, ((Upd.refl w (fun _ => False)).drewN _).below (Nat.le_refl _) (fun _ _ h => h)⟩

theorem askN {T : List Int} {tg : Nat} (hN : T.length = N) (hl : T.length ≤ 2000000) : Ask tv (fun w => Tab w tv tg T) (tk (N := N) T) :=
  ⟨fun _ _ h hB => h.upd (Upd.ofBelow (F := fun _ => False) hB) (fun h => h) (fun h => h), fun w a b h => less_any hN hl a b w h⟩

/-- The two lists beside each other, and the table. -/
structure Liv (B : Nat) (w : World) (p d tv tg dv rv : Nat) (T : List Int) (L : List (Fin N)) : Prop where
  ord : OrdFresh tv (tg + 1) w p L
  ref : OrdI.RefL w d (L.map toIt)
  tab : Tab w tv tg T
  dvar : ∃ t, Blk w dv [.pointer (some ⟨d, 0, none⟩)] t ∧ t ≠ 23 ∧ t ≠ 112 ∧ t ≠ 32 ∧ t ≠ 3 ∧ t ≠ 36
  res : ∃ t, Blk w rv [.bool false] t ∧ t ≠ 23 ∧ t ≠ 112 ∧ t ≠ 32 ∧ t ≠ 3 ∧ t ≠ 36
  low : B ≤ p ∧ B ≤ d ∧ B ≤ tv ∧ B ≤ tg ∧ B ≤ dv ∧ B ≤ rv
  hB : B ≤ w.heap.size
  srt : Sorted vk L
  big : L.length ≤ 8192

theorem Liv.below {B : Nat} {w w' : World} {p d tg dv rv : Nat} {T : List Int} {L : List (Fin N)} (h : Liv B w p d tv tg dv rv T L) (hb : Below w.heap.size w w') : Liv B w' p d tv tg dv rv T L := by
  have U : Upd w w' (fun _ => False) := Upd.ofBelow hb
  obtain ⟨v, h1, h2, h3⟩ := h.ord
  obtain ⟨t, d1, d2⟩ := h.dvar
  obtain ⟨t', r1, r2⟩ := h.res
  exact ⟨⟨v, U.blk h1 (fun h => h), own_keep h2 U (fun _ _ h => h), h3⟩, h.ref.below hb, h.tab.upd U (fun h => h) (fun h => h), ⟨t, U.blk d1 (fun h => h), d2⟩, ⟨t', U.blk r1 (fun h => h), r2⟩, h.low, Nat.le_trans h.hB U.size, h.srt, h.big⟩
theorem Liv.is {B : Nat} {w : World} {p d tg dv rv : Nat} {T : List Int} {L : List (Fin N)} (h : Liv B w p d tv tg dv rv T L) : OrdIs tv w p L := h.ord.is

theorem Liv.set {B : Nat} {w : World} {p d tg dv rv : Nat} {T : List Int} {L : List (Fin N)} (h : Liv B w p d tv tg dv rv T L) (i : Nat) (x : Int) : Liv B (w.setCell ⟨tg, i, none⟩ (.int .i64 x)) p d tv tg dv rv (T.set i x) L := by
  have U : Upd w (w.setCell ⟨tg, i, none⟩ (.int .i64 x)) (· = tg) := (Upd.refl w _).set _ _ (fun _ => rfl)
  obtain ⟨v, h1, h2, h3⟩ := h.ord
  obtain ⟨t, d1, d2, d3, d4, d5, d6⟩ := h.dvar
  obtain ⟨t', r1, r2, r3, r4, r5, r6⟩ := h.res
  obtain ⟨vr, e1, e2⟩ := h.ref
  refine ⟨⟨v, U.blk h1 (h1.ty h.tab.row (by decide)), own_keep h2 U (fun g hg e => ?_), h3⟩, ⟨vr, U.blk e1 (e1.ty h.tab.row (by decide)), own_keep e2 U (fun g hg e => ?_)⟩, h.tab.set i x,
    ⟨t, U.blk d1 (d1.ty h.tab.row d5), d2, d3, d4, d5, d6⟩, ⟨t', U.blk r1 (r1.ty h.tab.row r5), r2, r3, r4, r5, r6⟩, h.low, Nat.le_trans h.hB U.size, h.srt, h.big⟩
  · have := h3 g hg
    have e' : g = tg := e
    omega
  · obtain ⟨us, hv⟩ := own_ty e2 hg
    exact hv.ty h.tab.row (by decide) e

/-- What stands beside the list that the program keeps, when that one changes. -/
structure Mid (B : Nat) (w : World) (p d tv tg dv rv : Nat) (T : List Int) (L L' : List (Fin N)) : Prop where
  ord : OrdFresh tv (tg + 1) w p L'
  ref : OrdI.RefL w d (L.map toIt)
  tab : Tab w tv tg T
  dvar : ∃ t, Blk w dv [.pointer (some ⟨d, 0, none⟩)] t ∧ t ≠ 23 ∧ t ≠ 112 ∧ t ≠ 32 ∧ t ≠ 3 ∧ t ≠ 36
  res : ∃ t, Blk w rv [.bool false] t ∧ t ≠ 23 ∧ t ≠ 112 ∧ t ≠ 32 ∧ t ≠ 3 ∧ t ≠ 36
  low : B ≤ p ∧ B ≤ d ∧ B ≤ tv ∧ B ≤ tg ∧ B ≤ dv ∧ B ≤ rv
  hB : B ≤ w.heap.size

theorem Liv.mid0 {B : Nat} {w w' : World} {p d tg dv rv : Nat} {T : List Int} {L : List (Fin N)} (h : Liv B w p d tv tg dv rv T L) (hb : Below w.heap.size w w') : Mid B w' p d tv tg dv rv T L L := by
  have k := h.below hb
  exact ⟨k.ord, k.ref, k.tab, k.dvar, k.res, k.low, k.hB⟩
theorem Liv.mid {B : Nat} {w w' : World} {p d tg dv rv : Nat} {T : List Int} {L L' : List (Fin N)} (h : Liv B w p d tv tg dv rv T L) (hF : OrdFresh tv w.heap.size w' p L') (U : Upd w w' (· = p)) : Mid B w' p d tv tg dv rv T L L' := by
  obtain ⟨v0, q1, _⟩ := h.ord
  obtain ⟨v, h1, h2, h3⟩ := hF
  obtain ⟨t, d1, d2, d3, d4, d5, d6⟩ := h.dvar
  obtain ⟨t', r1, r2, r3, r4, r5, r6⟩ := h.res
  obtain ⟨vr, e1, e2⟩ := h.ref
  refine ⟨⟨v, h1, h2, fun g hg => ?_⟩, ⟨vr, U.blk e1 (e1.ty q1 (by decide)), own_keep e2 U (fun g hg e => ?_)⟩, h.tab.upd U (h.tab.var.ty q1 (by decide)) (h.tab.row.ty q1 (by decide)),
    ⟨t, U.blk d1 (d1.ty q1 d3), d2, d3, d4, d5, d6⟩, ⟨t', U.blk r1 (r1.ty q1 r3), r2, r3, r4, r5, r6⟩, h.low, Nat.le_trans h.hB U.size⟩
  · have := h3 g hg
    have := h.tab.row.lt
    omega
  · obtain ⟨us, hv⟩ := own_ty e2 hg
    exact hv.ty q1 (by decide) e
theorem Mid.same {B : Nat} {w w' : World} {p d tg dv rv : Nat} {T : List Int} {L L' : List (Fin N)} (h : Mid B w p d tv tg dv rv T L L') (hb : Below w.heap.size w w') : Mid B w' p d tv tg dv rv T L L' := by
  have U : Upd w w' (fun _ => False) := Upd.ofBelow hb
  obtain ⟨v, h1, h2, h3⟩ := h.ord
  obtain ⟨t, d1, d2⟩ := h.dvar
  obtain ⟨t', r1, r2⟩ := h.res
  exact ⟨⟨v, U.blk h1 (fun h => h), own_keep h2 U (fun _ _ h => h), h3⟩, h.ref.below hb, h.tab.upd U (fun h => h) (fun h => h), ⟨t, U.blk d1 (fun h => h), d2⟩, ⟨t', U.blk r1 (fun h => h), r2⟩, h.low, Nat.le_trans h.hB U.size⟩
theorem Mid.close0 {B : Nat} {w w' : World} {p d tg dv rv : Nat} {T : List Int} {L : List (Fin N)} (h : Mid B w p d tv tg dv rv T L L) (hb : Below w.heap.size w w') (hs : Sorted vk L) (hl : L.length ≤ 8192) : Liv B w' p d tv tg dv rv T L := by
  have k := h.same hb
  exact ⟨k.ord, k.ref, k.tab, k.dvar, k.res, k.low, k.hB, hs, hl⟩
theorem Mid.close {B : Nat} {w w' : World} {p d tg dv rv : Nat} {T : List Int} {L L' : List (Fin N)} (h : Mid B w p d tv tg dv rv T L L') (hF : OrdI.RefL w' d (L'.map toIt)) (U : Upd w w' (· = d)) (hs : Sorted vk L') (hl : L'.length ≤ 8192) : Liv B w' p d tv tg dv rv T L' := by
  obtain ⟨v, h1, h2, h3⟩ := h.ord
  obtain ⟨t, d1, d2, d3, d4, d5, d6⟩ := h.dvar
  obtain ⟨t', r1, r2, r3, r4, r5, r6⟩ := h.res
  obtain ⟨vr, e1, e2⟩ := h.ref
  refine ⟨⟨v, U.blk h1 (h1.ty e1 (by decide)), own_keep h2 U (fun g hg e => ?_), h3⟩, hF, h.tab.upd U (h.tab.var.ty e1 (by decide)) (h.tab.row.ty e1 (by decide)),
    ⟨t, U.blk d1 (d1.ty e1 d4), d2, d3, d4, d5, d6⟩, ⟨t', U.blk r1 (r1.ty e1 r4), r2, r3, r4, r5, r6⟩, h.low, Nat.le_trans h.hB U.size, hs, hl⟩
  obtain ⟨us, hv⟩ := own_ty h2 hg
  exact hv.ty e1 (by decide) e

/-- Put, by the program: its answer, and how the two lists then stand. -/
structure Step (B : Nat) (w w' : World) (p d tv tg dv rv : Nat) (T : List Int) (L : List (Fin N)) (x : Fin N) (c : Int) (L' : List (Fin N)) : Prop where
  mid : Mid B w' p d tv tg dv rv T L L'
  below : Below B w w'
  srt : Sorted vk L'
  big : L'.length ≤ 8192
  how : ∃ r, OrdI.RankOf It.k (L.map toIt) (x.val : Int) r ∧ ((c = 70 ∧ L' = L ∧ ∃ y, (L.map toIt)[r]? = some y ∧ y.k = (x.val : Int)) ∨
    (c = 2 ∧ L' = L ∧ 8192 ≤ L.length ∧ ∀ y, (L.map toIt)[r]? = some y → (x.val : Int) < y.k) ∨ (c = 0 ∧ L.length < 8192 ∧ L' = L.insertIdx r x ∧ ∀ y, (L.map toIt)[r]? = some y → (x.val : Int) < y.k))

theorem step_put {B : Nat} {w : World} {p d tg dv rv : Nat} {T : List Int} {L : List (Fin N)} (h : Liv B w p d tv tg dv rv T L) (hN : T.length = N) (hl : T.length ≤ 2000000) (hM : Mono T) (x : Fin N) :
    Calls Try.prog 14 #[.pointer (some ⟨p, 0, none⟩), .int .i64 (x.val : Int)] w fun e w' => ∃ c L', e = .returned (.int .i64 c) ∧ Step B w w' p d tv tg dv rv T L x c L' := by
  refine (put_any (askN (tg := tg) hN hl) p L x w h.tab h.is (sorted_tk hN hM h.srt) h.big).mono ?_
  rintro e w' ⟨r, hR, hcase⟩
  have hRI := rank_it hN hM hR
  have hRV := rank_vk hN hM hR
  have conv : (∀ y, L[r]? = some y → tk T x < tk T y) → ∀ y, (L.map toIt)[r]? = some y → (x.val : Int) < y.k := by
    intro hn y hy
    rw [List.getElem?_map] at hy
    obtain ⟨y', hy', rfl⟩ := Option.map_eq_some_iff.1 hy
    have := (tk_lt hN hM x y').1 (hn y' hy')
    show (x.val : Int) < (y'.val : Int)
    omega
  rcases hcase with ⟨⟨y, hy, hk⟩, rfl, hb⟩ | ⟨hn, hl, rfl, hb⟩ | ⟨hn, hl, rfl, hF, hU⟩
  · refine ⟨70, L, rfl, h.mid0 hb, hb.mono h.hB, h.srt, h.big, r, hRI, Or.inl ⟨rfl, rfl, toIt y, by rw [List.getElem?_map, hy]; rfl, ?_⟩⟩
    rw [tk_eq hN hM hk]
    rfl
  · exact ⟨2, L, rfl, h.mid0 hb, hb.mono h.hB, h.srt, h.big, r, hRI, Or.inr (Or.inl ⟨rfl, rfl, hl, conv hn⟩)⟩
  · refine ⟨0, L.insertIdx r x, rfl, h.mid hF hU, hU.below h.hB (fun i hi e => ?_), sorted_insert h.srt hRV (fun y hy => ?_), ?_, r, hRI, Or.inr (Or.inr ⟨rfl, hl, rfl, conv hn⟩)⟩
    · have e' : i = p := e
      have := h.low.1
      omega
    · have := (tk_lt hN hM x y).1 (hn y hy)
      unfold vk
      omega
    · rw [List.length_insertIdx]
      split <;> omega

/-- The document's Put answers the same; then the two lists hold the same. -/
theorem step_ref {B : Nat} {w0 w : World} {p d tg dv rv : Nat} {T : List Int} {L L' : List (Fin N)} {x : Fin N} {c : Int} (h : Step B w0 w p d tv tg dv rv T L x c L') (hs : Sorted vk L) (hb : L.length ≤ 8192) :
    Calls Try.prog 15 #[.pointer (some ⟨d, 0, none⟩), .agg #[.int .i64 (x.val : Int), .int .i64 0]] w fun e w' => e = .returned (.int .i64 c) ∧ Liv B w' p d tv tg dv rv T L' ∧ Below B w0 w' := by
  refine (OrdI.rput_any d (L.map toIt) (toIt x) w h.mid.ref (sorted_it hs) (by rw [List.length_map]; exact hb)).mono ?_
  rintro e w' ⟨r, hR, hcase⟩
  obtain ⟨r', hR', how⟩ := h.how
  have er : r = r' := OrdI.rank_uniq hR hR'
  subst er
  rcases hcase with ⟨⟨y, hy, hk⟩, rfl, hb'⟩ | ⟨hn, hl, rfl, hb'⟩ | ⟨hn, hl, rfl, hF, hU⟩
  · rcases how with ⟨rfl, rfl, _⟩ | ⟨_, _, _, hn⟩ | ⟨_, _, _, hn⟩
    · exact ⟨rfl, h.mid.close0 hb' h.srt h.big, h.below.trans (hb'.mono h.mid.hB)⟩
    · have := hn y hy
      have hk' : y.k = (x.val : Int) := hk
      omega
    · have := hn y hy
      have hk' : y.k = (x.val : Int) := hk
      omega
  · rw [List.length_map] at hl
    rcases how with ⟨rfl, rfl, y, hy, hk⟩ | ⟨rfl, rfl, _, _⟩ | ⟨_, hl', _⟩
    · have h1 : (x.val : Int) < y.k := hn y hy
      omega
    · exact ⟨rfl, h.mid.close0 hb' h.srt h.big, h.below.trans (hb'.mono h.mid.hB)⟩
    · omega
  · rw [List.length_map] at hl
    rcases how with ⟨rfl, rfl, y, hy, hk⟩ | ⟨rfl, rfl, hl', _⟩ | ⟨rfl, _, rfl, _⟩
    · have h1 : (x.val : Int) < y.k := hn y hy
      omega
    · omega
    · have hle : r ≤ L.length := by have := hR.le; rw [List.length_map] at this; exact this
      refine ⟨rfl, h.mid.close (by rw [map_insert _ _ _ _ hle]; exact hF.is) hU h.srt h.big, h.below.trans (hU.below h.mid.hB (fun i hi e => ?_))⟩
      have e' : i = d := e
      have := h.mid.low.2.1
      omega

end OrdN
end Go.Proofs.Ytnhgeoccknhiiaa
