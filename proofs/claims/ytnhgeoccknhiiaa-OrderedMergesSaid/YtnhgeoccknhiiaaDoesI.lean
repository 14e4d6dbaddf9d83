/- A call by the program and by the document: the two lists beside each other. -/
import Derived.Test.YtnhgeoccknhiiaaSame
import Derived.Test.YtnhgeoccknhiiaaLiveP
namespace Go.Proofs.Ytnhgeoccknhiiaa
open Go.RowKit Go.Shelf
namespace OrdI

theorem insert_sorted_len {L : List It} {x : It} {r : Nat} (hs : Sorted It.k L) (hR : RankOf It.k L x.k r) (hn : ∀ y, L[r]? = some y → x.k < y.k) (hl : L.length < 8192) : Sorted It.k (L.insertIdx r x) ∧ (L.insertIdx r x).length ≤ 8192 := by
  refine ⟨sorted_insert hs hR hn, ?_⟩
  rw [List.length_insertIdx]
  split <;> omega
theorem erase_sorted {L : List It} (hs : Sorted It.k L) (r : Nat) : Sorted It.k (L.eraseIdx r) := by
  intro i j x y hx hy hij
  rw [List.getElem?_eraseIdx] at hx hy
  split at hx <;> split at hy
  · exact hs i j x y hx hy hij
  · exact hs i (j + 1) x y hx hy (by omega)
  · omega
  · exact hs (i + 1) (j + 1) x y hx hy (by omega)

/-- The two lists hold the same. -/
structure Two (B : Nat) (w : World) (p d : Nat) (L : List It) : Prop where
  ord : OrdIs w p L
  ref : RefL w d L
  srt : Sorted It.k L
  big : L.length ≤ 8192
  low : B ≤ p ∧ B ≤ d ∧ B ≤ w.heap.size
theorem Two.below {B : Nat} {w w' : World} {p d : Nat} {L : List It} (h : Two B w p d L) (hb : Below w.heap.size w w') : Two B w' p d L :=
  ⟨h.ord.below hb, h.ref.below hb, h.srt, h.big, h.low.1, h.low.2.1, Nat.le_trans h.low.2.2 hb.size⟩
theorem Two.ref_keep {B : Nat} {w w' : World} {p d : Nat} {L : List It} (h : Two B w p d L) (U : Upd w w' (· = p)) : RefL w' d L := by
  obtain ⟨v, h1, h2⟩ := h.ref
  obtain ⟨v0, q1, _⟩ := h.ord
  exact ⟨v, U.blk h1 (h1.ty q1 (by decide)), own_keep h2 U (fun g hg e => by
    obtain ⟨us, hv⟩ := own_ty h2 hg
    exact hv.ty q1 (by decide) e)⟩
theorem ord_keep {w w' : World} {p d : Nat} {L L' : List It} (h : OrdIs w p L') (hd : RefL w d L) (U : Upd w w' (· = d)) : OrdIs w' p L' := by
  obtain ⟨v, h1, h2⟩ := h
  obtain ⟨v0, q1, _⟩ := hd
  exact ⟨v, U.blk h1 (h1.ty q1 (by decide)), own_keep h2 U (fun g hg e => by
    obtain ⟨us, hv⟩ := own_ty h2 hg
    exact hv.ty q1 (by decide) e)⟩
def PD (p d : Nat) (b : Nat) : Prop := b = p ∨ b = d

/-- A slice's cell: its row is the old one, or it is new. -/
def RowOK (w w' : World) (a : Addr) : Prop := ∀ v' g, w'.cell? a = some v' → v'.ownBlock = some g → (∃ v, w.cell? a = some v ∧ v.ownBlock = some g) ∨ w.heap.size ≤ g
theorem RowOK.refl (w : World) (a : Addr) : RowOK w w a := fun v' g h1 h2 => Or.inl ⟨v', h1, h2⟩
theorem RowOK.trans {w w1 w2 : World} {a : Addr} (h : RowOK w w1 a) (k : RowOK w1 w2 a) (hs : w.heap.size ≤ w1.heap.size) : RowOK w w2 a := by
  intro v' g h1 h2
  rcases k v' g h1 h2 with ⟨v, q1, q2⟩ | q
  · exact h v g q1 q2
  · exact Or.inr (by omega)
theorem RowOK.upd {w w' : World} {a : Addr} {F : Nat → Prop} (U : Upd w w' F) (hl : a.block < w.heap.size) (hF : ¬ F a.block) : RowOK w w' a := by
  intro v' g h1 h2
  rw [U.cell hl hF] at h1
  exact Or.inl ⟨v', h1, h2⟩

/-- Put on the one side: the answer, and how its list then stands. -/
structure HalfP (w : World) (p d : Nat) (L : List It) (x : It) (w1 : World) (c : Int) (L' : List It) : Prop where
  ord : OrdIs w1 p L'
  ref : RefL w1 d L
  upd : Upd w w1 (· = p)
  srt : Sorted It.k L'
  big : L'.length ≤ 8192
  row : RowOK w w1 ⟨p, 1, none⟩
  how : ∃ r, RankOf It.k L x.k r ∧ ((c = 70 ∧ L' = L ∧ ∃ y, L[r]? = some y ∧ y.k = x.k) ∨ (c = 2 ∧ L' = L ∧ 8192 ≤ L.length ∧ ∀ y, L[r]? = some y → x.k < y.k) ∨ (c = 0 ∧ L.length < 8192 ∧ L' = L.insertIdx r x ∧ ∀ y, L[r]? = some y → x.k < y.k))
theorem same_row {B : Nat} {w w1 : World} {p d : Nat} {L : List It} (hb : Below w.heap.size w w1) (h : Two B w p d L) : RowOK w w1 ⟨p, 1, none⟩ := by
  obtain ⟨v0, q1, _⟩ := h.ord
  exact RowOK.upd (F := fun _ => False) (Upd.ofBelow hb) q1.lt (fun h => h)
theorem fresh_row {w w1 : World} {p : Nat} {L' : List It} (hF : OrdFresh w.heap.size w1 p L') : RowOK w w1 ⟨p, 1, none⟩ := by
  obtain ⟨v, h1, h2, h3⟩ := hF
  intro v' g k1 k2
  have e : w1.cell? ⟨p, 1, none⟩ = some v := h1.cell 1
  rw [e] at k1
  cases k1
  exact Or.inr (h3 g k2)
theorem same_rref {w w1 : World} {d : Nat} {L : List It} (hb : Below w.heap.size w w1) (h : RefL w d L) : RowOK w w1 ⟨d, 0, none⟩ := by
  obtain ⟨v0, q1, _⟩ := h
  exact RowOK.upd (F := fun _ => False) (Upd.ofBelow hb) q1.lt (fun h => h)
theorem fresh_rref {w w1 : World} {d : Nat} {L' : List It} (hF : RefFresh w.heap.size w1 d L') : RowOK w w1 ⟨d, 0, none⟩ := by
  obtain ⟨v, h1, h2, h3⟩ := hF
  intro v' g k1 k2
  have e : w1.cell? ⟨d, 0, none⟩ = some v := h1.cell 0
  rw [e] at k1
  cases k1
  exact Or.inr (h3 g k2)
/-- The rows of both lists are the old ones, or new. -/
def Rows2 (w w' : World) (p d : Nat) : Prop := RowOK w w' ⟨p, 1, none⟩ ∧ RowOK w w' ⟨d, 0, none⟩
theorem rows_first {w w1 w2 : World} {p d : Nat} {L L' : List It} (h1 : RowOK w w1 ⟨p, 1, none⟩) (hd : RefL w d L) (hU : Upd w w1 (· = p)) (hne : d ≠ p) (h2 : RowOK w1 w2 ⟨d, 0, none⟩) (hp : OrdIs w1 p L') (hU2 : Upd w1 w2 (· = d)) : Rows2 w w2 p d := by
  obtain ⟨v0, q1, _⟩ := hd
  obtain ⟨v1, q2, _⟩ := hp
  exact ⟨h1.trans (RowOK.upd hU2 q2.lt (fun e => hne e.symm)) hU.size, (RowOK.upd (a := ⟨d, 0, none⟩) hU q1.lt hne).trans h2 hU.size⟩

theorem half_put {B : Nat} {w w1 : World} {p d : Nat} {L : List It} {x : It} {e : Ending} (h : Two B w p d L) (hp : PutPost It.k p L x w e w1) : ∃ c L', e = .returned (.int .i64 c) ∧ HalfP w p d L x w1 c L' := by
  obtain ⟨r, hR, ⟨⟨y, hy, hk⟩, rfl, hb⟩ | ⟨hn, hl, rfl, hb⟩ | ⟨hn, hl, rfl, hF, hU⟩⟩ := hp
  · exact ⟨70, L, rfl, h.ord.below hb, h.ref.below hb, Upd.ofBelow hb, h.srt, h.big, same_row hb h, r, hR, Or.inl ⟨rfl, rfl, y, hy, hk⟩⟩
  · exact ⟨2, L, rfl, h.ord.below hb, h.ref.below hb, Upd.ofBelow hb, h.srt, h.big, same_row hb h, r, hR, Or.inr (Or.inl ⟨rfl, rfl, hl, hn⟩)⟩
  · obtain ⟨s1, s2⟩ := insert_sorted_len h.srt hR hn hl
    exact ⟨0, L.insertIdx r x, rfl, hF.is, h.ref_keep hU, hU, s1, s2, fresh_row hF, r, hR, Or.inr (Or.inr ⟨rfl, hl, rfl, hn⟩)⟩
theorem ne_pd {B : Nat} {w : World} {p d : Nat} {L : List It} (h : Two B w p d L) : d ≠ p := by
  obtain ⟨v0, q1, _⟩ := h.ord
  obtain ⟨v1, q2, _⟩ := h.ref
  exact q2.ty q1 (by decide)
theorem full_put {B : Nat} {w w1 w2 : World} {p d : Nat} {L L' : List It} {x : It} {c : Int} {e : Ending} (h : Two B w p d L) (hh : HalfP w p d L x w1 c L') (hp : RPutPost d L x w1 e w2) : e = .returned (.int .i64 c) ∧ Two B w2 p d L' ∧ Upd w w2 (PD p d) ∧ Rows2 w w2 p d := by
  obtain ⟨r', hR', how⟩ := hh.how
  obtain ⟨r, hR, hcase⟩ := hp
  have er := rank_uniq hR hR'
  subst er
  have U1 : Upd w w1 (PD p d) := hh.upd.mono (fun i _ e => Or.inl e)
  have low : B ≤ w1.heap.size := Nat.le_trans h.low.2.2 hh.upd.size
  rcases hcase with ⟨⟨y, hy, hk⟩, rfl, hb⟩ | ⟨hn, hl, rfl, hb⟩ | ⟨hn, hl, rfl, hF, hU⟩
  · rcases how with ⟨rfl, rfl, _⟩ | ⟨_, _, _, hn⟩ | ⟨_, _, _, hn⟩
    · exact ⟨rfl, ⟨hh.ord.below hb, hh.ref.below hb, h.srt, h.big, h.low.1, h.low.2.1, Nat.le_trans low hb.size⟩, U1.trans (Upd.ofBelow (F := fun _ => False) hb) (fun _ _ h => h.elim), rows_first hh.row h.ref hh.upd (ne_pd h) (same_rref hb hh.ref) hh.ord (Upd.ofBelow hb)⟩
    · have := hn y hy
      omega
    · have := hn y hy
      omega
  · rcases how with ⟨_, _, y, hy, hk⟩ | ⟨rfl, rfl, _, _⟩ | ⟨_, hl', _⟩
    · have := hn y hy
      omega
    · exact ⟨rfl, ⟨hh.ord.below hb, hh.ref.below hb, h.srt, h.big, h.low.1, h.low.2.1, Nat.le_trans low hb.size⟩, U1.trans (Upd.ofBelow (F := fun _ => False) hb) (fun _ _ h => h.elim), rows_first hh.row h.ref hh.upd (ne_pd h) (same_rref hb hh.ref) hh.ord (Upd.ofBelow hb)⟩
    · omega
  · rcases how with ⟨_, _, y, hy, hk⟩ | ⟨_, _, hl', _⟩ | ⟨rfl, _, rfl, _⟩
    · have := hn y hy
      omega
    · omega
    · exact ⟨rfl, ⟨ord_keep hh.ord hh.ref hU, hF.is, hh.srt, hh.big, h.low.1, h.low.2.1, Nat.le_trans low hU.size⟩, U1.trans hU (fun i _ e => Or.inr e), rows_first hh.row h.ref hh.upd (ne_pd h) (fresh_rref hF) hh.ord hU⟩

structure HalfD (w : World) (p d : Nat) (L : List It) (kx : Int) (w1 : World) (c : Bool) (L' : List It) : Prop where
  ord : OrdIs w1 p L'
  ref : RefL w1 d L
  upd : Upd w w1 (· = p)
  srt : Sorted It.k L'
  big : L'.length ≤ 8192
  row : RowOK w w1 ⟨p, 1, none⟩
  how : ∃ r, RankOf It.k L kx r ∧ ((c = true ∧ L' = L.eraseIdx r ∧ ∃ y, L[r]? = some y ∧ y.k = kx) ∨ (c = false ∧ L' = L ∧ ∀ y, L[r]? = some y → kx < y.k))
theorem half_drop {B : Nat} {w w1 : World} {p d : Nat} {L : List It} {x : It} {e : Ending} (h : Two B w p d L) (hp : DropPost It.k p L x w e w1) : ∃ c L', e = .returned (.bool c) ∧ HalfD w p d L x.k w1 c L' := by
  obtain ⟨r, hR, ⟨⟨y, hy, hk⟩, rfl, hF, hU⟩ | ⟨hn, rfl, hb⟩⟩ := hp
  · exact ⟨true, L.eraseIdx r, rfl, hF.is, h.ref_keep hU, hU, erase_sorted h.srt r, Nat.le_trans (List.length_eraseIdx_le ..) h.big, fresh_row hF, r, hR, Or.inl ⟨rfl, rfl, y, hy, hk⟩⟩
  · exact ⟨false, L, rfl, h.ord.below hb, h.ref.below hb, Upd.ofBelow hb, h.srt, h.big, same_row hb h, r, hR, Or.inr ⟨rfl, rfl, hn⟩⟩
theorem full_drop {B : Nat} {w w1 w2 : World} {p d : Nat} {L L' : List It} {kx : Int} {c : Bool} {e : Ending} (h : Two B w p d L) (hh : HalfD w p d L kx w1 c L') (hp : RDropPost d L kx w1 e w2) : e = .returned (.bool c) ∧ Two B w2 p d L' ∧ Upd w w2 (PD p d) ∧ Rows2 w w2 p d := by
  obtain ⟨r', hR', how⟩ := hh.how
  obtain ⟨r, hR, hcase⟩ := hp
  have er := rank_uniq hR hR'
  subst er
  have U1 : Upd w w1 (PD p d) := hh.upd.mono (fun i _ e => Or.inl e)
  have low : B ≤ w1.heap.size := Nat.le_trans h.low.2.2 hh.upd.size
  rcases hcase with ⟨⟨y, hy, hk⟩, rfl, hF, hU⟩ | ⟨hn, rfl, hb⟩
  · rcases how with ⟨rfl, rfl, _⟩ | ⟨_, _, hn⟩
    · exact ⟨rfl, ⟨ord_keep hh.ord hh.ref hU, hF.is, hh.srt, hh.big, h.low.1, h.low.2.1, Nat.le_trans low hU.size⟩, U1.trans hU (fun i _ e => Or.inr e), rows_first hh.row h.ref hh.upd (ne_pd h) (fresh_rref hF) hh.ord hU⟩
    · have := hn y hy
      omega
  · rcases how with ⟨_, _, y, hy, hk⟩ | ⟨rfl, rfl, _⟩
    · have := hn y hy
      omega
    · exact ⟨rfl, ⟨hh.ord.below hb, hh.ref.below hb, h.srt, h.big, h.low.1, h.low.2.1, Nat.le_trans low hb.size⟩, U1.trans (Upd.ofBelow (F := fun _ => False) hb) (fun _ _ h => h.elim), rows_first hh.row h.ref hh.upd (ne_pd h) (same_rref hb hh.ref) hh.ord (Upd.ofBelow hb)⟩

def DoesPost (B : Nat) (p d : Nat) (w : World) (e : Ending) (w' : World) : Prop := ∃ L', e = .returned (.bool true) ∧ Two B w' p d L' ∧ Upd w w' (PD p d) ∧ Rows2 w w' p d

set_option maxRecDepth 100000 in
set_option maxHeartbeats 4000000 in
theorem does_any (B p d : Nat) (L : List It) (kind stop : Int) (x : It) (w : World) (h : Two B w p d L) :
    Calls Try.prog 49 #[.pointer (some ⟨p, 0, none⟩), .pointer (some ⟨d, 0, none⟩), .agg #[.int .i64 kind, .int .i64 stop, .int .i64 x.k, .int .i64 x.m]] w (DoesPost B p d w) := by
  have hpd0 : Hid (p < w.heap.size ∧ d < w.heap.size) := Lib.hid (by
    obtain ⟨v0, q1, _⟩ := h.ord
    obtain ⟨v1, q2, _⟩ := h.ref
    exact ⟨q1.lt, q2.lt⟩)
  obtain ⟨ab, hab⟩ : ∃ ab, ab = w.heap.size := ⟨_, rfl⟩
  obtain ⟨w1, hw1⟩ : ∃ w1, w1 = w.alloc (.cells #[.int .i64 kind, .int .i64 stop, .int .i64 x.k, .int .i64 x.m] 104) := ⟨_, rfl⟩
  have U1 : Upd w w1 (fun _ => False) := by rw [hw1]; exact (Upd.refl w _).alloc _
  have A1 : Blk w1 ab [.int .i64 kind, .int .i64 stop, .int .i64 x.k, .int .i64 x.m] 104 := by rw [hw1, hab]; exact Blk.new w _ _
  have T1 : Two B w1 p d L := h.below (U1.below (Nat.le_refl _) (fun _ _ h => h))
  have HRK := Lib.hid (rrank_any d L x.k w1 T1.ref T1.srt T1.big)
  have HT := Lib.hid (And.intro T1 (And.intro U1 A1))
  have HW := Lib.hid (And.intro hab hw1)
  have a0 : w1.cell? ⟨ab, 0, none⟩ = some (.int .i64 kind) := A1.cell 0
  have a1 : w1.cell? ⟨ab, 1, none⟩ = some (.int .i64 stop) := A1.cell 1
  have a2 : w1.cell? ⟨ab, 2, none⟩ = some (.int .i64 x.k) := A1.cell 2
  have a3 : w1.cell? ⟨ab, 3, none⟩ = some (.int .i64 x.m) := A1.cell 3
  clear T1 U1 A1 h
  go_enter Try.func49, Try.ntmps49
  go_wp2_with fail
  rw [← hab, ← hw1]
  clear hab hw1
  refine HRK.out.mono ?_
  rintro e w2 ⟨⟨r, hr, rfl⟩, rfl⟩
  have HR := Lib.hid hr
  have hrL := hr.le
  have hr0 : (0 : Int) ≤ (r : Int) := by omega
  clear hr HRK
  -- the cell of the act lies through all
  have keep : Hid (∀ w', Upd w2 w' (PD p d) → w'.cell? ⟨ab, 1, none⟩ = some (.int .i64 stop) ∧ w'.cell? ⟨ab, 2, none⟩ = some (.int .i64 x.k) ∧ w'.cell? ⟨ab, 3, none⟩ = some (.int .i64 x.m)) := Lib.hid (fun w' U => by
    obtain ⟨v0, q1, _⟩ := HT.out.1.ord
    obtain ⟨v1, q2, _⟩ := HT.out.1.ref
    have hb := U.blk HT.out.2.2 (fun hm => by
      rcases hm with e | e
      · exact HT.out.2.2.ty q1 (by decide) e
      · exact HT.out.2.2.ty q2 (by decide) e)
    exact ⟨hb.cell 1, hb.cell 2, hb.cell 3⟩)
  have fin2 : Hid (∀ (L' : List It) (w' : World), Two B w' p d L' → Upd w2 w' (PD p d) → Rows2 w2 w' p d → DoesPost B p d w (.returned (.bool true)) w') := Lib.hid (fun L' w' hT hU hR => by
    have hU1 := HT.out.2.1
    refine ⟨L', rfl, hT, (hU1.mono (fun _ _ h => h.elim)).trans hU (fun _ _ h => h), ?_, ?_⟩
    · exact (RowOK.upd (a := ⟨p, 1, none⟩) hU1 hpd0.out.1 (fun h => h)).trans hR.1 hU1.size
    · exact (RowOK.upd (a := ⟨d, 0, none⟩) hU1 hpd0.out.2 (fun h => h)).trans hR.2 hU1.size)
  have fin : Hid (∀ (L' : List It) (w' : World), Two B w' p d L' → Upd w2 w' (fun _ => False) → DoesPost B p d w (.returned (.bool true)) w') := Lib.hid (fun L' w' hT hU => by
    obtain ⟨v0, q1, _⟩ := HT.out.1.ord
    obtain ⟨v1, q2, _⟩ := HT.out.1.ref
    exact fin2.out L' w' hT (hU.mono (fun _ _ h => h.elim)) ⟨RowOK.upd hU q1.lt (fun h => h), RowOK.upd hU q2.lt (fun h => h)⟩)
  by_cases h0 : kind = 0
  · have d0 : (kind == 0) = true := by rw [beq_iff_eq]; exact h0
    subst h0
    have hTd : Two B w2.drew p d L := HT.out.1.below ((Upd.refl w2 (fun _ => False)).drew.below (Nat.le_refl _) (fun _ _ h => h))
    have HC := Lib.hid (put_any askI p L x w2.drew trivial hTd.ord hTd.srt hTd.big)
    have HTd := Lib.hid hTd
    clear hTd
    go_wp2_with fail
    apply wp_reg (fun w' : World => w'.cell? ⟨ab, 2, none⟩ = some (.int .i64 x.k) ∧ w'.cell? ⟨ab, 3, none⟩ = some (.int .i64 x.m)) [0, 1, 2, 4, 5, 6] [3, 7, 8] [9] (by kernel_rfl) (by kernel_rfl) (fun _ _ d _ _ h => by cases d <;> exact h) ⟨a2, a3⟩
    · iterate 6 (apply reads_consL rfl rfl; (· intro w0 hS; obtain ⟨hS1, hS2⟩ := hS; go_simp; try rfl); simp only [Act.put, List.setIfInBounds_toArray, List.set_cons_zero, List.set_cons_succ])
      exact rfl
    refine tail_consL rfl ?_
    go_wp2_with fail
    refine HC.out.mono ?_
    rintro e w3 hpp
    obtain ⟨c, L', rfl, hh⟩ := half_put HTd.out hpp
    have hk := keep.out w3 ((Upd.refl w2 _).drew.trans (hh.upd.mono (fun i _ e => Or.inl e)) (fun _ _ h => h))
    have HC2 := Lib.hid (rput_any d L x w3 hh.ref HTd.out.srt HTd.out.big)
    have HH := Lib.hid hh
    have k2 := hk.2.1
    have k3 := hk.2.2
    clear hpp hh HC hk a0 a1 a2 a3
    go_wp2_with fail
    refine ⟨⟨k2, k3⟩, tail_consL rfl ?_⟩
    go_wp2_with fail
    refine HC2.out.mono ?_
    rintro e w4 hpp
    obtain ⟨rfl, hT, hU, hRw⟩ := full_put HTd.out HH.out hpp
    have hU2 := (Upd.refl w2 (PD p d)).drew.trans hU (fun _ _ h => h)
    have hk := keep.out w4 hU2
    have HF := Lib.hid (fin2.out L' w4 hT hU2 ⟨hRw.1, hRw.2⟩)
    have k2' := hk.2.1
    have k3' := hk.2.2
    clear hpp hT hU hU2 hRw hk HC2 k2 k3
    go_wp2_with fail
    refine ⟨⟨k2', k3'⟩, tail_consL rfl ?_⟩
    go_wp2_with fail
    refine ⟨⟨k2', k3'⟩, tail_oneL rfl ?_⟩
    go_wp2
    go_ret
    exact HF.out
  · have d0 : (kind == 0) = false := by rw [beq_eq_false_iff_ne]; exact h0
    by_cases h1 : kind = 1
    · have d1 : (kind == 1) = true := by rw [beq_iff_eq]; exact h1
      subst h1
      have hTd : Two B w2.drew p d L := HT.out.1.below ((Upd.refl w2 (fun _ => False)).drew.below (Nat.le_refl _) (fun _ _ h => h))
      have HC := Lib.hid (drop_any askI p L x w2.drew trivial hTd.ord hTd.srt hTd.big)
      have HTd := Lib.hid hTd
      clear hTd
      go_wp2_with fail
      apply wp_reg (fun w' : World => w'.cell? ⟨ab, 2, none⟩ = some (.int .i64 x.k) ∧ w'.cell? ⟨ab, 3, none⟩ = some (.int .i64 x.m)) [0, 1, 2, 4, 5, 6, 7] [3, 8, 9] [10] (by kernel_rfl) (by kernel_rfl) (fun _ _ d _ _ h => by cases d <;> exact h) ⟨a2, a3⟩
      · iterate 7 (apply reads_consL rfl rfl; (· intro w0 hS; obtain ⟨hS1, hS2⟩ := hS; go_simp; try rfl); simp only [Act.put, List.setIfInBounds_toArray, List.set_cons_zero, List.set_cons_succ])
        exact rfl
      refine tail_consL rfl ?_
      go_wp2_with fail
      refine HC.out.mono ?_
      rintro e w3 hpp
      obtain ⟨c, L', rfl, hh⟩ := half_drop HTd.out hpp
      have hk := keep.out w3 ((Upd.refl w2 _).drew.trans (hh.upd.mono (fun i _ e => Or.inl e)) (fun _ _ h => h))
      have HC2 := Lib.hid (rdrop_any d L x.k w3 hh.ref HTd.out.srt HTd.out.big)
      have HH := Lib.hid hh
      have k2 := hk.2.1
      have k3 := hk.2.2
      clear hpp hh HC hk a0 a1 a2 a3
      go_wp2_with fail
      refine ⟨⟨k2, k3⟩, tail_consL rfl ?_⟩
      go_wp2_with fail
      refine HC2.out.mono ?_
      rintro e w4 hpp
      obtain ⟨rfl, hT, hU, hRw⟩ := full_drop HTd.out HH.out hpp
      have hU2 := (Upd.refl w2 (PD p d)).drew.trans hU (fun _ _ h => h)
      have hk := keep.out w4 hU2
      have HF := Lib.hid (fin2.out L' w4 hT hU2 ⟨hRw.1, hRw.2⟩)
      have k2' := hk.2.1
      have k3' := hk.2.2
      have bb : (c == c) = true := by cases c <;> rfl
      clear hpp hT hU hU2 hRw hk HC2 k2 k3
      go_wp2_with fail
      refine ⟨⟨k2', k3'⟩, tail_consL rfl ?_⟩
      go_wp2_with fail
      refine ⟨⟨k2', k3'⟩, tail_oneL rfl ?_⟩
      go_wp2
      go_ret
      first | exact HF.out | (simp only [bb]; exact HF.out) | (have := HF.out; simpa [bb] using this)
    · have d1 : (kind == 1) = false := by rw [beq_eq_false_iff_ne]; exact h1
      by_cases h2 : kind = 2
      · have d2 : (kind == 2) = true := by rw [beq_iff_eq]; exact h2
        subst h2
        have hTd : Two B w2.drew p d L := HT.out.1.below ((Upd.refl w2 (fun _ => False)).drew.below (Nat.le_refl _) (fun _ _ h => h))
        have HC := Lib.hid (has_any askI p L x w2.drew trivial hTd.ord hTd.srt hTd.big)
        have HTd := Lib.hid hTd
        clear hTd
        go_wp2_with fail
        apply wp_reg2 (fun w' : World => w'.cell? ⟨ab, 2, none⟩ = some (.int .i64 x.k) ∧ w'.cell? ⟨ab, 3, none⟩ = some (.int .i64 x.m)) [0, 1, 2, 4, 5, 6, 7] [3, 8] [9, 10, 11, 12, 13, 15] [14, 16, 17] [18] (by kernel_rfl) (by kernel_rfl) (fun _ _ d _ _ h => by cases d <;> exact h) ⟨a2, a3⟩
        · iterate 7 (apply reads_consL rfl rfl; (· intro w0 hS; obtain ⟨hS1, hS2⟩ := hS; go_simp; try rfl); simp only [Act.put, List.setIfInBounds_toArray, List.set_cons_zero, List.set_cons_succ])
          exact rfl
        refine pre_consL rfl ?_
        go_wp2_with fail
        refine HC.out.mono ?_
        rintro e w3 ⟨⟨r1, hr1, hc1⟩, hb1⟩
        obtain ⟨b, rfl, hbb⟩ : ∃ b : Bool, e = .returned (.bool b) ∧ (b = true ↔ ∃ y, L[r]? = some y ∧ y.k = x.k) := by
          have er := rank_uniq hr1 HR.out
          subst er
          rcases hc1 with ⟨y, hy, hk, rfl⟩ | ⟨hn, rfl⟩
          · exact ⟨true, rfl, fun _ => ⟨y, hy, hk⟩, fun _ => rfl⟩
          · refine ⟨false, rfl, ⟨fun h => (by cases h), fun ⟨y, hy, hk⟩ => ?_⟩⟩
            have := hn y hy
            omega
        have hU1 := (Upd.refl w2 (fun _ => False)).drew.trans (Upd.ofBelow (F := fun _ => False) hb1) (fun _ _ h => h.elim)
        have hk := keep.out w3 (hU1.mono (fun _ _ h => h.elim))
        have T3 := HTd.out.below hb1
        have HC2 := Lib.hid (rhas_any d L x.k w3 T3.ref T3.srt T3.big)
        have HT3 := Lib.hid (And.intro T3 (And.intro hU1 hbb))
        have k2 := hk.2.1
        have k3 := hk.2.2
        clear hr1 hc1 hb1 hU1 hk T3 HC hbb a0 a1 a2 a3
        go_wp2_with fail
        refine ⟨⟨k2, k3⟩, pre_consL rfl ?_⟩
        go_wp2_with fail
        refine HC2.out.mono ?_
        rintro e w4 ⟨⟨r1, hr1, hc1⟩, hb1⟩
        obtain rfl : e = .returned (.bool b) := by
          have er := rank_uniq hr1 HR.out
          subst er
          have hbb := HT3.out.2.2
          rcases hc1 with ⟨y, hy, hk, rfl⟩ | ⟨hn, rfl⟩
          · rw [hbb.2 ⟨y, hy, hk⟩]
          · cases b
            · rfl
            · obtain ⟨y, hy, hk⟩ := hbb.1 rfl
              have := hn y hy
              omega
        have hU2 := HT3.out.2.1.trans (Upd.ofBelow (F := fun _ => False) hb1) (fun _ _ h => h.elim)
        have hk := keep.out w4 (hU2.mono (fun _ _ h => h.elim))
        have T4 := HT3.out.1.below hb1
        have HC3 := Lib.hid (rank_any askI p L x w4 trivial T4.ord T4.srt T4.big)
        have HT4 := Lib.hid (And.intro T4 hU2)
        have k2' := hk.2.1
        have k3' := hk.2.2
        have bb : (b == b) = true := by cases b <;> rfl
        clear hr1 hc1 hb1 hU2 hk T4 HC2 k2 k3
        go_wp2_with fail
        refine ⟨⟨k2', k3'⟩, ?_⟩
        apply pre_last
        · iterate 6 (apply reads_consL rfl rfl; (· intro w0 hS; obtain ⟨hS1, hS2⟩ := hS; go_simp; try rfl); simp only [Act.put, List.setIfInBounds_toArray, List.set_cons_zero, List.set_cons_succ])
          exact rfl
        refine tail_consL rfl ?_
        go_wp2_with fail
        refine HC3.out.mono ?_
        rintro e w5 ⟨⟨r1, hr1, rfl⟩, hb1⟩
        have er := rank_uniq hr1 HR.out
        subst er
        have hU2 := HT4.out.2.trans (Upd.ofBelow (F := fun _ => False) hb1) (fun _ _ h => h.elim)
        have hk := keep.out w5 (hU2.mono (fun _ _ h => h.elim))
        have HF := Lib.hid (fin.out L w5 (HT4.out.1.below hb1) hU2)
        have k2 := hk.2.1
        have k3 := hk.2.2
        clear hr1 hb1 hU2 hk HC3 k2' k3'
        go_wp2_with fail
        refine ⟨⟨k2, k3⟩, tail_consL rfl ?_⟩
        go_wp2_with fail
        refine ⟨⟨k2, k3⟩, tail_consL rfl ?_⟩
        go_wp2_with fail
        refine ⟨⟨k2, k3⟩, tail_oneL rfl ?_⟩
        go_wp2
        go_ret
        exact HF.out
      · have d2 : (kind == 2) = false := by rw [beq_eq_false_iff_ne]; exact h2
        by_cases h3 : kind = 3
        · have d3 : (kind == 3) = true := by rw [beq_iff_eq]; exact h3
          subst h3
          have T2 := HT.out.1
          obtain ⟨vr, e1, e2⟩ := T2.ref
          obtain ⟨ar, cr, rfl, hcr⟩ := (Rd.ofOwn e2).form
          have z0 : w2.cell? ⟨d, 0, none⟩ = some (.slice ar L.length cr) := e1.cell 0
          have hdl : d < w2.heap.size := e1.lt
          have habl : ab < w2.heap.size := HT.out.2.2.lt
          have hbig := T2.big
          have HR2 := Lib.hid (Rd.ofOwn e2)
          by_cases hin : 0 ≤ x.k ∧ x.k < (L.length : Int)
          · obtain ⟨hk0, hk1⟩ := hin
            obtain ⟨i, hi⟩ : ∃ i : Nat, x.k = (i : Int) := ⟨x.k.toNat, by omega⟩
            obtain ⟨y, hy⟩ : ∃ y, L[i]? = some y := ⟨L[i]'(by omega), List.getElem?_eq_getElem _⟩
            have HC := Lib.hid (at_any p L i y w2 T2.ord hy T2.big)
            obtain ⟨g, off, c', e3, _, y0, y1⟩ := it_at HR2.out hy
            cases e3
            have hgl : g < w2.heap.size := World.block_lt_of_cell? w2 _ y0
            have HT2 := Lib.hid T2
            rw [hi] at a2 hk0 hk1
            have dk0 : decide ((i : Int) ≥ 0) = true := decide_eq_true hk0
            have dk1 : decide ((i : Int) < (L.length : Int)) = true := decide_eq_true hk1
            clear e1 e2 hy T2
            go_wp2_with fail
            refine HC.out.mono ?_
            rintro e w3 ⟨rfl, hb⟩
            have U3 : Upd w2 (w3.alloc (.cells #[.int .i64 y.k, .int .i64 y.m] 36)) (fun _ => False) := (Upd.ofBelow (F := fun _ => False) hb).alloc _
            have b2 := (U3.cell (p := ⟨ab, 2, none⟩) habl (fun h => h)).trans a2
            have b3 := (U3.cell (p := ⟨ab, 3, none⟩) habl (fun h => h)).trans a3
            have c0 := (U3.cell (p := ⟨d, 0, none⟩) hdl (fun h => h)).trans z0
            have c1 := (U3.cell (p := ⟨g, off + i * 2, none⟩) hgl (fun h => h)).trans y0
            have c2 := (U3.cell (p := ⟨g, off + i * 2 + 1, none⟩) hgl (fun h => h)).trans y1
            have N3 : Blk (w3.alloc (.cells #[.int .i64 y.k, .int .i64 y.m] 36)) w3.heap.size (icells y) 36 := Blk.new w3 _ _
            have n0 : (w3.alloc (.cells #[.int .i64 y.k, .int .i64 y.m] 36)).cell? ⟨w3.heap.size, 0, none⟩ = some (.int .i64 y.k) := N3.cell 0
            have n1 : (w3.alloc (.cells #[.int .i64 y.k, .int .i64 y.m] 36)).cell? ⟨w3.heap.size, 1, none⟩ = some (.int .i64 y.m) := N3.cell 1
            have HU3 := Lib.hid U3
            clear hb U3 N3 HC a0 a1 a2 a3 z0 y0 y1
            go_wp2_with fail
            go_quiet (fail)
            go_wp2_with fail
            go_quiet (fail)
            go_wp2
            go_ret
            refine fin.out L _ (HT2.out.below ((HU3.out.drewN _ |>.drewN _).below (Nat.le_refl _) (fun _ _ h => h))) (HU3.out.drewN _ |>.drewN _)
          · have HC := Lib.hid (at_none p L x.k w2 T2.ord (by omega))
            have HT2 := Lib.hid T2
            have HI := Lib.hid hin
            clear e1 e2 T2
            by_cases hneg : 0 ≤ x.k
            · have hge : ¬ x.k < (L.length : Int) := fun h => hin ⟨hneg, h⟩
              have dk0 : decide (x.k ≥ 0) = true := decide_eq_true hneg
              have dk1 : decide (x.k < (L.length : Int)) = false := decide_eq_false hge
              clear hin
              go_wp2_with fail
              refine HC.out.mono ?_
              rintro e w3 ⟨rfl, hb⟩
              have U3 : Upd w2 (w3.alloc (.cells #[.int .i64 0, .int .i64 0] 36)) (fun _ => False) := (Upd.ofBelow (F := fun _ => False) hb).alloc _
              have b2 := (U3.cell (p := ⟨ab, 2, none⟩) habl (fun h => h)).trans a2
              have b3 := (U3.cell (p := ⟨ab, 3, none⟩) habl (fun h => h)).trans a3
              have c0 := (U3.cell (p := ⟨d, 0, none⟩) hdl (fun h => h)).trans z0
              have N3 : Blk (w3.alloc (.cells #[.int .i64 0, .int .i64 0] 36)) w3.heap.size [.int .i64 0, .int .i64 0] 36 := Blk.new w3 _ _
              have n0 : (w3.alloc (.cells #[.int .i64 0, .int .i64 0] 36)).cell? ⟨w3.heap.size, 0, none⟩ = some (.int .i64 0) := N3.cell 0
              have n1 : (w3.alloc (.cells #[.int .i64 0, .int .i64 0] 36)).cell? ⟨w3.heap.size, 1, none⟩ = some (.int .i64 0) := N3.cell 1
              have HU3 := Lib.hid U3
              clear hb U3 N3 HC a0 a1 a2 a3 z0
              go_wp2_with fail
              go_quiet (fail)
              go_wp2_with fail
              go_quiet (fail)
              go_wp2
              go_ret
              refine fin.out L _ (HT2.out.below ((HU3.out.drewN _ |>.drewN _).below (Nat.le_refl _) (fun _ _ h => h))) (HU3.out.drewN _ |>.drewN _)
            · have dk0 : decide (x.k ≥ 0) = false := decide_eq_false hneg
              clear hin
              go_wp2_with fail
              refine HC.out.mono ?_
              rintro e w3 ⟨rfl, hb⟩
              have U3 : Upd w2 (w3.alloc (.cells #[.int .i64 0, .int .i64 0] 36)) (fun _ => False) := (Upd.ofBelow (F := fun _ => False) hb).alloc _
              have b2 := (U3.cell (p := ⟨ab, 2, none⟩) habl (fun h => h)).trans a2
              have b3 := (U3.cell (p := ⟨ab, 3, none⟩) habl (fun h => h)).trans a3
              have c0 := (U3.cell (p := ⟨d, 0, none⟩) hdl (fun h => h)).trans z0
              have N3 : Blk (w3.alloc (.cells #[.int .i64 0, .int .i64 0] 36)) w3.heap.size [.int .i64 0, .int .i64 0] 36 := Blk.new w3 _ _
              have n0 : (w3.alloc (.cells #[.int .i64 0, .int .i64 0] 36)).cell? ⟨w3.heap.size, 0, none⟩ = some (.int .i64 0) := N3.cell 0
              have n1 : (w3.alloc (.cells #[.int .i64 0, .int .i64 0] 36)).cell? ⟨w3.heap.size, 1, none⟩ = some (.int .i64 0) := N3.cell 1
              have HU3 := Lib.hid U3
              clear hb U3 N3 HC a0 a1 a2 a3 z0
              go_wp2_with fail
              go_quiet (fail)
              go_wp2_with fail
              go_quiet (fail)
              go_wp2
              go_ret
              refine fin.out L _ (HT2.out.below ((HU3.out.drewN _ |>.drewN _).below (Nat.le_refl _) (fun _ _ h => h))) (HU3.out.drewN _ |>.drewN _)
        · have d3 : (kind == 3) = false := by rw [beq_eq_false_iff_ne]; exact h3
          have T2 := HT.out.1
          obtain ⟨vr, e1, e2⟩ := T2.ref
          obtain ⟨ar, cr, rfl, hcr⟩ := (Rd.ofOwn e2).form
          have z0 : w2.cell? ⟨d, 0, none⟩ = some (.slice ar L.length cr) := e1.cell 0
          have hbig := T2.big
          have hRd := Rd.ofOwn e2
          obtain ⟨s1, q1, R1, _⟩ := hRd.cutL elem Try.underlying30 hrL .i64
          obtain ⟨s2, q2, R2, _⟩ := hRd.cutH elem Try.underlying30 hrL .i64
          rw [cells_drop] at R1
          rw [cells_take] at R2
          have ld : (L.drop r).length = L.length - r := List.length_drop
          have lt : (L.take r).length = r := by rw [List.length_take]; omega
          rw [← ld] at R1
          have R2' : Rd w2 s2 (L.take r).length 2 (cells (L.take r)) := by rw [lt]; exact R2
          have hE := Lib.hid (And.intro e1 (And.intro R1 R2'))
          have T2d := T2.below (w' := w2.drew) ((Upd.refl w2 (fun _ => False)).drew.below (Nat.le_refl _) (fun _ _ h => h))
          have HT2 := Lib.hid T2d
          have HC := Lib.hid (ranged_any p L x stop false w2.drew T2d.ord T2d.srt T2d.big r HR.out)
          have sl : ∀ M : List It, M.length ≤ 8192 → (someL M stop).length ≤ 8192 := fun M h => by
            unfold someL
            split
            · rw [List.length_take]
              omega
            · exact h
          -- what is known of the old memory behind whatever only adds
          have old : Hid (∀ w', Upd w2 w' (fun _ => False) → (w'.cell? ⟨ab, 1, none⟩ = some (.int .i64 stop) ∧ w'.cell? ⟨ab, 2, none⟩ = some (.int .i64 x.k) ∧ w'.cell? ⟨ab, 3, none⟩ = some (.int .i64 x.m) ∧ w'.cell? ⟨d, 0, none⟩ = some (.slice ar L.length cr))) := Lib.hid (fun w' U => by
            obtain ⟨k1, k2, k3⟩ := keep.out w' (U.mono (fun _ _ h => h.elim))
            exact ⟨k1, k2, k3, (U.blk hE.out.1 (fun h => h)).cell 0⟩)
          clear e1 e2 hRd R1 R2 R2' T2 T2d hcr
          go_wp2_with fail
          apply wp_reg2 (fun w' : World => w'.cell? ⟨ab, 1, none⟩ = some (.int .i64 stop) ∧ w'.cell? ⟨ab, 2, none⟩ = some (.int .i64 x.k) ∧ w'.cell? ⟨ab, 3, none⟩ = some (.int .i64 x.m) ∧ w'.cell? ⟨d, 0, none⟩ = some (.slice ar L.length cr)) [0, 1, 2, 3, 4, 6, 7, 8, 9, 10, 11, 12, 13] [5, 14, 15] [16, 17, 18, 19, 20, 21, 23, 24, 25, 26, 27, 28, 30, 31] [22, 29, 32, 33, 34] [35] (by kernel_rfl) (by kernel_rfl) (fun _ _ d _ _ h => by cases d <;> exact h) ⟨a1, a2, a3, z0⟩
          · iterate 13 (apply reads_consL rfl rfl; (· intro w0 hS; obtain ⟨hS1, hS2, hS3, hS4⟩ := hS; go_simp; try rfl); simp only [Act.put, List.setIfInBounds_toArray, List.set_cons_zero, List.set_cons_succ])
            exact rfl
          refine pre_consL rfl ?_
          go_wp2_with fail
          refine HC.out.mono ?_
          rintro e w3 ⟨v1, r1, hr1, rfl, hO1⟩
          have er := rank_uniq hr1 HR.out
          subst er
          have U3 : Upd w2 w3 (fun _ => False) := (Upd.refl w2 _).drew.trans hO1.2.1 (fun _ _ h => h)
          have HO1 := Lib.hid (And.intro hO1 U3)
          obtain ⟨k1, k2, k3, k4⟩ := old.out w3 U3
          clear hr1 hO1 U3 HC a0 a1 a2 a3 z0
          go_wp2_with fail
          refine ⟨⟨k1, k2, k3, k4⟩, pre_consL rfl ?_⟩
          have HS1 := Lib.hid (some_any s1 (L.drop r1) stop w3 (hE.out.2.1.keep HO1.out.2 (fun _ _ h => h)))
          go_wp2_with fail
          refine HS1.out.mono ?_
          rintro e w4 ⟨v2, rfl, hS, rfl⟩
          have HS2 := Lib.hid hS
          clear hS HS1
          go_wp2_with fail
          refine ⟨⟨k1, k2, k3, k4⟩, pre_consL rfl ?_⟩
          have HI1 := Lib.hid (items_any v1 v2 (someL (L.drop r1) stop) (someL (L.drop r1) stop) w4 HO1.out.1.rd HS2.out (by have := sl (L.drop r1) (by omega); omega) (by have := sl (L.drop r1) (by omega); omega))
          go_wp2_with fail
          refine HI1.out.mono ?_
          rintro e w5 ⟨he, hb5⟩
          obtain rfl : e = .returned (.bool true) := by rw [he]; simp
          have U5 : Upd w2 w5 (fun _ => False) := HO1.out.2.trans (Upd.ofBelow (F := fun _ => False) hb5) (fun _ _ h => h)
          have HU5 := Lib.hid U5
          obtain ⟨m1, m2, m3, m4⟩ := old.out w5 U5
          clear hb5 U5 HI1 k1 k2 k3 k4
          go_wp2_with fail
          refine ⟨⟨m1, m2, m3, m4⟩, ?_⟩
          apply pre_last
          · iterate 14 (apply reads_consL rfl rfl; (· intro w0 hS; obtain ⟨hS1, hS2, hS3, hS4⟩ := hS; go_simp; try rfl); simp only [Act.put, List.setIfInBounds_toArray, List.set_cons_zero, List.set_cons_succ])
            exact rfl
          refine tail_consL rfl ?_
          have T5 := HT.out.1.below (HU5.out.below (Nat.le_refl _) (fun _ _ h => h))
          have HC2 := Lib.hid (ranged_any p L x stop true w5 T5.ord T5.srt T5.big r1 HR.out)
          clear T5
          go_wp2_with fail
          refine HC2.out.mono ?_
          rintro e w6 ⟨v3, r2, hr2, rfl, hO2⟩
          have er := rank_uniq hr2 HR.out
          subst er
          have U6 : Upd w2 w6 (fun _ => False) := HU5.out.trans hO2.2.1 (fun _ _ h => h)
          have HO2 := Lib.hid (And.intro hO2 U6)
          obtain ⟨k1, k2, k3, k4⟩ := old.out w6 U6
          clear hr2 hO2 U6 HC2 m1 m2 m3 m4
          go_wp2_with fail
          refine ⟨⟨k1, k2, k3, k4⟩, tail_consL rfl ?_⟩
          have HTu := Lib.hid (turned_any s2 (L.take r2) w6 (hE.out.2.2.keep HO2.out.2 (fun _ _ h => h)) (by omega))
          go_wp2_with fail
          refine HTu.out.mono ?_
          rintro e w7 ⟨v4, rfl, hO3⟩
          have U7 : Upd w2 w7 (fun _ => False) := HO2.out.2.trans hO3.2.1 (fun _ _ h => h)
          have HO3 := Lib.hid (And.intro hO3 U7)
          obtain ⟨m1, m2, m3, m4⟩ := old.out w7 U7
          clear hO3 U7 HTu k1 k2 k3 k4
          go_wp2_with fail
          refine ⟨⟨m1, m2, m3, m4⟩, tail_consL rfl ?_⟩
          have HS3 := Lib.hid (some_any v4 (L.take r2).reverse stop w7 HO3.out.1.rd)
          go_wp2_with fail
          refine HS3.out.mono ?_
          rintro e w8 ⟨v5, rfl, hS, rfl⟩
          have HS4 := Lib.hid hS
          clear hS HS3
          go_wp2_with fail
          refine ⟨⟨m1, m2, m3, m4⟩, tail_consL rfl ?_⟩
          have hlr : (L.take r2).reverse.length ≤ 8192 := by rw [List.length_reverse]; omega
          have HI2 := Lib.hid (items_any v3 v5 (someL (L.take r2).reverse stop) (someL (L.take r2).reverse stop) w8 (HO2.out.1.rd.keep HO3.out.1.2.1 (fun _ _ h => h)) HS4.out (by have := sl _ hlr; omega) (by have := sl _ hlr; omega))
          go_wp2_with fail
          refine HI2.out.mono ?_
          rintro e w9 ⟨he, hb9⟩
          obtain rfl : e = .returned (.bool true) := by rw [he]; simp
          have U9 : Upd w2 w9 (fun _ => False) := HO3.out.2.trans (Upd.ofBelow (F := fun _ => False) hb9) (fun _ _ h => h)
          have HU9 := Lib.hid U9
          obtain ⟨k1, k2, k3, k4⟩ := old.out w9 U9
          clear hb9 U9 HI2 m1 m2 m3 m4
          go_wp2_with fail
          refine ⟨⟨k1, k2, k3, k4⟩, tail_consL rfl ?_⟩
          go_wp2_with fail
          refine ⟨⟨k1, k2, k3, k4⟩, tail_oneL rfl ?_⟩
          go_wp2
          go_ret
          exact fin.out L w9 (HT.out.1.below (HU9.out.below (Nat.le_refl _) (fun _ _ h => h))) HU9.out

end OrdI
end Go.Proofs.Ytnhgeoccknhiiaa
