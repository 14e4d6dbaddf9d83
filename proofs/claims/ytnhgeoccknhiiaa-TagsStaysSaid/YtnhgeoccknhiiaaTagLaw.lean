/- A list and the document's list, side by side: each call answers alike, and leaves them alike. -/
import Derived.Test.YtnhgeoccknhiiaaTagsP
import Derived.Test.YtnhgeoccknhiiaaTagRef
namespace Go.Proofs.Ytnhgeoccknhiiaa
open Go.RowKit

def nms (N : List Nd) : List Nat := N.map (·.name)

structure Pair (B : Nat) (w : World) (p d : Nat) (N : List Nd) (g nw : Nat) : Prop where
  tags : TagsIn B w p N g nw
  ref : RefIs w d (nms N) g
  inv : Inv N g nw
  low : B ≤ d

theorem nms_len (N : List Nd) : (nms N).length = N.length := by simp [nms]
theorem nameL_nms (N : List Nd) (k : Nat) : nameL (nms N) k = nameAt N k := by
  cases k with
  | zero => rfl
  | succ k => simp only [nameL, nameAt, nms, List.getElem?_map]
theorem standsL_iff {N : List Nd} {t k : Nat} : StandsL (nms N) t k ↔ Stands N t k := by
  unfold StandsL Stands
  rw [nms_len, nameL_nms]
theorem goneL_iff {N : List Nd} {t : Nat} : GoneL (nms N) t ↔ Gone N t := by
  unfold GoneL Gone nms
  constructor
  · exact fun ⟨h1, h2⟩ => ⟨h1, fun n hn e => h2 (List.mem_map.2 ⟨n, hn, e⟩)⟩
  · exact fun ⟨h1, h2⟩ => ⟨h1, fun hm => by obtain ⟨n, hn, e⟩ := List.mem_map.1 hm; exact h2 n hn e⟩
theorem StandsL.uniq {L : List Nat} {t k k' : Nat} (hn : L.Nodup) (h : StandsL L t k) (h' : StandsL L t k') : k = k' := by
  obtain ⟨a1, a2, a3⟩ := h
  obtain ⟨b1, b2, b3⟩ := h'
  cases k with
  | zero => exact (b3.2 (a3.1 rfl)).symm
  | succ k =>
    cases k' with
    | zero => exact a3.2 (b3.1 rfl)
    | succ k' =>
      have e1 := nameL_get (L := L) (k := k) (by omega)
      have e2 := nameL_get (L := L) (k := k') (by omega)
      rw [a2] at e1
      rw [b2] at e2
      rw [List.getElem?_eq_some_iff] at e1 e2
      obtain ⟨l1, e1⟩ := e1
      obtain ⟨l2, e2⟩ := e2
      have := (List.getElem_inj (h₀ := l1) (h₁ := l2) hn).1 (e1.trans e2.symm)
      omega

/-! What one list's calls change is nothing of the other's. -/
theorem RefIs.keep {w w' : World} {B p d : Nat} {L : List Nat} {g : Nat} (h : RefIs w d L g) (hU : Upd w w' (TF B w p)) : RefIs w' d L g := by
  obtain ⟨v, hB, hO⟩ := h
  have no : ∀ b vs t, Blk w b vs t → t ≠ 73 → t ≠ 130 → ¬ TF B w p b := by
    intro b vs t hb h1 h2 hf
    rcases hf.2.1 with ⟨us, hu⟩ | ⟨us, hu⟩ | ⟨M, hu⟩
    · exact absurd rfl (hb.ty hu h1)
    · exact absurd rfl (hb.ty hu h2)
    · exact hu.ne hb rfl
  refine ⟨v, hU.blk hB (no d _ _ hB (by decide) (by decide)), own_keep hO hU (fun g hg => ?_)⟩
  obtain ⟨vs, hv⟩ := own_ty hO hg
  exact no g _ _ hv (by decide) (by decide)

theorem TagsIn.keepF {w w' : World} {B p : Nat} {N : List Nd} {g nw : Nat} (h : TagsIn B w p N g nw) {F : Nat → Prop} (hU : Upd w w' F) (hF : ∀ b, TagBlk w b → ¬ F b) : TagsIn B w' p N g nw := by
  obtain ⟨hp, ⟨h, r⟩ | ⟨m, hd', h, hb⟩⟩ := h
  · exact ⟨hp, Or.inl ⟨hU.blk h (hF p (Or.inl ⟨_, h⟩)), r⟩⟩
  · refine ⟨hp, Or.inr ⟨m, hd', ⟨hU.blk h.top (hF p (Or.inl ⟨_, h.top⟩)), fun i n hi => hU.blk (h.nodes i n hi) (hF _ (Or.inr (Or.inl ⟨_, h.nodes i n hi⟩))), h.names, ?_, h.zero⟩, hb⟩⟩
    obtain ⟨L, hM, hL⟩ := h.map
    exact ⟨L, hM.at_ (hU.block m hM.lt (hF m (Or.inr (Or.inr ⟨L, hM⟩)))), hL⟩
theorem TagsIn.keep {w w' : World} {B p d : Nat} {N : List Nd} {g nw : Nat} (h : TagsIn B w p N g nw) {vs : List Value} {t : TypeId} (hd : Blk w d vs t) (h1 : t ≠ 73) (h2 : t ≠ 130) (hU : Upd w w' (· = d)) : TagsIn B w' p N g nw :=
  h.keepF hU (fun b hb e => by
    have e' : b = d := e
    subst e'
    rcases hb with ⟨us, hu⟩ | ⟨us, hu⟩ | ⟨M, hu⟩
    · exact absurd rfl (hd.ty hu h1)
    · exact absurd rfl (hd.ty hu h2)
    · exact hu.ne hd rfl)
theorem TagsIn.upd0 {w w' : World} {B p : Nat} {N : List Nd} {g nw : Nat} (h : TagsIn B w p N g nw) (hU : Upd w w' (fun _ => False)) : TagsIn B w' p N g nw := h.keepF hU (fun _ _ h => h)
theorem RefIs.upd0 {w w' : World} {d : Nat} {L : List Nat} {g : Nat} (h : RefIs w d L g) (hU : Upd w w' (fun _ => False)) : RefIs w' d L g := by
  obtain ⟨v, hB, hO⟩ := h
  exact ⟨v, hU.blk hB (fun h => h), own_keep hO hU (fun _ _ h => h)⟩
theorem Pair.upd0 {w w' : World} {B p d : Nat} {N : List Nd} {g nw : Nat} (h : Pair B w p d N g nw) (hU : Upd w w' (fun _ => False)) : Pair B w' p d N g nw := ⟨h.tags.upd0 hU, h.ref.upd0 hU, h.inv, h.low⟩

/-! After -/
def AnsA (N : List Nd) (t g : Nat) (x y : Int) (N' : List Nd) (g' : Nat) : Prop :=
  (Gone N t ∧ x = 0 ∧ y = 10 ∧ N' = N ∧ g' = g) ∨
  (∃ k, Stands N t k ∧ ((8192 ≤ N.length ∧ x = 0 ∧ y = 11 ∧ N' = N ∧ g' = g) ∨ (N.length < 8192 ∧ x = (g + 1 : Nat) ∧ y = 0 ∧ g' = g + 1 ∧ nms N' = (nms N).insertIdx k (g + 1))))

def AfterP (B p d t : Nat) (N : List Nd) (g : Nat) (w : World) (e : Ending) (w' : World) : Prop :=
  ∃ x y N' g' nw', e = .returned (.tuple #[.int .u64 x, .int .i64 y]) ∧ AnsA N t g x y N' g' ∧ TagsIn B w' p N' g' nw' ∧ Inv N' g' nw' ∧ RefIs w' d (nms N) g ∧ Upd w w' (TF B w p)

theorem after_p (B p d t : Nat) (N : List Nd) (g nw : Nat) (w : World) (h : Pair B w p d N g nw) (hg : g < 4503599627370496) :
    Calls Try.prog 36 #[ptrTo p, .int .u64 t] w (AfterP B p d t N g w) := by
  have hw := h.inv.writes
  refine (after_pub B p t N g nw w h.tags h.inv.len (by omega) (by omega) h.inv.rise (fun n hn => (h.inv.name n hn).2)).mono ?_
  rintro e w' ⟨hU, ⟨hG, rfl, hT⟩ | ⟨k, hS, ⟨hn, rfl, hT⟩ | ⟨hn, rfl, N', nw', hT, hI⟩⟩⟩
  · exact ⟨0, 10, N, g, nw, rfl, Or.inl ⟨hG, rfl, rfl, rfl, rfl⟩, hT, h.inv, h.ref.keep hU, hU⟩
  · exact ⟨0, 11, N, g, nw, rfl, Or.inr ⟨k, hS, Or.inl ⟨hn, rfl, rfl, rfl, rfl⟩⟩, hT, h.inv, h.ref.keep hU, hU⟩
  · obtain ⟨i1, i2⟩ := inv_ins h.inv hS.1 hn hI
    exact ⟨_, 0, N', g + 1, nw', rfl, Or.inr ⟨k, hS, Or.inr ⟨hn, rfl, rfl, rfl, i2⟩⟩, hT, i1, h.ref.keep hU, hU⟩

theorem after_d (B p d t : Nat) (N N' : List Nd) (g g' nw' : Nat) (x y : Int) (w : World) (hA : AnsA N t g x y N' g') (hT : TagsIn B w p N' g' nw') (hI : Inv N' g' nw') (hR : RefIs w d (nms N) g) (hl : N.length ≤ 8192) (hnd : (nms N).Nodup) (hg : g < 4503599627370496) (hlow : B ≤ d) :
    Calls Try.prog 47 #[ptrTo d, .int .u64 t] w fun e w' => e = .returned (.tuple #[.int .u64 x, .int .i64 y]) ∧ Pair B w' p d N' g' nw' ∧ Upd w w' (· = d) := by
  have hB := hR
  obtain ⟨v, hB, _⟩ := hB
  refine (rafter_any d t g (nms N) w hR (by rw [nms_len]; exact hl) (by omega)).mono ?_
  rintro e w' hE
  rcases hA with ⟨hG, rfl, rfl, rfl, rfl⟩ | ⟨k, hS, hA⟩
  · rcases hE with ⟨rfl, _, rfl⟩ | ⟨k, hS, _⟩
    · exact ⟨rfl, ⟨hT, hR, hI, hlow⟩, Upd.refl _ _⟩
    · exact ((goneL_iff.2 hG).not hS).elim
  · rcases hE with ⟨rfl, hG, _⟩ | ⟨k', hS', hE⟩
    · exact (hG.not (standsL_iff.2 hS)).elim
    · have hk := StandsL.uniq hnd (standsL_iff.2 hS) hS'
      subst hk
      rw [nms_len] at hE
      rcases hA with ⟨hn, rfl, rfl, rfl, rfl⟩ | ⟨hn, rfl, rfl, rfl, hN⟩
      · rcases hE with ⟨rfl, _, rfl⟩ | ⟨h, _⟩
        · exact ⟨rfl, ⟨hT, hR, hI, hlow⟩, Upd.refl _ _⟩
        · omega
      · rcases hE with ⟨_, h, _⟩ | ⟨_, rfl, hR', hU⟩
        · omega
        · exact ⟨rfl, ⟨hT.keep hB (by decide) (by decide) hU, hN ▸ hR', hI, hlow⟩, hU⟩

/-! Drop -/
def AnsD (N : List Nd) (t : Nat) (y : Int) (N' : List Nd) : Prop := ((t = 0 ∨ Gone N t) ∧ y = 10 ∧ N' = N) ∨ (∃ k, Stands N t (k + 1) ∧ y = 0 ∧ N' = N.eraseIdx k)
def DropP (B p d t : Nat) (N : List Nd) (g nw : Nat) (w : World) (e : Ending) (w' : World) : Prop :=
  ∃ y N', e = .returned (.int .i64 y) ∧ AnsD N t y N' ∧ TagsIn B w' p N' g nw ∧ Inv N' g nw ∧ RefIs w' d (nms N) g ∧ Upd w w' (TF B w p)

theorem drop_p (B p d t : Nat) (N : List Nd) (g nw : Nat) (w : World) (h : Pair B w p d N g nw) : Calls Try.prog 39 #[ptrTo p, .int .u64 t] w (DropP B p d t N g nw w) := by
  refine (drop_pub B p t N g nw w h.tags).mono ?_
  rintro e w' ⟨hU, ⟨hG, rfl, hT⟩ | ⟨k, hS, rfl, hT⟩⟩
  · exact ⟨10, N, rfl, Or.inl ⟨hG, rfl, rfl⟩, hT, h.inv, h.ref.keep hU, hU⟩
  · exact ⟨0, _, rfl, Or.inr ⟨k, hS, rfl, rfl⟩, hT, inv_del h.inv (by have := hS.1; omega), h.ref.keep hU, hU⟩

theorem drop_d (B p d t : Nat) (N N' : List Nd) (g nw : Nat) (y : Int) (w : World) (hA : AnsD N t y N') (hT : TagsIn B w p N' g nw) (hI : Inv N' g nw) (hR : RefIs w d (nms N) g) (hl : N.length ≤ 8192) (hnd : (nms N).Nodup) (hlow : B ≤ d) :
    Calls Try.prog 69 #[ptrTo d, .int .u64 t] w fun e w' => e = .returned (.int .i64 y) ∧ Pair B w' p d N' g nw ∧ Upd w w' (· = d) := by
  have hB := hR
  obtain ⟨v, hB, _⟩ := hB
  refine (rdrop_any d t g (nms N) w hR (by rw [nms_len]; exact hl)).mono ?_
  rintro e w' hE
  rcases hA with ⟨hG, rfl, rfl⟩ | ⟨k, hS, rfl, rfl⟩
  · rcases hE with ⟨rfl, _, rfl⟩ | ⟨k, hS, _⟩
    · exact ⟨rfl, ⟨hT, hR, hI, hlow⟩, Upd.refl _ _⟩
    · rcases hG with rfl | hG
      · have := hS.2.2.2 rfl; omega
      · exact ((goneL_iff.2 hG).not hS).elim
  · rcases hE with ⟨rfl, hG, _⟩ | ⟨k', hS', rfl, hR', hU⟩
    · rcases hG with rfl | hG
      · have := hS.2.2.2 rfl; omega
      · exact (hG.not (standsL_iff.2 hS)).elim
    · have hk := StandsL.uniq hnd (standsL_iff.2 hS) hS'
      obtain rfl : k = k' := by omega
      refine ⟨rfl, ⟨hT.keep hB (by decide) (by decide) hU, ?_, hI, hlow⟩, hU⟩
      rw [show nms (N.eraseIdx k) = (nms N).eraseIdx k from map_eraseIdx' _ _ _]
      exact hR'

/-! Next, Prev, Order -/
def AnsQ (N : List Nd) (t : Nat) (v : Nat → Nat) (x y : Int) : Prop := (∃ k, Stands N t k ∧ x = (v k : Nat) ∧ y = 0) ∨ (Gone N t ∧ x = 0 ∧ y = 10)
def AskP (B p d t : Nat) (N : List Nd) (g nw : Nat) (v : Nat → Nat) (w : World) (e : Ending) (w' : World) : Prop :=
  ∃ x y, e = .returned (.tuple #[.int .u64 x, .int .i64 y]) ∧ AnsQ N t v x y ∧ Pair B w' p d N g nw ∧ Upd w w' (TF B w p)
theorem ask_p {B p d t : Nat} {N : List Nd} {g nw : Nat} {w : World} {f : Nat} {v : Nat → Nat} (h : Pair B w p d N g nw) (hc : Calls Try.prog f #[ptrTo p, .int .u64 t] w (AskedPub B p t N g nw w fun k => v k)) :
    Calls Try.prog f #[ptrTo p, .int .u64 t] w (AskP B p d t N g nw v w) := by
  refine hc.mono ?_
  rintro e w' ⟨hU, hT, ⟨k, hS, rfl⟩ | ⟨hG, rfl⟩⟩
  · exact ⟨_, _, rfl, Or.inl ⟨k, hS, rfl, rfl⟩, ⟨hT, h.ref.keep hU, h.inv, h.low⟩, hU⟩
  · exact ⟨_, _, rfl, Or.inr ⟨hG, rfl, rfl⟩, ⟨hT, h.ref.keep hU, h.inv, h.low⟩, hU⟩
theorem ask_d {d t : Nat} {N : List Nd} {w : World} {f : Nat} {v : Nat → Nat} {x y : Int} (hnd : (nms N).Nodup) (hA : AnsQ N t v x y) (hc : Calls Try.prog f #[ptrTo d, .int .u64 t] w fun e w' => RAsked (nms N) t v e ∧ w = w') :
    Calls Try.prog f #[ptrTo d, .int .u64 t] w fun e w' => e = .returned (.tuple #[.int .u64 x, .int .i64 y]) ∧ w = w' := by
  refine hc.mono ?_
  rintro e w' ⟨hE, rfl⟩
  refine ⟨?_, rfl⟩
  rcases hA with ⟨k, hS, rfl, rfl⟩ | ⟨hG, rfl, rfl⟩
  · rcases hE with ⟨k', hS', rfl⟩ | ⟨hG, _⟩
    · rw [StandsL.uniq hnd (standsL_iff.2 hS) hS']
    · exact (hG.not (standsL_iff.2 hS)).elim
  · rcases hE with ⟨k', hS', _⟩ | ⟨_, rfl⟩
    · exact ((goneL_iff.2 hG).not hS').elim
    · rfl

def AnsO (N : List Nd) (t u : Nat) (x y : Int) : Prop := (∃ i j, Stands N t i ∧ Stands N u j ∧ x = (if i < j then -1 else if j < i then 1 else 0) ∧ y = 0) ∨ ((Gone N t ∨ Gone N u) ∧ x = 0 ∧ y = 10)
theorem labAt_mono {N : List Nd} (h : Rise N) {i : Nat} : ∀ d, i + d ≤ N.length → labAt N i ≤ labAt N (i + d) ∧ (0 < d → labAt N i < labAt N (i + d))
  | 0, _ => ⟨Nat.le_refl _, fun h => by omega⟩
  | d + 1, hl => by
    have ih := labAt_mono (i := i) h d (by omega)
    have := (h (i + d) (by omega)).1
    rw [show i + (d + 1) = i + d + 1 by omega]
    exact ⟨by omega, fun _ => by omega⟩
theorem labAt_lt {N : List Nd} (h : Rise N) {i j : Nat} (hij : i < j) (hj : j ≤ N.length) : labAt N i < labAt N j := by
  have := (labAt_mono h (i := i) (j - i) (by omega)).2 (by omega)
  rwa [show i + (j - i) = j by omega] at this
theorem orderOf_at {N : List Nd} (h : Rise N) {i j : Nat} (hi : i ≤ N.length) (hj : j ≤ N.length) : orderOf (labAt N i) (labAt N j) = if i < j then -1 else if j < i then 1 else 0 := by
  unfold orderOf
  by_cases c1 : i < j
  · rw [if_pos c1, if_pos (labAt_lt h c1 hj)]
  · rw [if_neg c1]
    by_cases c2 : j < i
    · have := labAt_lt h c2 hi
      rw [if_neg (by omega), if_pos this, if_pos c2]
    · obtain rfl : i = j := by omega
      rw [if_neg (by omega), if_neg (by omega), if_neg c2]

def OrdP (B p d t u : Nat) (N : List Nd) (g nw : Nat) (w : World) (e : Ending) (w' : World) : Prop :=
  ∃ x y, e = .returned (.tuple #[.int .i64 x, .int .i64 y]) ∧ AnsO N t u x y ∧ Pair B w' p d N g nw ∧ Upd w w' (TF B w p)
theorem order_p (B p d t u : Nat) (N : List Nd) (g nw : Nat) (w : World) (h : Pair B w p d N g nw) : Calls Try.prog 45 #[ptrTo p, .int .u64 t, .int .u64 u] w (OrdP B p d t u N g nw w) := by
  refine (order_pub B p t u N g nw w h.tags).mono ?_
  rintro e w' ⟨hU, hT, ⟨i, j, h1, h2, rfl⟩ | ⟨hG, rfl⟩⟩
  · exact ⟨_, _, rfl, Or.inl ⟨i, j, h1, h2, orderOf_at h.inv.rise h1.1 h2.1, rfl⟩, ⟨hT, h.ref.keep hU, h.inv, h.low⟩, hU⟩
  · exact ⟨_, _, rfl, Or.inr ⟨hG, rfl, rfl⟩, ⟨hT, h.ref.keep hU, h.inv, h.low⟩, hU⟩
theorem order_d (d t u g : Nat) (N : List Nd) (x y : Int) (w : World) (hnd : (nms N).Nodup) (hl : N.length ≤ 8192) (hR : RefIs w d (nms N) g) (hA : AnsO N t u x y) :
    Calls Try.prog 73 #[ptrTo d, .int .u64 t, .int .u64 u] w fun e w' => e = .returned (.tuple #[.int .i64 x, .int .i64 y]) ∧ w = w' := by
  refine (rorder_any d t u g (nms N) w hR (by rw [nms_len]; exact hl)).mono ?_
  rintro e w' ⟨hE, rfl⟩
  refine ⟨?_, rfl⟩
  rcases hA with ⟨i, j, h1, h2, rfl, rfl⟩ | ⟨hG, rfl, rfl⟩
  · rcases hE with ⟨i', j', h1', h2', rfl⟩ | ⟨hG, _⟩
    · rw [StandsL.uniq hnd (standsL_iff.2 h1) h1', StandsL.uniq hnd (standsL_iff.2 h2) h2']
    · rcases hG with hG | hG
      · exact (hG.not (standsL_iff.2 h1)).elim
      · exact (hG.not (standsL_iff.2 h2)).elim
  · rcases hE with ⟨i', j', h1', h2', _⟩ | ⟨_, rfl⟩
    · rcases hG with hG | hG
      · exact ((goneL_iff.2 hG).not h1').elim
      · exact ((goneL_iff.2 hG).not h2').elim
    · rfl

end Go.Proofs.Ytnhgeoccknhiiaa
