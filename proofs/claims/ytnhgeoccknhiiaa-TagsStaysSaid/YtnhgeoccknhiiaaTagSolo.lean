/- A list of tags on its own: what its calls answer. -/
import Derived.Test.YtnhgeoccknhiiaaTagDoes
namespace Go.Proofs.Ytnhgeoccknhiiaa
open Go.RowKit

structure Solo (B : Nat) (w : World) (p : Nat) (N : List Nd) (g nw : Nat) : Prop where
  tags : TagsIn B w p N g nw
  inv : Inv N g nw

theorem Stands.uniq {B : Nat} {w : World} {p : Nat} {N : List Nd} {g nw t k k' : Nat} (h : Solo B w p N g nw) (h1 : Stands N t k) (h2 : Stands N t k') : k = k' :=
  StandsL.uniq (L := nms N) h.inv.nodup (standsL_iff.2 h1) (standsL_iff.2 h2)
theorem Gone.not {N : List Nd} {t k : Nat} (h : Gone N t) (hs : Stands N t k) : False := (goneL_iff.2 h).not (standsL_iff.2 hs)
theorem stands_zero (N : List Nd) : Stands N 0 0 := ⟨Nat.zero_le _, rfl, by simp⟩
theorem Inv.nameAt_pos {N : List Nd} {g nw : Nat} (h : Inv N g nw) {k : Nat} (hk : k < N.length) : 0 < nameAt N (k + 1) ∧ nameAt N (k + 1) ≤ g := by
  have := h.name N[k] (List.getElem_mem hk)
  simpa [nameAt, List.getElem?_eq_getElem hk] using this
theorem Inv.stands {N : List Nd} {g nw : Nat} (h : Inv N g nw) {k : Nat} (hk : k ≤ N.length) : Stands N (nameAt N k) k := by
  refine ⟨hk, rfl, ?_⟩
  cases k with
  | zero => simp [nameAt]
  | succ k =>
    have := h.nameAt_pos (k := k) (by omega)
    constructor
    · intro h; omega
    · intro h; omega
theorem Inv.mem_stands {N : List Nd} {g nw t : Nat} (h : Inv N g nw) (ht : t ∈ nms N) : ∃ k, k < N.length ∧ Stands N t (k + 1) := by
  obtain ⟨k, hk, e⟩ := List.mem_iff_getElem.1 ht
  have hk' : k < N.length := by rw [← nms_len]; exact hk
  refine ⟨k, hk', ?_⟩
  have := h.stands (k := k + 1) (by omega)
  have e2 : nameAt N (k + 1) = t := by simpa [nameAt, List.getElem?_eq_getElem hk', nms] using e
  rwa [e2] at this

section
variable {B : Nat} {w : World} {p : Nat} {N : List Nd} {g nw : Nat}

theorem Solo.below {w' : World} (h : Solo B w p N g nw) (hU : Upd w w' (TF B w p)) : Below B w w' := below_tf h.tags.lt hU

theorem solo_new (w : World) : Solo w.heap.size (w.alloc (.cells #[.map none, .pointer none, .int .u64 0, .int .u64 0] 73)) w.heap.size [] 0 0 :=
  ⟨⟨Nat.le_refl _, Or.inl ⟨Blk.new w _ _, rfl, rfl, rfl⟩⟩, inv_nil⟩

def SAfter (B : Nat) (w : World) (p : Nat) (N : List Nd) (g k : Nat) (e : Ending) (w' : World) : Prop :=
  ∃ N' nw', e = .returned (.tuple #[.int .u64 (g + 1 : Nat), .int .i64 0]) ∧ Solo B w' p N' (g + 1) nw' ∧ nms N' = (nms N).insertIdx k (g + 1) ∧ Upd w w' (TF B w p)
theorem solo_after {t k : Nat} (h : Solo B w p N g nw) (hg : g < 4503599627370496) (hS : Stands N t k) (hn : N.length < 8192) :
    Calls Try.prog 36 #[ptrTo p, .int .u64 t] w (SAfter B w p N g k) := by
  have hw := h.inv.writes
  refine (after_pub B p t N g nw w h.tags h.inv.len (by omega) (by omega) h.inv.rise (fun n hn => (h.inv.name n hn).2)).mono ?_
  rintro e w' ⟨hU, ⟨hG, _⟩ | ⟨k', hS', ⟨hn', _⟩ | ⟨_, rfl, N', nw', hT, hI⟩⟩⟩
  · exact (hG.not hS).elim
  · omega
  · have e := Stands.uniq h hS hS'
    subst e
    obtain ⟨i1, i2⟩ := inv_ins h.inv hS.1 hn hI
    exact ⟨N', nw', rfl, ⟨hT, i1⟩, i2, hU⟩

def SSame (B : Nat) (w : World) (p : Nat) (N : List Nd) (g nw : Nat) (r : Value) (e : Ending) (w' : World) : Prop :=
  e = .returned r ∧ Solo B w' p N g nw ∧ Upd w w' (TF B w p)
theorem solo_full {t k : Nat} (h : Solo B w p N g nw) (hg : g < 4503599627370496) (hS : Stands N t k) (hn : 8192 ≤ N.length) :
    Calls Try.prog 36 #[ptrTo p, .int .u64 t] w (SSame B w p N g nw (.tuple #[.int .u64 0, .int .i64 11])) := by
  have hw := h.inv.writes
  refine (after_pub B p t N g nw w h.tags h.inv.len (by omega) (by omega) h.inv.rise (fun n hn => (h.inv.name n hn).2)).mono ?_
  rintro e w' ⟨hU, ⟨hG, _⟩ | ⟨k', hS', ⟨hn', rfl, hT⟩ | ⟨hn', _⟩⟩⟩
  · exact (hG.not hS).elim
  · exact ⟨rfl, ⟨hT, h.inv⟩, hU⟩
  · omega

theorem solo_ask {f t k : Nat} {v : Nat → Int} (h : Solo B w p N g nw) (hS : Stands N t k) (hc : Calls Try.prog f #[ptrTo p, .int .u64 t] w (AskedPub B p t N g nw w v)) :
    Calls Try.prog f #[ptrTo p, .int .u64 t] w (SSame B w p N g nw (.tuple #[.int .u64 (v k), .int .i64 0])) := by
  refine hc.mono ?_
  rintro e w' ⟨hU, hT, ⟨k', hS', rfl⟩ | ⟨hG, _⟩⟩
  · have e := Stands.uniq h hS hS'
    subst e
    exact ⟨rfl, ⟨hT, h.inv⟩, hU⟩
  · exact (hG.not hS).elim
theorem solo_label {t k : Nat} (h : Solo B w p N g nw) (hS : Stands N t k) : Calls Try.prog 38 #[ptrTo p, .int .u64 t] w (SSame B w p N g nw (.tuple #[.int .u64 (labAt N k : Nat), .int .i64 0])) :=
  solo_ask (v := fun k => (labAt N k : Int)) h hS (label_pub B p t N g nw w h.tags)
theorem solo_next {t k : Nat} (h : Solo B w p N g nw) (hS : Stands N t k) : Calls Try.prog 37 #[ptrTo p, .int .u64 t] w (SSame B w p N g nw (.tuple #[.int .u64 (nameAt N (k + 1) : Nat), .int .i64 0])) :=
  solo_ask (v := fun k => (nameAt N (k + 1) : Int)) h hS (next_pub B p t N g nw w h.tags)
theorem solo_label_gone {t : Nat} (h : Solo B w p N g nw) (hG : Gone N t) : Calls Try.prog 38 #[ptrTo p, .int .u64 t] w (SSame B w p N g nw (.tuple #[.int .u64 0, .int .i64 10])) := by
  refine (label_pub B p t N g nw w h.tags).mono ?_
  rintro e w' ⟨hU, hT, ⟨k', hS', _⟩ | ⟨_, rfl⟩⟩
  · exact (hG.not hS').elim
  · exact ⟨rfl, ⟨hT, h.inv⟩, hU⟩

def SDrop (B : Nat) (w : World) (p : Nat) (N : List Nd) (g nw k : Nat) (e : Ending) (w' : World) : Prop :=
  e = .returned (.int .i64 0) ∧ Solo B w' p (N.eraseIdx k) g nw ∧ Upd w w' (TF B w p)
theorem solo_drop {t k : Nat} (h : Solo B w p N g nw) (hS : Stands N t (k + 1)) : Calls Try.prog 39 #[ptrTo p, .int .u64 t] w (SDrop B w p N g nw k) := by
  refine (drop_pub B p t N g nw w h.tags).mono ?_
  rintro e w' ⟨hU, ⟨h0 | hG, _⟩ | ⟨k', hS', rfl, hT⟩⟩
  · have := hS.2.2.2 h0
    omega
  · exact (hG.not hS).elim
  · have e := Stands.uniq h hS hS'
    have e : k = k' := by omega
    subst e
    exact ⟨rfl, ⟨hT, inv_del h.inv (by have := hS.1; omega)⟩, hU⟩
theorem solo_drop_gone {t : Nat} (h : Solo B w p N g nw) (hG : Gone N t) : Calls Try.prog 39 #[ptrTo p, .int .u64 t] w (SSame B w p N g nw (.int .i64 10)) := by
  refine (drop_pub B p t N g nw w h.tags).mono ?_
  rintro e w' ⟨hU, ⟨_, rfl, hT⟩ | ⟨k', hS', _⟩⟩
  · exact ⟨rfl, ⟨hT, h.inv⟩, hU⟩
  · exact (hG.not hS').elim
theorem solo_len (h : Solo B w p N g nw) : Calls Try.prog 40 #[ptrTo p] w (SSame B w p N g nw (.int .i64 N.length)) :=
  (len_pub B p N g nw w h.tags h.inv.len).mono fun e w' ⟨he, hT, hU⟩ => ⟨he, ⟨hT, h.inv⟩, hU⟩
theorem solo_given (h : Solo B w p N g nw) : Calls Try.prog 42 #[ptrTo p] w fun e w' => e = .returned (.int .u64 g) ∧ w' = w := (given_any p N g nw w h.tags.is).mono fun e w' ⟨he, hw⟩ => ⟨he, hw.symm⟩
theorem solo_writes (h : Solo B w p N g nw) : Calls Try.prog 41 #[ptrTo p] w fun e w' => e = .returned (.int .u64 nw) ∧ w' = w := (writes_any p N g nw w h.tags.is).mono fun e w' ⟨he, hw⟩ => ⟨he, hw.symm⟩
end

end Go.Proofs.Ytnhgeoccknhiiaa
