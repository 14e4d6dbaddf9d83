/- Trees in memory: what a tree's cells and lists read. -/
import Derived.Test.YtemmkobgpciflaaDoorTrP
import Derived.Test.YtemmkobgpciflaaDoorWalk
namespace Go.Proofs.YtemmkobgpciflaaDoor
open Go.RowKit

/-- The cells of attributes. -/
def atc (l : List Att) : List Value := l.flatMap fun a => [.string a.1, .string a.2]
theorem atc_len (l : List Att) : (atc l).length = l.length * 2 := by
  unfold atc
  induction l with
  | nil => rfl
  | cons a l ih => rw [List.flatMap_cons, List.length_append, ih, List.length_cons]; simp; omega
theorem atc_at {l : List Att} {i : Nat} {a : Att} (h : l[i]? = some a) : (atc l)[i * 2]? = some (.string a.1) ∧ (atc l)[i * 2 + 1]? = some (.string a.2) := by
  unfold atc
  induction l generalizing i with
  | nil => simp at h
  | cons b l ih =>
    cases i with
    | zero => simp at h; subst h; simp
    | succ i =>
      have := ih (i := i) (by simpa using h)
      rw [List.flatMap_cons]
      rw [List.getElem?_append_right (by simp; omega), List.getElem?_append_right (by simp; omega)]
      have e1 : (i + 1) * 2 - [Value.string b.1, Value.string b.2].length = i * 2 := by simp; omega
      have e2 : (i + 1) * 2 + 1 - [Value.string b.1, Value.string b.2].length = i * 2 + 1 := by simp; omega
      rw [e1, e2]
      exact this
theorem atc_one (l : List Att) : ∀ u ∈ atc l, u.oneCell' = true := by
  unfold atc
  intro u hu
  obtain ⟨a, _, h⟩ := List.mem_flatMap.1 hu
  simp at h
  rcases h with rfl | rfl <;> rfl

mutual
/-- The five cells of a tree; SA: how a list of attributes lies there, SK: one of children. -/
def TreeIs (SA SK : Value → Nat → List Value → Prop) : T → List Value → Prop
  | .mk k n al t ks, cs => ∃ aa ca ak ck xs, cs = [.int .i64 k, .string n, .slice aa al.length ca, .string t, .slice ak ks.length ck] ∧ SA (.slice aa al.length ca) al.length (atc al) ∧ SK (.slice ak ks.length ck) ks.length xs ∧ ForestIs SA SK ks xs
def ForestIs (SA SK : Value → Nat → List Value → Prop) : List T → List Value → Prop
  | [], xs => xs = []
  | t :: l, xs => ∃ c d, xs = c ++ d ∧ TreeIs SA SK t c ∧ ForestIs SA SK l d
end

section
variable {SA SK SA' SK' : Value → Nat → List Value → Prop}
theorem TreeIs.len {t : T} {cs : List Value} (h : TreeIs SA SK t cs) : cs.length = 5 := by
  cases t
  rw [TreeIs] at h
  obtain ⟨_, _, _, _, _, rfl, _⟩ := h
  rfl
theorem ForestIs.len : ∀ {ks : List T} {xs : List Value}, ForestIs SA SK ks xs → xs.length = ks.length * 5
  | [], xs, h => by rw [ForestIs] at h; subst h; rfl
  | t :: l, xs, h => by
    rw [ForestIs] at h
    obtain ⟨c, d, rfl, h1, h2⟩ := h
    rw [List.length_append, h1.len, h2.len, List.length_cons]
    omega
theorem ForestIs.get : ∀ {ks : List T} {xs : List Value} {i : Nat} {t : T}, ForestIs SA SK ks xs → ks[i]? = some t → ∃ c, TreeIs SA SK t c ∧ ∀ j, j < 5 → xs[i * 5 + j]? = c[j]?
  | [], _, _, _, _, h => by simp at h
  | t :: l, xs, 0, x, h, hx => by
    rw [ForestIs] at h
    obtain ⟨c, d, rfl, h1, h2⟩ := h
    simp at hx
    subst hx
    refine ⟨c, h1, fun j hj => ?_⟩
    rw [List.getElem?_append_left (by rw [h1.len]; omega)]
    simp
  | t :: l, xs, i + 1, x, h, hx => by
    rw [ForestIs] at h
    obtain ⟨c, d, rfl, h1, h2⟩ := h
    obtain ⟨c', h3, h4⟩ := h2.get (i := i) (by simpa using hx)
    refine ⟨c', h3, fun j hj => ?_⟩
    rw [List.getElem?_append_right (by rw [h1.len]; omega), h1.len]
    rw [show (i + 1) * 5 + j - 5 = i * 5 + j by omega]
    exact h4 j hj
theorem ForestIs.snoc : ∀ {ks : List T} {xs : List Value} {t : T} {c : List Value}, ForestIs SA SK ks xs → TreeIs SA SK t c → ForestIs SA SK (ks ++ [t]) (xs ++ c)
  | [], xs, t, c, h, hc => by
    rw [ForestIs] at h
    subst h
    show ForestIs SA SK [t] c
    rw [ForestIs]
    exact ⟨c, [], by simp, hc, by rw [ForestIs]⟩
  | s :: l, xs, t, c, h, hc => by
    rw [ForestIs] at h
    obtain ⟨a, d, rfl, h1, h2⟩ := h
    rw [List.cons_append, ForestIs]
    exact ⟨a, d ++ c, by rw [List.append_assoc], h1, h2.snoc hc⟩
theorem ForestIs.of {M : T → List Value → Prop} : ∀ {ks : List T} {xs : List Value}, (∀ x ∈ ks, ∀ c, TreeIs SA SK x c → TreeIs SA' SK' x c) → ForestIs SA SK ks xs → ForestIs SA' SK' ks xs
  | [], _, _, h => by rw [ForestIs] at h ⊢; exact h
  | t :: l, xs, hM, h => by
    rw [ForestIs] at h ⊢
    obtain ⟨c, d, e, h1, h2⟩ := h
    exact ⟨c, d, e, hM t (by simp) c h1, h2.of (M := M) fun x hx => hM x (by simp [hx])⟩
theorem TreeIs.mono (hA : ∀ v n xs, SA v n xs → SA' v n xs) (hK : ∀ v n xs, SK v n xs → SK' v n xs) : ∀ t cs, TreeIs SA SK t cs → TreeIs SA' SK' t cs := by
  refine T.ind ?_
  intro k n al t ks ih cs h
  rw [TreeIs] at h ⊢
  obtain ⟨aa, ca, ak, ck, xs, e, h1, h2, h3⟩ := h
  exact ⟨aa, ca, ak, ck, xs, e, hA _ _ _ h1, hK _ _ _ h2, h3.of (M := fun _ _ => True) fun x hx c => ih x hx c⟩
theorem ForestIs.mono (hA : ∀ v n xs, SA v n xs → SA' v n xs) (hK : ∀ v n xs, SK v n xs → SK' v n xs) {ks : List T} {xs : List Value} (h : ForestIs SA SK ks xs) : ForestIs SA' SK' ks xs := h.of (M := fun _ _ => True) fun x _ c => TreeIs.mono hA hK x c
end

/-- A slice that reads, its block one of P. -/
def RdP (w : World) (P : Nat → Prop) (sz : Nat) (v : Value) (n : Nat) (xs : List Value) : Prop := Rd w v n sz xs ∧ (n ≠ 0 → ∀ g, v.ownBlock = some g → P g)
theorem RdP.keep {w w' : World} {P : Nat → Prop} {sz n : Nat} {v : Value} {xs : List Value} (h : RdP w P sz v n xs) {F : Nat → Prop} (hU : Upd w w' F) (hF : ∀ g, P g → ¬ F g) : RdP w' P sz v n xs := by
  refine ⟨?_, h.2⟩
  by_cases hn : n = 0
  · obtain ⟨hl, a, c, h1, h2, h3, _⟩ := h.1
    exact ⟨hl, a, c, h1, h2, h3, Or.inl hn⟩
  · exact h.1.keep hU fun g hg => hF g (h.2 hn g hg)
theorem RdP.mono {w : World} {P Q : Nat → Prop} {sz n : Nat} {v : Value} {xs : List Value} (h : RdP w P sz v n xs) (hP : ∀ g, P g → Q g) : RdP w Q sz v n xs := ⟨h.1, fun hn g hg => hP g (h.2 hn g hg)⟩

/-- A tree that reads, all its blocks of P. -/
def TreeAt (w : World) (P : Nat → Prop) (t : T) (cs : List Value) : Prop := TreeIs (RdP w P 2) (RdP w P 5) t cs
def ForestAt (w : World) (P : Nat → Prop) (ks : List T) (xs : List Value) : Prop := ForestIs (RdP w P 2) (RdP w P 5) ks xs
theorem TreeAt.keep {w w' : World} {P : Nat → Prop} {t : T} {cs : List Value} (h : TreeAt w P t cs) {F : Nat → Prop} (hU : Upd w w' F) (hF : ∀ g, P g → ¬ F g) : TreeAt w' P t cs :=
  TreeIs.mono (fun _ _ _ h => h.keep hU hF) (fun _ _ _ h => h.keep hU hF) t cs h
theorem TreeAt.mono {w : World} {P Q : Nat → Prop} {t : T} {cs : List Value} (h : TreeAt w P t cs) (hP : ∀ g, P g → Q g) : TreeAt w Q t cs :=
  TreeIs.mono (fun _ _ _ h => RdP.mono h hP) (fun _ _ _ h => RdP.mono h hP) t cs h
theorem ForestAt.keep {w w' : World} {P : Nat → Prop} {ks : List T} {xs : List Value} (h : ForestAt w P ks xs) {F : Nat → Prop} (hU : Upd w w' F) (hF : ∀ g, P g → ¬ F g) : ForestAt w' P ks xs :=
  ForestIs.mono (fun _ _ _ h => h.keep hU hF) (fun _ _ _ h => h.keep hU hF) h

/-- How great a tree's texts and lists are. -/
def Small (n : ByteArray) (al : List Att) (t : ByteArray) (ks : List T) : Prop := n.size ≤ 9223372036854775807 ∧ t.size ≤ 9223372036854775807 ∧ (∀ a ∈ al, a.1.size ≤ 9223372036854775807 ∧ a.2.size ≤ 9223372036854775807) ∧ al.length * 32 ≤ 140737488351232 ∧ ks.length * 88 ≤ 140737488351232
mutual
def Fits : T → Prop
  | .mk _ n al t ks => Small n al t ks ∧ FitsL ks
def FitsL : List T → Prop
  | [] => True
  | t :: l => Fits t ∧ FitsL l
end
theorem FitsL.all : ∀ {l : List T}, FitsL l ↔ ∀ x ∈ l, Fits x
  | [] => by simp [FitsL]
  | t :: l => by rw [FitsL, FitsL.all]; simp
theorem Fits.small {k : Int} {n : ByteArray} {al : List Att} {t : ByteArray} {ks : List T} (h : Fits (.mk k n al t ks)) : Small n al t ks := by rw [Fits] at h; exact h.1
theorem Fits.kid {k : Int} {n : ByteArray} {al : List Att} {t : ByteArray} {ks : List T} (h : Fits (.mk k n al t ks)) : ∀ x ∈ ks, Fits x := by rw [Fits] at h; exact FitsL.all.1 h.2

/-- The parts of a tree in memory. -/
theorem TreeAt.parts {w : World} {P : Nat → Prop} {k : Int} {n : ByteArray} {al : List Att} {t : ByteArray} {ks : List T} {cs : List Value} (h : TreeAt w P (.mk k n al t ks) cs) :
    ∃ aa ca ak ck xs, cs = [.int .i64 k, .string n, .slice aa al.length ca, .string t, .slice ak ks.length ck] ∧ RdP w P 2 (.slice aa al.length ca) al.length (atc al) ∧ RdP w P 5 (.slice ak ks.length ck) ks.length xs ∧ ForestAt w P ks xs := by
  unfold TreeAt at h
  rw [TreeIs] at h
  exact h

/-- A child of a list, in memory. -/
theorem ForestAt.kid {w : World} {P : Nat → Prop} {ks : List T} {xs : List Value} {ak : Option Addr} {ck m : Nat} (h : ForestAt w P ks xs) (hR : Rd w (.slice ak m ck) ks.length 5 xs) {i : Nat} {x : T} (hx : ks[i]? = some x) :
    ∃ g off k n aa la ca t kk lk kc, ak = some ⟨g, off, none⟩ ∧ m ≤ ck ∧ w.cell? ⟨g, off + i * 5, none⟩ = some (.int .i64 k) ∧ w.cell? ⟨g, off + i * 5 + 1, none⟩ = some (.string n) ∧ w.cell? ⟨g, off + i * 5 + 2, none⟩ = some (.slice aa la ca) ∧
      w.cell? ⟨g, off + i * 5 + 3, none⟩ = some (.string t) ∧ w.cell? ⟨g, off + i * 5 + 4, none⟩ = some (.slice kk lk kc) ∧ TreeAt w P x [.int .i64 k, .string n, .slice aa la ca, .string t, .slice kk lk kc] := by
  obtain ⟨c, h1, h2⟩ := h.get hx
  cases x with
  | mk k n al t l =>
  obtain ⟨aa, ca, kk, kc, ys, rfl, r1, r2, r3⟩ := TreeAt.parts h1
  have hlen := h.len
  have hi := (List.getElem?_eq_some_iff.1 hx).1
  obtain ⟨hl, a, c', e, hc, hn, h0 | ⟨g, off, rfl, hr⟩⟩ := hR
  · omega
  · cases e
    refine ⟨g, off, k, n, aa, al.length, ca, t, kk, l.length, kc, rfl, hc, ?_, ?_, ?_, ?_, ?_, h1⟩
    · exact hr (i * 5) _ (h2 0 (by omega))
    · rw [Nat.add_assoc]; exact hr _ _ (h2 1 (by omega))
    · rw [Nat.add_assoc]; exact hr _ _ (h2 2 (by omega))
    · rw [Nat.add_assoc]; exact hr _ _ (h2 3 (by omega))
    · rw [Nat.add_assoc]; exact hr _ _ (h2 4 (by omega))

/-- An attribute of a list, in memory. -/
theorem atts_at {w : World} {aa : Option Addr} {ca m : Nat} {al : List Att} (hR : Rd w (.slice aa m ca) al.length 2 (atc al)) {i : Nat} {a : Att} (ha : al[i]? = some a) :
    ∃ g off, aa = some ⟨g, off, none⟩ ∧ m ≤ ca ∧ w.cell? ⟨g, off + i * 2, none⟩ = some (.string a.1) ∧ w.cell? ⟨g, off + i * 2 + 1, none⟩ = some (.string a.2) := by
  obtain ⟨h1, h2⟩ := atc_at ha
  have hi := (List.getElem?_eq_some_iff.1 ha).1
  obtain ⟨hl, b, c', e, hc, hn, h0 | ⟨g, off, rfl, hr⟩⟩ := hR
  · omega
  · cases e
    exact ⟨g, off, rfl, hc, hr _ _ h1, by rw [Nat.add_assoc]; exact hr _ _ h2⟩

theorem elemAttr : Elem Tryd.prog 146 2 32 (.agg #[.string ⟨#[]⟩, .string ⟨#[]⟩]) := Elem.mk' (by kernel_rfl) rfl (by omega) (by omega)
theorem elemTree : Elem Tryd.prog 25 5 88 (.agg #[.int .i64 0, .string ⟨#[]⟩, .slice none 0 0, .string ⟨#[]⟩, .slice none 0 0]) := Elem.mk' (by kernel_rfl) rfl (by omega) (by omega)

end Go.Proofs.YtemmkobgpciflaaDoor
