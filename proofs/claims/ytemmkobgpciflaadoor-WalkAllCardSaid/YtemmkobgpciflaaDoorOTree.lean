/- Trees that a call has made: their blocks lie between two bounds, no list lies in another's part. -/
import Derived.Test.YtemmkobgpciflaaDoorTr
namespace Go.Proofs.YtemmkobgpciflaaDoor
open Go.RowKit

/-- Blocks from lo on ahead of hi. -/
def Btw (lo hi g : Nat) : Prop := lo ≤ g ∧ g < hi
def InB (lo hi : Nat) (v : Value) : Prop := ∀ g, v.ownBlock = some g → Btw lo hi g

mutual
def OTree (w : World) : T → Nat → Nat → List Value → Prop
  | .mk k n al t ks, lo, hi, cs => ∃ aa ca ak ck xs, cs = [.int .i64 k, .string n, .slice aa al.length ca, .string t, .slice ak ks.length ck] ∧
      (w.ownsRow 0 146 2 (.slice aa al.length ca) al.length (atc al) ∧ InB lo hi (.slice aa al.length ca)) ∧ (w.ownsRow 0 25 5 (.slice ak ks.length ck) ks.length xs ∧ InB lo hi (.slice ak ks.length ck)) ∧ OForest w (Value.slice ak ks.length ck).ownBlock ks lo hi xs
def OForest (w : World) : Option Nat → List T → Nat → Nat → List Value → Prop
  | _, [], lo, hi, xs => xs = [] ∧ lo ≤ hi
  | b, t :: l, lo, hi, xs => ∃ c d m1 m2, xs = c ++ d ∧ lo ≤ m1 ∧ m1 ≤ m2 ∧ m2 ≤ hi ∧ OTree w t m1 m2 c ∧ (∀ g, b = some g → ¬ Btw m1 m2 g) ∧ OForest w b l m2 hi d
end

theorem OTree.parts {w : World} {k : Int} {n : ByteArray} {al : List Att} {t : ByteArray} {ks : List T} {lo hi : Nat} {cs : List Value} (h : OTree w (.mk k n al t ks) lo hi cs) :
    ∃ aa ca ak ck xs, cs = [.int .i64 k, .string n, .slice aa al.length ca, .string t, .slice ak ks.length ck] ∧
      (w.ownsRow 0 146 2 (.slice aa al.length ca) al.length (atc al) ∧ InB lo hi (.slice aa al.length ca)) ∧ (w.ownsRow 0 25 5 (.slice ak ks.length ck) ks.length xs ∧ InB lo hi (.slice ak ks.length ck)) ∧ OForest w (Value.slice ak ks.length ck).ownBlock ks lo hi xs := by
  rw [OTree] at h
  exact h

theorem InB.mono {lo hi lo' hi' : Nat} {v : Value} (h : InB lo hi v) (h1 : lo' ≤ lo) (h2 : hi ≤ hi') : InB lo' hi' v := fun g hg => ⟨Nat.le_trans h1 (h g hg).1, Nat.lt_of_lt_of_le (h g hg).2 h2⟩

theorem OForest.le {w : World} : ∀ {b : Option Nat} {ks : List T} {lo hi : Nat} {xs : List Value}, OForest w b ks lo hi xs → lo ≤ hi
  | _, [], _, _, _, h => by rw [OForest] at h; exact h.2
  | _, t :: l, _, _, _, h => by
    rw [OForest] at h
    obtain ⟨c, d, m1, m2, _, h1, h2, h3, _⟩ := h
    omega
theorem OForest.len {w : World} : ∀ {b : Option Nat} {ks : List T} {lo hi : Nat} {xs : List Value}, OForest w b ks lo hi xs → xs.length = ks.length * 5
  | _, [], _, _, _, h => by rw [OForest] at h; rw [h.1]; rfl
  | _, t :: l, _, _, _, h => by
    rw [OForest] at h
    obtain ⟨c, d, m1, m2, rfl, _, _, _, h1, _, h2⟩ := h
    have : c.length = 5 := by
      cases t
      obtain ⟨_, _, _, _, _, rfl, _⟩ := h1.parts
      rfl
    rw [List.length_append, this, h2.len, List.length_cons]
    omega

theorem OForest.mono {w : World} : ∀ {b : Option Nat} {ks : List T} {lo hi hi' : Nat} {xs : List Value}, OForest w b ks lo hi xs → hi ≤ hi' → OForest w b ks lo hi' xs
  | _, [], _, _, _, _, h, h' => by rw [OForest] at h ⊢; exact ⟨h.1, Nat.le_trans h.2 h'⟩
  | _, t :: l, _, _, _, _, h, h' => by
    rw [OForest] at h ⊢
    obtain ⟨c, d, m1, m2, e, h1, h2, h3, h4, h5, h6⟩ := h
    exact ⟨c, d, m1, m2, e, h1, h2, Nat.le_trans h3 h', h4, h5, h6.mono h'⟩
/-- The list's own block may be another, if it lies in no child's part. -/
theorem OForest.block {w : World} : ∀ {b b' : Option Nat} {ks : List T} {lo hi : Nat} {xs : List Value}, OForest w b ks lo hi xs → (∀ g, b' = some g → b = some g ∨ hi ≤ g) → OForest w b' ks lo hi xs
  | _, _, [], _, _, _, h, _ => by rw [OForest] at h ⊢; exact h
  | b, b', t :: l, lo, hi, xs, h, h' => by
    rw [OForest] at h ⊢
    obtain ⟨c, d, m1, m2, e, h1, h2, h3, h4, h5, h6⟩ := h
    refine ⟨c, d, m1, m2, e, h1, h2, h3, h4, fun g hg hb => ?_, h6.block h'⟩
    rcases h' g hg with h7 | h7
    · exact h5 g h7 hb
    · have := hb.2
      omega

theorem OForest.of {w w' : World} : ∀ {b : Option Nat} {ks : List T} {lo hi : Nat} {xs : List Value}, (∀ x ∈ ks, ∀ m1 m2 c, lo ≤ m1 → m2 ≤ hi → OTree w x m1 m2 c → OTree w' x m1 m2 c) → OForest w b ks lo hi xs → OForest w' b ks lo hi xs
  | _, [], _, _, _, _, h => by rw [OForest] at h ⊢; exact h
  | _, t :: l, lo, hi, xs, hM, h => by
    rw [OForest] at h ⊢
    obtain ⟨c, d, m1, m2, e, h1, h2, h3, h4, h5, h6⟩ := h
    exact ⟨c, d, m1, m2, e, h1, h2, h3, hM t (by simp) m1 m2 c h1 h3 h4, h5, h6.of fun x hx a b c' ha hb => hM x (by simp [hx]) a b c' (by omega) hb⟩

theorem OTree.keep {w w' : World} {F : Nat → Prop} (hU : Upd w w' F) : ∀ t lo hi cs, (∀ g, Btw lo hi g → ¬ F g) → OTree w t lo hi cs → OTree w' t lo hi cs := by
  refine T.ind ?_
  intro k n al t ks ih lo hi cs hF h
  rw [OTree] at h ⊢
  obtain ⟨aa, ca, ak, ck, xs, e, ⟨h1, i1⟩, ⟨h2, i2⟩, h3⟩ := h
  exact ⟨aa, ca, ak, ck, xs, e, ⟨own_keep h1 hU fun g hg => hF g (i1 g hg), i1⟩, ⟨own_keep h2 hU fun g hg => hF g (i2 g hg), i2⟩, h3.of fun x hx m1 m2 c ha hb hc => ih x hx m1 m2 c (fun g hg => hF g ⟨by have := hg.1; omega, by have := hg.2; omega⟩) hc⟩
theorem OForest.keep {w w' : World} {F : Nat → Prop} (hU : Upd w w' F) {b : Option Nat} {ks : List T} {lo hi : Nat} {xs : List Value} (hF : ∀ g, Btw lo hi g → ¬ F g) (h : OForest w b ks lo hi xs) : OForest w' b ks lo hi xs :=
  h.of fun x _ m1 m2 c ha hb hc => OTree.keep hU x m1 m2 c (fun g hg => hF g ⟨by have := hg.1; omega, by have := hg.2; omega⟩) hc

theorem OForest.low {w : World} {b : Option Nat} {ks : List T} {lo hi lo' : Nat} {xs : List Value} (h : OForest w b ks lo hi xs) (h' : lo' ≤ lo) : OForest w b ks lo' hi xs := by
  cases ks with
  | nil => rw [OForest] at h ⊢; exact ⟨h.1, by omega⟩
  | cons t l =>
    rw [OForest] at h ⊢
    obtain ⟨c, d, m1, m2, e, h1, h2⟩ := h
    exact ⟨c, d, m1, m2, e, by omega, h2⟩
theorem OTree.wide {w : World} {t : T} {lo hi lo' hi' : Nat} {cs : List Value} (h : OTree w t lo hi cs) (h1 : lo' ≤ lo) (h2 : hi ≤ hi') : OTree w t lo' hi' cs := by
  cases t
  rw [OTree] at h ⊢
  obtain ⟨aa, ca, ak, ck, xs, e, ⟨a1, a2⟩, ⟨b1, b2⟩, h3⟩ := h
  refine ⟨aa, ca, ak, ck, xs, e, ⟨a1, a2.mono h1 h2⟩, ⟨b1, b2.mono h1 h2⟩, ?_⟩
  exact (h3.low h1).mono h2

/-- One more child, copied behind the others. -/
theorem OForest.snoc {w : World} : ∀ {b : Option Nat} {ks : List T} {lo hi : Nat} {xs : List Value} {t : T} {m1 m2 : Nat} {c : List Value}, OForest w b ks lo hi xs → hi ≤ m1 → m1 ≤ m2 → OTree w t m1 m2 c → (∀ g, b = some g → ¬ Btw m1 m2 g) → OForest w b (ks ++ [t]) lo m2 (xs ++ c)
  | _, [], lo, hi, xs, t, m1, m2, c, h, h1, h2, h3, h4 => by
    rw [OForest] at h
    obtain ⟨rfl, h⟩ := h
    show OForest w _ [t] lo m2 c
    rw [OForest]
    exact ⟨c, [], m1, m2, by simp, by omega, h2, Nat.le_refl _, h3, h4, by rw [OForest]; exact ⟨rfl, Nat.le_refl _⟩⟩
  | b, s :: l, lo, hi, xs, t, m1, m2, c, h, h1, h2, h3, h4 => by
    rw [OForest] at h
    obtain ⟨a, d, n1, n2, rfl, g1, g2, g3, g4, g5, g6⟩ := h
    rw [List.cons_append, OForest]
    exact ⟨a, d ++ c, n1, n2, by rw [List.append_assoc], g1, g2, by omega, g4, g5, g6.snoc h1 h2 h3 h4⟩

theorem OTree.at_ {w : World} : ∀ t lo hi cs, OTree w t lo hi cs → TreeAt w (Btw lo hi) t cs := by
  refine T.ind ?_
  intro k n al t ks ih lo hi cs h
  obtain ⟨aa, ca, ak, ck, xs, rfl, ⟨a1, a2⟩, ⟨b1, b2⟩, h3⟩ := h.parts
  unfold TreeAt
  rw [TreeIs]
  refine ⟨aa, ca, ak, ck, xs, rfl, ⟨Rd.ofOwn a1, fun _ g hg => a2 g hg⟩, ⟨Rd.ofOwn b1, fun _ g hg => b2 g hg⟩, ?_⟩
  have key : ∀ (l : List T), (∀ x ∈ l, x ∈ ks) → ∀ b lo' xs, lo ≤ lo' → OForest w b l lo' hi xs → ForestIs (RdP w (Btw lo hi) 2) (RdP w (Btw lo hi) 5) l xs := by
    intro l
    induction l with
    | nil => intro _ b lo' xs _ h; rw [OForest] at h; rw [ForestIs]; exact h.1
    | cons x l ihl =>
      intro hl b lo' xs hlo h
      rw [OForest] at h
      obtain ⟨c, d, m1, m2, rfl, g1, g2, g3, g4, _, g6⟩ := h
      rw [ForestIs]
      exact ⟨c, d, rfl, (ih x (hl x (by simp)) m1 m2 c g4).mono (fun g hg => ⟨by have := hg.1; omega, by have := hg.2; omega⟩), ihl (fun y hy => hl y (by simp [hy])) b m2 d (by omega) g6⟩
  exact key ks (fun _ h => h) _ lo xs (Nat.le_refl _) h3

theorem own_none {w : World} {e sz : Nat} : w.ownsRow 0 e sz (.slice none 0 0) 0 [] := ⟨by simp, Or.inl ⟨rfl, rfl⟩⟩

end Go.Proofs.YtemmkobgpciflaaDoor
