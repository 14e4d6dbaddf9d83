/- Nodes as they end: the program's ends, walked. -/
import Derived.Test.YtemmkobgpciflaaDoorNodes
namespace Go.Proofs.YtemmkobgpciflaaDoor
open Go.RowKit
open Ch
namespace Df

/-- Only what was owned, and what is new, has changed; and so lies what is owned now. -/
def OnlyV (w : World) (v0 : Value) (w' : World) (v : Value) : Prop := Upd w w' (fun g => v0.ownBlock = some g) ∧ ∀ g, v.ownBlock = some g → v0.ownBlock = some g ∨ w.heap.size ≤ g
theorem OnlyV.refl (w : World) (v : Value) : OnlyV w v w v := ⟨Upd.refl _ _, fun g hg => Or.inl hg⟩
theorem OnlyV.trans {w w1 w2 : World} {v0 v1 v2 : Value} (h : OnlyV w v0 w1 v1) (k : OnlyV w1 v1 w2 v2) : OnlyV w v0 w2 v2 := by
  refine ⟨h.1.trans k.1 fun g hg e => (h.2 g e).resolve_right (by omega), fun g hg => ?_⟩
  rcases k.2 g hg with e | e
  · exact h.2 g e
  · exact Or.inr (Nat.le_trans h.1.size e)
theorem OnlyV.new {w w1 : World} (v : Value) (h : Below w.heap.size w w1) : OnlyV w v w1 v := ⟨Upd.ofBelow h, fun g hg => Or.inl hg⟩
theorem OnlyV.app {w w' : World} {e sz n m : Nat} {v v' : Value} {xs ys : List Value} (h : AppPost w e sz v n xs m ys v' w') : OnlyV w v w' v' := ⟨h.2.1, fun g hg => by
  rcases h.2.2 with e | e
  · exact Or.inl (e ▸ hg)
  · exact Or.inr (by have := ob_some (e.symm.trans hg); omega)⟩
theorem OnlyV.below {w w' : World} {v v' : Value} (h : OnlyV w v w' v') {B : Nat} (hB : B ≤ w.heap.size) (hv : ∀ g, v.ownBlock = some g → B ≤ g) : Below B w w' := h.1.below hB fun i hi e => by have := hv i e; omega

def EndsPost (w : World) (B : Nat) (f : List T) (l : List Nd) (v0 : Value) (e : Ending) (w' : World) : Prop := ∃ v, e = .returned v ∧ NodesOwn w' B (postL f l) v ∧ OnlyV w v0 w' v

set_option maxRecDepth 100000 in
set_option maxHeartbeats 4000000 in
theorem ends_step (B : Nat) (f : List T) (ih : ∀ x ∈ f, ∀ (ak : Option Addr) (ck : Nat) (l : List Nd) (v : Value) (w : World), Forest w (· < B) x.kids ak ck → x.kids.length * 88 ≤ 140737488351232 → (∀ y ∈ x.kids, Fits y) → NodesOwn w B l v → B ≤ w.heap.size → l.length + T.sizeL x.kids ≤ 10000 → Calls Tryd.prog 55 #[.slice ak x.kids.length ck, v] w (EndsPost w B x.kids l v))
    (ak : Option Addr) (ck : Nat) (l : List Nd) (v : Value) (w : World) (hFo : Forest w (· < B) f ak ck) (hf : f.length * 88 ≤ 140737488351232) (hfit : ∀ y ∈ f, Fits y) (hl : NodesOwn w B l v) (hB : B ≤ w.heap.size) (hs : l.length + T.sizeL f ≤ 10000) : Calls Tryd.prog 55 #[.slice ak f.length ck, v] w (EndsPost w B f l v) := by
  obtain ⟨a0, c0, rfl, _⟩ := hl.form
  have HH := Lib.hid (And.intro hFo (And.intro hf (And.intro hfit (And.intro hl (And.intro hB (And.intro hs ih))))))
  clear hFo hf hfit hl hB hs ih
  go_enter Tryd.func55, Tryd.ntmps55
  go_wp2
  go_loopg [1, 10] f.length (fun kq v1 v4 w' => ∃ (i m : Nat) (l3 : Option Addr) (c3 : Nat), v1 = .slice l3 m c3 ∧ v4 = .int .i64 i ∧ Hid (kq = f.length - i ∧ i ≤ f.length ∧ m = (postL (f.take i) l).length) ∧ Hid (NodesOwn w' B (postL (f.take i) l) (.slice l3 m c3)) ∧ Hid (OnlyV w (.slice a0 l.length c0) w' (.slice l3 m c3)))
  case atStart => exact ⟨0, l.length, _, _, rfl, rfl, Lib.hid ⟨rfl, Nat.zero_le _, rfl⟩, Lib.hid HH.out.2.2.2.1, Lib.hid (OnlyV.refl _ _)⟩
  case round =>
    obtain ⟨i, m, l3, c3, rfl, rfl, HJ, HL, HB⟩ := hrel
    have hi0 : (0 : Int) ≤ (i : Int) := by omega
    by_cases hi : i < f.length
    · have hi1 : (i : Int) < (f.length : Int) := by omega
      have hi2 : decide (i < f.length) = true := decide_eq_true hi
      obtain ⟨x, hx⟩ : ∃ x, f[i]? = some x := ⟨f[i], List.getElem?_eq_getElem hi⟩
      have hxm := List.mem_of_getElem? hx
      have hFr : Forest wr (· < B) f ak ck := HH.out.1.keep HB.out.1 (fun g h e => by have := HH.out.2.2.2.1.low g e; omega)
      have hxf := HH.out.2.2.1 x hxm
      have IH := HH.out.2.2.2.2.2.2 x hxm
      have hsz := size_mem hx
      obtain ⟨g, off, k, n, xa, xla, xca, t, xkk, xlk, xkc, rfl, hck, y0, y1, y2, y3, y4, hxA⟩ := hFr.kid hx
      cases x with
      | mk k' n' al t' ks =>
      obtain ⟨aa, ca, bk, bc, e, hAl, hKs⟩ := TreeAt.forest hxA
      simp at e
      obtain ⟨rfl, rfl, ⟨rfl, rfl, rfl⟩, rfl, rfl, rfl, rfl⟩ := e
      obtain ⟨X, hX⟩ : ∃ X, X = wr.heap.size := ⟨_, rfl⟩
      have hsm := hxf.small
      unfold Small at hsm
      have HX := Lib.hid (And.intro hx (And.intro hi (And.intro hxf (And.intro hsm (And.intro hxA (And.intro hKs (And.intro hX (And.intro IH hsz))))))))
      clear hx hi hxm hFr hxf hsm hxA hAl hKs IH hsz
      have hpt : postL (f.take (i + 1)) l = postT (.mk k n al t ks) (postL (f.take i) l) := postL_at HX.out.1 l
      have hm := HJ.out.2.2
      have hp2 := postL_size (f.take i) l
      have HP := Lib.hid (And.intro hpt (And.intro hm hp2))
      clear hpt hm hp2
      have hml : m ≤ 10000 := by
        have := HP.out
        have := HH.out.2.2.2.2.2.1
        have := sizeL_le (l := f) (i := i)
        omega
      have hmz : (m : Int) ≤ 10000 := by omega
      have hBr : B ≤ wr.heap.size := Nat.le_trans HH.out.2.2.2.2.1 HB.out.1.size
      by_cases hk : k = 1
      · subst hk
        obtain ⟨Bx, hBx⟩ : ∃ o, o = Obj.cells #[Value.int .i64 1, .string n, .slice xa al.length xca, .string t, .slice xkk ks.length xkc] 25 := ⟨_, rfl⟩
        have C : Calls Tryd.prog 55 #[.slice xkk ks.length xkc, .slice l3 m c3] (wr.alloc Bx) (EndsPost (wr.alloc Bx) B ks (postL (f.take i) l) (.slice l3 m c3)) := by
          obtain ⟨_, _, q3, q4, q5, q6, _, q8, q9⟩ := HX.out
          refine q8 xkk xkc _ _ _ (q6.keep ((Upd.refl wr (fun _ => False)).alloc Bx) (fun _ _ h => h)) q4.2.2.2.2 (fun y hy => q3.kid y hy) (HL.out.below (below_al (Below.refl _ _) (Nat.le_refl _) _)) (by simp; omega) ?_
          rw [T.size, if_pos rfl] at q9
          have := HP.out
          have := HH.out.2.2.2.2.2.1
          show _ + T.sizeL ks ≤ _
          omega
        rw [hBx] at C
        have HM := Lib.hid (And.intro hml hBr)
        clear hBx hml hBr
        go_wp2_with fail
        refine C.mono ?_
        rintro e w3 ⟨v3, rfl, hN3, hO3⟩
        obtain ⟨a3, c3', rfl, _⟩ := hN3.form
        have hX3 : Blk w3 wr.heap.size [.int .i64 1, .string n, .slice xa al.length xca, .string t, .slice xkk ks.length xkc] 25 := hO3.1.blk (Blk.new wr _ _) (fun e => by have := HL.out.lt e; omega)
        have x0 := hX3.cell 0
        have x1 := hX3.cell 1
        have x2 := hX3.cell 2
        have x3 := hX3.cell 3
        have x4 := hX3.cell 4
        simp only [List.getElem?_cons_zero, List.getElem?_cons_succ] at x0 x1 x2 x3 x4
        have hO4 : OnlyV wr (.slice l3 m c3) w3 (.slice a3 (postL ks (postL (f.take i) l)).length c3') := (OnlyV.new _ (below_al (Below.refl _ _) (Nat.le_refl _) _)).trans hO3
        have H3 := Lib.hid (And.intro hN3 hO4)
        obtain ⟨m3, hm3⟩ : ∃ m3, (postL ks (postL (f.take i) l)).length = m3 := ⟨_, rfl⟩
        rw [hm3]
        have HM3 := Lib.hid hm3
        clear hN3 hO3 hO4 hX3 C hm3 y0 y1 y2 y3 y4
        go_wp2_with (at_builtin; refine halt_mk ?_)
        refine halt_go ?_
        generalize hW : World.alloc w3 _ = W4
        have B4 : Below w3.heap.size w3 W4 := by rw [← hW]; exact below_al (Below.refl _ _) (Nat.le_refl _) _
        have X4 : Blk W4 w3.heap.size [.int .i64 1, .string n, .slice xa al.length xca, .string t, .slice xkk ks.length xkc, .int .i64 (m : Nat)] 139 := by rw [← hW]; exact Blk.new w3 _ _
        clear hW
        have hN4 := H3.out.1.below B4
        obtain ⟨ys, o4', n4⟩ := hN4.own
        have o4 := o4'
        rw [HM3.out] at o4
        have hs3 : m3 + 1 ≤ 10001 := by
          have h1 := postL_size ks (postL (f.take i) l)
          have h2 := HP.out
          have h3 := HH.out.2.2.2.2.2.1
          have h4 := HX.out.2.2.2.2.2.2.2.2
          rw [T.size, if_pos rfl] at h4
          have h5 := HM3.out
          omega
        refine wpl_app rfl rfl elemNode Tryd.underlying93 rfl o4 rfl (Rd.ofBlk X4 1 6 rfl) (by simp [Value.oneCell']) (by omega) ?_
        intro v5 w5 hA
        have hA' : AppPost W4 139 6 (.slice a3 m3 c3') (postL ks (postL (f.take i) l)).length ys 1 ([.int .i64 1, .string n, .slice xa al.length xca, .string t, .slice xkk ks.length xkc] ++ [.int .i64 (m : Nat)]) v5 w5 := by rw [HM3.out]; exact hA
        have Ur4 : Upd wr W4 (fun g => (Value.slice l3 m c3).ownBlock = some g) := H3.out.2.1.trans (Upd.ofBelow B4) (fun _ _ h => h)
        have hlow : ∀ g, (Value.slice a3 m3 c3').ownBlock = some g → B ≤ g := fun g hg => H3.out.1.low g (by rw [HM3.out]; exact hg)
        have hT4 : TreeAt W4 (· < B) (.mk 1 n al t ks) [.int .i64 1, .string n, .slice xa al.length xca, .string t, .slice xkk ks.length xkc] := HX.out.2.2.2.2.1.keep Ur4 (fun g hg e => by have := HL.out.low g e; omega)
        have hBW : B ≤ W4.heap.size := by have := HM.out.2; have := Ur4.size; omega
        obtain ⟨hN5, _⟩ := NodesOwn.app (x := (.mk 1 n al t ks, m)) o4' n4 (by rw [HM3.out]; exact hlow) hBW hT4 (by rw [HM3.out] at hA' ⊢; exact hA')
        have hO5 : OnlyV wr (.slice l3 m c3) w5 v5 := by
          have h1 := H3.out.2
          rw [HM3.out] at h1
          exact (h1.trans (OnlyV.new _ B4)).trans (OnlyV.app hA)
        obtain ⟨a5, c5, rfl, _⟩ := hN5.form
        obtain ⟨m5, hm5⟩ : ∃ m5, (postL ks (postL (f.take i) l) ++ [((.mk 1 n al t ks, m) : Nd)]).length = m5 := ⟨_, rfl⟩
        rw [hm5] at hN5 hO5 ⊢
        have H5 := Lib.hid (And.intro hN5 (And.intro hO5 hm5))
        clear hm5
        clear hA hA' hN4 o4 o4' n4 B4 X4 Ur4 hlow hT4 hBW hN5 hO5 hs3 x0 x1 x2 x3 x4
        go_wp2
        go_roundg (f.length - (i + 1))
        case measure => have := HJ.out; have := HX.out; omega
        case rel =>
          have epl : postL (f.take (i + 1)) l = postL ks (postL (f.take i) l) ++ [(.mk 1 n al t ks, m)] := by
            rw [HP.out.1, postT, if_pos rfl, ← HP.out.2.1]
          have h := H5.out
          exact ⟨i + 1, m5, a5, c5, rfl, v64s HX.out.2.1 (by have := HH.out; omega), Lib.hid ⟨rfl, HX.out.2.1, by rw [epl]; exact h.2.2.symm⟩, Lib.hid (by rw [epl]; exact h.1), Lib.hid (HB.out.trans h.2.1)⟩
      · have hkb : (k == 1) = false := beq_eq_false_iff_ne.2 hk
        have HK := Lib.hid hk
        clear hk
        have HM := Lib.hid (And.intro hml hBr)
        clear hml hBr
        go_wp2_with (at_builtin; refine halt_mk ?_)
        refine halt_go ?_
        generalize hW : World.alloc (World.alloc wr _) _ = W4
        have B4 : Below wr.heap.size wr W4 := by rw [← hW]; exact below_al (below_al (Below.refl _ _) (Nat.le_refl _) _) (Nat.le_refl _) _
        have X4 : Blk W4 (wr.heap.size + 1) [.int .i64 k, .string n, .slice xa al.length xca, .string t, .slice xkk ks.length xkc, .int .i64 (m : Nat)] 139 := by rw [← hW]; exact Blk.new' (by simp)
        clear hW
        have hN4 := HL.out.below B4
        obtain ⟨ys, o4', n4⟩ := hN4.own
        have o4 := o4'
        rw [← HP.out.2.1] at o4
        refine wpl_app rfl rfl elemNode Tryd.underlying93 rfl o4 rfl (Rd.ofBlk X4 1 6 rfl) (by simp [Value.oneCell']) (by have := HM.out; omega) ?_
        intro v5 w5 hA
        have hT4 : TreeAt W4 (· < B) (.mk k n al t ks) [.int .i64 k, .string n, .slice xa al.length xca, .string t, .slice xkk ks.length xkc] := HX.out.2.2.2.2.1.keep (Upd.ofBelow (F := fun _ => False) B4) (fun _ _ h => h)
        have hBW : B ≤ W4.heap.size := by have := HM.out.2; have := B4.size; omega
        obtain ⟨hN5, _⟩ := NodesOwn.app (x := (.mk k n al t ks, m)) o4' n4 (fun g hg => HL.out.low g hg) hBW hT4 (by rw [← HP.out.2.1]; exact hA)
        have hO5 : OnlyV wr (.slice l3 m c3) w5 v5 := (OnlyV.new _ B4).trans (OnlyV.app hA)
        obtain ⟨a5, c5, rfl, _⟩ := hN5.form
        obtain ⟨m5, hm5⟩ : ∃ m5, (postL (f.take i) l ++ [((.mk k n al t ks, m) : Nd)]).length = m5 := ⟨_, rfl⟩
        rw [hm5] at hN5 hO5 ⊢
        have H5 := Lib.hid (And.intro hN5 (And.intro hO5 hm5))
        clear hm5
        clear hA hN4 o4 o4' n4 B4 X4 hT4 hBW hN5 hO5 y0 y1 y2 y3 y4
        go_wp2
        go_roundg (f.length - (i + 1))
        case measure => have := HJ.out; have := HX.out; omega
        case rel =>
          have epl : postL (f.take (i + 1)) l = postL (f.take i) l ++ [(.mk k n al t ks, m)] := by
            rw [HP.out.1, postT, if_neg HK.out, ← HP.out.2.1]
          have h := H5.out
          exact ⟨i + 1, m5, a5, c5, rfl, v64s HX.out.2.1 (by have := HH.out; omega), Lib.hid ⟨rfl, HX.out.2.1, by rw [epl]; exact h.2.2.symm⟩, Lib.hid (by rw [epl]; exact h.1), Lib.hid (HB.out.trans h.2.1)⟩
    · have hi1 : ¬ (i : Int) < (f.length : Int) := by omega
      have hi2 : decide (i < f.length) = false := decide_eq_false hi
      have ei : i = f.length := by have := HJ.out; omega
      have HE := Lib.hid ei
      clear hi ei
      go_wp2
      go_ret
      have h := HL.out
      rw [HE.out, List.take_length] at h
      exact ⟨_, rfl, h, HB.out⟩

theorem ends_kids (B : Nat) : ∀ t : T, ∀ (ak : Option Addr) (ck : Nat) (l : List Nd) (v : Value) (w : World), Forest w (· < B) t.kids ak ck → t.kids.length * 88 ≤ 140737488351232 → (∀ y ∈ t.kids, Fits y) → NodesOwn w B l v → B ≤ w.heap.size → l.length + T.sizeL t.kids ≤ 10000 → Calls Tryd.prog 55 #[.slice ak t.kids.length ck, v] w (EndsPost w B t.kids l v) := by
  refine T.ind ?_
  intro k n al t ks ih ak ck l v w h1 h2 h3 h4 h5 h6
  exact ends_step B ks ih ak ck l v w h1 h2 h3 h4 h5 h6
theorem ends_any (B : Nat) (f : List T) (ak : Option Addr) (ck : Nat) (l : List Nd) (v : Value) (w : World) (hFo : Forest w (· < B) f ak ck) (hf : f.length * 88 ≤ 140737488351232) (hfit : ∀ y ∈ f, Fits y) (hl : NodesOwn w B l v) (hB : B ≤ w.heap.size) (hs : l.length + T.sizeL f ≤ 10000) :
    Calls Tryd.prog 55 #[.slice ak f.length ck, v] w (EndsPost w B f l v) := ends_step B f (fun x _ => ends_kids B x) ak ck l v w hFo hf hfit hl hB hs

end Df
end Go.Proofs.YtemmkobgpciflaaDoor
