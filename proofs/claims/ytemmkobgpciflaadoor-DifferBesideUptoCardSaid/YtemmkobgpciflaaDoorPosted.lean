/- Nodes as they end: the document's posted, walked. -/
import Derived.Test.YtemmkobgpciflaaDoorEnds
import Derived.Test.YtemmkobgpciflaaDoorReg4
namespace Go.Proofs.YtemmkobgpciflaaDoor
open Go.RowKit
open Ch
namespace Df

theorem elemInt : Elem Tryd.prog 3 1 8 (.int .i64 0) := Elem.mk' (by kernel_rfl) rfl (by omega) (by omega)

def firsts (l : List Nd) : List Value := l.map fun x => .int .i64 (x.2 : Nat)
theorem firsts_len (l : List Nd) : (firsts l).length = l.length := by simp [firsts]
theorem firsts_snoc (l : List Nd) (x : Nd) : firsts (l ++ [x]) = firsts l ++ [.int .i64 (x.2 : Nat)] := by simp [firsts]
theorem firsts_one (l : List Nd) : ∀ u ∈ firsts l, u.oneCell' = true := by
  intro u hu
  simp [firsts] at hu
  obtain ⟨_, _, _, rfl⟩ := hu
  rfl

/-- Nodes and the places of their first ones, owned. -/
def PostOwn (w : World) (B : Nat) (l : List Nd) (v u : Value) : Prop :=
  (∃ xs, w.ownsRow 0 25 5 v l.length xs ∧ ForestAt w (· < B) (l.map (·.1)) xs) ∧ w.ownsRow 0 3 1 u l.length (firsts l) ∧ (∀ g, v.ownBlock = some g → B ≤ g) ∧ (∀ g, u.ownBlock = some g → B ≤ g)
theorem PostOwn.nil (w : World) (B : Nat) : PostOwn w B [] (.slice none 0 0) (.slice none 0 0) := ⟨⟨[], own_none, by unfold ForestAt; rw [List.map_nil, ForestIs]⟩, own_none, (fun g hg => nomatch hg), (fun g hg => nomatch hg)⟩
theorem PostOwn.keep {w w' : World} {B : Nat} {l : List Nd} {v u : Value} (h : PostOwn w B l v u) {F : Nat → Prop} (hU : Upd w w' F) (hv : ∀ g, v.ownBlock = some g → ¬ F g) (hu : ∀ g, u.ownBlock = some g → ¬ F g) (hB : ∀ g, g < B → ¬ F g) : PostOwn w' B l v u := by
  obtain ⟨⟨xs, h1, h2⟩, h3, h4, h5⟩ := h
  exact ⟨⟨xs, own_keep h1 hU hv, h2.keep hU hB⟩, own_keep h3 hU hu, h4, h5⟩
theorem PostOwn.below {w w' : World} {B : Nat} {l : List Nd} {v u : Value} (h : PostOwn w B l v u) (hB : Below w.heap.size w w') : PostOwn w' B l v u := h.keep (Upd.ofBelow (F := fun _ => False) hB) (fun _ _ h => h) (fun _ _ h => h) (fun _ _ h => h)
theorem PostOwn.form {w : World} {B : Nat} {l : List Nd} {v u : Value} (h : PostOwn w B l v u) : ∃ a c b d, v = .slice a l.length c ∧ u = .slice b l.length d := by
  obtain ⟨⟨xs, h1, _⟩, h3, _⟩ := h
  obtain ⟨a, c, e1, _⟩ := (Rd.ofOwn h1).form
  obtain ⟨b, d, e2, _⟩ := (Rd.ofOwn h3).form
  exact ⟨a, c, b, d, e1, e2⟩
theorem PostOwn.ltN {w : World} {B : Nat} {l : List Nd} {v u : Value} (h : PostOwn w B l v u) {g : Nat} (hg : v.ownBlock = some g) : g < w.heap.size := by
  obtain ⟨⟨xs, h1, _⟩, _⟩ := h
  exact own_lt h1 hg
theorem PostOwn.ltF {w : World} {B : Nat} {l : List Nd} {v u : Value} (h : PostOwn w B l v u) {g : Nat} (hg : u.ownBlock = some g) : g < w.heap.size := own_lt h.2.1 hg
/-- No block of theirs holds something else. -/
theorem PostOwn.apart {w : World} {B : Nat} {l : List Nd} {v u : Value} (h : PostOwn w B l v u) {b : Nat} {vs : List Value} {t : TypeId} (hb : Blk w b vs t) (h1 : t ≠ 25) (h2 : t ≠ 3) : v.ownBlock ≠ some b ∧ u.ownBlock ≠ some b := by
  obtain ⟨⟨xs, o1, _⟩, o2, _⟩ := h
  refine ⟨fun e => ?_, fun e => ?_⟩
  · obtain ⟨vs, hv⟩ := own_ty o1 e
    exact hb.ty hv h1 rfl
  · obtain ⟨vs, hv⟩ := own_ty o2 e
    exact hb.ty hv h2 rfl
theorem PostOwn.two {w : World} {B : Nat} {l : List Nd} {v u : Value} (h : PostOwn w B l v u) {g : Nat} (hg : v.ownBlock = some g) : u.ownBlock ≠ some g := fun e => by
  obtain ⟨⟨xs, o1, _⟩, o2, _⟩ := h
  obtain ⟨vs, hv⟩ := own_ty o1 hg
  obtain ⟨us, hu⟩ := own_ty o2 e
  exact hv.ty hu (by decide) rfl

def OnlyP (w : World) (v0 u0 : Value) (w' : World) (v u : Value) : Prop := Upd w w' (fun g => v0.ownBlock = some g ∨ u0.ownBlock = some g) ∧ (∀ g, v.ownBlock = some g → v0.ownBlock = some g ∨ w.heap.size ≤ g) ∧ (∀ g, u.ownBlock = some g → u0.ownBlock = some g ∨ w.heap.size ≤ g)
theorem OnlyP.refl (w : World) (v u : Value) : OnlyP w v u w v u := ⟨Upd.refl _ _, fun g hg => Or.inl hg, fun g hg => Or.inl hg⟩
theorem OnlyP.trans {w w1 w2 : World} {v0 v1 v2 u0 u1 u2 : Value} (h : OnlyP w v0 u0 w1 v1 u1) (k : OnlyP w1 v1 u1 w2 v2 u2) : OnlyP w v0 u0 w2 v2 u2 := by
  obtain ⟨h1, h2, h3⟩ := h
  obtain ⟨k1, k2, k3⟩ := k
  have hs := h1.size
  refine ⟨h1.trans k1 fun g hg e => ?_, fun g hg => ?_, fun g hg => ?_⟩
  · rcases e with e | e
    · exact Or.inl ((h2 g e).resolve_right (by omega))
    · exact Or.inr ((h3 g e).resolve_right (by omega))
  · rcases k2 g hg with e | e
    · exact h2 g e
    · exact Or.inr (by omega)
  · rcases k3 g hg with e | e
    · exact h3 g e
    · exact Or.inr (by omega)
theorem OnlyP.new {w w1 : World} (v u : Value) (h : Below w.heap.size w w1) : OnlyP w v u w1 v u := ⟨Upd.ofBelow h, fun g hg => Or.inl hg, fun g hg => Or.inl hg⟩
theorem OnlyP.below {w w' : World} {v v' u u' : Value} (h : OnlyP w v u w' v' u') {B : Nat} (hB : B ≤ w.heap.size) (hv : ∀ g, v.ownBlock = some g → B ≤ g) (hu : ∀ g, u.ownBlock = some g → B ≤ g) : Below B w w' := h.1.below hB fun i hi e => by
  rcases e with e | e
  · have := hv i e; omega
  · have := hu i e; omega

def PostedPost (w : World) (B : Nat) (f : List T) (l : List Nd) (v0 u0 : Value) (e : Ending) (w' : World) : Prop := ∃ v u, e = .returned (.agg #[v, u]) ∧ PostOwn w' B (postL f l) v u ∧ OnlyP w v0 u0 w' v u

/-- One node put behind what is owned. -/
theorem app_node {wx W w' : World} {e sz m : Nat} {v v' : Value} {xs c : List Value} (U : Upd wx W (fun _ => False)) (h : AppPost W e sz v m xs 1 c v' w') :
    w'.ownsRow 0 e sz v' (m + 1) (xs ++ c) ∧ Upd wx w' (fun b => v.ownBlock = some b) ∧ ∀ g, v'.ownBlock = some g → v.ownBlock = some g ∨ wx.heap.size ≤ g := by
  obtain ⟨o, u, b⟩ := h
  have hs := U.size
  refine ⟨o, (U.mono (fun _ _ h => h.elim)).trans u (fun g hg e => e), fun g hg => ?_⟩
  rcases b with e | e
  · exact Or.inl (e ▸ hg)
  · have := ob_some (e.symm.trans hg)
    exact Or.inr (by omega)

set_option maxRecDepth 100000 in
set_option maxHeartbeats 4000000 in
theorem posted_step (B : Nat) (f : List T) (ih : ∀ x ∈ f, ∀ (ak : Option Addr) (ck : Nat) (l : List Nd) (v u : Value) (w : World), Forest w (· < B) x.kids ak ck → x.kids.length * 88 ≤ 140737488351232 → (∀ y ∈ x.kids, Fits y) → PostOwn w B l v u → B ≤ w.heap.size → l.length + T.sizeL x.kids ≤ 10000 → Calls Tryd.prog 57 #[.slice ak x.kids.length ck, .agg #[v, u]] w (PostedPost w B x.kids l v u))
    (ak : Option Addr) (ck : Nat) (l : List Nd) (v u : Value) (w : World) (hFo : Forest w (· < B) f ak ck) (hf : f.length * 88 ≤ 140737488351232) (hfit : ∀ y ∈ f, Fits y) (hl : PostOwn w B l v u) (hB : B ≤ w.heap.size) (hs : l.length + T.sizeL f ≤ 10000) : Calls Tryd.prog 57 #[.slice ak f.length ck, .agg #[v, u]] w (PostedPost w B f l v u) := by
  obtain ⟨a0, c0, b0, d0, rfl, rfl⟩ := hl.form
  obtain ⟨N, hN⟩ : ∃ N, N = w.heap.size := ⟨_, rfl⟩
  have HH := Lib.hid (And.intro hFo (And.intro hf (And.intro hfit (And.intro hl (And.intro hB (And.intro hs ih))))))
  have HN := Lib.hid hN
  clear hFo hf hfit hl hB hs ih hN
  go_enter Tryd.func57, Tryd.ntmps57
  go_wp2
  rw [← HN.out]
  generalize hW : World.alloc _ _ = W1
  have B1 : Below w.heap.size w W1 := by rw [← hW]; exact below_al (below_al (Below.refl _ _) (Nat.le_refl _) _) (Nat.le_refl _) _
  have PN : Blk W1 N [.slice a0 l.length c0, .slice b0 l.length d0] 101 := by rw [← hW, HN.out]; exact (Blk.new w _ _).alloc _
  have PR : Blk W1 (N + 1) [.slice none 0 0, .slice none 0 0] 101 := by rw [← hW, HN.out]; exact Blk.new' (by simp)
  have H1 := Lib.hid (And.intro B1 (And.intro PN PR))
  clear hW B1 PN PR
  go_loopg [5, 6] f.length (fun kq v5 v6 w' => ∃ (i m : Nat) (la lb : Option Addr) (ca cb : Nat), v5 = .int .i64 i ∧ Hid (kq = f.length - i ∧ i ≤ f.length ∧ m = (postL (f.take i) l).length) ∧ Hid (PostOwn w' B (postL (f.take i) l) (.slice la m ca) (.slice lb m cb)) ∧ Hid (OnlyP w (.slice a0 l.length c0) (.slice b0 l.length d0) w' (.slice la m ca) (.slice lb m cb)) ∧ Hid (Blk w' N [.slice la m ca, .slice lb m cb] 101) ∧ Hid (Blk w' (N + 1) [.slice none 0 0, .slice none 0 0] 101))
  case atStart => exact ⟨0, l.length, _, _, _, _, rfl, Lib.hid ⟨rfl, Nat.zero_le _, rfl⟩, Lib.hid (HH.out.2.2.2.1.below H1.out.1), Lib.hid (OnlyP.new _ _ H1.out.1), Lib.hid H1.out.2.1, Lib.hid H1.out.2.2⟩
  case round =>
    obtain ⟨i, m, la, lb, ca, cb, rfl, HJ, HP, HO, HPN, HPR⟩ := hrel
    have hi0 : (0 : Int) ≤ (i : Int) := by omega
    have p0 := HPN.out.cell 0
    have p1 := HPN.out.cell 1
    have f0 := HPN.out.free 0
    have f1 := HPN.out.free 1
    have r0 := HPR.out.cell 0
    have r1 := HPR.out.cell 1
    have fr0 := HPR.out.free 0
    have fr1 := HPR.out.free 1
    simp only [List.getElem?_cons_zero, List.getElem?_cons_succ] at p0 p1 r0 r1
    by_cases hi : i < f.length
    · have hi1 : (i : Int) < (f.length : Int) := by omega
      have hi2 : decide (i < f.length) = true := decide_eq_true hi
      obtain ⟨x, hx⟩ : ∃ x, f[i]? = some x := ⟨f[i], List.getElem?_eq_getElem hi⟩
      have hxm := List.mem_of_getElem? hx
      have hFr : Forest wr (· < B) f ak ck := HH.out.1.keep HO.out.1 (fun g h e => by
        rcases e with e | e
        · have := HH.out.2.2.2.1.2.2.1 g e; omega
        · have := HH.out.2.2.2.1.2.2.2 g e; omega)
      have hxf := HH.out.2.2.1 x hxm
      have IH := HH.out.2.2.2.2.2.2 x hxm
      have hsz := size_mem hx
      obtain ⟨g, off, k, n, xa, xla, xca, t, xkk, xlk, xkc, rfl, hck, y0, y1, y2, y3, y4, hxA⟩ := hFr.kid hx
      cases x with
      | mk k' n' al t' ks =>
      obtain ⟨aa, ca', bk, bc, e, hAl, hKs⟩ := TreeAt.forest hxA
      simp at e
      obtain ⟨rfl, rfl, ⟨rfl, rfl, rfl⟩, rfl, rfl, rfl, rfl⟩ := e
      have hsm := hxf.small
      unfold Small at hsm
      have HX := Lib.hid (And.intro hx (And.intro hi (And.intro hxf (And.intro hsm (And.intro hxA (And.intro hKs (And.intro IH hsz)))))))
      clear hx hi hxm hFr hxf hsm hxA hAl hKs IH hsz
      have hpt : postL (f.take (i + 1)) l = postT (.mk k n al t ks) (postL (f.take i) l) := postL_at HX.out.1 l
      have hp2 := postL_size (f.take i) l
      have HQ := Lib.hid (And.intro hpt (And.intro HJ.out.2.2 hp2))
      clear hpt hp2
      have hml : m ≤ 10000 := by
        have := HQ.out
        have := HH.out.2.2.2.2.2.1
        have := sizeL_le (l := f) (i := i)
        omega
      have hmz : (m : Int) ≤ 10000 := by omega
      have hBr : B ≤ wr.heap.size := Nat.le_trans HH.out.2.2.2.2.1 HO.out.1.size
      obtain ⟨L', hL'⟩ : ∃ L', L' = if k = 1 then postL ks (postL (f.take i) l) else postL (f.take i) l := ⟨_, rfl⟩
      have HL' := Lib.hid (And.intro hL' (And.intro hml hBr))
      clear hL' hml hBr
      have HG : Hid (g < B) := Lib.hid (by
        obtain ⟨_, ⟨_, hp⟩, _⟩ := HH.out.1
        exact hp (by have := HX.out; omega) g rfl)
      go_upto_if 21 with (fail)
      go_cut [6] from 7 to 43 (fun s6 wx => ∃ (m3 : Nat) (qa qb : Option Addr) (da db : Nat), s6 = .int .i64 m ∧ Hid (Blk wx N [.slice qa m3 da, .slice qb m3 db] 101) ∧ Hid (m3 = L'.length) ∧ Hid (PostOwn wx B L' (.slice qa m3 da) (.slice qb m3 db)) ∧ Hid (OnlyP w (.slice a0 l.length c0) (.slice b0 l.length d0) wx (.slice qa m3 da) (.slice qb m3 db)) ∧ Hid (Blk wx (N + 1) [.slice none 0 0, .slice none 0 0] 101) ∧ Hid (Upd wr wx (fun b => B ≤ b)))
      case first =>
        by_cases hk : k = 1
        · subst hk
          have C : Calls Tryd.prog 57 #[.slice xkk ks.length xkc, .agg #[.slice la m ca, .slice lb m cb]] wr.drew (PostedPost wr.drew B ks (postL (f.take i) l) (.slice la m ca) (.slice lb m cb)) := by
            obtain ⟨_, _, q3, q4, q5, q6, q7, q8⟩ := HX.out
            refine q7 xkk xkc _ _ _ _ (q6.keep ((Upd.refl wr (fun _ => False)).drew) (fun _ _ h => h)) q4.2.2.2.2 (fun y hy => q3.kid y hy) (HP.out.keep ((Upd.refl wr (fun _ => False)).drew) (fun _ _ h => h) (fun _ _ h => h) (fun _ _ h => h)) HL'.out.2.2 ?_
            rw [T.size, if_pos rfl] at q8
            have := HQ.out
            have := HH.out.2.2.2.2.2.1
            show _ + T.sizeL ks ≤ _
            omega
          have HC := Lib.hid C
          clear C
          go_wp2
          apply wp_reg (fun w' : World => w'.cell? ⟨g, off + i * 5 + 4, none⟩ = some (.slice xkk ks.length xkc) ∧ w'.cell? ⟨N, 0, none⟩ = some (.slice la m ca) ∧ w'.cell? ⟨N, 1, none⟩ = some (.slice lb m cb)) [0, 1, 2, 3, 4, 5] [6] [7] (by kernel_rfl) (by kernel_rfl) (fun _ _ d _ _ h => by cases d <;> exact h) ⟨y4, p0, p1⟩
          · iterate 6 (apply reads_consL rfl rfl; (· intro w0 hS; obtain ⟨hS1, hS2, hS3⟩ := hS; go_simp; try rfl); simp only [Act.put, List.setIfInBounds_toArray, List.set_cons_zero, List.set_cons_succ])
            exact rfl
          refine tail_consL rfl ?_
          go_wp2_with fail
          refine HC.out.mono ?_
          rintro e w3 ⟨v3, u3, rfl, hP3, hO3⟩
          obtain ⟨qa, da, qb, db, rfl, rfl⟩ := hP3.form
          have hap := HP.out.apart HPN.out (by decide) (by decide)
          have hap2 := HP.out.apart HPR.out (by decide) (by decide)
          have X3 : Blk w3 N [.slice la m ca, .slice lb m cb] 101 := hO3.1.blk HPN.out.drew (by rintro (e | e) <;> first | exact hap.1 e | exact hap.2 e)
          have R3 : Blk w3 (N + 1) [.slice none 0 0, .slice none 0 0] 101 := hO3.1.blk HPR.out.drew (by rintro (e | e) <;> first | exact hap2.1 e | exact hap2.2 e)
          have q0 := X3.cell 0
          have q1 := X3.cell 1
          have t0 := X3.free 0
          have t1 := X3.free 1
          simp only [List.getElem?_cons_zero, List.getElem?_cons_succ] at q0 q1
          have hgB := HG.out
          have hnF : ¬ ((Value.slice la m ca).ownBlock = some g ∨ (Value.slice lb m cb).ownBlock = some g) := by
            rintro (e | e)
            · have := HP.out.2.2.1 g e; omega
            · have := HP.out.2.2.2 g e; omega
          have y4' : w3.cell? ⟨g, off + i * 5 + 4, none⟩ = some (.slice xkk ks.length xkc) := (hO3.1.cell (p := ⟨g, off + i * 5 + 4, none⟩) (by have := HL'.out; show g < wr.heap.size; omega) hnF).trans y4
          have O3 : OnlyP w (.slice a0 l.length c0) (.slice b0 l.length d0) w3 (.slice qa (postL ks (postL (f.take i) l)).length da) (.slice qb (postL ks (postL (f.take i) l)).length db) := (HO.out.trans (OnlyP.new _ _ (Below.refl wr.heap.size wr).drew)).trans hO3
          have U3 : Upd wr w3 (fun b => B ≤ b) := (Upd.refl wr (fun b => B ≤ b)).drew.trans hO3.1 (fun b _ h => by
            rcases h with e | e
            · exact HP.out.2.2.1 b e
            · exact HP.out.2.2.2 b e)
          have H3 := Lib.hid (And.intro hP3 (And.intro O3 (And.intro X3 (And.intro R3 U3))))
          obtain ⟨m3, hm3⟩ : ∃ m3, (postL ks (postL (f.take i) l)).length = m3 := ⟨_, rfl⟩
          rw [hm3]
          have HM3 := Lib.hid hm3
          clear hP3 hO3 O3 X3 R3 U3 hm3 hap hap2 hnF hgB HC
          go_wp2_with fail
          refine ⟨⟨y4', q0, q1⟩, tail_oneL rfl ?_⟩
          go_wp2
          go_meet
          generalize hW : World.setCell _ _ _ = W9
          obtain ⟨P3, O3, X3, R3, U3⟩ := H3.out
          rw [HM3.out] at P3 O3
          have X9 : Blk W9 N [.slice qa m3 da, .slice qb m3 db] 101 := by rw [← hW]; exact (X3.set 0 _).set 1 _
          have R9 : Blk W9 (N + 1) [.slice none 0 0, .slice none 0 0] 101 := by rw [← hW]; exact (R3.far ⟨N, 0, none⟩ _ (by simp)).far ⟨N, 1, none⟩ _ (by simp)
          have U9 : Upd w3 W9 (fun g => g = N) := by rw [← hW]; exact ((Upd.refl w3 (fun g => g = N)).set ⟨N, 0, none⟩ _ (fun _ => rfl)).set ⟨N, 1, none⟩ _ (fun _ => rfl)
          have hap := P3.apart X3 (by decide) (by decide)
          have hNw := HN.out
          have hBw := HH.out.2.2.2.2.1
          have eL : L' = postL ks (postL (f.take i) l) := by rw [HL'.out.1]; simp
          refine ⟨m3, qa, qb, da, db, rfl, Lib.hid X9, Lib.hid (by rw [eL]; exact HM3.out.symm), Lib.hid ?_, Lib.hid ⟨O3.1.trans U9 (fun g hg e => by omega), O3.2⟩, Lib.hid R9, Lib.hid (U3.trans U9 (fun b _ e => by show B ≤ b; omega))⟩
          rw [eL]
          exact P3.keep U9 (fun g hg e => hap.1 (e ▸ hg)) (fun g hg e => hap.2 (e ▸ hg)) (fun g hg e => by omega)
        · have hkb : (k == 1) = false := beq_eq_false_iff_ne.2 hk
          have HK := Lib.hid hk
          clear hk
          go_wp2
          go_meet
          have eL : L' = postL (f.take i) l := by rw [HL'.out.1, if_neg HK.out]
          refine ⟨m, la, lb, ca, cb, rfl, Lib.hid HPN.out, Lib.hid (by rw [eL]; exact HQ.out.2.1), Lib.hid (by rw [eL]; exact HP.out), Lib.hid HO.out, Lib.hid HPR.out, Lib.hid (Upd.refl _ _)⟩
      case rest =>
        obtain ⟨m3, qa, qb, da, db, rfl, HN3, HM3, HP3, HO3, HR3, HU3⟩ := hcut
        have hBr := HL'.out.2.2
        have hSk : ∀ w' : World, Upd wc w' (fun b => (Value.slice qa m3 da).ownBlock = some b ∨ (Value.slice qb m3 db).ownBlock = some b) → (w'.cell? ⟨N, 0, none⟩ = some (.slice qa m3 da) ∧ w'.cell? ⟨N, 1, none⟩ = some (.slice qb m3 db) ∧ w'.cell? ⟨g, off + i * 5, none⟩ = some (.int .i64 k) ∧ w'.cell? ⟨g, off + i * 5 + 1, none⟩ = some (.string n) ∧ w'.cell? ⟨g, off + i * 5 + 2, none⟩ = some (.slice xa al.length xca) ∧ w'.cell? ⟨g, off + i * 5 + 3, none⟩ = some (.string t) ∧ w'.cell? ⟨g, off + i * 5 + 4, none⟩ = some (.slice xkk ks.length xkc)) := by
          intro w' hU
          have hap := HP3.out.apart HN3.out (by decide) (by decide)
          have X := hU.blk HN3.out (by rintro (e | e) <;> first | exact hap.1 e | exact hap.2 e)
          have hg := HG.out
          have hU' : Upd wr w' (fun b => B ≤ b) := HU3.out.trans hU (fun b _ h => by
            rcases h with e | e
            · exact HP3.out.2.2.1 b e
            · exact HP3.out.2.2.2 b e)
          have hc : ∀ j, w'.cell? ⟨g, j, none⟩ = wr.cell? ⟨g, j, none⟩ := fun j => hU'.cell (p := ⟨g, j, none⟩) (by show g < wr.heap.size; omega) (by show ¬ B ≤ g; omega)
          exact ⟨X.cell 0, X.cell 1, (hc _).trans y0, (hc _).trans y1, (hc _).trans y2, (hc _).trans y3, (hc _).trans y4⟩
        obtain ⟨⟨xs, o, fo⟩, ou, l1, l2⟩ := HP3.out
        have o' := o
        have ou' := ou
        rw [← HM3.out] at o' ou'
        have hm3 : m3 ≤ 10001 := by
          have h1 := HL'.out
          have h2 := HQ.out.2
          have h3 := HX.out.2.2.2.2.2.2.2
          have h4 := HH.out.2.2.2.2.2.1
          rw [HM3.out, h1.1]
          split
          · rename_i hk
            rw [postL_size]
            rw [T.size, if_pos hk] at h3
            omega
          · omega
        have hS0 := hSk wc.drew (Upd.refl wc _).drew
        have HS := Lib.hid hSk
        have HOW := Lib.hid (And.intro o (And.intro fo (And.intro ou (And.intro l1 (And.intro l2 (And.intro o' (And.intro ou' hm3)))))))
        clear p0 p1 f0 f1 r0 r1 fr0 fr1 y0 y1 y2 y3 y4 hSk o fo ou l1 l2 o' ou' hm3 hBr
        go_wp2
        apply wp_regT (fun w' : World => (w'.cell? ⟨N, 0, none⟩ = some (.slice qa m3 da) ∧ w'.cell? ⟨N, 1, none⟩ = some (.slice qb m3 db) ∧ w'.cell? ⟨g, off + i * 5, none⟩ = some (.int .i64 k) ∧ w'.cell? ⟨g, off + i * 5 + 1, none⟩ = some (.string n) ∧ w'.cell? ⟨g, off + i * 5 + 2, none⟩ = some (.slice xa al.length xca) ∧ w'.cell? ⟨g, off + i * 5 + 3, none⟩ = some (.string t) ∧ w'.cell? ⟨g, off + i * 5 + 4, none⟩ = some (.slice xkk ks.length xkc))) [10] [0, 1, 2, 3, 4, 5, 8, 9] [13] [6, 7] 11 [12] [14, 15, 16] (by kernel_rfl) (by kernel_rfl) (fun _ _ d _ _ h => by cases d <;> exact h)
          (fun (y : Value) (_ : Nat) (gz : Nat) (w' : World) => Hid (w'.ownsRow 0 25 5 y (m3 + 1) (xs ++ [.int .i64 k, .string n, .slice xa al.length xca, .string t, .slice xkk ks.length xkc]) ∧ Blk w' gz [.int .i64 m] 3 ∧ Upd wc w' (fun b => (Value.slice qa m3 da).ownBlock = some b) ∧ ∀ g, y.ownBlock = some g → (Value.slice qa m3 da).ownBlock = some g ∨ wc.heap.size ≤ g)) _ _ _ hS0
        · iterate 1 (apply reads_consL rfl rfl; (· intro w0 hS; go_simp; try rfl); simp only [Act.put, List.setIfInBounds_toArray, List.set_cons_zero, List.set_cons_succ])
          exact rfl
        · iterate 8 (apply reads_consL rfl rfl; (· intro w0 hS; obtain ⟨hS1, hS2, hS3, hS4, hS5, hS6, hS7⟩ := hS; go_simp; try rfl); simp only [Act.put, List.setIfInBounds_toArray, List.set_cons_zero, List.set_cons_succ])
          exact rfl
        · have V0 : Upd wc wc.drew (fun _ => False) := (Upd.refl wc _).drew
          generalize wc.drew = w0 at V0 ⊢
          have H0 := Lib.hid V0
          clear V0
          refine shufC_consL rfl rfl ?_ ?_
          · obtain ⟨gx, hgx⟩ : ∃ gx, gx = w0.heap.size := ⟨_, rfl⟩
            have Hgx := Lib.hid hgx
            go_wp2_with fail
            rw [← hgx]
            generalize hW : World.alloc w0 _ = W1
            have VV : Upd wc W1 (fun _ => False) := by rw [← hW]; exact H0.out.alloc _
            have XX : Blk W1 gx [.int .i64 k, .string n, .slice xa al.length xca, .string t, .slice xkk ks.length xkc] 25 := by rw [← hW]; exact Blk.new' hgx
            have HF := Lib.hid (And.intro VV XX)
            clear hW hgx
            refine ⟨HS.out _ (VV.mono (fun _ _ h => h.elim)), ?_⟩
            refine shufC_consL rfl rfl ?_ ?_
            · refine wpl_app rfl rfl elemTree Tryd.underlying23 rfl (own_keep HOW.out.2.2.2.2.2.1 VV (fun _ _ h => h)) rfl (Rd.ofBlk XX 1 5 rfl) (by intro u hu; simp at hu; rcases hu with rfl | rfl | rfl | rfl | rfl <;> rfl) (by have := HOW.out.2.2.2.2.2.2.2; omega) ?_
              intro y W2 hA
              obtain ⟨O2, U2, L2⟩ := app_node VV hA
              have S2 := HS.out _ (U2.mono (fun _ _ h => Or.inl h))
              have HA2 := Lib.hid (And.intro O2 (And.intro U2 L2))
              clear VV XX hA O2 U2 L2
              go_wp2_with fail
              refine ⟨S2, ?_⟩
              apply shufC_nilL rfl
              · iterate 1 (apply reads_consL rfl rfl; (· intro w0 hS; go_simp; try rfl); simp only [Act.put, List.setIfInBounds_toArray, List.set_cons_zero, List.set_cons_succ])
                exact rfl
              obtain ⟨gz, hgz⟩ : ∃ gz, gz = W2.heap.size := ⟨_, rfl⟩
              have Hgz := Lib.hid hgz
              clear S2
              go_wp2_with fail
              rw [← hgz]
              generalize hW : World.alloc _ _ = W3
              have T3 : Upd W2 W3 (fun _ => False) := by rw [← hW]; exact (Upd.refl W2 _).alloc _
              have X3 : Blk W3 gz [.int .i64 m] 3 := by rw [← hW]; exact Blk.new' hgz
              obtain ⟨O2, U2, L2⟩ := HA2.out
              have U3 := U2.trans T3 (fun _ _ h => h.elim)
              exact ⟨HS.out _ (U3.mono (fun _ _ h => Or.inl h)), y, gx, gz, rfl, Lib.hid ⟨own_keep O2 T3 (fun _ _ h => h), X3, U3, L2⟩⟩
            · obtain ⟨gz, hgz⟩ : ∃ gz, gz = W1.heap.size := ⟨_, rfl⟩
              have Hgz := Lib.hid hgz
              clear VV XX
              go_wp2_with fail
              rw [← hgz]
              generalize hW : World.alloc W1 _ = W2
              have VV : Upd wc W2 (fun _ => False) := by rw [← hW]; exact HF.out.1.alloc _
              have XX : Blk W2 gx [.int .i64 k, .string n, .slice xa al.length xca, .string t, .slice xkk ks.length xkc] 25 := by rw [← hW]; exact HF.out.2.alloc _
              have XZ : Blk W2 gz [.int .i64 m] 3 := by rw [← hW]; exact Blk.new' hgz
              have HF2 := Lib.hid (And.intro VV XZ)
              clear hW hgz XZ
              refine ⟨HS.out _ (VV.mono (fun _ _ h => h.elim)), pre_consL rfl ?_⟩
              refine wpl_app rfl rfl elemTree Tryd.underlying23 rfl (own_keep HOW.out.2.2.2.2.2.1 VV (fun _ _ h => h)) rfl (Rd.ofBlk XX 1 5 rfl) (by intro u hu; simp at hu; rcases hu with rfl | rfl | rfl | rfl | rfl <;> rfl) (by have := HOW.out.2.2.2.2.2.2.2; omega) ?_
              intro y W3 hA
              obtain ⟨O2, U2, L2⟩ := app_node VV hA
              have S2 := HS.out _ (U2.mono (fun _ _ h => Or.inl h))
              have hne : (Value.slice qa m3 da).ownBlock ≠ some gz := fun e => by
                obtain ⟨_, hv⟩ := own_ty (own_keep HOW.out.2.2.2.2.2.1 VV (fun _ _ h => h)) e
                exact HF2.out.2.ty hv (by decide) rfl
              have XZ : Blk W3 gz [.int .i64 m] 3 := hA.2.1.blk HF2.out.2 hne
              have HA2 := Lib.hid (And.intro O2 (And.intro U2 (And.intro L2 XZ)))
              clear VV XX hA O2 U2 L2 hne XZ
              go_wp2_with fail
              refine ⟨S2, ?_⟩
              apply pure_then
              · iterate 1 (apply reads_consL rfl rfl; (· intro w0 hS; go_simp; try rfl); simp only [Act.put, List.setIfInBounds_toArray, List.set_cons_zero, List.set_cons_succ])
                exact rfl
              · exact ⟨y, gx, gz, rfl, Lib.hid ⟨HA2.out.1, HA2.out.2.2.2, HA2.out.2.1, HA2.out.2.2.1⟩⟩
          · obtain ⟨gz, hgz⟩ : ∃ gz, gz = w0.heap.size := ⟨_, rfl⟩
            have Hgz := Lib.hid hgz
            go_wp2_with fail
            rw [← hgz]
            generalize hW : World.alloc w0 _ = W1
            have VV : Upd wc W1 (fun _ => False) := by rw [← hW]; exact H0.out.alloc _
            have XZ : Blk W1 gz [.int .i64 m] 3 := by rw [← hW]; exact Blk.new' hgz
            have HF := Lib.hid (And.intro VV XZ)
            have S1 := HS.out _ (VV.mono (fun _ _ h => h.elim))
            clear hW hgz XZ VV
            refine ⟨S1, pre_consL rfl ?_⟩
            obtain ⟨hS1, hS2, hS3, hS4, hS5, hS6, hS7⟩ := S1
            obtain ⟨gx, hgx⟩ : ∃ gx, gx = W1.heap.size := ⟨_, rfl⟩
            have Hgx := Lib.hid hgx
            go_wp2_with fail
            rw [← hgx]
            generalize hW : World.alloc W1 _ = W2
            have VV : Upd wc W2 (fun _ => False) := by rw [← hW]; exact HF.out.1.alloc _
            have XX : Blk W2 gx [.int .i64 k, .string n, .slice xa al.length xca, .string t, .slice xkk ks.length xkc] 25 := by rw [← hW]; exact Blk.new' hgx
            have XZ : Blk W2 gz [.int .i64 m] 3 := by rw [← hW]; exact HF.out.2.alloc _
            have HF2 := Lib.hid (And.intro VV XZ)
            clear hW hgx XZ hS1 hS2 hS3 hS4 hS5 hS6 hS7
            refine ⟨HS.out _ (VV.mono (fun _ _ h => h.elim)), pre_consL rfl ?_⟩
            refine wpl_app rfl rfl elemTree Tryd.underlying23 rfl (own_keep HOW.out.2.2.2.2.2.1 VV (fun _ _ h => h)) rfl (Rd.ofBlk XX 1 5 rfl) (by intro u hu; simp at hu; rcases hu with rfl | rfl | rfl | rfl | rfl <;> rfl) (by have := HOW.out.2.2.2.2.2.2.2; omega) ?_
            intro y W3 hA
            obtain ⟨O2, U2, L2⟩ := app_node VV hA
            have S2 := HS.out _ (U2.mono (fun _ _ h => Or.inl h))
            have hne : (Value.slice qa m3 da).ownBlock ≠ some gz := fun e => by
              obtain ⟨_, hv⟩ := own_ty (own_keep HOW.out.2.2.2.2.2.1 VV (fun _ _ h => h)) e
              exact HF2.out.2.ty hv (by decide) rfl
            have XZ : Blk W3 gz [.int .i64 m] 3 := hA.2.1.blk HF2.out.2 hne
            have HA2 := Lib.hid (And.intro O2 (And.intro U2 (And.intro L2 XZ)))
            clear VV XX hA O2 U2 L2 hne XZ
            go_wp2_with fail
            refine ⟨S2, ?_⟩
            apply pure_then
            · iterate 1 (apply reads_consL rfl rfl; (· intro w0 hS; go_simp; try rfl); simp only [Act.put, List.setIfInBounds_toArray, List.set_cons_zero, List.set_cons_succ])
              exact rfl
            · exact ⟨y, gx, gz, rfl, Lib.hid ⟨HA2.out.1, HA2.out.2.2.2, HA2.out.2.1, HA2.out.2.2.1⟩⟩
        · intro y gx gz w4 hS4 hK
          clear hS4
          have U4 := hK.out.2.2.1
          have ou4 := own_keep HOW.out.2.2.2.2.2.2.1 U4 (fun g hg e => HP3.out.two e hg)
          refine tail_consL rfl ?_
          refine wpl_app rfl rfl elemInt Tryd.underlying68 rfl ou4 rfl (Rd.ofBlk hK.out.2.1 1 1 rfl) (by intro u hu; simp at hu; subst hu; rfl) (by have := HOW.out.2.2.2.2.2.2.2; omega) ?_
          intro z w5 hA
          have U5 : Upd wc w5 (fun b => (Value.slice qa m3 da).ownBlock = some b ∨ (Value.slice qb m3 db).ownBlock = some b) := (U4.mono (fun _ _ h => Or.inl h)).trans hA.2.1 (fun _ _ h => Or.inr h)
          have O5 : w5.ownsRow 0 25 5 y (m3 + 1) (xs ++ [.int .i64 k, .string n, .slice xa al.length xca, .string t, .slice xkk ks.length xkc]) := own_keep hK.out.1 hA.2.1 (fun g hg e => by
            obtain ⟨_, hv⟩ := own_ty hK.out.1 hg
            obtain ⟨_, hu⟩ := own_ty ou4 e
            exact hv.ty hu (by decide) rfl)
          have hap := HP3.out.apart HN3.out (by decide) (by decide)
          have hap2 := HP3.out.apart HR3.out (by decide) (by decide)
          have X5 : Blk w5 N [.slice qa m3 da, .slice qb m3 db] 101 := U5.blk HN3.out (by rintro (e | e) <;> first | exact hap.1 e | exact hap.2 e)
          have R5 : Blk w5 (N + 1) [.slice none 0 0, .slice none 0 0] 101 := U5.blk HR3.out (by rintro (e | e) <;> first | exact hap2.1 e | exact hap2.2 e)
          have S5 := HS.out _ U5
          obtain ⟨ya, yc, rfl, _⟩ := (Rd.ofOwn O5).form
          obtain ⟨za, zc, rfl, _⟩ := (Rd.ofOwn hA.1).form
          have t0 := X5.free 0
          have t1 := X5.free 1
          have HA5 := Lib.hid (And.intro hA (And.intro U5 (And.intro O5 (And.intro X5 (And.intro R5 U4)))))
          clear hA U5 O5 X5 R5 hap hap2 ou4 U4
          go_wp2_with fail
          refine ⟨S5, tail_threeL rfl rfl rfl ?_⟩
          obtain ⟨q0, q1, _⟩ := S5
          go_wp2
          generalize hW : World.setCell _ _ _ = W9
          obtain ⟨hA, U5, O5, X5, R5, U4⟩ := HA5.out
          have X9 : Blk W9 N [.slice ya (m3 + 1) yc, .slice za (m3 + 1) zc] 101 := by rw [← hW]; exact (X5.set 0 _).set 1 _
          have R9 : Blk W9 (N + 1) [.slice none 0 0, .slice none 0 0] 101 := by rw [← hW]; exact (R5.far ⟨N, 0, none⟩ _ (by simp)).far ⟨N, 1, none⟩ _ (by simp)
          have U9 : Upd w5 W9 (fun g => g = N) := by rw [← hW]; exact ((Upd.refl w5 (fun g => g = N)).set ⟨N, 0, none⟩ _ (fun _ => rfl)).set ⟨N, 1, none⟩ _ (fun _ => rfl)
          have H9 := Lib.hid (And.intro X9 (And.intro R9 U9))
          clear hW
          go_roundg (f.length - (i + 1))
          case measure => have := HJ.out; have := HX.out; omega
          case rel =>
            have epl : postL (f.take (i + 1)) l = L' ++ [(.mk k n al t ks, m)] := by
              rw [HQ.out.1, postT_eq, HL'.out.1, HQ.out.2.1]
              rfl
            obtain ⟨hA, U5, O5, X5, R5, U4⟩ := HA5.out
            obtain ⟨X9, R9, U9⟩ := H9.out
            have hNw := HN.out
            have hBw := HH.out.2.2.2.2.1
            have hBr := HL'.out.2.2
            have hs3 := HU3.out.size
            have hs4 := U4.size
            have hapY : ∀ g, (Value.slice ya (m3 + 1) yc).ownBlock = some g → g ≠ N := fun g hg e => by
              obtain ⟨_, hv⟩ := own_ty O5 hg
              exact (e ▸ hv).ty X5 (by decide) rfl
            have hapZ : ∀ g, (Value.slice za (m3 + 1) zc).ownBlock = some g → g ≠ N := fun g hg e => by
              obtain ⟨_, hv⟩ := own_ty hA.1 hg
              exact (e ▸ hv).ty X5 (by decide) rfl
            have hy : ∀ g, (Value.slice ya (m3 + 1) yc).ownBlock = some g → (Value.slice qa m3 da).ownBlock = some g ∨ wc.heap.size ≤ g := hK.out.2.2.2
            have hz : ∀ g, (Value.slice za (m3 + 1) zc).ownBlock = some g → (Value.slice qb m3 db).ownBlock = some g ∨ wc.heap.size ≤ g := fun g hg => by
              rcases hA.2.2 with e | e
              · exact Or.inl (e ▸ hg)
              · have := ob_some (e.symm.trans hg)
                exact Or.inr (by omega)
            have O9 : OnlyP w (.slice a0 l.length c0) (.slice b0 l.length d0) w5 (.slice ya (m3 + 1) yc) (.slice za (m3 + 1) zc) := HO3.out.trans ⟨U5, hy, hz⟩
            have U59 : Upd wc W9 (fun b => B ≤ b) := (U5.mono (fun b _ h => by
              rcases h with e | e
              · exact HP3.out.2.2.1 b e
              · exact HP3.out.2.2.2 b e)).trans U9 (fun b _ e => by show B ≤ b; omega)
            have T9 : TreeAt W9 (· < B) (.mk k n al t ks) [.int .i64 k, .string n, .slice xa al.length xca, .string t, .slice xkk ks.length xkc] := HX.out.2.2.2.2.1.keep (HU3.out.trans U59 (fun b _ h => h)) (fun g (hg : g < B) (e : B ≤ g) => by omega)
            have F9 := HOW.out.2.1.keep U59 (fun g (hg : g < B) (e : B ≤ g) => by omega)
            have hlen : (L' ++ [((.mk k n al t ks, m) : Nd)]).length = m3 + 1 := by rw [List.length_append, ← HM3.out]; rfl
            have P9 : PostOwn W9 B (L' ++ [(.mk k n al t ks, m)]) (.slice ya (m3 + 1) yc) (.slice za (m3 + 1) zc) := by
              refine ⟨⟨_, by rw [hlen]; exact own_keep O5 U9 hapY, ?_⟩, by rw [hlen, firsts_snoc]; exact own_keep hA.1 U9 hapZ, fun g hg => ?_, fun g hg => ?_⟩
              · rw [List.map_append]
                exact ForestIs.snoc F9 T9
              · rcases hy g hg with e | e
                · exact HP3.out.2.2.1 g e
                · omega
              · rcases hz g hg with e | e
                · exact HP3.out.2.2.2 g e
                · omega
            exact ⟨i + 1, m3 + 1, ya, za, yc, zc, v64s HX.out.2.1 (by have := HH.out; omega), Lib.hid ⟨rfl, HX.out.2.1, by rw [epl, hlen]⟩, Lib.hid (by rw [epl]; exact P9), Lib.hid ⟨O9.1.trans U9 (fun g hg e => by omega), O9.2⟩, Lib.hid X9, Lib.hid R9⟩
    · have hi1 : ¬ (i : Int) < (f.length : Int) := by omega
      have hi2 : decide (i < f.length) = false := decide_eq_false hi
      have ei : i = f.length := by have := HJ.out; omega
      have HE := Lib.hid ei
      clear hi ei
      go_wp2
      generalize hW : World.setCell _ _ _ = W9
      have R9 : Blk W9 (N + 1) [.slice la m ca, .slice lb m cb] 101 := by rw [← hW]; exact (HPR.out.set 0 _).set 1 _
      have U9 : Upd wr W9 (fun g => g = N + 1) := by rw [← hW]; exact ((Upd.refl wr (fun g => g = N + 1)).set ⟨N + 1, 0, none⟩ _ (fun _ => rfl)).set ⟨N + 1, 1, none⟩ _ (fun _ => rfl)
      refine bodyPost_ret (results_cell_row rfl _ _ (N + 1) 101 _ (0, 0) _ rfl R9 Tryd.underlying101 rfl (by kernel_rfl)) rfl ?_
      have h := HP.out
      have hap := h.apart HPR.out (by decide) (by decide)
      rw [HE.out, List.take_length] at h
      have hNw := HN.out
      have hBw := HH.out.2.2.2.2.1
      exact ⟨_, _, rfl, h.keep U9 (fun g hg e => hap.1 (e ▸ hg)) (fun g hg e => hap.2 (e ▸ hg)) (fun g hg e => by omega), HO.out.1.trans U9 (fun g hg e => by omega), HO.out.2⟩

theorem posted_kids (B : Nat) : ∀ t : T, ∀ (ak : Option Addr) (ck : Nat) (l : List Nd) (v u : Value) (w : World), Forest w (· < B) t.kids ak ck → t.kids.length * 88 ≤ 140737488351232 → (∀ y ∈ t.kids, Fits y) → PostOwn w B l v u → B ≤ w.heap.size → l.length + T.sizeL t.kids ≤ 10000 → Calls Tryd.prog 57 #[.slice ak t.kids.length ck, .agg #[v, u]] w (PostedPost w B t.kids l v u) := by
  refine T.ind ?_
  intro k n al t ks ih ak ck l v u w h1 h2 h3 h4 h5 h6
  exact posted_step B ks ih ak ck l v u w h1 h2 h3 h4 h5 h6
theorem posted_any (B : Nat) (f : List T) (ak : Option Addr) (ck : Nat) (l : List Nd) (v u : Value) (w : World) (hFo : Forest w (· < B) f ak ck) (hf : f.length * 88 ≤ 140737488351232) (hfit : ∀ y ∈ f, Fits y) (hl : PostOwn w B l v u) (hB : B ≤ w.heap.size) (hs : l.length + T.sizeL f ≤ 10000) :
    Calls Tryd.prog 57 #[.slice ak f.length ck, .agg #[v, u]] w (PostedPost w B f l v u) := posted_step B f (fun x _ => posted_kids B x) ak ck l v u w hFo hf hfit hl hB hs

end Df
end Go.Proofs.YtemmkobgpciflaaDoor
