/- Edits done: the document's Do for what Script writes; Loaded: walked. -/
import Derived.Test.YtmmjmfadipmfiaaDoorDel
import Derived.Test.YtmmjmfadipmfiaaDoorRCan
namespace Go.Proofs.YtmmjmfadipmfiaaDoor
open Go.RowKit
open Ch
namespace Df

set_option maxRecDepth 100000 in
set_option maxHeartbeats 1000000 in
theorem do_del (B d k ge m : Nat) (t : T) (f : List T) (Sv : Value) (ra : Option Addr) (rc : Nat) (N : List Row) (w : World) (hS : DocSt w B d one1 k ge m (t :: f) Sv ra rc N) (hN : NiceL (t :: f)) (hlen : k + N.length + m ≤ 65536) :
    Calls Tryd.prog 32 #[.pointer (some ⟨d, 0, none⟩), .agg (delRow (hand 1 k)).toArray] w (DelPost B d k ge m t f w) := by
  obtain ⟨W1, hW1⟩ : ∃ W1, W1 = w.alloc (.cells (delRow (hand 1 k)).toArray 64) := ⟨_, rfl⟩
  have U1 : Upd w W1 (fun _ => False) := by rw [hW1]; exact (Upd.refl w _).alloc _
  have S1 : DocSt W1 B d one1 k ge m (t :: f) Sv ra rc N := ⟨hS.doc.keep U1 (fun h => h) (fun _ _ h => h), hS.live, hS.len, hS.slots.upd U1 (fun _ _ h => h) (fun g hg => ⟨hg.1, by have := U1.size; omega, hg.2.2⟩), own_keep hS.roots U1 (fun _ _ h => h), hS.svB, hS.rB, hS.dB⟩
  have C := delete_any B d k ge m t f Sv ra rc N W1 S1 hN hlen
  obtain ⟨X, hX⟩ : ∃ X, X = hand 1 k := ⟨_, rfl⟩
  have HH := Lib.hid (And.intro U1 (And.intro C (And.intro hX hW1)))
  rw [← hX] at C hW1 ⊢
  have HC := Lib.hid (And.intro C hW1)
  clear hS hN hlen U1 S1 C hX hW1
  unfold delRow at HC ⊢
  go_enter Tryd.func32, Tryd.ntmps32
  go_wp2_with fail
  rw [← HC.out.2]
  refine HC.out.1.mono ?_
  rintro e w2 ⟨Sv', ra', rc', N', rfl, S2, U2⟩
  have H2 := Lib.hid (And.intro S2 U2)
  clear S2 U2
  go_wp2
  go_ret
  exact ⟨Sv', ra', rc', N', rfl, H2.out.1, (HH.out.1.mono (fun _ _ h => h.elim)).trans H2.out.2 (fun _ _ h => h)⟩

def DoInsPost (B d ge M : Nat) (x : T) (f : List T) (N : List Row) (w : World) (e : Ending) (w' : World) : Prop := ∃ (Sv' : Value) (ra' : Option Addr) (rc' : Nat) (N' : List Row), e = .returned (.int .i64 0) ∧ DocSt w' B d (gen ge M) 0 ge (M - (N ++ N').length) (f ++ [norm x]) Sv' ra' rc' (N ++ N') ∧ Upd w w' (fun g => B ≤ g)

theorem DocSt.new {w w' : World} {B d : Nat} {gn : Nat → Nat} {k ge m : Nat} {f : List T} {Sv : Value} {ra : Option Addr} {rc : Nat} {N : List Row} (hS : DocSt w B d gn k ge m f Sv ra rc N) (U1 : Upd w w' (fun _ => False)) : DocSt w' B d gn k ge m f Sv ra rc N :=
  ⟨hS.doc.keep U1 (fun h => h) (fun _ _ h => h), hS.live, hS.len, hS.slots.upd U1 (fun _ _ h => h) (fun g hg => ⟨hg.1, by have := U1.size; omega, hg.2.2⟩), own_keep hS.roots U1 (fun _ _ h => h), hS.svB, hS.rB, hS.dB⟩

set_option maxRecDepth 100000 in
set_option maxHeartbeats 1000000 in
theorem do_ins (B d ge M : Nat) (hge : ge < 4294967294) (hM : M ≤ 4096) (x : T) (cs : List Value) (f : List T) (Sv : Value) (ra : Option Addr) (rc : Nat) (N : List Row) (w : World) (hS : DocSt w B d (gen ge M) 0 ge (M - N.length) f Sv ra rc N) (hA : TreeAt w (· < B) x cs) (hF : Fits x) (hK : Kinds x) (hc : chk x 1 0 = 0) (hn : T.sizeL f + T.size x ≤ 4096) :
    Calls Tryd.prog 32 #[.pointer (some ⟨d, 0, none⟩), .agg (insRow cs).toArray] w (DoInsPost B d ge M x f N w) := by
  obtain ⟨yk, yn, yaa, yal, yac, yt, yka, ykl, ykc, rfl⟩ : ∃ a n b c d t e f g, cs = [.int .i64 a, .string n, .slice b c d, .string t, .slice e f g] := by
    cases x
    obtain ⟨_, _, _, _, rfl, _, _⟩ := TreeAt.forest hA
    exact ⟨_, _, _, _, _, _, _, _, _, rfl⟩
  obtain ⟨W1, hW1⟩ : ∃ W1, W1 = w.alloc (.cells (insRow [.int .i64 yk, .string yn, .slice yaa yal yac, .string yt, .slice yka ykl ykc]).toArray 64) := ⟨_, rfl⟩
  have U1 : Upd w W1 (fun _ => False) := by rw [hW1]; exact (Upd.refl w _).alloc _
  have S1 := hS.new U1
  have C := insert_any B d ge M hge hM x _ f Sv ra rc N W1 S1 (hA.keep U1 (fun _ _ h => h)) hF hK hc hn
  have HH := Lib.hid U1
  have HC := Lib.hid (And.intro C hW1)
  clear hS hA hF hK hc hn U1 S1 C hW1
  simp only [insRow, List.cons_append, List.nil_append] at HC ⊢
  go_enter Tryd.func32, Tryd.ntmps32
  go_wp2_with fail
  rw [← HC.out.2]
  refine HC.out.1.mono ?_
  rintro e w2 ⟨h, Sv', ra', rc', N', rfl, S2, U2⟩
  have H2 := Lib.hid (And.intro S2 U2)
  clear S2 U2
  go_wp2
  go_ret
  exact ⟨Sv', ra', rc', N', rfl, H2.out.1, (HH.out.mono (fun _ _ h => h.elim)).trans H2.out.2 (fun _ _ h => h)⟩

def LoadPost (w : World) (B : Nat) (f : List T) (e : Ending) (w' : World) : Prop := ∃ (d : Nat) (Sv : Value) (ra : Option Addr) (rc : Nat) (N : List Row), e = .returned (.pointer (some ⟨d, 0, none⟩)) ∧ DocSt w' B d one1 0 0 0 (normL f) Sv ra rc N ∧ Upd w w' (fun g => B ≤ g)

theorem gen00 : gen 0 0 = one1 := by
  funext i
  unfold gen one1
  rw [if_neg (by omega)]

set_option maxRecDepth 100000 in
set_option maxHeartbeats 1000000 in
theorem loaded_any (B : Nat) (f : List T) (ak : Option Addr) (ck : Nat) (w : World) (hf : Forest w (· < B) f ak ck) (ff : ∀ x ∈ f, Fits x) (fk : ∀ x ∈ f, Kinds x) (fc : ∀ x ∈ f, chk x 1 0 = 0) (hn : T.sizeL f ≤ 4096) (hB : B ≤ w.heap.size) :
    Calls Tryd.prog 31 #[.slice ak f.length ck] w (LoadPost w B f) := by
  obtain ⟨d, hd⟩ : ∃ d, d = w.heap.size := ⟨_, rfl⟩
  have hfl := sizeL_len f
  have HH := Lib.hid (And.intro hf (And.intro ff (And.intro fk (And.intro fc (And.intro hn (And.intro hB (And.intro hd hfl)))))))
  clear hf ff fk fc hn hB hd hfl
  obtain ⟨n, hnf⟩ : ∃ n, n = f.length := ⟨_, rfl⟩
  have HN := Lib.hid hnf
  rw [← hnf]
  clear hnf
  go_enter Tryd.func31, Tryd.ntmps31
  go_wp2
  rw [← HH.out.2.2.2.2.2.2.1]
  generalize hW : World.alloc _ _ = W1
  have U1 : Upd w W1 (fun _ => False) := by rw [← hW]; exact (Upd.refl w _).alloc _
  have D1 : Blk W1 d [.slice none 0 0, .slice none 0 0] 86 := by rw [← hW]; exact Blk.new' HH.out.2.2.2.2.2.2.1
  have H1 := Lib.hid (And.intro U1 D1)
  clear hW U1 D1
  go_loopg [4] n (fun kq v4 w' => ∃ (j : Nat) (Sv : Value) (ra : Option Addr) (rc : Nat) (N : List Row), v4 = .int .i64 j ∧ Hid (kq = n - j ∧ j ≤ n) ∧ Hid (DocSt w' B d (gen 0 0) 0 0 (0 - N.length) (normL (f.take j)) Sv ra rc N) ∧ Hid (Upd w w' (fun g => B ≤ g)))
  case atStart =>
    refine ⟨0, .slice none 0 0, none, 0, [], rfl, Lib.hid ⟨rfl, Nat.zero_le _⟩, Lib.hid ?_, Lib.hid (H1.out.1.mono (fun _ _ h => h.elim))⟩
    rw [List.take_zero, normL]
    refine ⟨⟨H1.out.2, own_none⟩, (fun r h => by cases h), rfl, by rw [SlF], own_none, (fun g h => by cases h), (fun g h => by cases h), ?_⟩
    have := HH.out.2.2.2.2.2
    omega
  case round =>
    obtain ⟨j, Sv, ra, rc, N, rfl, HJ, HS, HU⟩ := hrel
    have hj0 : (0 : Int) ≤ (j : Int) := by omega
    by_cases hj : j < n
    · have hj1 : (j : Int) < (n : Int) := by omega
      have hj2 : decide (j < n) = true := decide_eq_true hj
      obtain ⟨x, hx⟩ : ∃ x, f[j]? = some x := ⟨f[j]'(by have := HN.out; omega), List.getElem?_eq_getElem _⟩
      have hxm := List.mem_of_getElem? hx
      have hFr := HH.out.1.keep HU.out (fun g (hg : g < B) e => by omega)
      obtain ⟨g1, off, xk, xn, xa, xla, xca, xt, xkk, xlk, xkc, rfl, hck, y0, y1, y2, y3, y4, hxA⟩ := hFr.kid hx
      have hmem := size_mem hx
      have C := insert_any B d 0 0 (by omega) (by omega) x _ (normL (f.take j)) Sv ra rc N wr HS.out hxA (HH.out.2.1 x hxm) (HH.out.2.2.1 x hxm) (HH.out.2.2.2.1 x hxm) (by rw [sizeL_norm _ (KindsL.all.2 fun y hy => HH.out.2.2.1 y (List.mem_of_mem_take hy))]; have := HH.out.2.2.2.2.1; omega)
      rw [← HN.out] at hck
      have HC := Lib.hid C
      have HX := Lib.hid (And.intro hx hj)
      clear hx hj hxm hFr hxA hmem C
      go_wp2_with fail
      refine HC.out.mono ?_
      rintro e w2 ⟨h, Sv', ra', rc', N', rfl, S2, U2⟩
      have H2 := Lib.hid (And.intro S2 U2)
      clear S2 U2 y0 y1 y2 y3 y4
      go_wp2
      go_roundg (n - (j + 1))
      case measure => have := HJ.out; have := HX.out; omega
      case rel =>
        refine ⟨j + 1, Sv', ra', rc', N ++ N', v64s HX.out.2 (by have := HN.out; have := HH.out.2.2.2.2; omega), Lib.hid ⟨rfl, HX.out.2⟩, Lib.hid ?_, Lib.hid (HU.out.trans H2.out.2 (fun _ _ h => h))⟩
        rw [take_at HX.out.1, normL_map, List.map_append, ← normL_map]
        exact H2.out.1
    · have hj1 : ¬ (j : Int) < (n : Int) := by omega
      have hj2 : decide (j < n) = false := decide_eq_false hj
      have ej : j = f.length := by have := HJ.out; have := HN.out; omega
      have HE := Lib.hid ej
      clear hj ej
      go_wp2
      go_ret
      have hS := HS.out
      rw [HE.out, List.take_length, gen00, Nat.zero_sub] at hS
      exact ⟨d, Sv, ra, rc, N, rfl, hS, HU.out⟩

end Df
end Go.Proofs.YtmmjmfadipmfiaaDoor

namespace Go.Proofs.YtmmjmfadipmfiaaDoor
open Go.RowKit
open Ch
namespace Df

theorem TreeAt.low {w : World} {P : Nat → Prop} {t : T} {cs : List Value} (h : TreeAt w P t cs) : TreeAt w (· < w.heap.size) t cs :=
  TreeIs.mono (fun _ _ _ hr => (RdP.lt (by omega) hr).mono (fun _ h => h.2)) (fun _ _ _ hr => (RdP.lt (by omega) hr).mono (fun _ h => h.2)) t cs h

/-- Where the edits stand. -/
def PatSt (B d M : Nat) (f g : List T) (w : World) (i : Nat) : Prop :=
  (i ≤ f.length ∧ ∃ Sv ra rc N, DocSt w B d one1 (T.sizeL (f.take i)) 0 0 (normL (f.drop i)) Sv ra rc N) ∨
  (f.length ≤ i ∧ ∃ Sv ra rc N, DocSt w B d (gen 1 M) 0 1 (M - N.length) (normL (g.take (i - f.length))) Sv ra rc N)
theorem PatSt.turn {B d : Nat} {f g : List T} {w : World} (h : PatSt B d (T.sizeL f) f g w f.length) : ∃ Sv ra rc N, DocSt w B d (gen 1 (T.sizeL f)) 0 1 (T.sizeL f - N.length) (normL (g.take (f.length - f.length))) Sv ra rc N := by
  rcases h with ⟨_, Sv, ra, rc, N, h⟩ | ⟨_, h⟩
  · rw [List.take_length, List.drop_length, normL] at h
    have hN : N = [] := List.eq_nil_of_length_eq_zero (by have := h.len; rw [T.sizeL] at this; exact this)
    subst hN
    rw [Nat.sub_self, List.take_zero, normL]
    refine ⟨Sv, ra, rc, [], ⟨?_, h.live, h.len, by rw [SlF], by simpa [hands] using h.roots, h.svB, h.rB, h.dB⟩⟩
    have hd := h.doc
    simpa using hd
  · exact h

def PatchPost (w : World) (h : List T) (e : Ending) (w' : World) : Prop := ∃ a c z, e = .returned (.tuple #[.slice a (normL h).length c, .int .i64 z, .int .i64 0]) ∧ Ch.Forest w' (fun _ => True) (normL h) a c ∧ Below w.heap.size w w'

set_option maxRecDepth 100000 in
set_option maxHeartbeats 1000000 in
theorem patch_any (B0 : Nat) (f g h : List T) (ak : Option Addr) (ck : Nat) (la : Option Addr) (n lc : Nat) (w : World) (hf : Forest w (· < B0) f ak ck) (ff : ∀ x ∈ f, Fits x) (lf : f.length * 88 ≤ 140737488351232) (hB : B0 ≤ w.heap.size) (hT : Tabs w) (cf : canE f = 0) (cg : canE g = 0) (fg : ∀ x ∈ g, Fits x) (hlc : n ≤ lc)
    (hl : (n = 0 ∧ h = f) ∨ (n = f.length + g.length ∧ h = g ∧ ∃ ys, Rd w (.slice la n lc) n 11 (delC f f.length ++ ys) ∧ InsIs w (fun _ => True) g ys)) :
    Calls Tryd.prog 17 #[.slice ak f.length ck, .slice la n lc] w (PatchPost w h) := by
  obtain ⟨sf, kf⟩ := canGo_ok f 0 cf
  obtain ⟨sg, kg⟩ := canGo_ok g 0 cg
  have hKf : KindsL f := KindsL.all.2 fun x hx => chk_kinds x 1 0 (kf x hx)
  have hKg : KindsL g := KindsL.all.2 fun x hx => chk_kinds x 1 0 (kg x hx)
  have C := rcan_any f ak ck w B0 hf ff lf hB hT
  rw [cf] at C
  obtain ⟨m, hm⟩ : ∃ m, m = f.length := ⟨_, rfl⟩
  have HH := Lib.hid (And.intro hf (And.intro ff (And.intro lf (And.intro hB (And.intro cf (And.intro cg (And.intro fg (And.intro hl (And.intro sf (And.intro kf (And.intro sg (And.intro kg (And.intro hKf (And.intro hKg hm))))))))))))))
  have HC := Lib.hid C
  rw [← hm]
  rw [← hm] at HC
  clear hf ff lf hB cf cg fg hl sf kf sg kg hKf hKg C hm hT
  go_enter Tryd.func17, Tryd.ntmps17
  go_wp2_with fail
  refine HC.out.mono ?_
  rintro e w2 ⟨rfl, B2⟩
  have F2 := (HH.out.1.below B2).mono (Q := (· < w.heap.size)) (fun g (hg : g < B0) => Nat.lt_of_lt_of_le hg HH.out.2.2.2.1)
  have C2 := loaded_any w.heap.size f ak ck w2 F2 HH.out.2.1 (KindsL.all.1 HH.out.2.2.2.2.2.2.2.2.2.2.2.2.1) HH.out.2.2.2.2.2.2.2.2.2.1 (by have := HH.out.2.2.2.2.2.2.2.2.1; omega) B2.size
  rw [← HH.out.2.2.2.2.2.2.2.2.2.2.2.2.2.2] at C2
  have HC2 := Lib.hid C2
  have H2 := Lib.hid B2
  clear F2 C2 B2
  go_wp2_with fail
  refine HC2.out.mono ?_
  rintro e w3 ⟨d, Sv, ra, rc, N, rfl, S3, U3⟩
  have P3 : PatSt w.heap.size d (T.sizeL f) f g w3 0 := Or.inl ⟨Nat.zero_le _, Sv, ra, rc, N, by rw [List.take_zero, List.drop_zero]; exact S3⟩
  have H3 := Lib.hid (And.intro P3 ((Upd.ofBelow (F := fun g => w.heap.size ≤ g) H2.out).trans U3 (fun _ _ h => h)))
  clear P3 S3 U3
  go_wp2
  go_loopg [9, 10] n (fun kq v9 v10 w' => ∃ i : Nat, v9 = .int .i64 i ∧ Hid (kq = n - i ∧ i ≤ n) ∧ Hid (PatSt w.heap.size d (T.sizeL f) f g w' i) ∧ Hid (Upd w w' (fun g => w.heap.size ≤ g)))
  case atStart => exact ⟨0, rfl, Lib.hid ⟨rfl, Nat.zero_le _⟩, Lib.hid H3.out.1, Lib.hid H3.out.2⟩
  case round =>
    obtain ⟨i, rfl, HI, HP, HU⟩ := hrel
    have hi0 : (0 : Int) ≤ (i : Int) := by omega
    by_cases hi : i < n
    · have hi1 : (i : Int) < (n : Int) := by omega
      have hi2 : decide (i < n) = true := decide_eq_true hi
      obtain ⟨hn, hh, ys, hR, hI⟩ : n = f.length + g.length ∧ h = g ∧ ∃ ys, Rd w (.slice la n lc) n 11 (delC f f.length ++ ys) ∧ InsIs w (fun _ => True) g ys := by
        rcases HH.out.2.2.2.2.2.2.2.1 with ⟨h1, _⟩ | h1
        · omega
        · exact h1
      by_cases hif : i < f.length
      · obtain ⟨t, ht⟩ : ∃ t, f[i]? = some t := ⟨f[i], List.getElem?_eq_getElem hif⟩
        have hk : hand 1 (T.sizeL (f.take i)) = 4294967297 + T.sizeL (f.take i) := by unfold hand; omega
        have hcell : ∀ c u, c < 11 → (delRow (hand 1 (T.sizeL (f.take i))))[c]? = some u → (delC f f.length ++ ys)[i * 11 + c]? = some u := fun c u hc hu => by
          rw [List.getElem?_append_left (by rw [delC_len]; omega), delC_at f hif c hc, ← hk]
          exact hu
        obtain ⟨lg, loff, lc', el, _, l0⟩ := hR.at_ (hcell 0 _ (by omega) rfl)
        simp only [Value.slice.injEq] at el
        obtain ⟨rfl, _, rfl⟩ := el
        have hlt : lg < w.heap.size := cell_lt0 l0
        have rd : ∀ c u, c < 11 → (delRow (hand 1 (T.sizeL (f.take i))))[c]? = some u → wr.cell? ⟨lg, loff + i * 11 + c, none⟩ = some u := fun c u hc hu => by
          obtain ⟨g', o', c', e, _, h1⟩ := hR.at_ (hcell c u hc hu)
          simp only [Value.slice.injEq, Option.some.injEq, Addr.mk.injEq] at e
          obtain ⟨⟨rfl, rfl, _⟩, _, _⟩ := e
          rw [← Nat.add_assoc] at h1
          exact (HU.out.cell (p := ⟨lg, _, none⟩) hlt (by show ¬ w.heap.size ≤ lg; omega)).trans h1
        have c0 := rd 0 _ (by omega) rfl
        have c1 := rd 1 _ (by omega) rfl
        have c2 := rd 2 _ (by omega) rfl
        have c3 := rd 3 _ (by omega) rfl
        have c4 := rd 4 _ (by omega) rfl
        have c5 := rd 5 _ (by omega) rfl
        have c6 := rd 6 _ (by omega) rfl
        have c7 := rd 7 _ (by omega) rfl
        have c8 := rd 8 _ (by omega) rfl
        have c9 := rd 9 _ (by omega) rfl
        have c10 := rd 10 _ (by omega) rfl
        rw [Nat.add_zero] at c0
        have hP : ∃ Sv ra rc N, DocSt wr w.heap.size d one1 (T.sizeL (f.take i)) 0 0 (normL (f.drop i)) Sv ra rc N := by
          rcases HP.out with ⟨_, h⟩ | ⟨h, _⟩
          · exact h
          · omega
        obtain ⟨Sv', ra', rc', N', hS⟩ := hP
        rw [drop_at ht, normL] at hS
        have hKt := KindsL.all.1 HH.out.2.2.2.2.2.2.2.2.2.2.2.2.1
        have hsz := sizeL_norm f HH.out.2.2.2.2.2.2.2.2.2.2.2.2.1
        have hNice : NiceL (norm t :: normL (f.drop (i + 1))) := by
          rw [NiceL]
          exact ⟨nice_norm t (hKt t (List.mem_of_getElem? ht)), niceL_norm _ (KindsL.all.2 fun x hx => hKt x (List.mem_of_mem_drop hx))⟩
        have hlen : T.sizeL (f.take i) + N'.length + 0 ≤ 65536 := by
          have h1 := hS.len
          rw [T.sizeL, size_norm t (hKt t (List.mem_of_getElem? ht)), sizeL_norm _ (KindsL.all.2 fun x hx => hKt x (List.mem_of_mem_drop hx))] at h1
          have h2 := T.sizeL_append (f.take (i + 1)) (f.drop (i + 1))
          rw [List.take_append_drop, sizeL_at ht] at h2
          have h3 := HH.out.2.2.2.2.2.2.2.2.1
          omega
        have CD := do_del w.heap.size d (T.sizeL (f.take i)) 0 0 (norm t) (normL (f.drop (i + 1))) Sv' ra' rc' N' wr hS hNice hlen
        have hst := size_norm t (hKt t (List.mem_of_getElem? ht))
        obtain ⟨X, hX⟩ : ∃ X, X = hand 1 (T.sizeL (f.take i)) := ⟨_, rfl⟩
        rw [← hX] at CD c1
        have HCD := Lib.hid CD
        have HX := Lib.hid (And.intro hi (And.intro hif (And.intro ht (And.intro hst hn))))
        clear hi hif ht hk hcell l0 hlt rd hS hKt hsz hNice hlen CD hst hX hn hh hR hI
        unfold delRow at HCD
        go_wp2_with fail
        refine HCD.out.mono ?_
        rintro e w6 ⟨Sv2, ra2, rc2, N2, rfl, S6, U6⟩
        have H6 := Lib.hid (And.intro S6 U6)
        clear S6 U6 c0 c1 c2 c3 c4 c5 c6 c7 c8 c9 c10
        go_wp2
        go_roundg (n - (i + 1))
        case measure => have := HI.out; have := HX.out; omega
        case rel =>
          obtain ⟨hi, hif, ht, hst, hn⟩ := HX.out
          have hfl := sizeL_len f
          have hgl := sizeL_len g
          refine ⟨i + 1, v64s hi (by have := HH.out.2.2.2.2.2.2.2.2; omega), Lib.hid ⟨rfl, hi⟩, Lib.hid (Or.inl ⟨hif, Sv2, ra2, rc2, N2, ?_⟩), Lib.hid (HU.out.trans H6.out.2 (fun _ _ h => h))⟩
          rw [sizeL_at ht, ← hst]
          exact H6.out.1
      · obtain ⟨j, hj⟩ : ∃ j, i = f.length + j := ⟨i - f.length, by omega⟩
        have hjg : j < g.length := by omega
        obtain ⟨t, ht⟩ : ∃ t, g[j]? = some t := ⟨g[j], List.getElem?_eq_getElem hjg⟩
        obtain ⟨cs, hA, hcs⟩ := hI.get ht
        obtain ⟨yk, yn, yaa, yal, yac, yt, yka, ykl, ykc, rfl⟩ : ∃ a n b c d t e f g, cs = [.int .i64 a, .string n, .slice b c d, .string t, .slice e f g] := by
          cases t
          obtain ⟨_, _, _, _, rfl, _, _⟩ := TreeAt.forest hA
          exact ⟨_, _, _, _, _, _, _, _, _, rfl⟩
        have hcell : ∀ c u, c < 11 → (insRow [.int .i64 yk, .string yn, .slice yaa yal yac, .string yt, .slice yka ykl ykc])[c]? = some u → (delC f f.length ++ ys)[i * 11 + c]? = some u := fun c u hc hu => by
          rw [List.getElem?_append_right (by rw [delC_len]; omega), delC_len, show i * 11 + c - f.length * 11 = j * 11 + c by omega, hcs c hc]
          exact hu
        obtain ⟨lg, loff, lc', el, _, l0⟩ := hR.at_ (hcell 0 _ (by omega) rfl)
        simp only [Value.slice.injEq] at el
        obtain ⟨rfl, _, rfl⟩ := el
        have hlt : lg < w.heap.size := cell_lt0 l0
        have rd : ∀ c u, c < 11 → (insRow [.int .i64 yk, .string yn, .slice yaa yal yac, .string yt, .slice yka ykl ykc])[c]? = some u → wr.cell? ⟨lg, loff + i * 11 + c, none⟩ = some u := fun c u hc hu => by
          obtain ⟨g', o', c', e, _, h1⟩ := hR.at_ (hcell c u hc hu)
          simp only [Value.slice.injEq, Option.some.injEq, Addr.mk.injEq] at e
          obtain ⟨⟨rfl, rfl, _⟩, _, _⟩ := e
          rw [← Nat.add_assoc] at h1
          exact (HU.out.cell (p := ⟨lg, _, none⟩) hlt (by show ¬ w.heap.size ≤ lg; omega)).trans h1
        have c0 := rd 0 _ (by omega) rfl
        have c1 := rd 1 _ (by omega) rfl
        have c2 := rd 2 _ (by omega) rfl
        have c3 := rd 3 _ (by omega) rfl
        have c4 := rd 4 _ (by omega) rfl
        have c5 := rd 5 _ (by omega) rfl
        have c6 := rd 6 _ (by omega) rfl
        have c7 := rd 7 _ (by omega) rfl
        have c8 := rd 8 _ (by omega) rfl
        have c9 := rd 9 _ (by omega) rfl
        have c10 := rd 10 _ (by omega) rfl
        rw [Nat.add_zero] at c0
        have hP : ∃ Sv ra rc N, DocSt wr w.heap.size d (gen 1 (T.sizeL f)) 0 1 (T.sizeL f - N.length) (normL (g.take (i - f.length))) Sv ra rc N := by
          rcases HP.out with ⟨h1, h2⟩ | ⟨_, h⟩
          · have hif' : i = f.length := by omega
            have hp := HP.out
            rw [hif'] at hp ⊢
            exact hp.turn
          · exact h
        obtain ⟨Sv', ra', rc', N', hS⟩ := hP
        rw [show i - f.length = j by omega] at hS
        have hKt := KindsL.all.1 HH.out.2.2.2.2.2.2.2.2.2.2.2.2.2.1
        have htm := List.mem_of_getElem? ht
        have hmem := size_mem ht
        have CD := do_ins w.heap.size d 1 (T.sizeL f) (by omega) (by have := HH.out.2.2.2.2.2.2.2.2.1; omega) t _ (normL (g.take j)) Sv' ra' rc' N' wr hS ((TreeAt.low hA).keep HU.out (fun q (hq : q < w.heap.size) e => by omega)) (HH.out.2.2.2.2.2.2.1 t htm) (hKt t htm) (HH.out.2.2.2.2.2.2.2.2.2.2.2.1 t htm) (by rw [sizeL_norm _ (KindsL.take HH.out.2.2.2.2.2.2.2.2.2.2.2.2.2.1 j)]; have := HH.out.2.2.2.2.2.2.2.2.2.2.1; omega)
        have HCD := Lib.hid CD
        have HX := Lib.hid (And.intro hi (And.intro hj (And.intro ht hn)))
        clear hi hif hj hjg ht hA hcs hcell l0 hlt rd hS hKt htm hmem CD hn hh hR hI
        simp only [insRow, List.cons_append, List.nil_append] at HCD
        go_wp2_with fail
        refine HCD.out.mono ?_
        rintro e w6 ⟨Sv2, ra2, rc2, N2, rfl, S6, U6⟩
        have H6 := Lib.hid (And.intro S6 U6)
        clear S6 U6 c0 c1 c2 c3 c4 c5 c6 c7 c8 c9 c10
        go_wp2
        go_roundg (n - (i + 1))
        case measure => have := HI.out; have := HX.out; omega
        case rel =>
          obtain ⟨hi, hj, ht, hn⟩ := HX.out
          have hfl := sizeL_len f
          have hgl := sizeL_len g
          refine ⟨i + 1, v64s hi (by have := HH.out.2.2.2.2.2.2.2.2; omega), Lib.hid ⟨rfl, hi⟩, Lib.hid (Or.inr ⟨by omega, Sv2, ra2, rc2, N' ++ N2, ?_⟩), Lib.hid (HU.out.trans H6.out.2 (fun _ _ h => h))⟩
          rw [show i + 1 - f.length = j + 1 by omega, take_at ht, normL_map, List.map_append, ← normL_map]
          exact H6.out.1
    · have hi1 : ¬ (i : Int) < (n : Int) := by omega
      have hi2 : decide (i < n) = false := decide_eq_false hi
      have ei : i = n := by have := HI.out; omega
      have hfin : ∃ gn k ge m Sv ra rc N, DocSt wr w.heap.size d gn k ge m (normL h) Sv ra rc N ∧ (∀ i, gn i < 4294967296) ∧ k + N.length + m ≤ 65536 ∧ NiceL (normL h) := by
        have sf := HH.out.2.2.2.2.2.2.2.2.1
        have sg := HH.out.2.2.2.2.2.2.2.2.2.2.1
        have hKf := HH.out.2.2.2.2.2.2.2.2.2.2.2.2.1
        have hKg := HH.out.2.2.2.2.2.2.2.2.2.2.2.2.2.1
        have hK : KindsL h := by
          rcases HH.out.2.2.2.2.2.2.2.1 with ⟨_, h2⟩ | ⟨_, h2, _⟩ <;> rw [h2] <;> assumption
        have hszh : T.sizeL h ≤ 4096 := by
          rcases HH.out.2.2.2.2.2.2.2.1 with ⟨_, h2⟩ | ⟨_, h2, _⟩ <;> rw [h2] <;> omega
        have hNl : ∀ gn k ge m Sv ra rc N, DocSt wr w.heap.size d gn k ge m (normL h) Sv ra rc N → N.length ≤ 4096 := fun gn k ge m Sv ra rc N hS => by
          have := hS.len
          rw [sizeL_norm h hK] at this
          omega
        have hgl1 : ∀ i, gen 1 (T.sizeL f) i < 4294967296 := fun i => by unfold gen; split <;> omega
        rcases HP.out with ⟨h1, Sv', ra', rc', N', hS⟩ | ⟨h1, Sv', ra', rc', N', hS⟩
        · have e : normL (f.drop i) = normL h := by
            rcases HH.out.2.2.2.2.2.2.2.1 with ⟨h2, h3⟩ | ⟨h2, h3, _⟩
            · rw [ei, h2, h3, List.drop_zero]
            · have hg0 : g = [] := List.eq_nil_of_length_eq_zero (by omega)
              rw [h3, hg0, show i = f.length by omega, List.drop_length]
          rw [e] at hS
          refine ⟨_, _, _, _, _, _, _, _, hS, fun i => by unfold one1; omega, ?_, niceL_norm h hK⟩
          have := hNl _ _ _ _ _ _ _ _ hS
          have := sizeL_le (l := f) (i := i)
          omega
        · have e : normL (g.take (i - f.length)) = normL h := by
            rcases HH.out.2.2.2.2.2.2.2.1 with ⟨h2, h3⟩ | ⟨h2, h3, _⟩
            · have hf0 : f = [] := List.eq_nil_of_length_eq_zero (by omega)
              rw [h3, hf0, show i - ([] : List T).length = 0 by simp; omega, List.take_zero]
            · rw [h3, show i - f.length = g.length by omega, List.take_length]
          rw [e] at hS
          refine ⟨_, _, _, _, _, _, _, _, hS, hgl1, ?_, niceL_norm h hK⟩
          have := hNl _ _ _ _ _ _ _ _ hS
          omega
      obtain ⟨gn, k, ge, m2, Sv', ra', rc', N', hS, hgn, hlen, hNice⟩ := hfin
      have CF := forest_any w.heap.size d gn k ge m2 (normL h) Sv' ra' rc' N' wr hgn hS hNice hlen
      have HCF := Lib.hid CF
      clear hi ei hS hgn hlen hNice CF
      go_wp2_with fail
      refine HCF.out.mono ?_
      rintro e w6 ⟨fa, fc, rfl, F6, B6⟩
      have H6 := Lib.hid (And.intro F6 B6)
      clear F6 B6
      go_wp2
      go_ret3
      exact ⟨fa, fc, _, rfl, H6.out.1, ((HU.out.trans (Upd.ofBelow (F := fun _ => False) H6.out.2) (fun _ _ h => h.elim)).below (Nat.le_refl _) (fun i hi e => by omega))⟩

end Df
end Go.Proofs.YtmmjmfadipmfiaaDoor
