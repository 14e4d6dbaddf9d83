/- A range over a function, where the iterator may itself range over a function: the iterator's contract hands its caller's invariant through whatever is no memory of cells; a round changes old blocks of F0 alone, and those that lie from n on: n is the heap's size when the first round begins. -/
import Derived.Test.YtemmkobgpciflaaDoorRound
import Derived.Test.YtemmkobgpciflaaDoorSlice
namespace Go.Proofs.YtemmkobgpciflaaDoor
open Go.RowKit

/-- What a round may change. -/
def Mine (F0 : Nat → Prop) (n : Nat) (b : Nat) : Prop := F0 b ∨ n ≤ b

def Gives {α : Type} (P : Program) (g : Nat) (lb : Array Value) (encs : α → Array Value) (F0 : Nat → Prop) (S Sp : List α → Prop) (N : Nat) (w : World) : Prop :=
  ∀ (l : Nat) (J Jx : Nat → List α → World → Prop) (W : World), Below w.heap.size w W → (∀ n, OwnFrom W.heap.size (J n)) → (∀ n, OwnFrom W.heap.size (Jx n)) →
    (∀ n pre x W1, W.heap.size ≤ n → J n pre W1 → pre.length < N → YieldAt Fence.wide 7 P l (encs x) W1 fun e W' =>
      (e = .returned (.bool true) ∧ J n (pre ++ [x]) W' ∧ Upd W1 W' (Mine F0 n)) ∨ (e = .returned (.bool false) ∧ Jx n (pre ++ [x]) W' ∧ Upd W1 W' (fun b => b < W.heap.size ∨ n ≤ b))) →
    (∀ W1, Below W.heap.size W W1 → J W1.heap.size [] W1) →
    CallsIn Fence.wide 8 P g (#[.func (.yield l) #[] #[]] ++ lb) W fun e W' => (∃ v, e = .returned v) ∧ ((∃ n xs, W.heap.size ≤ n ∧ S xs ∧ J n xs W') ∨ (∃ n pre, W.heap.size ≤ n ∧ Sp pre ∧ Jx n pre W'))

theorem roundIn_wide {P : Program} {m m' l r : Nat} {f : FuncId} {tmps : Array Value} {assign body : Code} {w : World} {R : Ending → World → Prop} (h : RoundIn Fence.wide m P l f tmps assign body w R) : RoundIn (Fence.wide.inRound r) m' P l f tmps assign body w R :=
  ⟨trivial, fun c cs _ => h.2 c cs (room_wide _)⟩

theorem own_step {β : Type} {B : Nat} {J : β → World → Prop} (hJ : OwnFrom B J) {s : β} {W W' : World} (h : J s W) (hb : Below W.heap.size W W') : J s W' :=
  hJ s W W' none h ⟨hb.os, hb.tape, hb.output, hb.size, fun k hk _ => hb.block k hk⟩ (fun r e => by cases e)

/-- How a round's body may be left. -/
def roundU {α : Type} (B : Nat) (F0 : Nat → Prop) (n : Nat) (I : Nat → List α → World → Prop) (Ix : Nat → Code → List α → World → Prop) (xs : List α) (W : World) : Exit → Act → World → Prop
  | .normal, _, W' => Upd W W' (Mine F0 n) ∧ I n xs W'
  | .ret, _, W' => Upd W W' (fun b => b < B ∨ n ≤ b) ∧ Ix n .ret xs W'
  | .exit id, _, W' => Upd W W' (fun b => b < B ∨ n ≤ b) ∧ Ix n (.exit id) xs W'
  | .goto t, _, W' => Upd W W' (fun b => b < B ∨ n ≤ b) ∧ Ix n (.goto t) xs W'
  | .panic _, _, _ => False
  | .outgrown, _, _ => False

section
variable {P : Program} {α : Type} {g : Operand} {ps : Array Tmp} {assign body : Code} {Q : Exit → Act → World → Prop} {a : Act} {w : World}

theorem range_law {gf : Nat} {lb : Array Value} (hg : a.eval g = .func (.func gf) #[] lb) (eg : ∀ args w, (callFunc gf args).run P w = .ok (.enter gf args) w)
    {encs : α → Array Value} {F0 : Nat → Prop} {S Sp : List α → Prop} {N : Nat} {w0 : World} (hseq : Gives P gf lb encs F0 S Sp N w0) (hF0 : ∀ b, F0 b → b < w.heap.size) (hb0 : Below w0.heap.size w0 w) (hps : ∀ x, (encs x).size = ps.size)
    (I : Nat → List α → World → Prop) (Ix : Nat → Code → List α → World → Prop) (hI : ∀ n, OwnFrom w.heap.size (I n)) (hIx : ∀ n c, OwnFrom w.heap.size (Ix n c)) (h0 : ∀ W, Below w.heap.size w W → w.heap.size + 2 ≤ W.heap.size → I W.heap.size [] W)
    (Ax : Nat → List α → α → Act → World → Prop)
    (hAx : ∀ (n : Nat) (pre : List α) (x : α) (a' : Act) (W : World) (l : Nat) (o o' : Obj), Ax n pre x a' W → w.heap.size ≤ l → W.heap[l]? = some o → o.isCells = false → Ax n pre x a' (W.putObj l o'))
    (hassign : ∀ (l n : Nat) (pre : List α) (x : α) (W : World), w.heap.size + 2 ≤ n → I n pre W → pre.length < N →
      assign.wpIn (Fence.wide.inRound l) 7 P (Exit.then (fun a' W' => Below W.heap.size W W' ∧ Ax n pre x a' W') (fun _ _ _ => False)) { tmps := (ps.zip (encs x)).foldl (fun t (p, v) => t.setIfInBounds p v) a.tmps, defers := [] } W)
    (hbody : ∀ (l n : Nat) (pre : List α) (x : α) (a' : Act) (W : World), w.heap.size + 2 ≤ n → Ax n pre x a' W → pre.length < N → body.wpIn (Fence.wide.inRound l) 7 P (roundU w.heap.size F0 n I Ix (pre ++ [x]) W) a' W)
    (hdone : ∀ (D n : Nat) (xs : List α) (W : World), w.heap.size ≤ D → w.heap.size + 2 ≤ n → S xs → I n xs W → W.heap[D]? = some (.deferred (some [])) → Q .normal { a with defers := { target := .collected D, args := #[] } :: a.defers } W)
    (hstop : ∀ (D n : Nat) (c : Code) (pre : List α) (W : World), w.heap.size ≤ D → w.heap.size + 2 ≤ n → Sp pre → Ix n c pre W → W.heap[D]? = some (.deferred (some [])) → c.wp P Q { a with defers := { target := .collected D, args := #[] } :: a.defers } W) :
    (Code.rangeFunc g ps assign body).wp P Q a w := by
  refine (wpIn_wide (n := 9)).1 (wpIn_rangeFunc fun fn _ => ?_)
  obtain ⟨l, hl⟩ : ∃ l, l = w.heap.size + 1 := ⟨_, rfl⟩
  obtain ⟨D, hD⟩ : ∃ D, D = w.heap.size := ⟨_, rfl⟩
  obtain ⟨r0, hr0⟩ : ∃ r0 : Loop, r0 = { state := .ready, pending := none, fn := fn, tmps := a.tmps, params := ps, assign := assign, body := body, defers := w.heap.size } := ⟨_, rfl⟩
  have hready : { r0 with state := .ready, pending := none } = r0 := by rw [hr0]
  obtain ⟨W1, hW1⟩ : ∃ W1, W1 = (w.alloc (.deferred (some []))).alloc (.loop r0) := ⟨_, rfl⟩
  have hs1 : W1.heap.size = w.heap.size + 2 := by rw [hW1]; simp
  have eD : W1.heap[D]? = some (.deferred (some [])) := by
    rw [hW1, hD, heap_alloc_lt _ _ _ (by simp)]
    exact heap_new _ _
  have el : W1.heap[l]? = some (.loop r0) := by
    have := heap_new (w.alloc (.deferred (some []))) (.loop r0)
    rw [hW1, hl]
    simpa using this
  have hlD : l ≠ D := by omega
  have b01 : Below w.heap.size w W1 := by
    rw [hW1]
    exact (((Upd.refl w (fun _ => False)).alloc _).alloc _).below (Nat.le_refl _) (fun _ _ h => h)
  -- the invariant, the record and the block beside it
  obtain ⟨J, hJ⟩ : ∃ J : Nat → List α → World → Prop, J = fun n pre W => I n pre W ∧ W.heap[l]? = some (.loop r0) ∧ W.heap[D]? = some (.deferred (some [])) := ⟨_, rfl⟩
  obtain ⟨Jx, hJx⟩ : ∃ Jx : Nat → List α → World → Prop, Jx = fun n pre W => ∃ c, Ix n c pre W ∧ W.heap[l]? = some (.loop { r0 with state := .done, pending := some c }) ∧ W.heap[D]? = some (.deferred (some [])) := ⟨_, rfl⟩
  have far : ∀ {W W' : World} {row : Option Nat} {k : Nat} {o : Obj}, W.grownBy W' row → (∀ r, row = some r → W1.heap.size ≤ r ∧ ∃ o : Obj, W.heap[r]? = some o ∧ o.isCells = false) → k < W1.heap.size → W.heap[k]? = some o → W'.heap[k]? = some o :=
    fun hgr hr hk ho => (hgr.block _ (heap_lt ho) (fun e => by have := (hr _ e.symm).1; omega)).trans ho
  have low : ∀ {W : World} {row : Option Nat}, (∀ r, row = some r → W1.heap.size ≤ r ∧ ∃ o : Obj, W.heap[r]? = some o ∧ o.isCells = false) → (∀ r, row = some r → w.heap.size ≤ r ∧ ∃ o : Obj, W.heap[r]? = some o ∧ o.isCells = false) :=
    fun hr r e => ⟨by have := (hr r e).1; omega, (hr r e).2⟩
  have HJ : ∀ n, OwnFrom W1.heap.size (J n) := by
    rw [hJ]
    exact fun n s A C row hs hgr hr => ⟨hI n s A C row hs.1 hgr (low hr), far hgr hr (by omega) hs.2.1, far hgr hr (by omega) hs.2.2⟩
  have HJx : ∀ n, OwnFrom W1.heap.size (Jx n) := by
    rw [hJx]
    rintro n s A C row ⟨c, h1, h2, h3⟩ hgr hr
    exact ⟨c, hIx n c s A C row h1 hgr (low hr), far hgr hr (by omega) h2, far hgr hr (by omega) h3⟩
  have J0 : ∀ W, Below W1.heap.size W1 W → J W.heap.size [] W := by
    intro W hW
    rw [hJ]
    have hsz := hW.size
    exact ⟨h0 W (b01.trans (hW.mono (by omega))) (by omega), (hW.block l (by omega)).trans el, (hW.block D (by omega)).trans eD⟩
  have b1 : Below w0.heap.size w0 W1 := hb0.trans (b01.mono hb0.size)
  have hround : ∀ n pre x W, W1.heap.size ≤ n → J n pre W → pre.length < N → YieldAt Fence.wide 7 P l (encs x) W fun e W' =>
      (e = .returned (.bool true) ∧ J n (pre ++ [x]) W' ∧ Upd W W' (Mine F0 n)) ∨ (e = .returned (.bool false) ∧ Jx n (pre ++ [x]) W' ∧ Upd W W' (fun b => b < W1.heap.size ∨ n ≤ b)) := by
    intro n pre x W hn hj hlt
    rw [hJ] at hj
    obtain ⟨hi, h1, h2⟩ := hj
    have notMine : ∀ k, w.heap.size ≤ k → k < W1.heap.size → ¬ Mine F0 n k := by
      rintro k hk1 hk2 (h | h)
      · have := hF0 k h
        omega
      · omega
    refine ⟨fn, _, assign, body, ?_, roundIn_of_wpIn trivial (wpIn_mono (hassign l n pre x W (by omega) hi hlt) (fun e a2 W2 hp => ?_))⟩
    · have := run_yield (P := P) (args := encs x) h1 (by rw [hr0]; exact hps x)
      rw [hr0] at this
      exact this
    cases e <;> first | exact hp.elim | skip
    obtain ⟨kA, hA⟩ := hp
    have h1A := (kA.block l (heap_lt h1)).trans h1
    have h2A := (kA.block D (heap_lt h2)).trans h2
    have hll : l < W2.heap.size := heap_lt h1A
    refine ⟨_, run_beginRound h1A (by rw [hr0]), ?_⟩
    -- the record is busy while the body runs
    obtain ⟨Wb, hWb⟩ : ∃ Wb, Wb = W2.putObj l (.loop { r0 with state := .busy }) := ⟨_, rfl⟩
    have e1 : Wb.heap[l]? = some (.loop { r0 with state := .busy }) := by rw [hWb]; exact World.putObj_heap_same hll
    have e2 : Wb.heap[D]? = some (.deferred (some [])) := by rw [hWb]; exact (World.putObj_heap_other hlD.symm).trans h2A
    have Ub : Upd W2 Wb (· = l) := by rw [hWb]; exact upd_of_grown (grownBy_putObj' W2 l _) |>.mono (fun i _ e => (Option.some.inj e).symm)
    rw [← hWb]
    refine wpIn_mono (hbody l n pre x a2 _ (by omega) (by rw [hWb]; exact hAx _ _ _ _ _ _ _ _ hA (by omega) h1A rfl) hlt) (fun e a3 W3 hp => ?_)
    have back : ∀ (jump : Option Code) (F : Nat → Prop), (∀ k, w.heap.size ≤ k → k < W1.heap.size → ¬ F k) → Upd Wb W3 F →
        (Instr.endRound l jump).run P W3 = .ok (.bool jump.isNone) (W3.putObj l (.loop { r0 with state := if jump.isNone then .ready else .done, pending := jump })) ∧ W3.heap[l]? = some (.loop { r0 with state := .busy }) ∧
        (W3.putObj l (.loop { r0 with state := if jump.isNone then .ready else .done, pending := jump })).heap[l]? = some (.loop { r0 with state := if jump.isNone then .ready else .done, pending := jump }) ∧
        (W3.putObj l (.loop { r0 with state := if jump.isNone then .ready else .done, pending := jump })).heap[D]? = some (.deferred (some [])) := by
      intro jump F notMine hk
      have q2 : W3.heap[l]? = some (.loop { r0 with state := .busy }) := (hk.block l (heap_lt e1) (notMine l (by omega) (by omega))).trans e1
      have q3 : W3.heap[D]? = some (.deferred (some [])) := (hk.block D (heap_lt e2) (notMine D (by omega) (by omega))).trans e2
      have q1 := run_endRound (P := P) jump q2
      exact ⟨q1, q2, World.putObj_heap_same (heap_lt q2), (World.putObj_heap_other hlD.symm).trans q3⟩
    have leave : ∀ (c : Code), Upd Wb W3 (fun b => b < w.heap.size ∨ n ≤ b) → Ix n c (pre ++ [x]) W3 →
        ∃ v w', (Instr.endRound l (some c)).run P W3 = .ok v w' ∧ ((Ending.returned v = .returned (.bool true) ∧ J n (pre ++ [x]) w' ∧ Upd W w' (Mine F0 n)) ∨ (Ending.returned v = .returned (.bool false) ∧ Jx n (pre ++ [x]) w' ∧ Upd W w' (fun b => b < W1.heap.size ∨ n ≤ b))) := by
      intro c hk hx
      obtain ⟨q1, q2, q3, q4⟩ := back (some c) _ (fun k hk1 hk2 => by omega) hk
      have U2 : Upd W W2 (fun _ => False) := Upd.ofBelow kA
      have U3 := upd_of_grown (grownBy_putObj' W3 l (.loop { r0 with state := if (some c).isNone then .ready else .done, pending := some c }))
      have UA : Upd W Wb (fun b => b < W1.heap.size ∨ n ≤ b) := Upd.trans (F := fun b => b < W1.heap.size ∨ n ≤ b) (G := (· = l)) (U2.mono (fun _ _ h => h.elim)) Ub (fun i _ e => by have e' : i = l := e; omega)
      refine ⟨_, _, q1, Or.inr ⟨rfl, ?_, ?_⟩⟩
      · rw [hJx]
        exact ⟨c, (hIx n c).putObj _ hx (by omega) q2 rfl, q3, q4⟩
      · exact (UA.trans hk (fun i _ h => by omega)).trans U3 (fun i _ h => by have := Option.some.inj h; omega)
    cases e with
    | normal =>
      obtain ⟨hk, hi3⟩ := hp
      obtain ⟨q1, q2, q3, q4⟩ := back none _ notMine hk
      have q3' : (W3.putObj l (.loop { r0 with state := if (none : Option Code).isNone then .ready else .done, pending := none })).heap[l]? = some (.loop r0) := by
        rw [q3]
        exact congrArg (fun r => some (Obj.loop r)) hready
      refine ⟨_, _, q1, Or.inl ⟨rfl, ?_, ?_⟩⟩
      · rw [hJ]
        exact ⟨(hI n).putObj _ hi3 (by omega) q2 rfl, q3', q4⟩
      · have U2 : Upd W W2 (fun _ => False) := Upd.ofBelow kA
        have U3 := upd_of_grown (grownBy_putObj' W3 l (.loop { r0 with state := if (none : Option Code).isNone then .ready else .done, pending := none }))
        refine ⟨(U3.os.trans hk.os).trans (Ub.os.trans U2.os), (U3.tape.trans hk.tape).trans (Ub.tape.trans U2.tape), (U3.output.trans hk.output).trans (Ub.output.trans U2.output), Nat.le_trans (Nat.le_trans U2.size Ub.size) (Nat.le_trans hk.size U3.size), fun b hb hm => ?_⟩
        by_cases e : b = l
        · subst e
          exact q3'.trans h1.symm
        · rw [U3.block b (Nat.lt_of_lt_of_le hb (Nat.le_trans (Nat.le_trans U2.size Ub.size) hk.size)) (fun h => e (Option.some.inj h).symm), hk.block b (Nat.lt_of_lt_of_le hb (Nat.le_trans U2.size Ub.size)) hm, Ub.block b (Nat.lt_of_lt_of_le hb U2.size) e, U2.block b hb (fun h => h)]
    | ret => exact leave .ret hp.1 hp.2
    | exit id => exact leave (.exit id) hp.1 hp.2
    | goto t => exact leave (.goto t) hp.1 hp.2
    | panic ch => exact hp.elim
    | outgrown => exact hp.elim
  have hcall := hseq l J Jx W1 b1 HJ HJx hround J0
  refine ⟨l, [{ target := .collected D, args := #[] }], W1, { target := .fn (.func gf) lb, args := #[.func (.yield l) #[] #[]] }, W1, gf, #[.func (.yield l) #[] #[]] ++ lb, W1, ?_, ?_, fun _ _ => trivial, ?_, fun _ => by decide, ?_⟩
  · rw [hW1, hl, hD, hr0]
    exact run_enterLoop_outer _ _ _ _ _
  · simp only [resolve, hg]
    simp [go_sem]
  · simp [invoke, go_sem, eg]
  refine hcall.mono ?_
  rintro e W2 ⟨⟨v, rfl⟩, ⟨n, xs, hn, hS, hj⟩ | ⟨n, pre, hn, hSp, hj⟩⟩
  · rw [hJ] at hj
    obtain ⟨hi, h1, h2⟩ := hj
    have he := run_endLoop (P := P) h1 (by rw [hr0]; simp)
    rw [hr0] at he
    exact ⟨none, _, he, hdone D n xs _ (by omega) (by omega) hS ((hI n).putObj _ hi (by omega) h1 rfl) ((World.putObj_heap_other hlD.symm).trans h2)⟩
  · rw [hJx] at hj
    obtain ⟨c, hx, h1, h2⟩ := hj
    have he := run_endLoop (P := P) h1 (by simp)
    exact ⟨some c, _, he, wpIn_wide.2 (hstop D n c pre _ (by omega) (by omega) hSp ((hIx n c).putObj _ hx (by omega) h1 rfl) ((World.putObj_heap_other hlD.symm).trans h2))⟩
/-- .. where a round's assignment lays one block. -/
theorem range_lawA {gf : Nat} {lb : Array Value} (hg : a.eval g = .func (.func gf) #[] lb) (eg : ∀ args w, (callFunc gf args).run P w = .ok (.enter gf args) w)
    {encs : α → Array Value} {F0 : Nat → Prop} {S Sp : List α → Prop} {N : Nat} {w0 : World} (hseq : Gives P gf lb encs F0 S Sp N w0) (hF0 : ∀ b, F0 b → b < w.heap.size) (hb0 : Below w0.heap.size w0 w) (hps : ∀ x, (encs x).size = ps.size)
    (I : Nat → List α → World → Prop) (Ix : Nat → Code → List α → World → Prop) (hI : ∀ n, OwnFrom w.heap.size (I n)) (hIx : ∀ n c, OwnFrom w.heap.size (Ix n c)) (h0 : ∀ W, Below w.heap.size w W → w.heap.size + 2 ≤ W.heap.size → I W.heap.size [] W)
    (cs : α → List Value) (t : TypeId) (FA : α → Nat → Act)
    (hassign : ∀ (l : Nat) (x : α) (W : World) (b : Nat) (_ : b = W.heap.size) (K : Act → World → Prop), K (FA x b) (W.alloc (.cells (cs x).toArray t)) →
      assign.wpIn (Fence.wide.inRound l) 7 P (Exit.then K (fun _ _ _ => False)) { tmps := (ps.zip (encs x)).foldl (fun t (p, v) => t.setIfInBounds p v) a.tmps, defers := [] } W)
    (hbody : ∀ (l n : Nat) (pre : List α) (x : α) (b : Nat) (W : World), w.heap.size + 2 ≤ n → I n pre W → Blk W b (cs x) t → pre.length < N → body.wpIn (Fence.wide.inRound l) 7 P (roundU w.heap.size F0 n I Ix (pre ++ [x]) W) (FA x b) W)
    (hdone : ∀ (D n : Nat) (xs : List α) (W : World), w.heap.size ≤ D → w.heap.size + 2 ≤ n → S xs → I n xs W → W.heap[D]? = some (.deferred (some [])) → Q .normal { a with defers := { target := .collected D, args := #[] } :: a.defers } W)
    (hstop : ∀ (D n : Nat) (c : Code) (pre : List α) (W : World), w.heap.size ≤ D → w.heap.size + 2 ≤ n → Sp pre → Ix n c pre W → W.heap[D]? = some (.deferred (some [])) → c.wp P Q { a with defers := { target := .collected D, args := #[] } :: a.defers } W) :
    (Code.rangeFunc g ps assign body).wp P Q a w := by
  refine range_law hg eg hseq hF0 hb0 hps I Ix hI hIx h0 (fun n pre x a' W => ∃ b, a' = FA x b ∧ I n pre W ∧ Blk W b (cs x) t) ?_ ?_ ?_ hdone hstop
  · rintro n pre x a' W l o o' ⟨b, rfl, hi, hb⟩ hB hl ho
    refine ⟨b, rfl, (hI n).putObj _ hi hB hl ho, hb.at_ (World.putObj_heap_other (fun e => ?_))⟩
    subst e
    unfold Blk at hb
    rw [hb] at hl
    cases hl
    cases ho
  · intro l n pre x W _ hi _
    refine hassign l x W _ rfl _ ⟨((Upd.refl W (fun _ => False)).alloc _).below (Nat.le_refl _) (fun _ _ h => h), W.heap.size, rfl, (hI n).alloc _ hi, Blk.new W _ _⟩
  · rintro l n pre x a' W hn ⟨b, rfl, hi, hb⟩ hlt
    exact hbody l n pre x b W hn hi hb hlt

/-- A function's end, its marks among its deferred calls; no panic. -/
def postN (n : Nat) (P : Program) (fn : Func) (R : Ending → World → Prop) : Exit → Act → World → Prop
  | .normal, a, w => LeavesInM Fence.wide n P fn a.tmps R a.defers .returning w
  | .ret, a, w => LeavesInM Fence.wide n P fn a.tmps R a.defers .returning w
  | _, _, _ => False
theorem callsIn_marks {n : Nat} {f : FuncId} {fn : Func} {c : Code} {args : Array Value} {w : World} {R : Ending → World → Prop} (hf : P.funcs[f]? = some fn) (hb : fn.body = some c)
    (h : c.wp P (postN n P fn R) { tmps := args ++ Array.replicate (fn.ntmps - args.size) undef, defers := [] } w) : CallsIn Fence.wide n P f args w R :=
  callsIn_of_wp_marks hf hb trivial (wpIn_mono (wpIn_wide.2 h) (fun e a w h => by cases e <;> first | exact h | exact h.elim)) rfl
theorem calls_of_marks {f : FuncId} {fn : Func} {c : Code} {args : Array Value} {w : World} {R : Ending → World → Prop} (hf : P.funcs[f]? = some fn) (hb : fn.body = some c)
    (h : c.wp P (postN 9 P fn R) { tmps := args ++ Array.replicate (fn.ntmps - args.size) undef, defers := [] } w) : Calls P f args w R := callsIn_wide.1 (callsIn_marks hf hb h)
/-- What is no memory of cells turns: memory of cells lies as it lay. -/
theorem upd_turn {W W' : World} {row : Option Nat} (hg : W.grownBy W' row) (hr : ∀ r, row = some r → ∃ o : Obj, W.heap[r]? = some o ∧ o.isCells = false) : Upd W W' (fun b => ∃ o : Obj, W.heap[b]? = some o ∧ o.isCells = false) :=
  ⟨hg.os, hg.tape, hg.output, hg.size, fun k hk hn => hg.block k hk (fun e => hn (hr k e.symm))⟩
theorem blk_cells {W : World} {b : Nat} {vs : List Value} {t : TypeId} (h : Blk W b vs t) : ¬ ∃ o : Obj, W.heap[b]? = some o ∧ o.isCells = false := by
  rintro ⟨o, ho, hc⟩
  unfold Blk at h
  rw [h] at ho
  cases ho
  cases hc
/-- The one mark is come to. -/
theorem leave_mark {n : Nat} {fn : Func} {R : Ending → World → Prop} {tmps : Array Value} {D : Nat} {W : World} (hK : W.heap[D]? = some (.deferred (some [])))
    (h : LeavesIn Fence.wide n P fn tmps R [] .returning (W.putObj D (.deferred none))) : LeavesInM Fence.wide n P fn tmps R [{ target := .collected D, args := #[] }] .returning W :=
  ⟨by simp, .inl ⟨_, _, rfl, run_takeDeferred hK, h⟩⟩

end
end Go.Proofs.YtemmkobgpciflaaDoor
