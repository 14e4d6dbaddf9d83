/- Lists in an order, of numbers of a table: All, ranged over. -/
import Derived.Test.YtnhgeoccknhiiaaOrdN2
import Derived.Test.YtnhgeoccknhiiaaRound
namespace Go.Proofs.Ytnhgeoccknhiiaa
open Go.RowKit Go.Shelf
namespace OrdN
variable {N tv : Nat}

theorem all_any (p : Nat) (w : World) : Calls Try.prog 18 #[.pointer (some ⟨p, 0, none⟩)] w fun e w' => e = .returned (.func (.func 56) #[] #[.pointer (some ⟨w.heap.size, 0, none⟩)]) ∧ w' = w.alloc (.cells #[.pointer (some ⟨p, 0, none⟩)] 24) := by
  go_enter Try.func18, Try.ntmps18
  go_wp2
  go_ret
  exact ⟨rfl, rfl⟩

def enc (x : Nat × Fin N) : Array Value := #[.int .i64 (x.1 : Int), .int .i64 (x.2.val : Int)]

section
attribute [local go_sem] Oper.semAt_some
set_option maxRecDepth 100000 in
set_option maxHeartbeats 2000000 in
theorem all1_in (l B p : Nat) (L : List (Fin N)) (a : Option Addr) (c : Nat) (hl : L.length ≤ 8192) (Kp : World → World → Prop) (hKp : ∀ W W', Kp W W' → Rd W (.slice a L.length c) L.length 1 (cells L) → Rd W' (.slice a L.length c) L.length 1 (cells L))
    (J Jx : List (Nat × Fin N) → World → Prop)
    (hY : ∀ pre x W, J pre W → pre.length < L.length → YieldAt Fence.wide (8 - 1) Try.prog l (enc x) W fun e W' => (e = .returned (.bool true) ∧ J (pre ++ [x]) W' ∧ Kp W W') ∨ (e = .returned (.bool false) ∧ Jx (pre ++ [x]) W'))
    (W : World) (hB : W.cell? ⟨B, 0, none⟩ = some (.pointer (some ⟨p, 0, none⟩))) (h1 : W.cell? ⟨p, 1, none⟩ = some (.slice a L.length c)) (hR : Rd W (.slice a L.length c) L.length 1 (cells L)) (h0 : J [] W) :
    CallsIn Fence.wide 8 Try.prog 56 #[.func (.yield l) #[] #[], .pointer (some ⟨B, 0, none⟩)] W fun e W' => (∃ v, e = .returned v) ∧ ((∃ ys, ys = en L ∧ J ys W') ∨ (∃ pre, pre <+: en L ∧ Jx pre W')) := by
  refine callsIn_of_wp Try.func56 rfl trivial ?_ rfl
  have HR := Lib.hid hR
  clear hR
  simp only [Try.ntmps56, List.size_toArray, List.length_cons, List.length_nil, Nat.reduceAdd, Nat.reduceSub, Array.replicate_succ, Array.replicate_zero, List.push_toArray, List.append_toArray, List.nil_append, List.cons_append]
  gi_wp2
  gi_loopw [10] (fun i wr => ∃ k : Nat, k ≤ L.length ∧ i = .int .i64 k ∧ J ((en L).take k) wr ∧ Hid (Rd wr (.slice a L.length c) L.length 1 (cells L)))
    (fun i _ => L.length - (intOf i).toNat)
  case atStart => exact ⟨0, Nat.zero_le _, rfl, h0, HR⟩
  case round =>
    obtain ⟨k, hk, rfl, hJs, hR⟩ := hrel
    by_cases hlt : k < L.length
    · obtain ⟨y, hy⟩ : ∃ y, L[k]? = some y := ⟨L[k], List.getElem?_eq_getElem hlt⟩
      obtain ⟨g, off, c', e1, _, hcell⟩ := hR.out.at_ (j := k) (u := num y) (by rw [cells_get, hy]; rfl)
      cases e1
      have HY := Lib.hid hy
      clear hy
      obtain ⟨fn, tmps, assign, body, hyy, hR2⟩ := hY _ (k, y) wr hJs (by rw [List.length_take, en_len]; omega)
      dsimp only [enc] at hyy
      gi_wp2
      refine hR2.mono ?_
      rintro e W3 (⟨rfl, hJ3, hk3⟩ | ⟨rfl, hJx3⟩)
      · have HR3 := Lib.hid (hKp _ _ hk3 hR.out)
        gi_wp2
        go_roundw
        case rel => exact ⟨k + 1, by omega, by simp, by rw [← en_take HY.out]; exact hJ3, HR3⟩
        case measure => simp [intOf]; omega
      · gi_wp2
        refine bodyPost_ret (results_none rfl _ _ _) rfl ?_
        exact ⟨⟨_, rfl⟩, .inr ⟨_, by rw [en_take HY.out]; exact List.take_prefix _ _, hJx3⟩⟩
    · obtain rfl : k = L.length := by omega
      gi_wp2
      go_end0
      exact ⟨⟨_, rfl⟩, .inl ⟨_, rfl, by rw [List.take_of_length_le (by rw [en_len]; exact Nat.le_refl _)] at hJs; exact hJs⟩⟩
end

/-- All hands back an iterator; Kp: what a round keeps. -/
theorem all_stops (B p : Nat) (L : List (Fin N)) (hl : L.length ≤ 8192) (w : World) (hB : w.cell? ⟨B, 0, none⟩ = some (.pointer (some ⟨p, 0, none⟩))) (hO : OrdIs tv w p L)
    (Kp : World → World → Prop) (hKp : ∀ W W' v, w.cell? ⟨p, 1, none⟩ = some v → Kp W W' → Rd W v L.length 1 (cells L) → Rd W' v L.length 1 (cells L)) :
    SeqStopsK Fence.wide 8 Try.prog 56 #[.pointer (some ⟨B, 0, none⟩)] enc Kp (fun ys => ys = en L) (fun pre => pre <+: en L) L.length w := fun l J Jx W hW _ _ hY h0 => by
  have hB' := (hW.cell (p := ⟨B, 0, none⟩) (World.block_lt_of_cell? w _ hB)).trans hB
  have hO' := hO.below hW
  obtain ⟨v, h1, h2⟩ := hO
  have c1 : w.cell? ⟨p, 1, none⟩ = some v := h1.cell 1
  obtain ⟨v', h1', h2'⟩ := hO'
  have c2 : W.cell? ⟨p, 1, none⟩ = some v' := h1'.cell 1
  have e : v' = v := by
    have := (hW.cell (p := ⟨p, 1, none⟩) h1.lt).trans c1
    rw [c2] at this
    exact Option.some.inj this
  subst e
  have hR := Rd.ofOwn h2'
  obtain ⟨a, c, rfl, hc⟩ := hR.form
  exact all1_in l B p L a c hl Kp (fun W W' hk => hKp W W' _ c1 hk) J Jx hY W hB' c2 hR h0

end OrdN
end Go.Proofs.Ytnhgeoccknhiiaa
