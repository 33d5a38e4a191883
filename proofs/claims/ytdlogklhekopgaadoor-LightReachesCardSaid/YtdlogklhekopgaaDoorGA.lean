/- Contracts of the program's functions: a part of the proof. -/
import Derived.RangeFuncNested
import Derived.RangeFuncBound
import Derived.RangeFuncCalls
import Derived.RangeFuncLeaves
import Derived.Shelf.Abstract
import Derived.Shelf.RegionOpen
import Derived.WalkKit
import Derived.OwnWalkIn
import Derived.TacticsInMore
import Derived.LoopNIn
import Derived.LoopIn
import Derived.Lib.Hide
import Derived.Shelf.Spec.TrailingZeros
import Derived.Test.YtdlogklhekopgaaDoorProg
import Derived.Test.YtdlogklhekopgaaDoorPB
set_option linter.unusedVariables false
set_option linter.unusedSimpArgs false

namespace Go.Proofs.YtdlogklhekopgaaDoor
open Go.RowKit Go.Shelf Go.Proofs
attribute [local go_sem] Oper.semAt_some

/-- the library's table of 64 bytes lies in its variable -/
def Tab (w : World) : Prop := TabAt 1 Lib.deBruijn64tab w
theorem Tab.below {B : Nat} {w w' : World} (h : Below B w w') (hB : 1 < B) (ht : Tab w) : Tab w' := fun j hj => (h.cell (p := ⟨1, j, none⟩) hB).trans (ht j hj)

set_option maxHeartbeats 1000000 in
theorem tz64_core (x k idx : Nat) (w : World) (hx0 : ((x : Int) == 0) = false)
    (key : IntKind.u64.wrap (bits BinOp.and IntKind.u64 (x : Int) (IntKind.u64.wrap (-(x : Int))) * 285870213051353865) / 288230376151711744 = (idx : Int))
    (hi : idx < 64) (hk : k < 64) (hcell : w.cell? ⟨1, idx, none⟩ = some (.int .u8 k)) :
    Calls Tryd.prog 111 #[.int .u64 x] w fun e w' => e = .returned (.int .i64 k) ∧ w = w' := by
  go_enter Tryd.func111, Tryd.ntmps111
  go_wp2_with (simp only [key])
  go_ret
  exact ⟨rfl, rfl⟩

/-- math/bits.TrailingZeros, every x but 0 -/
theorem tz_any (x : Nat) (hx0 : x ≠ 0) (hx : x < 18446744073709551616) (w : World) (hT : Tab w) :
    Calls Tryd.prog 89 #[.int .u64 x] w fun e w' => e = .returned (.int .i64 (Lib.ctz 64 x)) ∧ w = w' := by
  obtain ⟨hlow, hk⟩ := Lib.lowest_bit 64 x hx0 hx
  obtain ⟨hi, htab⟩ := Lib.deBruijn64_at _ hk
  have hcell := hT _ (show _ < Lib.deBruijn64tab.length from hi)
  rw [htab] at hcell
  have h111 := tz64_core x (Lib.ctz 64 x) _ w (by simpa using hx0) (tz64_key x _ hx hx0 hlow) hi hk hcell
  generalize Lib.ctz 64 x = k at h111 hk
  have H := Lib.hid h111
  clear h111 hcell htab hi hlow hT
  go_enter Tryd.func89, Tryd.ntmps89
  go_wp2_with (go_at_call 111; refine H.out.mono ?_; rintro e w' ⟨rfl, rfl⟩)
  go_ret
  exact ⟨rfl, rfl⟩

/-- a step of 's &= s - 1' -/
theorem clear_bits (x : Nat) (hx0 : x ≠ 0) (hx : x < 18446744073709551616) : bits BinOp.and IntKind.u64 (x : Int) (IntKind.u64.wrap ((x : Int) - 1)) = ((x &&& (x - 1) : Nat) : Int) := by
  have e1 : IntKind.u64.wrap ((x : Int) - 1) = ((x - 1 : Nat) : Int) := by rw [IntKind.wrap_u64]; omega
  rw [e1, bits_and_u64_nat x _ hx (by omega)]

set_option maxRecDepth 100000 in
set_option maxHeartbeats 2000000 in
/-- members' function: the lamps of the set that lies in the variable, rising, for every loop body that keeps what lay below n₀ -/
theorem members1_in (n : Nat) (hn : 1 ≤ n) (l Bs n₀ : Nat) (s : Nat) (hs : s < 9223372036854775808) (hn₀ : 1 < n₀) (J Jx : List Nat → World → Prop)
    (hY : ∀ pre x W, J pre W → pre.length < 64 → x ∈ Lt.bitsOf s → YieldAt Fence.wide (n - 1) Tryd.prog l #[.int .i64 (x : Nat)] W fun e W' =>
      (e = .returned (.bool true) ∧ J (pre ++ [x]) W' ∧ Below n₀ W W') ∨ (e = .returned (.bool false) ∧ Jx (pre ++ [x]) W'))
    (W : World) (hBs : W.cell? ⟨Bs, 0, none⟩ = some (.int .i64 s)) (hT : Tab W) (h0 : J [] W) :
    CallsIn Fence.wide n Tryd.prog 88 #[.func (.yield l) #[] #[], .pointer (some ⟨Bs, 0, none⟩)] W fun e W' => (∃ v, e = .returned v) ∧
      ((∃ ys, ys = Lt.bitsOf s ∧ J ys W') ∨ (∃ pre, pre <+: Lt.bitsOf s ∧ Jx pre W')) := by
  have hwrap : IntKind.u64.wrap (s : Int) = (s : Int) := by rw [IntKind.wrap_u64]; omega
  refine callsIn_of_wp Tryd.func88 rfl trivial ?_ rfl
  simp only [Tryd.ntmps88, List.size_toArray, List.length_cons, List.length_nil, Nat.reduceAdd, Nat.reduceSub, Array.replicate_succ, Array.replicate_zero, List.push_toArray, List.append_toArray, List.nil_append, List.cons_append]
  gi_wp2
  clear hwrap
  gi_loopw [3] (fun p wr => ∃ (pre : List Nat) (x : Nat), p = .int .u64 x ∧ x ≤ s ∧ Hid (Lt.bitsOf s = pre ++ Lt.bitsOf x) ∧ J pre wr ∧ Below n₀ W wr)
    (fun p wr => (intOf p).toNat)
  case atStart => exact ⟨[], s, rfl, Nat.le_refl _, Lib.hid (by simp), h0, Below.refl _ _⟩
  case round =>
    obtain ⟨pre, x, rfl, hxs, hx, hJs, hB⟩ := hrel
    by_cases hx0 : x = 0
    · subst hx0
      gi_wp2
      go_end0
      refine ⟨⟨_, rfl⟩, .inl ⟨pre, ?_, hJs⟩⟩
      rw [hx.out, Lt.bitsOf_zero, List.append_nil]
    · have hne : ((x : Int) != 0) = true := by simpa using hx0
      have hst := Lt.bitsOf_step hx0 (Nat.lt_of_le_of_lt hxs (Nat.lt_trans hs (by decide)))
      have hlen : pre.length < 64 := by
        have h1 : (Lt.bitsOf s).length ≤ 64 := by unfold Lt.bitsOf; exact Nat.le_trans (List.length_filter_le _ _) (by simp)
        rw [hx.out, hst] at h1; simp at h1; omega
      obtain ⟨fn, tmps, assign, body, hy, hR⟩ := hY pre (Lib.ctz 64 x) wr hJs hlen (by rw [hx.out, hst]; simp)
      have htz := tz_any x hx0 (by omega) wr (hT.below hB hn₀)
      have hcl := clear_bits x hx0 (by omega)
      have hx' := Lib.hid hx0
      have hst' := Lib.hid hst
      have hcl' := Lib.hid hcl
      clear hx0 hst hcl
      generalize Lib.ctz 64 x = k at *
      gi_wp2_with (refine ⟨trivial, ?_⟩; gi_at_call 89; refine (callsIn_wide.2 htz).mono ?_; rintro e w' ⟨rfl, rfl⟩)
      refine hR.mono ?_
      rintro e W3 (⟨rfl, hJ3, hk3⟩ | ⟨rfl, hJx3⟩)
      · have hcl := hcl'.out
        gi_wp2
        go_roundw
        case rel => exact ⟨pre ++ [k], x &&& (x - 1), rfl, Nat.le_trans Nat.and_le_left hxs, Lib.hid (by rw [hx.out, hst'.out]; simp), hJ3, hB.trans hk3⟩
        case measure => have := Lt.clear_lt hx'.out (by omega : x < 2 ^ 64); simp [intOf]; omega
      · gi_wp2
        refine bodyPost_ret (results_none rfl _ _ _) rfl ?_
        exact ⟨⟨_, rfl⟩, .inr ⟨pre ++ [k], ⟨Lt.bitsOf (x &&& (x - 1)), by rw [hx.out, hst'.out]; simp⟩, hJx3⟩⟩

set_option maxHeartbeats 1000000 in
/-- members(s): the set is boxed; the function value has captured the box -/
theorem members_any (s : Nat) (w : World) :
    Calls Tryd.prog 75 #[.int .i64 s] w fun e w' => e = .returned (.func (.func 88) #[] #[.pointer (some ⟨w.heap.size, 0, none⟩)]) ∧ w' = w.alloc (.cells #[.int .i64 s] 3) := by
  go_enter Tryd.func75, Tryd.ntmps75
  go_wp2
  go_ret
  exact ⟨rfl, rfl⟩

/-- members' value: just the lamps of s, rising, each of which meets p -/
theorem members_stops (p : Nat → Prop) (n : Nat) (hn : 1 ≤ n) (Bs n₀ : Nat) (s : Nat) (hs : s < 9223372036854775808) (hn₀ : 1 < n₀) (hp : ∀ x ∈ Lt.bitsOf s, p x)
    (w : World) (hBs : Bs < w.heap.size) (hw : 1 < w.heap.size) (hc : w.cell? ⟨Bs, 0, none⟩ = some (.int .i64 s)) (hT : Tab w) :
    SeqStopsK Fence.wide n Tryd.prog 88 #[.pointer (some ⟨Bs, 0, none⟩)] (fun x : Subtype p => #[Value.int .i64 (x.1 : Nat)]) (Below n₀) (fun ys => ys.map (·.1) = Lt.bitsOf s) (fun pre => pre.map (·.1) <+: Lt.bitsOf s) 64 w := by
  intro l J Jx W hW _ _ hY h0
  refine (members1_in n hn l Bs n₀ s hs hn₀ (fun ns W => ∃ ys : List (Subtype p), ys.map (·.1) = ns ∧ J ys W) (fun ns W => ∃ ys : List (Subtype p), ys.map (·.1) = ns ∧ Jx ys W) ?_ W
    ((hW.cell (p := ⟨Bs, 0, none⟩) hBs).trans hc) (hT.below hW hw) ⟨[], rfl, h0⟩).mono ?_
  · rintro _ x W1 ⟨ys, rfl, hJ⟩ hlen hx
    obtain ⟨fn, tmps, assign, body, hy, hR⟩ := hY ys ⟨x, hp x hx⟩ W1 hJ (by simpa using hlen)
    refine ⟨fn, tmps, assign, body, hy, hR.mono ?_⟩
    rintro e W' (⟨he, hj, hk⟩ | ⟨he, hj⟩)
    · exact .inl ⟨he, ⟨_, by simp, hj⟩, hk⟩
    · exact .inr ⟨he, ⟨_, by simp, hj⟩⟩
  · rintro e W' ⟨hv, ⟨_, hys, ys, rfl, hj⟩ | ⟨_, hpre, ys, rfl, hj⟩⟩
    · exact ⟨hv, .inl ⟨ys, hys, hj⟩⟩
    · exact ⟨hv, .inr ⟨ys, hpre, hj⟩⟩

end Go.Proofs.YtdlogklhekopgaaDoor
