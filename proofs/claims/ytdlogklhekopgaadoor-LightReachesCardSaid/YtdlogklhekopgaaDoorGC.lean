/- Contracts of the program's functions: a part of the proof. -/
import Derived.Test.YtdlogklhekopgaaDoorGA
import Derived.Test.YtdlogklhekopgaaDoorPB
set_option linter.unusedVariables false
set_option linter.unusedSimpArgs false

namespace Go.Proofs.YtdlogklhekopgaaDoor
open Go.RowKit Go.Shelf Go.Proofs

set_option maxHeartbeats 1000000 in
theorem ones64_any (x : Nat) (hx : x < 65536) (w : World) :
    Calls Tryd.prog 79 #[.int .u64 x] w fun e w' => e = .returned (.int .i64 (Lt.pop x : Nat)) ∧ w = w' := by
  obtain ⟨a1, a2, a3, a4, a5, a6, b1, b2, b3, b4, b5, b6, e1, e2, e3, e4, e5, e6, e7⟩ := Lt.swar_bounds hx
  have f1 : bits BinOp.and IntKind.u64 ((x : Int) / 2) 6148914691236517205 = ((x / 2 &&& 6148914691236517205 : Nat) : Int) := Lt.and_u64 (x / 2) 6148914691236517205 (by omega) (by omega)
  have f2 : bits BinOp.and IntKind.u64 (x : Int) 6148914691236517205 = ((x &&& 6148914691236517205 : Nat) : Int) := Lt.and_u64 x 6148914691236517205 (by omega) (by omega)
  have f3 : bits BinOp.and IntKind.u64 ((a1 : Int) / 4) 3689348814741910323 = ((a1 / 4 &&& 3689348814741910323 : Nat) : Int) := Lt.and_u64 (a1 / 4) 3689348814741910323 (by omega) (by omega)
  have f4 : bits BinOp.and IntKind.u64 (a1 : Int) 3689348814741910323 = ((a1 &&& 3689348814741910323 : Nat) : Int) := Lt.and_u64 a1 3689348814741910323 (by omega) (by omega)
  have f5 : bits BinOp.and IntKind.u64 ((a2 : Int) / 16 + (a2 : Int)) 1085102592571150095 = (a3 : Int) := by
    rw [← e3]; exact Lt.and_u64 (a2 / 16 + a2) 1085102592571150095 (by omega) (by omega)
  have f7 : bits BinOp.and IntKind.i64 (a6 : Int) 127 = (Lt.pop x : Int) := by rw [← e7]; exact Lt.and_i64 a6 127 (by omega) (by omega)
  have g1 : ((x / 2 &&& 6148914691236517205 : Nat) : Int) + ((x &&& 6148914691236517205 : Nat) : Int) = (a1 : Int) := by omega
  have g2 : ((a1 / 4 &&& 3689348814741910323 : Nat) : Int) + ((a1 &&& 3689348814741910323 : Nat) : Int) = (a2 : Int) := by omega
  have g4 : (a3 : Int) + (a3 : Int) / 256 = (a4 : Int) := by omega
  have g5 : (a4 : Int) + (a4 : Int) / 65536 = (a5 : Int) := by omega
  have g6 : (a5 : Int) + (a5 : Int) / 4294967296 = (a6 : Int) := by omega
  have W : ∀ a : Nat, a < 9223372036854775808 → IntKind.u64.wrap (a : Int) = (a : Int) := fun a h => Lt.wrap_u64_nat a (by omega)
  have W' : ∀ a : Nat, a < 9223372036854775808 → IntKind.i64.wrap (a : Int) = (a : Int) := fun a h => Lt.wrap_i64_nat a h
  have w1 := W a1 (by omega)
  have w2 := W a2 (by omega)
  have w4 := W a4 (by omega)
  have w5 := W a5 (by omega)
  have w6 := W a6 (by omega)
  have w7 := W' a6 (by omega)
  have w3 : IntKind.u64.wrap ((a2 : Int) / 16 + (a2 : Int)) = (a2 : Int) / 16 + (a2 : Int) := Lt.wrap_u64_nat (a2 / 16 + a2) (by omega)
  have hf : Hid (∀ z : Int, z = bits BinOp.and IntKind.i64 (a6 : Int) 127 → z = (Lt.pop x : Int)) := Lib.hid fun z h => h.trans f7
  clear W W' e1 e2 e3 e4 e5 e6 e7 b1 b2 b3 b4 b5 b6
  generalize Lt.pop x = px at *
  generalize (x / 2 &&& 6148914691236517205 : Nat) = c1 at *
  generalize (x &&& 6148914691236517205 : Nat) = c2 at *
  generalize (a1 / 4 &&& 3689348814741910323 : Nat) = c3 at *
  generalize (a1 &&& 3689348814741910323 : Nat) = c4 at *
  go_enter Tryd.func79, Tryd.ntmps79
  go_wp2
  go_ret
  exact ⟨rfl, rfl⟩

/-- math/bits.OnesCount -/
theorem ones_any (x : Nat) (hx : x < 65536) (w : World) :
    Calls Tryd.prog 60 #[.int .u64 x] w fun e w' => e = .returned (.int .i64 (Lt.pop x : Nat)) ∧ w = w' := by
  have h := ones64_any x hx w
  generalize Lt.pop x = px at *
  have H := Lib.hid h
  clear h
  go_enter Tryd.func60, Tryd.ntmps60
  go_wp2_with (go_at_call 79; refine H.out.mono ?_; rintro e w' ⟨rfl, rfl⟩)
  go_ret
  exact ⟨rfl, rfl⟩

def oddB (s : Nat) : Bool := Lt.pop s % 2 == 1

theorem oddB_eq (s : Nat) : oddB s = (((Lt.pop s : Nat) : Int) % 2 == 1) := by
  unfold oddB
  rw [Bool.eq_iff_iff]; simp; omega

/-- odd -/
theorem odd_any (s : Nat) (hs : s < 65536) (w : World) :
    Calls Tryd.prog 59 #[.int .i64 s] w fun e w' => e = .returned (.bool (oddB s)) ∧ w = w' := by
  have h := ones_any s hs w
  have w1 : IntKind.u64.wrap (s : Int) = (s : Int) := Lt.wrap_u64_nat s (by omega)
  rw [oddB_eq]
  generalize Lt.pop s = px at *
  have H := Lib.hid h
  clear h
  go_enter Tryd.func59, Tryd.ntmps59
  go_wp2_with (go_at_call 60; refine H.out.mono ?_; rintro e w' ⟨rfl, rfl⟩)
  go_ret
  exact ⟨rfl, rfl⟩

theorem less_eq (a b : Nat) : Lt.less a b = (decide (((Lt.pop a : Nat) : Int) < ((Lt.pop b : Nat) : Int)) || ((((Lt.pop a : Nat) : Int) == ((Lt.pop b : Nat) : Int)) && decide ((a : Int) < (b : Int)))) := by
  unfold Lt.less
  rw [Bool.eq_iff_iff]; simp; omega

set_option maxHeartbeats 1000000 in
/-- less -/
theorem less_any (a b : Nat) (ha : a < 65536) (hb : b < 65536) (w : World) :
    Calls Tryd.prog 77 #[.int .i64 a, .int .i64 b] w fun e w' => e = .returned (.bool (Lt.less a b)) ∧ w = w' := by
  have h := ones_any a ha w
  have k := ones_any b hb w
  have w1 : IntKind.u64.wrap (a : Int) = (a : Int) := Lt.wrap_u64_nat a (by omega)
  have w2 : IntKind.u64.wrap (b : Int) = (b : Int) := Lt.wrap_u64_nat b (by omega)
  rw [less_eq]
  generalize Lt.pop a = pa at *
  generalize Lt.pop b = pb at *
  have H := Lib.hid h
  have K := Lib.hid k
  clear h k
  go_enter Tryd.func77, Tryd.ntmps77
  go_wp2_with fail
  refine H.out.mono ?_
  rintro e w' ⟨rfl, rfl⟩
  go_wp2_with fail
  refine K.out.mono ?_
  rintro e w' ⟨rfl, rfl⟩
  go_wp2_with fail
  all_goals
    go_ret
    refine ⟨?_, rfl⟩
    show Ending.returned (Value.bool _) = Ending.returned (Value.bool _)
    congr 2
    rw [Bool.eq_iff_iff]
    simp
    omega

end Go.Proofs.YtdlogklhekopgaaDoor

namespace Go.Proofs.YtdlogklhekopgaaDoor
open Go.RowKit Go.Shelf Go.Proofs

open Lt (cmpI cmp2)

theorem isNaN_any (a : Int) (w : World) : Calls Tryd.prog 91 #[.int .i64 a] w fun e w' => e = .returned (.bool false) ∧ w = w' := by
  go_enter Tryd.func91, Tryd.ntmps91
  go_wp2
  go_ret
  exact ⟨by simp, rfl⟩

theorem cmpI_any (a b : Int) (w : World) : Calls Tryd.prog 80 #[.int .i64 a, .int .i64 b] w fun e w' => e = .returned (.int .i64 (cmpI a b)) ∧ w = w' := by
  unfold cmpI
  by_cases h1 : a < b
  · rw [if_pos h1]
    go_enter Tryd.func80, Tryd.ntmps80
    go_wp2_with (go_at_call 91; refine (isNaN_any _ _).mono ?_; rintro e w' ⟨rfl, rfl⟩)
    go_ret
    exact ⟨rfl, rfl⟩
  · rw [if_neg h1]
    by_cases h2 : b < a
    · rw [if_pos h2]
      go_enter Tryd.func80, Tryd.ntmps80
      go_wp2_with (go_at_call 91; refine (isNaN_any _ _).mono ?_; rintro e w' ⟨rfl, rfl⟩)
      go_ret
      exact ⟨rfl, rfl⟩
    · rw [if_neg h2]
      go_enter Tryd.func80, Tryd.ntmps80
      go_wp2_with (go_at_call 91; refine (isNaN_any _ _).mono ?_; rintro e w' ⟨rfl, rfl⟩)
      go_ret
      exact ⟨rfl, rfl⟩

set_option maxHeartbeats 1000000 in
theorem cmp2_any (p q : Nat) (op oq : Nat) (a0 a1 b0 b1 : Int) (w : World) (h0 : w.cell? ⟨p, op, none⟩ = some (.int .i64 a0)) (h1 : w.cell? ⟨p, op + 1, none⟩ = some (.int .i64 a1))
    (k0 : w.cell? ⟨q, oq, none⟩ = some (.int .i64 b0)) (k1 : w.cell? ⟨q, oq + 1, none⟩ = some (.int .i64 b1)) :
    Calls Tryd.prog 63 #[.slice (some ⟨p, op, none⟩) 2 2, .slice (some ⟨q, oq, none⟩) 2 2] w fun e w' => e = .returned (.int .i64 (cmp2 a0 a1 b0 b1)) ∧ w = w' := by
  have c0 := Lib.hid (cmpI_any a0 b0 w)
  have c1 := Lib.hid (cmpI_any a1 b1 w)
  unfold cmp2
  generalize cmpI a0 b0 = x at *
  generalize cmpI a1 b1 = y at *
  by_cases hx : x = 0
  · subst hx
    rw [if_neg (by simp)]
    by_cases hy : y = 0
    · subst hy
      go_enter Tryd.func63, Tryd.ntmps63
      go_wp2
      refine wp_loop_rounds 3 ?_
      rw [rounds_succ]
      go_wp2_with fail
      refine c0.out.mono ?_
      rintro e w' ⟨rfl, rfl⟩
      go_wp2_with fail
      rw [rounds_succ]
      go_wp2_with fail
      refine c1.out.mono ?_
      rintro e w' ⟨rfl, rfl⟩
      go_wp2_with fail
      rw [rounds_succ]
      go_wp2_with fail
      go_ret
      exact ⟨rfl, rfl⟩
    · have hy0 : (y != 0) = true := by simpa using hy
      clear hy
      go_enter Tryd.func63, Tryd.ntmps63
      go_wp2
      refine wp_loop_rounds 3 ?_
      rw [rounds_succ]
      go_wp2_with fail
      refine c0.out.mono ?_
      rintro e w' ⟨rfl, rfl⟩
      go_wp2_with fail
      rw [rounds_succ]
      go_wp2_with fail
      refine c1.out.mono ?_
      rintro e w' ⟨rfl, rfl⟩
      go_wp2_with fail
      go_ret
      exact ⟨rfl, rfl⟩
  · have hx0 : (x != 0) = true := by simpa using hx
    rw [if_pos hx]
    clear hx
    go_enter Tryd.func63, Tryd.ntmps63
    go_wp2
    refine wp_loop_rounds 3 ?_
    rw [rounds_succ]
    go_wp2_with fail
    refine c0.out.mono ?_
    rintro e w' ⟨rfl, rfl⟩
    go_wp2_with fail
    go_ret
    exact ⟨rfl, rfl⟩

theorem wrap_pow (n : Nat) (hn : n ≤ 62) : wrap64 ((2 : Int) ^ n) = ((2 ^ n : Nat) : Int) := by
  have h : (2 : Nat) ^ n ≤ 2 ^ 62 := Nat.pow_le_pow_right (by decide) hn
  have e : ((2 : Int) ^ n) = ((2 ^ n : Nat) : Int) := by simp
  rw [e]
  generalize 2 ^ n = m at *
  unfold wrap64
  omega

/-- open's test of a set: it is not from 0 to m less 1 -/
def badSet (m : Nat) (s : Int) : Bool := decide (s < 0) || decide ((m : Int) ≤ s)

set_option maxHeartbeats 1000000 in
theorem openTest_any (n : Nat) (hn : n ≤ 16) (s : Int) (c : Addr) (w : World) (hc : w.cell? c = some (.int .i64 n)) :
    Calls Tryd.prog 65 #[.int .i64 s, .pointer (some c)] w fun e w' => e = .returned (.bool (badSet (2 ^ n) s)) ∧ w = w' := by
  have w1 : IntKind.u64.wrap (n : Int) = (n : Int) := Lt.wrap_u64_nat n (by omega)
  have w2 := wrap_pow n (by omega)
  unfold badSet
  generalize (2 : Nat) ^ n = m at *
  by_cases h : s < 0
  · go_enter Tryd.func65, Tryd.ntmps65
    go_wp2
    go_ret
    exact ⟨by simp [h], rfl⟩
  · go_enter Tryd.func65, Tryd.ntmps65
    go_wp2
    go_ret
    exact ⟨by simp; omega, rfl⟩

/-- a slice of ints as it lies in memory, read alone -/
def Reads (w : World) (v : Value) (xs : List Int) : Prop :=
  (v = .slice none 0 0 ∧ xs = []) ∨ ∃ b off cap, v = .slice (some ⟨b, off, none⟩) xs.length cap ∧ b < w.heap.size ∧ ∀ j, j < xs.length → w.cell? ⟨b, off + j, none⟩ = some (.int .i64 (xs[j]?.getD 0))
theorem Reads.below {w w' : World} (h : Below w.heap.size w w') {v : Value} {xs : List Int} : Reads w v xs → Reads w' v xs
  | .inl e => .inl e
  | .inr ⟨b, off, cap, e, hb, hc⟩ => .inr ⟨b, off, cap, e, Nat.lt_of_lt_of_le hb h.size, fun j hj => (h.cell (p := ⟨b, off + j, none⟩) hb).trans (hc j hj)⟩

set_option maxHeartbeats 1000000 in
theorem indexBad_in (p : Int → Bool) (v : Value) (xs : List Int) (c : Addr) (w : World) (hv : Reads w v xs) (hlen : xs.length ≤ 1000)
    (ht : Hid (∀ s, Calls Tryd.prog 65 #[.int .i64 s, .pointer (some c)] w fun e w' => e = .returned (.bool (p s)) ∧ w = w')) :
    Calls Tryd.prog 81 #[v, .func (.func 65) #[] #[.pointer (some c)]] w fun e w' => (∃ k : Int, e = .returned (.int .i64 k) ∧ (decide (0 ≤ k) = xs.any p)) ∧ w = w' := by
  rcases hv with ⟨rfl, rfl⟩ | ⟨b, off, cap, rfl, hb, hcs⟩
  · go_enter Tryd.func81, Tryd.ntmps81
    go_wp2
    refine wp_loop_rounds 1 ?_
    rw [rounds_succ]
    go_wp2
    go_ret
    exact ⟨⟨_, rfl, by simp⟩, rfl⟩
  · have HC := Lib.hid hcs
    clear hcs
    go_enter Tryd.func81, Tryd.ntmps81
    go_wp2
    go_loop [5, 8] (fun _ i => ∃ k : Nat, i = .int .i64 k ∧ k ≤ xs.length ∧ Hid (∀ j, j < k → p (xs[j]?.getD 0) = false)) (fun _ i => xs.length - (intOf i).toNat)
    case atStart => exact ⟨0, rfl, Nat.zero_le _, Lib.hid (fun j h => by omega)⟩
    case round =>
      obtain ⟨k, rfl, hk, hno⟩ := hrel
      by_cases hlt : k < xs.length
      · have hc0 := HC.out k hlt
        have h1 := Lib.hid (ht.out (xs[k]?.getD 0))
        have hpk : ∀ b, p (xs[k]?.getD 0) = b → Hid (p (xs[k]?.getD 0) = b) := fun b h => Lib.hid h
        cases hp : p (xs[k]?.getD 0) with
        | false =>
          have hp' := hpk _ hp
          rw [hp] at h1
          clear hp hpk
          have hno' : Hid (∀ j, j < k + 1 → p (xs[j]?.getD 0) = false) := Lib.hid fun j hj => by
            by_cases e : j = k
            · subst e; exact hp'.out
            · exact hno.out j (by omega)
          clear hno hp'
          generalize xs[k]?.getD 0 = x at *
          go_wp2_with (go_at_call 65; refine h1.out.mono ?_; rintro e w' ⟨rfl, rfl⟩)
          go_round
          case rel => exact ⟨k + 1, by go_num, by omega, hno'⟩
          case measure => simp [intOf]; omega
        | true =>
          have hp' := hpk _ hp
          rw [hp] at h1
          clear hp hpk
          have hany : xs.any p = true := List.any_eq_true.2 ⟨xs[k]?.getD 0, by simp [hlt], hp'.out⟩
          have hany' := Lib.hid hany
          clear hany hno hp'
          generalize xs[k]?.getD 0 = x at *
          go_wp2_with (go_at_call 65; refine h1.out.mono ?_; rintro e w' ⟨rfl, rfl⟩)
          go_ret
          exact ⟨⟨_, rfl, by rw [hany'.out]; simp⟩, rfl⟩
      · have hany : xs.any p = false := by
          rw [List.any_eq_false]; intro x hx
          obtain ⟨j, hj, rfl⟩ := List.getElem_of_mem hx
          have := hno.out j (by omega)
          simpa [hj] using this
        have hany' := Lib.hid hany
        clear hany hno
        go_wp2
        go_ret
        exact ⟨⟨_, rfl, by rw [hany'.out]; simp⟩, rfl⟩

set_option maxHeartbeats 1000000 in
theorem containsBad_any (n : Nat) (hn : n ≤ 16) (v : Value) (xs : List Int) (c : Addr) (w : World) (hc : w.cell? c = some (.int .i64 n)) (hv : Reads w v xs) (hlen : xs.length ≤ 1000) :
    Calls Tryd.prog 64 #[v, .func (.func 65) #[] #[.pointer (some c)]] w fun e w' => e = .returned (.bool (xs.any (badSet (2 ^ n)))) ∧ w = w' := by
  have h := Lib.hid (indexBad_in (badSet (2 ^ n)) v xs c w hv hlen (Lib.hid fun s => openTest_any n hn s c w hc))
  generalize xs.any (badSet (2 ^ n)) = r at *
  clear hv hc
  go_enter Tryd.func64, Tryd.ntmps64
  go_wp2_with fail
  refine h.out.mono ?_
  rintro e w' ⟨⟨k, rfl, hk⟩, rfl⟩
  have hk' := Lib.hid hk
  clear hk
  go_wp2_with fail
  go_ret
  exact ⟨by rw [← hk'.out]; rfl, rfl⟩

end Go.Proofs.YtdlogklhekopgaaDoor
