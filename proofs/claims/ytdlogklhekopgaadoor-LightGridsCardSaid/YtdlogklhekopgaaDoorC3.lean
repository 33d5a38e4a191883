/- Contracts of the program's functions: part C3 of the proof. -/
import Derived.Test.YtdlogklhekopgaaDoorC1
import Derived.Test.YtdlogklhekopgaaDoorP9
set_option linter.unusedVariables false
set_option linter.unusedSimpArgs false
namespace Go.Proofs.YtdlogklhekopgaaDoor
open Go.RowKit Go.Shelf Go.Proofs

set_option maxHeartbeats 1000000 in
theorem ones64_any (x : Nat) (hx : x < 65536) (w : World) :
    Calls Tryd.prog 79 #[.int .u64 x] w fun e w' => e = .returned (.int .i64 (Lt.pop x : Nat)) ∧ w = w' := by
  obtain ⟨a1, a2, a3, a4, a5, a6, b1, b2, b3, b4, b5, b6, e1, e2, e3, e4, e5, e6, e7⟩ := Lt.swar_bounds hx
  have f1 : bits BinOp.and IntKind.u64 ((x : Int) / 2) 6148914691236517205 = ((x / 2 &&& 6148914691236517205 : Nat) : Int) := Lt.and_u64 (x / 2) 6148914691236517205 (by omega) (by omega)
  have f2 : bits BinOp.and IntKind.u64 (x : Int) 6148914691236517205 = ((x &&& 6148914691236517205 : Nat) : Int) := Lt.and_u64 x 6148914691236517205 (by omega) (by omega)
  have f3 : bits BinOp.and IntKind.u64 ((a1 : Int) / 4) 3689348814741910323 = ((a1 / 4 &&& 3689348814741910323 : Nat) : Int) := Lt.and_u64 (a1 / 4) 3689348814741910323 (by omega) (by omega)
  have f4 : bits BinOp.and IntKind.u64 (a1 : Int) 3689348814741910323 = ((a1 &&& 3689348814741910323 : Nat) : Int) := Lt.and_u64 a1 3689348814741910323 (by omega) (by omega)
  have f5 : bits BinOp.and IntKind.u64 ((a2 : Int) / 16 + (a2 : Int)) 1085102592571150095 = (a3 : Int) := by
    rw [← e3]; exact Lt.and_u64 (a2 / 16 + a2) 1085102592571150095 (by omega) (by omega)
  have f7 : bits BinOp.and IntKind.i64 (a6 : Int) 127 = (Lt.pop x : Int) := by rw [← e7]; exact Lt.and_i64 a6 127 (by omega) (by omega)
  have g1 : ((x / 2 &&& 6148914691236517205 : Nat) : Int) + ((x &&& 6148914691236517205 : Nat) : Int) = (a1 : Int) := by omega
  have g2 : ((a1 / 4 &&& 3689348814741910323 : Nat) : Int) + ((a1 &&& 3689348814741910323 : Nat) : Int) = (a2 : Int) := by omega
  have g4 : (a3 : Int) + (a3 : Int) / 256 = (a4 : Int) := by omega
  have g5 : (a4 : Int) + (a4 : Int) / 65536 = (a5 : Int) := by omega
  have g6 : (a5 : Int) + (a5 : Int) / 4294967296 = (a6 : Int) := by omega
  have W : ∀ a : Nat, a < 9223372036854775808 → IntKind.u64.wrap (a : Int) = (a : Int) := fun a h => Lt.wrap_u64_nat a (by omega)
  have W' : ∀ a : Nat, a < 9223372036854775808 → IntKind.i64.wrap (a : Int) = (a : Int) := fun a h => Lt.wrap_i64_nat a h
  have w1 := W a1 (by omega)
  have w2 := W a2 (by omega)
  have w4 := W a4 (by omega)
  have w5 := W a5 (by omega)
  have w6 := W a6 (by omega)
  have w7 := W' a6 (by omega)
  have w3 : IntKind.u64.wrap ((a2 : Int) / 16 + (a2 : Int)) = (a2 : Int) / 16 + (a2 : Int) := Lt.wrap_u64_nat (a2 / 16 + a2) (by omega)
  have hf : Hid (∀ z : Int, z = bits BinOp.and IntKind.i64 (a6 : Int) 127 → z = (Lt.pop x : Int)) := Lib.hid fun z h => h.trans f7
  clear W W' e1 e2 e3 e4 e5 e6 e7 b1 b2 b3 b4 b5 b6
  generalize Lt.pop x = px at *
  generalize (x / 2 &&& 6148914691236517205 : Nat) = c1 at *
  generalize (x &&& 6148914691236517205 : Nat) = c2 at *
  generalize (a1 / 4 &&& 3689348814741910323 : Nat) = c3 at *
  generalize (a1 &&& 3689348814741910323 : Nat) = c4 at *
  go_enter Tryd.func79, Tryd.ntmps79
  go_wp2
  go_ret
  exact ⟨rfl, rfl⟩

/-- math/bits.OnesCount -/
theorem ones_any (x : Nat) (hx : x < 65536) (w : World) :
    Calls Tryd.prog 60 #[.int .u64 x] w fun e w' => e = .returned (.int .i64 (Lt.pop x : Nat)) ∧ w = w' := by
  have h := ones64_any x hx w
  generalize Lt.pop x = px at *
  have H := Lib.hid h
  clear h
  go_enter Tryd.func60, Tryd.ntmps60
  go_wp2_with (go_at_call 79; refine H.out.mono ?_; rintro e w' ⟨rfl, rfl⟩)
  go_ret
  exact ⟨rfl, rfl⟩

def oddB (s : Nat) : Bool := Lt.pop s % 2 == 1

theorem oddB_eq (s : Nat) : oddB s = (((Lt.pop s : Nat) : Int) % 2 == 1) := by
  unfold oddB
  rw [Bool.eq_iff_iff]; simp; omega

/-- odd -/
theorem odd_any (s : Nat) (hs : s < 65536) (w : World) :
    Calls Tryd.prog 59 #[.int .i64 s] w fun e w' => e = .returned (.bool (oddB s)) ∧ w = w' := by
  have h := ones_any s hs w
  have w1 : IntKind.u64.wrap (s : Int) = (s : Int) := Lt.wrap_u64_nat s (by omega)
  rw [oddB_eq]
  generalize Lt.pop s = px at *
  have H := Lib.hid h
  clear h
  go_enter Tryd.func59, Tryd.ntmps59
  go_wp2_with (go_at_call 60; refine H.out.mono ?_; rintro e w' ⟨rfl, rfl⟩)
  go_ret
  exact ⟨rfl, rfl⟩

theorem less_eq (a b : Nat) : Lt.less a b = (decide (((Lt.pop a : Nat) : Int) < ((Lt.pop b : Nat) : Int)) || ((((Lt.pop a : Nat) : Int) == ((Lt.pop b : Nat) : Int)) && decide ((a : Int) < (b : Int)))) := by
  unfold Lt.less
  rw [Bool.eq_iff_iff]; simp; omega

set_option maxHeartbeats 1000000 in
/-- less -/
theorem less_any (a b : Nat) (ha : a < 65536) (hb : b < 65536) (w : World) :
    Calls Tryd.prog 77 #[.int .i64 a, .int .i64 b] w fun e w' => e = .returned (.bool (Lt.less a b)) ∧ w = w' := by
  have h := ones_any a ha w
  have k := ones_any b hb w
  have w1 : IntKind.u64.wrap (a : Int) = (a : Int) := Lt.wrap_u64_nat a (by omega)
  have w2 : IntKind.u64.wrap (b : Int) = (b : Int) := Lt.wrap_u64_nat b (by omega)
  rw [less_eq]
  generalize Lt.pop a = pa at *
  generalize Lt.pop b = pb at *
  have H := Lib.hid h
  have K := Lib.hid k
  clear h k
  go_enter Tryd.func77, Tryd.ntmps77
  go_wp2_with fail
  refine H.out.mono ?_
  rintro e w' ⟨rfl, rfl⟩
  go_wp2_with fail
  refine K.out.mono ?_
  rintro e w' ⟨rfl, rfl⟩
  go_wp2_with fail
  all_goals
    go_ret
    refine ⟨?_, rfl⟩
    show Ending.returned (Value.bool _) = Ending.returned (Value.bool _)
    congr 2
    rw [Bool.eq_iff_iff]
    simp
    omega

end Go.Proofs.YtdlogklhekopgaaDoor
