/- Contracts of the program's functions: part C12 of the proof. -/
import Derived.Test.YtdlogklhekopgaaDoorC11
import Derived.Laws.StructEq
set_option linter.unusedVariables false
set_option linter.unusedSimpArgs false
namespace Go.Proofs.YtdlogklhekopgaaDoor
open Go.RowKit Go.Shelf Go.Proofs

theorem basis_small {l : List Nat} (hl : ∀ r ∈ l, r < 65536) (h16 : l.length ≤ 16) : SmallP (Lt.basisOf l) ∧ (Lt.basisOf l).length ≤ 16 ∧ (Lt.quietOf l).length ≤ 16 := redTo_small hl h16 l.length (Nat.le_refl _)

theorem eqP (x y x' y' : Int) (w : World) : Sem.run Tryd.prog (binOp .eql 93 (.agg #[.int .i64 x, .int .i64 y]) (.agg #[.int .i64 x', .int .i64 y'])) w = .ok (.bool (x == x' && y == y')) w := by
  have u3 := Tryd.underlying3
  have a3 := Tryd.isAgg3
  have z3 := Tryd.sizeOf3
  have hS : Tryd.prog.underlying 93 = some (.struct (Tryd.prog.fieldsOf 93)) := by kernel_rfl
  have hp : Tryd.prog.stoodInHeld 93 = false := by kernel_rfl
  rw [run_eql_struct, show (10000 : Nat) = 9999 + 1 from rfl, run_equalIn_agg w 9999 93 _ _ hS hp]
  simp only [Program.fieldsOf, Tryd.underlying93]
  go_simp
  by_cases h1 : x = x' <;> by_cases h2 : y = y' <;> simp [h1, h2]

set_option maxRecDepth 100000 in
set_option maxHeartbeats 4000000 in
/-- (*lamps).solve -/
theorem solve_any (b : Nat) (l : List Nat) (t : Nat) (ht : t < 65536) (w : World) (hL : Lamps w b l) :
    Calls Tryd.prog 58 #[.pointer (some ⟨b, 0, none⟩), .int .i64 t] w fun e w' => e = .returned (.tuple #[.int .i64 ((Lt.solveOf l t).1 : Nat), .bool (decide ((Lt.solveOf l t).2 = 0))]) ∧ Below w.heap.size w w' := by
  obtain ⟨hB, hlB, -⟩ := basis_small hL.small hL.len
  have hred := Lib.hid (reduced_any b l w hL)
  unfold Lt.solveOf
  generalize Lt.basisOf l = B at *
  clear hL
  go_enter Tryd.func58, Tryd.ntmps58
  go_wp2_with fail
  refine hred.out.mono ?_
  rintro e w1 ⟨vB, vQ, rfl, ⟨hrB, -⟩, hb1⟩
  have hread := ReadsB.of_row hrB
  clear hrB hred
  obtain ⟨ad, cap, rfl, hcs⟩ := hread.general
  have HC := Lib.hid hcs
  clear hcs hread
  go_wp2_with fail
  go_loopw [20] (fun i wr => ∃ (k a c : Nat), i = .int .i64 k ∧ k ≤ B.length ∧ Hid (Lt.red1 (B.drop k) (a, c) = Lt.red1 B (0, t)) ∧ a < 65536 ∧ c < 65536 ∧ Hid (One wr w1.heap.size (.int .i64 a) (.int .i64 c)) ∧ Below w1.heap.size w1 wr)
    (fun i _ => B.length - (intOf i).toNat)
  case atStart =>
    refine ⟨0, 0, t, rfl, Nat.zero_le _, Lib.hid rfl, by decide, ht, Lib.hid ?_, (Below.refl _ _).alloc (Nat.le_refl _) _⟩
    exact World.alloc_heap_new w1 _
  case round =>
    obtain ⟨k, a, c, rfl, hk, hred, ha, hc, hone, hBl⟩ := hrel
    have hp0 : wr.cell? ⟨w1.heap.size, 0, none⟩ = some (.int .i64 a) := by have := hone.out; unfold One at this; simp [World.cell?, this]
    have hp1 : wr.cell? ⟨w1.heap.size, 1, none⟩ = some (.int .i64 c) := by have := hone.out; unfold One at this; simp [World.cell?, this]
    by_cases hlt : k < B.length
    · have hred' := hred
      obtain ⟨g, off, rfl, hgw, hc0, hc1⟩ := HC.out k hlt
      replace hc0 := (hBl.cell (p := ⟨g, off + k * 2, none⟩) hgw).trans hc0
      replace hc1 := (hBl.cell (p := ⟨g, off + k * 2 + 1, none⟩) hgw).trans hc1
      have hsm := hB k
      have hxor1 := Lt.xor_i64 c (B[k]?.getD (0, 0)).2 (by omega) (by omega)
      have hxor0 := Lt.xor_i64 a (B[k]?.getD (0, 0)).1 (by omega) (by omega)
      have hf0 : wr.frozen? ⟨w1.heap.size, 0, none⟩ = false := by have := hone.out; unfold One at this; simp [World.frozen?, this]
      have hf1 : wr.frozen? ⟨w1.heap.size, 1, none⟩ = false := by have := hone.out; unfold One at this; simp [World.frozen?, this]
      have hwr : w1.heap.size < wr.heap.size := lt_of_block hone.out
      have hst : Hid (Lt.red1 (B.drop k) (a, c) = Lt.red1 (B.drop (k + 1)) (if c ^^^ (B[k]?.getD (0, 0)).2 < c then (a ^^^ (B[k]?.getD (0, 0)).1, c ^^^ (B[k]?.getD (0, 0)).2) else (a, c))) := Lib.hid (by
        rw [List.drop_eq_getElem_cons hlt, Lt.red1]; simp [hlt])
      have hxl1 : c ^^^ (B[k]?.getD (0, 0)).2 < 65536 := Nat.xor_lt_two_pow (n := 16) hc hsm.2
      have hxl0 : a ^^^ (B[k]?.getD (0, 0)).1 < 65536 := Nat.xor_lt_two_pow (n := 16) ha hsm.1
      generalize c ^^^ (B[k]?.getD (0, 0)).2 = c' at hxor1 hst hxl1
      generalize a ^^^ (B[k]?.getD (0, 0)).1 = a' at hxor0 hst hxl0
      generalize (B[k]?.getD (0, 0)).2 = bx at *
      generalize (B[k]?.getD (0, 0)).1 = bs at *
      clear hred
      by_cases hless : c' < c
      · rw [if_pos hless] at hst
        go_wp2
        go_roundw
        case rel =>
          exact ⟨k + 1, a', c', by go_num, by omega, Lib.hid (hst.out.symm.trans hred'.out), hxl0, hxl1, Lib.hid (one_alloc (one_two hone.out) _),
              ((hBl.setCell (p := ⟨w1.heap.size, 0, none⟩) (Nat.le_refl _) _).setCell (p := ⟨w1.heap.size, 1, none⟩) (Nat.le_refl _) _).alloc (by simp; omega) _⟩
        case measure => simp [intOf]; omega
      · rw [if_neg hless] at hst
        go_wp2
        go_roundw
        case rel => exact ⟨k + 1, a, c, by go_num, by omega, Lib.hid (hst.out.symm.trans hred'.out), ha, hc, Lib.hid (one_alloc hone.out _), hBl.alloc (by omega) _⟩
        case measure => simp [intOf]; omega
    · have hkB : Hid (Lt.red1 B (0, t) = (a, c)) := Lib.hid (by
        have e : B.drop k = [] := List.drop_of_length_le (by omega)
        have := hred.out; rw [e] at this; exact this.symm)
      clear hred HC
      have hgt : Tryd.prog.eqGuardType Tryd.prog.depth 93 = false := by kernel_rfl
      have hEq := fun W => eqP a c a 0 W
      go_wp2
      go_quiet (fail)
      go_wp2
      go_ret2
      refine ⟨?_, (hb1.trans (hBl.mono hb1.size)).trans ⟨rfl, rfl, rfl, Nat.le_refl _, fun _ _ => rfl⟩⟩
      rw [hkB.out]
      have e : (((c : Nat) : Int) == 0) = decide (c = 0) := by rw [Bool.eq_iff_iff]; simp
      simp only [e]
      rfl

end Go.Proofs.YtdlogklhekopgaaDoor
