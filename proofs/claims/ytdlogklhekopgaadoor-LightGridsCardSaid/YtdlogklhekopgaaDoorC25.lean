/- Contracts of the program's functions: part C25 of the proof. -/
import Derived.Test.YtdlogklhekopgaaDoorC24
set_option linter.unusedVariables false
set_option linter.unusedSimpArgs false
namespace Go.Proofs.YtdlogklhekopgaaDoor
open Go.RowKit Go.Shelf Go.Proofs
attribute [local go_sem] Oper.semAt_some

def two : List (Int × Int) := [(0, 1)]
theorem two_code : code 2 two [] = 0 := by decide +kernel
theorem two_quiet : quietT 2 two true = [3] := by
  unfold quietT
  rw [if_pos two_code]
  have e : Lt.quietOf (gr 2 two true) = [3] := by decide +kernel
  rw [e]
  unfold Lt.tidy Lt.tidyTo Lt.asc
  have e2 : Lt.tidyStep [] 3 = [3] := by
    unfold Lt.tidyStep Lt.desc
    have e3 : Lt.minRed [] 3 = 3 := rfl
    rw [e3]
    simp
  simp [e2]
theorem two_ref : isRef 2 two true 1 3 = true := by decide +kernel
theorem two_code2 : code 2 two [1, 3] = 0 := by decide +kernel
theorem three_solved : solved 9 (Lt.gridE 3 3) true 511 = true := by decide +kernel
theorem three_code : code 9 (Lt.gridE 3 3) [511] = 0 := by decide +kernel
theorem three_few : Lt.fewOf (gr 9 (Lt.gridE 3 3) true) 511 = 341 := by decide +kernel
theorem p3 : powersOf 3 = [0, 2] := by decide +kernel
theorem q5 : gridQ 5 5 true = 2 := by decide +kernel
theorem c0 : code 0 [] [] = 1 := by decide +kernel
theorem g3 : (Lt.gridOf 3 3).length = 12 := by decide +kernel

theorem readsP_one (w : World) (a b : Int) : ReadsP (w.alloc (.cells #[.int .i64 a, .int .i64 b] 29)) (.slice (some ⟨w.heap.size, 0, none⟩) 1 1) [(a, b)] :=
  .inr ⟨w.heap.size, 0, 1, rfl, by simp, fun j hj => by
    obtain rfl : j = 0 := by simpa using hj
    exact ⟨cell_two_new w _ _ _ 0 _ rfl, cell_two_new w _ _ _ 1 _ rfl⟩⟩

/-- a row of pairs of numbers, read -/
theorem readsP_of_row {w : World} {base : Nat} {e : TypeId} {v : Value} {B : List (Nat × Nat)} (h : w.ownsRow base e 2 v B.length (pcells B)) : ReadsP w v (B.map Lt.toI) := by
  rcases h.2 with ⟨rfl, h0⟩ | ⟨g, cap, cur, rfl, hg, hh, hnc, hcm, hcs, htk⟩
  · exact .inl ⟨rfl, by simp [List.length_eq_zero_iff.1 h0]⟩
  · have hgl : g < w.heap.size := (Array.getElem?_eq_some_iff.1 hh).1
    refine .inr ⟨g, 0, cap, by simp, hgl, fun j hj => ?_⟩
    have hj' : j < B.length := by simpa using hj
    obtain ⟨h1, h2⟩ := pcells_at B j hj'
    have e : (B.map Lt.toI)[j]?.getD (0, 0) = ((B[j].1 : Int), (B[j].2 : Int)) := by simp [hj', Lt.toI]
    rw [e]
    rw [← htk] at h1 h2
    rw [List.getElem?_take, if_pos (by omega)] at h1 h2
    constructor
    · simp only [World.cell?, hh, Nat.zero_add]; simpa using h1
    · simp only [World.cell?, hh, Nat.zero_add]; simpa using h2

theorem aw_quiet (v : Value) (w : World) (hv : ReadsP w v two) : Calls Tryd.prog 22 #[.int .i64 2, v, .bool true] w fun e w' => ∃ g cap, e = .returned (.tuple #[.slice (some ⟨g, 0, none⟩) 1 cap, .int .i64 0]) ∧ g < w'.heap.size ∧ w'.cell? ⟨g, 0, none⟩ = some (.int .i64 3) ∧ Below w.heap.size w w' := by
  refine (quiet_api 2 v two true w (by decide) hv).mono ?_
  rw [two_quiet, two_code]
  rintro e w' ⟨v, rfl, hr, hb⟩
  obtain ⟨g, cap, rfl⟩ := ownsRow_succ hr
  refine ⟨g, cap, rfl, (hr.lt g rfl).2, ?_, hb⟩
  have := hr.cellAt 0 (by decide)
  simpa [ncells] using this
theorem aw_ref (v : Value) (w : World) (hv : ReadsP w v two) (hT : Tab w) (hw : 1 < w.heap.size) : Calls Tryd.prog 43 #[.int .i64 2, v, .bool true, .int .i64 1, .int .i64 3] w fun e w' => e = .returned (.tuple #[.bool true, .int .i64 0]) ∧ Below w.heap.size w w' := by
  refine (isref_api 2 1 3 v two true w (by decide) hv hT hw).mono ?_
  rw [two_code2, two_ref]
  exact fun e w' h => h
theorem aw_grid (w : World) : Calls Tryd.prog 16 #[.int .i64 3, .int .i64 3] w fun e w' => ∃ g cap, e = .returned (.tuple #[.int .i64 9, .slice (some ⟨g, 0, none⟩) 12 cap, .int .i64 0]) ∧ ReadsP w' (.slice (some ⟨g, 0, none⟩) 12 cap) (Lt.gridE 3 3) ∧ Below w.heap.size w w' := by
  refine (grid_good 3 3 (by decide) (by decide) (by decide) w).mono ?_
  rintro e w' ⟨v, rfl, hr, hb⟩
  have hr' := hr
  rw [g3] at hr'
  obtain ⟨g, cap, rfl⟩ := ownsRow_succ hr'
  exact ⟨g, cap, rfl, readsP_of_row hr, hb⟩
theorem aw_few (v : Value) (w : World) (hv : ReadsP w v (Lt.gridE 3 3)) (hT : Tab w) (hw : 1 < w.heap.size) : Calls Tryd.prog 36 #[.int .i64 9, v, .bool true, .int .i64 511] w fun e w' => e = .returned (.tuple #[.int .i64 341, .bool true, .int .i64 0]) ∧ Below w.heap.size w w' := by
  refine (fewest_api 9 511 v (Lt.gridE 3 3) true w (by decide +kernel) hv hT hw).mono ?_
  rw [three_code, three_solved, if_pos rfl, show Int.toNat 511 = 511 from rfl, three_few]
  exact fun e w' h => h
theorem aw_poly (w : World) : Calls Tryd.prog 23 #[.int .i64 3] w fun e w' => ∃ g cap, e = .returned (.tuple #[.slice (some ⟨g, 0, none⟩) 2 cap, .int .i64 0]) ∧ g < w'.heap.size ∧ w'.cell? ⟨g, 0, none⟩ = some (.int .i64 0) ∧ w'.cell? ⟨g, 1, none⟩ = some (.int .i64 2) ∧ Below w.heap.size w w' := by
  refine (polynomial_good 3 (by decide) w).mono ?_
  rw [p3]
  rintro e w' ⟨v, rfl, hr, hb⟩
  obtain ⟨g, cap, rfl⟩ := ownsRow_succ hr
  refine ⟨g, cap, rfl, (hr.lt g rfl).2, ?_, ?_, hb⟩
  · have := hr.cellAt 0 (by decide)
    simpa [ncells] using this
  · have := hr.cellAt 1 (by decide)
    simpa [ncells] using this
theorem aw_gq (w : World) : Calls Tryd.prog 20 #[.int .i64 5, .int .i64 5, .bool true] w fun e w' => e = .returned (.tuple #[.int .i64 2, .int .i64 0]) ∧ Below w.heap.size w w' := by
  refine (gridQuiet_good 5 5 true (by decide) (by decide) (by decide) (by decide) w).mono ?_
  rw [q5]
  exact fun e w' h => h
theorem aw_check (w : World) : Calls Tryd.prog 18 #[.int .i64 0, .slice none 0 0] w fun e w' => e = .returned (.int .i64 1) ∧ Below w.heap.size w w' := by
  refine (check_api 0 (.slice none 0 0) [] w (by decide) (.inl ⟨rfl, rfl⟩)).mono ?_
  rw [c0]
  exact fun e w' h => h

set_option maxRecDepth 100000 in
set_option maxHeartbeats 8000000 in
/-- awake -/
theorem awake_any (w : World) (hT : Tab w) (hw : 1 < w.heap.size) : Calls Tryd.prog 19 #[] w fun e w' => e = .returned (.bool true) ∧ Below w.heap.size w w' := by
  have hB0 : Below w.heap.size w (w.alloc (.cells #[.int .i64 0, .int .i64 1] 29)) := below_one _
  have hR0 := Lib.hid (readsP_one w 0 1)
  have hq := Lib.hid (aw_quiet _ _ (readsP_one w 0 1))
  go_enter Tryd.func19, Tryd.ntmps19
  go_wp2_with fail
  refine hq.out.mono ?_
  rintro e w1 ⟨g1, cap1, rfl, hg1, hc1, hb1⟩
  have hbb1 := hB0.trans (hb1.mono hB0.size)
  have hi := Lib.hid (aw_ref _ w1 (hR0.out.below hb1) (hT.below hbb1 hw) (by have := hbb1.size; omega))
  clear hq hR0 hB0 hb1
  go_wp2_with fail
  refine hi.out.mono ?_
  rintro e w2 ⟨rfl, hb2⟩
  have hs1 := hbb1.size
  replace hc1 := (hb2.cell (p := ⟨g1, 0, none⟩) hg1).trans hc1
  replace hg1 : g1 < w2.heap.size := Nat.lt_of_lt_of_le hg1 hb2.size
  have hbb2 := hbb1.trans (hb2.mono hs1)
  clear hi hb2 hbb1 hs1
  go_wp2_with fail
  refine (aw_grid _).mono ?_
  rintro e w3 ⟨g3, cap3, rfl, hr3, hb3⟩
  have hs1 := hbb2.size
  replace hc1 := (hb3.cell (p := ⟨g1, 0, none⟩) hg1).trans hc1
  replace hg1 : g1 < w3.heap.size := Nat.lt_of_lt_of_le hg1 hb3.size
  have hbb3 := hbb2.trans (hb3.mono hs1)
  have hf := Lib.hid (aw_few _ w3 hr3 (hT.below hbb3 hw) (by have := hbb3.size; omega))
  clear hr3 hb3 hbb2 hs1
  go_wp2_with fail
  refine hf.out.mono ?_
  rintro e w4 ⟨rfl, hb4⟩
  have hs1 := hbb3.size
  replace hc1 := (hb4.cell (p := ⟨g1, 0, none⟩) hg1).trans hc1
  replace hg1 : g1 < w4.heap.size := Nat.lt_of_lt_of_le hg1 hb4.size
  have hbb4 := hbb3.trans (hb4.mono hs1)
  clear hf hb4 hbb3 hs1
  go_wp2_with fail
  refine (aw_poly _).mono ?_
  rintro e w5 ⟨g5, cap5, rfl, hg5, hc5, hc6, hb5⟩
  have hs1 := hbb4.size
  replace hc1 := (hb5.cell (p := ⟨g1, 0, none⟩) hg1).trans hc1
  replace hg1 : g1 < w5.heap.size := Nat.lt_of_lt_of_le hg1 hb5.size
  have hbb5 := hbb4.trans (hb5.mono hs1)
  clear hb5 hbb4 hs1
  go_wp2_with fail
  refine (aw_gq _).mono ?_
  rintro e w6 ⟨rfl, hb6⟩
  have hs1 := hbb5.size
  replace hc1 := (hb6.cell (p := ⟨g1, 0, none⟩) hg1).trans hc1
  replace hc5 := (hb6.cell (p := ⟨g5, 0, none⟩) hg5).trans hc5
  replace hc6 := (hb6.cell (p := ⟨g5, 1, none⟩) hg5).trans hc6
  replace hg1 : g1 < w6.heap.size := Nat.lt_of_lt_of_le hg1 hb6.size
  have hbb6 := hbb5.trans (hb6.mono hs1)
  clear hb6 hbb5 hs1
  go_wp2_with (go_at_call 18; refine (aw_check _).mono ?_; rintro e w7 ⟨rfl, hb7⟩; have hbb7 := hbb6.trans (hb7.mono hbb6.size))
  go_ret
  exact ⟨rfl, hbb7⟩

end Go.Proofs.YtdlogklhekopgaaDoor
