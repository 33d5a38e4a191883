/- Contracts of the program's functions: part C23 of the proof. -/
import Derived.Test.YtdlogklhekopgaaDoorC22
set_option linter.unusedVariables false
set_option linter.unusedSimpArgs false
namespace Go.Proofs.YtdlogklhekopgaaDoor
open Go.RowKit Go.Shelf Go.Proofs
attribute [local go_sem] Oper.semAt_some

theorem poly_one (w : World) : Poly (w.alloc (.cells #[.bool true] 4)) (w.alloc (.cells #[.bool true] 4)).heap.size (.slice (some ⟨w.heap.size, 0, none⟩) 1 1) 1 :=
  ⟨_, 1, by rw [show Lt.plen 1 = 1 by decide], fun j hj => by
    have e : Lt.plen 1 = 1 := by decide
    rw [e] at hj
    obtain rfl : j = 0 := by omega
    exact ⟨_, _, rfl, by simp, cell_one_new _ _ _ 0 _ rfl⟩⟩

set_option maxRecDepth 100000 in
set_option maxHeartbeats 4000000 in
/-- path -/
theorem path_any (k : Nat) (more : Bool) (hk : k ≤ 300) (w : World) :
    Calls Tryd.prog 51 #[.int .i64 k, .bool more] w fun e w' => ∃ v, e = .returned v ∧ Poly w' w'.heap.size v (Lt.pathOf more k) ∧ Below w.heap.size w w' := by
  by_cases hk0 : k = 0
  · subst hk0
    go_enter Tryd.func51, Tryd.ntmps51
    go_wp2
    go_ret
    exact ⟨_, rfl, poly_zero _ _, (Below.refl _ w).alloc (Nat.le_refl _) _⟩
  · have hf : Lt.pathOf more k = (Lt.pathTo more (k - 1)).2 := by unfold Lt.pathOf; rw [if_neg hk0]
    rw [hf]
    have hk1 : ((k : Int) == 0) = false := by simpa using hk0
    have hlen := Lib.hid (Lt.pathTo_plen more)
    have hst : Hid (∀ j, (Lt.pathTo more (j + 1)).1 = (Lt.pathTo more j).2 ∧ (Lt.pathTo more (j + 1)).2 = (if more then Lt.psum (Lt.psum (Lt.pathTo more j).1 (Lt.pathTo more j).2 1) (Lt.pathTo more j).2 0 else Lt.psum (Lt.pathTo more j).1 (Lt.pathTo more j).2 1)) := Lib.hid (fun j => ⟨rfl, rfl⟩)
    have h0 : Hid ((Lt.pathTo more 0).1 = 0 ∧ (Lt.pathTo more 0).2 = 1) := Lib.hid ⟨rfl, rfl⟩
    clear hf
    generalize Lt.pathTo more = T at *
    go_enter Tryd.func51, Tryd.ntmps51
    go_wp2
    go_loopw [5, 6, 13] (fun v1 v2 i W => ∃ j : Nat, i = .int .i64 j ∧ j ≤ k - 1 ∧ Hid (Poly W W.heap.size v1 (T j).1) ∧ Hid (Poly W W.heap.size v2 (T j).2) ∧ Below w.heap.size w W)
      (fun _ _ i _ => k - 1 - (intOf i).toNat)
    case atStart => exact ⟨0, rfl, Nat.zero_le _, Lib.hid (by rw [h0.out.1]; exact poly_zero _ _), Lib.hid (by rw [h0.out.2]; exact poly_one w), (Below.refl _ w).alloc (Nat.le_refl _) _⟩
    case round =>
      obtain ⟨j, rfl, hj, hp1, hp2, hB⟩ := hrel
      have hl := hlen.out j
      by_cases hlt : j < k - 1
      · have hs1 := Lib.hid (sum_any _ _ _ _ 1 wr hp1.out hp2.out (by omega) (by omega) (by omega))
        have hpl := Lt.psum_plen (T j).1 (T j).2 1
        have hnx := Lib.hid (hst.out j)
        cases more with
        | false =>
          simp only [Bool.false_eq_true, if_false] at hnx
          go_wp2_with fail
          refine hs1.out.mono ?_
          rintro e w1 ⟨v, rfl, hp3, hb1⟩
          have hp2' := Lib.hid (hp2.out.below hb1 (Nat.le_refl _))
          have hp3' := Lib.hid hp3
          clear hp1 hp2 hp3 hs1
          go_wp2
          go_roundw
          case rel => exact ⟨j + 1, by go_num, by omega, Lib.hid (by rw [hnx.out.1]; exact hp2'.out.up hb1.size), Lib.hid (by rw [hnx.out.2]; exact hp3'.out), hB.trans (hb1.mono hB.size)⟩
          case measure => simp [intOf]; omega
        | true =>
          simp only [if_true] at hnx
          go_wp2_with fail
          refine hs1.out.mono ?_
          rintro e w1 ⟨v, rfl, hp3, hb1⟩
          have hp2' := Lib.hid ((hp2.out.below hb1 (Nat.le_refl _)).up hb1.size)
          have hs2 := Lib.hid (sum_any _ _ _ _ 0 w1 hp3 hp2'.out (by omega) (by omega) (by omega))
          clear hp1 hp2 hp3 hs1
          go_wp2_with fail
          refine hs2.out.mono ?_
          rintro e w2 ⟨v', rfl, hp4, hb2⟩
          have hp2'' := Lib.hid ((hp2'.out.below hb2 (Nat.le_refl _)).up hb2.size)
          have hp4' := Lib.hid hp4
          clear hp2' hp4 hs2
          go_wp2
          go_roundw
          case rel => exact ⟨j + 1, by go_num, by omega, Lib.hid (by rw [hnx.out.1]; exact hp2''.out), Lib.hid (by rw [hnx.out.2]; exact hp4'.out), hB.trans ((hb1.trans (hb2.mono hb1.size)).mono hB.size)⟩
          case measure => simp [intOf]; omega
      · obtain rfl : j = k - 1 := by omega
        go_wp2
        go_ret
        exact ⟨_, rfl, hp2.out, hB⟩

end Go.Proofs.YtdlogklhekopgaaDoor
