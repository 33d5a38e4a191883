/- Contracts of the program's functions: part C27 of the proof. -/
import Derived.Test.YtdlogklhekopgaaDoorC26
import Derived.Laws.StructEq
set_option linter.unusedVariables false
set_option linter.unusedSimpArgs false
namespace Go.Proofs.YtdlogklhekopgaaDoor
open Go.RowKit Go.Shelf Go.Proofs
attribute [local go_sem] Oper.semAt_some

theorem eqA (x y x' y' : Int) (w : World) : Sem.run Tryd.prog (Op.equalIn 10000 29 (.agg #[.int .i64 x, .int .i64 y]) (.agg #[.int .i64 x', .int .i64 y'])) w = .ok (x == x' && y == y') w := by
  have u3 := Tryd.underlying3
  have u29 : Tryd.prog.underlying 29 = some (.array 2 3) := by kernel_rfl
  have z3 := Tryd.sizeOf3
  have a3 := Tryd.isAgg3
  rw [show (10000 : Nat) = 9998 + 1 + 1 from rfl]
  rw [Op.equalIn]
  simp only [Sem.run_bind, run_underlying u29, Result.andThen_ok]
  go_simp
  rw [show List.range' 0 2 = [0, 1] from rfl]
  simp only [List.forIn_cons, List.forIn_nil, Sem.run_bind, a3, Result.andThen_ok, Bool.false_eq_true, if_false, List.getElem?_cons_zero, List.getElem?_cons_succ, Sem.run_pure, run_equalIn_int _ _ _ _ _ _ _ u3]
  by_cases h1 : x = x'
  · subst h1
    by_cases h2 : y = y'
    · subst h2
      simp [a3, run_equalIn_int _ _ _ _ _ _ _ u3]
    · have e2 : (y == y') = false := by simpa using h2
      simp [a3, run_equalIn_int _ _ _ _ _ _ _ u3, e2]
  · have e1 : (x == x') = false := by simpa using h1
    simp [e1]
theorem neA (x y x' y' : Int) (w : World) : Sem.run Tryd.prog (binOp .neq 29 (.agg #[.int .i64 x, .int .i64 y]) (.agg #[.int .i64 x', .int .i64 y'])) w = .ok (.bool (!(x == x' && y == y'))) w := by
  rw [run_neq_struct, eqA]; rfl

theorem grid_code {r c : Nat} (hr : 1 ≤ r) (hc : 1 ≤ c) (hrc : r * c ≤ 16) : code ((r * c : Nat) : Int) (Lt.gridE r c) [] = 0 := by
  have hr16 : r ≤ 16 := Nat.le_trans (Nat.le_mul_of_pos_right r hc) hrc
  have hc16 : c ≤ 16 := Nat.le_trans (Nat.le_mul_of_pos_left c hr) hrc
  have h1 : 1 ≤ r * c := Nat.mul_pos hr hc
  unfold code
  have hok := Lt.grid_ok ⟨r, by omega⟩ ⟨c, by omega⟩ hrc
  simp only at hok
  rw [if_neg (by omega), if_neg (by rw [hok]; decide)]
  simp

theorem ReadsP.general {w : World} {v : Value} {es : List (Int × Int)} (h : ReadsP w v es) : ∃ ad cap, v = .slice ad es.length cap ∧ ∀ j, j < es.length → ∃ g off, ad = some ⟨g, off, none⟩ ∧ g < w.heap.size ∧
    w.cell? ⟨g, off + j * 2, none⟩ = some (.int .i64 (es[j]?.getD (0, 0)).1) ∧ w.cell? ⟨g, off + j * 2 + 1, none⟩ = some (.int .i64 (es[j]?.getD (0, 0)).2) := by
  rcases h with ⟨rfl, rfl⟩ | ⟨g, off, cap, rfl, hg, hc⟩
  · exact ⟨none, 0, rfl, fun j hj => by simp at hj⟩
  · exact ⟨_, cap, rfl, fun j hj => ⟨g, off, rfl, hg, (hc j hj).1, (hc j hj).2⟩⟩

theorem gridOk_good {r c : Int} (h : gridOk r c = true) : ∃ R C : Nat, r = R ∧ c = C ∧ 1 ≤ R ∧ 1 ≤ C ∧ R * C ≤ 16 := by
  unfold gridOk at h
  simp only [Bool.and_eq_true, decide_eq_true_eq] at h
  obtain ⟨⟨⟨⟨h1, h2⟩, h3⟩, h4⟩, h5⟩ := h
  refine ⟨r.toNat, c.toNat, by omega, by omega, by omega, by omega, ?_⟩
  have e : r * c = ((r.toNat * c.toNat : Nat) : Int) := by
    rw [Int.natCast_mul, Int.toNat_of_nonneg (by omega), Int.toNat_of_nonneg (by omega)]
  omega

theorem gridE_length (r c : Nat) (h : r * c ≤ 16) : (Lt.gridE r c).length ≤ 1000 := by
  unfold Lt.gridE Lt.gridOf
  have := Lt.gridTo_length r c (r * c)
  rw [List.length_map]; omega

set_option maxRecDepth 100000 in
set_option maxHeartbeats 8000000 in
theorem lightGrids_any (r c : Int) (w : World) (hT : Tab w) (hw : 1 < w.heap.size) : Calls Tryd.prog 3 #[.int .i64 r, .int .i64 c] w fun e w' => e = .returned (.bool true) ∧ Below w.heap.size w w' := by
  go_enter Tryd.func3, Tryd.ntmps3
  go_wp2
  go_loopw [0, 1, 5] (fun x y i W => ∃ (k : Nat) (r c : Int), i = .int .i64 k ∧ k ≤ 2 ∧ x = .int .i64 r ∧ y = .int .i64 c ∧ Below w.heap.size w W)
    (fun _ _ i _ => 2 - (intOf i).toNat)
  case atStart => exact ⟨0, r, c, rfl, by omega, rfl, rfl, Below.refl _ _⟩
  case round =>
    clear r c
    obtain ⟨k, r, c, rfl, hk, rfl, rfl, hB⟩ := hrel
    by_cases hlt : k < 2
    · cases hok : gridOk r c with
      | false =>
        have hg := Lib.hid (fun W => grid_bad r c hok W)
        go_wp2_with fail
        refine (hg.out _).mono ?_
        rintro e w1 ⟨rfl, rfl⟩
        clear hg
        have hcase : r < 1 ∨ (1 ≤ r ∧ c < 1) ∨ (1 ≤ r ∧ 1 ≤ c ∧ 16 < r) ∨ (1 ≤ r ∧ 1 ≤ c ∧ r ≤ 16 ∧ 16 < c) ∨ (1 ≤ r ∧ 1 ≤ c ∧ r ≤ 16 ∧ c ≤ 16 ∧ 16 < r * c ∧ wrap64 (r * c) = r * c) := by
          by_cases h1 : r < 1
          · exact .inl h1
          · by_cases h2 : c < 1
            · exact .inr (.inl ⟨by omega, h2⟩)
            · by_cases h3 : 16 < r
              · exact .inr (.inr (.inl ⟨by omega, by omega, h3⟩))
              · by_cases h4 : 16 < c
                · exact .inr (.inr (.inr (.inl ⟨by omega, by omega, by omega, h4⟩)))
                · refine .inr (.inr (.inr (.inr ⟨by omega, by omega, by omega, by omega, ?_, ?_⟩)))
                  · unfold gridOk at hok
                    have e1 : decide (1 ≤ r) = true := by simp; omega
                    have e2 : decide (1 ≤ c) = true := by simp; omega
                    have e3 : decide (r ≤ 16) = true := by simp; omega
                    have e4 : decide (c ≤ 16) = true := by simp; omega
                    rw [e1, e2, e3, e4] at hok
                    simpa using hok
                  · have h4 : r * c ≤ 16 * 16 := Int.mul_le_mul (by omega) (by omega) (by omega) (by omega)
                    have h5 : 0 ≤ r * c := Int.mul_nonneg (by omega) (by omega)
                    unfold wrap64; omega
        clear hok
        rcases hcase with h1 | ⟨h1, h2⟩ | ⟨h1, h2, h3⟩ | ⟨h1, h2, h3, h4⟩ | ⟨h1, h2, h3, h4, h5, h6⟩
        · go_wp2
          go_roundw
          case rel => exact ⟨k + 1, _, _, by go_num, by omega, rfl, rfl, hB⟩
          case measure => simp [intOf]; omega
        · go_wp2
          go_roundw
          case rel => exact ⟨k + 1, _, _, by go_num, by omega, rfl, rfl, hB⟩
          case measure => simp [intOf]; omega
        · go_wp2
          go_roundw
          case rel => exact ⟨k + 1, _, _, by go_num, by omega, rfl, rfl, hB⟩
          case measure => simp [intOf]; omega
        · go_wp2
          go_roundw
          case rel => exact ⟨k + 1, _, _, by go_num, by omega, rfl, rfl, hB⟩
          case measure => simp [intOf]; omega
        · generalize hm : r * c = m at *
          go_wp2
          go_roundw
          case rel => exact ⟨k + 1, _, _, by go_num, by omega, rfl, rfl, hB⟩
          case measure => simp [intOf]; omega
      | true =>
        obtain ⟨R, C, rfl, rfl, hR, hC, hRC⟩ := gridOk_good hok
        clear hok
        have hR16 : R ≤ 16 := Nat.le_trans (Nat.le_mul_of_pos_right R hC) hRC
        have hC16 : C ≤ 16 := Nat.le_trans (Nat.le_mul_of_pos_left C hR) hRC
        have hg := Lib.hid (fun W => grid_good R C hR hC hRC W)
        have hg2 := Lib.hid (fun W => refGrid_good R C hR hC hRC W)
        have hgl := gridE_length R C hRC
        have hcd := Lib.hid (grid_code hR hC hRC)
        have hge : Hid (Lt.gridE R C = (Lt.gridOf R C).map Lt.toI) := Lib.hid rfl
        have hm : wrap64 ((R : Int) * (C : Int)) = ((R * C : Nat) : Int) := by
          have e : (R : Int) * (C : Int) = ((R * C : Nat) : Int) := by simp
          rw [e]
          generalize R * C = m at *
          unfold wrap64; omega
        generalize R * C = m at *
        generalize Lt.gridE R C = E at *
        generalize Lt.gridOf R C = L at *
        go_wp2_with fail
        refine (hg.out _).mono ?_
        rintro e w1 ⟨v1, rfl, hr1, hb1⟩
        have hp1 := readsP_of_row hr1
        rw [← hge.out] at hp1
        obtain ⟨ad1, cap1, hv1, hc1⟩ := hp1.general
        subst hv1
        have HP1 := Lib.hid hp1
        have HC1 := Lib.hid hc1
        clear hp1 hr1 hc1 hg
        go_wp2_with fail
        refine (hg2.out _).mono ?_
        rintro e w2 ⟨v2, rfl, hr2, hb2⟩
        have hp2 := readsP_of_row hr2
        rw [← hge.out] at hp2
        obtain ⟨ad2, cap2, hv2, hc2⟩ := hp2.general
        subst hv2
        have HC2 := Lib.hid hc2
        have hck := Lib.hid (check_api m _ E w2 hgl (HP1.out.below hb2))
        rw [hcd.out] at hck
        clear hp2 hr2 hc2 hg2 HP1
        have hs1 := hb1.size
        have hs2 := hb2.size
        have hB2 : Below w.heap.size w w2 := hB.trans ((hb1.trans (hb2.mono hs1)).mono hB.size)
        go_wp2_with (go_at_call 18; refine hck.out.mono ?_; rintro e w3 ⟨rfl, hb3⟩)
        obtain ⟨wo, hwo⟩ : ∃ wo : World, wo = w3 := ⟨_, rfl⟩
        subst hwo
        have hs3 := hb3.size
        go_loopw [11] (fun i W => ∃ j : Nat, i = .int .i64 j ∧ j ≤ E.length ∧ Below wo.heap.size wo W)
          (fun i _ => E.length - (intOf i).toNat)
        case atStart => exact ⟨0, rfl, Nat.zero_le _, Below.refl _ _⟩
        case round =>
          obtain ⟨j, rfl, hj, hBl⟩ := hrel
          by_cases hlt2 : j < E.length
          · obtain ⟨g1, o1, rfl, hg1, c11, c12⟩ := HC1.out j hlt2
            obtain ⟨g2, o2, rfl, hg2, c21, c22⟩ := HC2.out j hlt2
            replace c11 := (hBl.cell (p := ⟨g1, o1 + j * 2, none⟩) (show g1 < wo.heap.size by omega)).trans ((hb3.cell (p := ⟨g1, o1 + j * 2, none⟩) (show g1 < w2.heap.size by omega)).trans ((hb2.cell (p := ⟨g1, o1 + j * 2, none⟩) hg1).trans c11))
            replace c12 := (hBl.cell (p := ⟨g1, o1 + j * 2 + 1, none⟩) (show g1 < wo.heap.size by omega)).trans ((hb3.cell (p := ⟨g1, o1 + j * 2 + 1, none⟩) (show g1 < w2.heap.size by omega)).trans ((hb2.cell (p := ⟨g1, o1 + j * 2 + 1, none⟩) hg1).trans c12))
            replace c21 := (hBl.cell (p := ⟨g2, o2 + j * 2, none⟩) (show g2 < wo.heap.size by omega)).trans ((hb3.cell (p := ⟨g2, o2 + j * 2, none⟩) hg2).trans c21)
            replace c22 := (hBl.cell (p := ⟨g2, o2 + j * 2 + 1, none⟩) (show g2 < wo.heap.size by omega)).trans ((hb3.cell (p := ⟨g2, o2 + j * 2 + 1, none⟩) hg2).trans c22)
            generalize (E[j]?.getD (0, 0)).1 = e1 at *
            generalize (E[j]?.getD (0, 0)).2 = e2 at *
            have hgt : Tryd.prog.eqGuardType Tryd.prog.depth 29 = false := by kernel_rfl
            have hEq := fun W => neA e1 e2 e1 e2 W
            simp only [beq_self_eq_true, Bool.and_self, Bool.not_true] at hEq
            go_wp2
            go_quiet (fail)
            go_wp2
            go_roundw
            case rel => exact ⟨j + 1, by go_num, by omega, hBl.trans ⟨rfl, rfl, rfl, Nat.le_refl _, fun _ _ => rfl⟩⟩
            case measure => simp [intOf]; omega
          · have hBe := hB2.trans ((hb3.trans (hBl.mono hs3)).mono hB2.size)
            go_wp2
            go_roundw
            case rel => exact ⟨k + 1, _, _, by go_num, by omega, rfl, rfl, hBe⟩
            case measure => simp [intOf]; omega
    · have haw := Lib.hid (awake_any wr (hT.below hB hw) (by have := hB.size; omega))
      go_wp2_with (go_at_call 19; refine haw.out.mono ?_; rintro e w7 ⟨rfl, hb7⟩)
      go_ret
      exact ⟨rfl, hB.trans (hb7.mono hB.size)⟩

end Go.Proofs.YtdlogklhekopgaaDoor
