/- Contracts of the program's functions: a part of the proof. -/
import Derived.Test.YtdlogklhekopgaaDoorGJ
import Derived.Laws.StructEq
import Derived.Test.YtdlogklhekopgaaDoorGH
set_option linter.unusedVariables false
set_option linter.unusedSimpArgs false

namespace Go.Proofs.YtdlogklhekopgaaDoor
open Go.RowKit Go.Shelf Go.Proofs
attribute [local go_sem] Oper.semAt_some

theorem eqA (x y x' y' : Int) (w : World) : Sem.run Tryd.prog (Op.equalIn 10000 29 (.agg #[.int .i64 x, .int .i64 y]) (.agg #[.int .i64 x', .int .i64 y'])) w = .ok (x == x' && y == y') w := by
  have u3 := Tryd.underlying3
  have u29 : Tryd.prog.underlying 29 = some (.array 2 3) := by kernel_rfl
  have z3 := Tryd.sizeOf3
  have a3 := Tryd.isAgg3
  rw [show (10000 : Nat) = 9998 + 1 + 1 from rfl]
  rw [Op.equalIn]
  simp only [Sem.run_bind, run_underlying u29, Result.andThen_ok]
  go_simp
  rw [show List.range' 0 2 = [0, 1] from rfl]
  simp only [List.forIn_cons, List.forIn_nil, Sem.run_bind, a3, Result.andThen_ok, Bool.false_eq_true, if_false, List.getElem?_cons_zero, List.getElem?_cons_succ, Sem.run_pure, run_equalIn_int _ _ _ _ _ _ _ u3]
  by_cases h1 : x = x'
  · subst h1
    by_cases h2 : y = y'
    · subst h2
      simp [a3, run_equalIn_int _ _ _ _ _ _ _ u3]
    · have e2 : (y == y') = false := by simpa using h2
      simp [a3, run_equalIn_int _ _ _ _ _ _ _ u3, e2]
  · have e1 : (x == x') = false := by simpa using h1
    simp [e1]
theorem neA (x y x' y' : Int) (w : World) : Sem.run Tryd.prog (binOp .neq 29 (.agg #[.int .i64 x, .int .i64 y]) (.agg #[.int .i64 x', .int .i64 y'])) w = .ok (.bool (!(x == x' && y == y'))) w := by
  rw [run_neq_struct, eqA]; rfl

theorem grid_code {r c : Nat} (hr : 1 ≤ r) (hc : 1 ≤ c) (hrc : r * c ≤ 16) : code ((r * c : Nat) : Int) (Lt.gridE r c) [] = 0 := by
  have hr16 : r ≤ 16 := Nat.le_trans (Nat.le_mul_of_pos_right r hc) hrc
  have hc16 : c ≤ 16 := Nat.le_trans (Nat.le_mul_of_pos_left c hr) hrc
  have h1 : 1 ≤ r * c := Nat.mul_pos hr hc
  unfold code
  have hok := Lt.grid_ok ⟨r, by omega⟩ ⟨c, by omega⟩ hrc
  simp only at hok
  rw [if_neg (by omega), if_neg (by rw [hok]; decide)]
  simp

theorem ReadsP.general {w : World} {v : Value} {es : List (Int × Int)} (h : ReadsP w v es) : ∃ ad cap, v = .slice ad es.length cap ∧ ∀ j, j < es.length → ∃ g off, ad = some ⟨g, off, none⟩ ∧ g < w.heap.size ∧
    w.cell? ⟨g, off + j * 2, none⟩ = some (.int .i64 (es[j]?.getD (0, 0)).1) ∧ w.cell? ⟨g, off + j * 2 + 1, none⟩ = some (.int .i64 (es[j]?.getD (0, 0)).2) := by
  rcases h with ⟨rfl, rfl⟩ | ⟨g, off, cap, rfl, hg, hc⟩
  · exact ⟨none, 0, rfl, fun j hj => by simp at hj⟩
  · exact ⟨_, cap, rfl, fun j hj => ⟨g, off, rfl, hg, (hc j hj).1, (hc j hj).2⟩⟩

theorem gridOk_good {r c : Int} (h : gridOk r c = true) : ∃ R C : Nat, r = R ∧ c = C ∧ 1 ≤ R ∧ 1 ≤ C ∧ R * C ≤ 16 := by
  unfold gridOk at h
  simp only [Bool.and_eq_true, decide_eq_true_eq] at h
  obtain ⟨⟨⟨⟨h1, h2⟩, h3⟩, h4⟩, h5⟩ := h
  refine ⟨r.toNat, c.toNat, by omega, by omega, by omega, by omega, ?_⟩
  have e : r * c = ((r.toNat * c.toNat : Nat) : Int) := by
    rw [Int.natCast_mul, Int.toNat_of_nonneg (by omega), Int.toNat_of_nonneg (by omega)]
  omega

theorem gridE_length (r c : Nat) (h : r * c ≤ 16) : (Lt.gridE r c).length ≤ 1000 := by
  unfold Lt.gridE Lt.gridOf
  have := Lt.gridTo_length r c (r * c)
  rw [List.length_map]; omega

set_option maxRecDepth 100000 in
set_option maxHeartbeats 8000000 in
theorem lightGrids_any (r c : Int) (w : World) (hT : Tab w) (hw : 1 < w.heap.size) : Calls Tryd.prog 3 #[.int .i64 r, .int .i64 c] w fun e w' => e = .returned (.bool true) ∧ Below w.heap.size w w' := by
  go_enter Tryd.func3, Tryd.ntmps3
  go_wp2
  go_loopw [0, 1, 5] (fun x y i W => ∃ (k : Nat) (r c : Int), i = .int .i64 k ∧ k ≤ 2 ∧ x = .int .i64 r ∧ y = .int .i64 c ∧ Below w.heap.size w W)
    (fun _ _ i _ => 2 - (intOf i).toNat)
  case atStart => exact ⟨0, r, c, rfl, by omega, rfl, rfl, Below.refl _ _⟩
  case round =>
    clear r c
    obtain ⟨k, r, c, rfl, hk, rfl, rfl, hB⟩ := hrel
    by_cases hlt : k < 2
    · cases hok : gridOk r c with
      | false =>
        have hg := Lib.hid (fun W => grid_bad r c hok W)
        go_wp2_with fail
        refine (hg.out _).mono ?_
        rintro e w1 ⟨rfl, rfl⟩
        clear hg
        have hcase : r < 1 ∨ (1 ≤ r ∧ c < 1) ∨ (1 ≤ r ∧ 1 ≤ c ∧ 16 < r) ∨ (1 ≤ r ∧ 1 ≤ c ∧ r ≤ 16 ∧ 16 < c) ∨ (1 ≤ r ∧ 1 ≤ c ∧ r ≤ 16 ∧ c ≤ 16 ∧ 16 < r * c ∧ wrap64 (r * c) = r * c) := by
          by_cases h1 : r < 1
          · exact .inl h1
          · by_cases h2 : c < 1
            · exact .inr (.inl ⟨by omega, h2⟩)
            · by_cases h3 : 16 < r
              · exact .inr (.inr (.inl ⟨by omega, by omega, h3⟩))
              · by_cases h4 : 16 < c
                · exact .inr (.inr (.inr (.inl ⟨by omega, by omega, by omega, h4⟩)))
                · refine .inr (.inr (.inr (.inr ⟨by omega, by omega, by omega, by omega, ?_, ?_⟩)))
                  · unfold gridOk at hok
                    have e1 : decide (1 ≤ r) = true := by simp; omega
                    have e2 : decide (1 ≤ c) = true := by simp; omega
                    have e3 : decide (r ≤ 16) = true := by simp; omega
                    have e4 : decide (c ≤ 16) = true := by simp; omega
                    rw [e1, e2, e3, e4] at hok
                    simpa using hok
                  · have h4 : r * c ≤ 16 * 16 := Int.mul_le_mul (by omega) (by omega) (by omega) (by omega)
                    have h5 : 0 ≤ r * c := Int.mul_nonneg (by omega) (by omega)
                    unfold wrap64; omega
        clear hok
        rcases hcase with h1 | ⟨h1, h2⟩ | ⟨h1, h2, h3⟩ | ⟨h1, h2, h3, h4⟩ | ⟨h1, h2, h3, h4, h5, h6⟩
        · go_wp2
          go_roundw
          case rel => exact ⟨k + 1, _, _, by go_num, by omega, rfl, rfl, hB⟩
          case measure => simp [intOf]; omega
        · go_wp2
          go_roundw
          case rel => exact ⟨k + 1, _, _, by go_num, by omega, rfl, rfl, hB⟩
          case measure => simp [intOf]; omega
        · go_wp2
          go_roundw
          case rel => exact ⟨k + 1, _, _, by go_num, by omega, rfl, rfl, hB⟩
          case measure => simp [intOf]; omega
        · go_wp2
          go_roundw
          case rel => exact ⟨k + 1, _, _, by go_num, by omega, rfl, rfl, hB⟩
          case measure => simp [intOf]; omega
        · generalize hm : r * c = m at *
          go_wp2
          go_roundw
          case rel => exact ⟨k + 1, _, _, by go_num, by omega, rfl, rfl, hB⟩
          case measure => simp [intOf]; omega
      | true =>
        obtain ⟨R, C, rfl, rfl, hR, hC, hRC⟩ := gridOk_good hok
        clear hok
        have hR16 : R ≤ 16 := Nat.le_trans (Nat.le_mul_of_pos_right R hC) hRC
        have hC16 : C ≤ 16 := Nat.le_trans (Nat.le_mul_of_pos_left C hR) hRC
        have hg := Lib.hid (fun W => grid_good R C hR hC hRC W)
        have hg2 := Lib.hid (fun W => refGrid_good R C hR hC hRC W)
        have hgl := gridE_length R C hRC
        have hcd := Lib.hid (grid_code hR hC hRC)
        have hge : Hid (Lt.gridE R C = (Lt.gridOf R C).map Lt.toI) := Lib.hid rfl
        have hm : wrap64 ((R : Int) * (C : Int)) = ((R * C : Nat) : Int) := by
          have e : (R : Int) * (C : Int) = ((R * C : Nat) : Int) := by simp
          rw [e]
          generalize R * C = m at *
          unfold wrap64; omega
        generalize R * C = m at *
        generalize Lt.gridE R C = E at *
        generalize Lt.gridOf R C = L at *
        go_wp2_with fail
        refine (hg.out _).mono ?_
        rintro e w1 ⟨v1, rfl, hr1, hb1⟩
        have hp1 := readsP_of_row hr1
        rw [← hge.out] at hp1
        obtain ⟨ad1, cap1, hv1, hc1⟩ := hp1.general
        subst hv1
        have HP1 := Lib.hid hp1
        have HC1 := Lib.hid hc1
        clear hp1 hr1 hc1 hg
        go_wp2_with fail
        refine (hg2.out _).mono ?_
        rintro e w2 ⟨v2, rfl, hr2, hb2⟩
        have hp2 := readsP_of_row hr2
        rw [← hge.out] at hp2
        obtain ⟨ad2, cap2, hv2, hc2⟩ := hp2.general
        subst hv2
        have HC2 := Lib.hid hc2
        have hck := Lib.hid (check_api m _ E w2 hgl (HP1.out.below hb2))
        rw [hcd.out] at hck
        clear hp2 hr2 hc2 hg2 HP1
        have hs1 := hb1.size
        have hs2 := hb2.size
        have hB2 : Below w.heap.size w w2 := hB.trans ((hb1.trans (hb2.mono hs1)).mono hB.size)
        go_wp2_with (go_at_call 18; refine hck.out.mono ?_; rintro e w3 ⟨rfl, hb3⟩)
        obtain ⟨wo, hwo⟩ : ∃ wo : World, wo = w3 := ⟨_, rfl⟩
        subst hwo
        have hs3 := hb3.size
        go_loopw [11] (fun i W => ∃ j : Nat, i = .int .i64 j ∧ j ≤ E.length ∧ Below wo.heap.size wo W)
          (fun i _ => E.length - (intOf i).toNat)
        case atStart => exact ⟨0, rfl, Nat.zero_le _, Below.refl _ _⟩
        case round =>
          obtain ⟨j, rfl, hj, hBl⟩ := hrel
          by_cases hlt2 : j < E.length
          · obtain ⟨g1, o1, rfl, hg1, c11, c12⟩ := HC1.out j hlt2
            obtain ⟨g2, o2, rfl, hg2, c21, c22⟩ := HC2.out j hlt2
            replace c11 := (hBl.cell (p := ⟨g1, o1 + j * 2, none⟩) (show g1 < wo.heap.size by omega)).trans ((hb3.cell (p := ⟨g1, o1 + j * 2, none⟩) (show g1 < w2.heap.size by omega)).trans ((hb2.cell (p := ⟨g1, o1 + j * 2, none⟩) hg1).trans c11))
            replace c12 := (hBl.cell (p := ⟨g1, o1 + j * 2 + 1, none⟩) (show g1 < wo.heap.size by omega)).trans ((hb3.cell (p := ⟨g1, o1 + j * 2 + 1, none⟩) (show g1 < w2.heap.size by omega)).trans ((hb2.cell (p := ⟨g1, o1 + j * 2 + 1, none⟩) hg1).trans c12))
            replace c21 := (hBl.cell (p := ⟨g2, o2 + j * 2, none⟩) (show g2 < wo.heap.size by omega)).trans ((hb3.cell (p := ⟨g2, o2 + j * 2, none⟩) hg2).trans c21)
            replace c22 := (hBl.cell (p := ⟨g2, o2 + j * 2 + 1, none⟩) (show g2 < wo.heap.size by omega)).trans ((hb3.cell (p := ⟨g2, o2 + j * 2 + 1, none⟩) hg2).trans c22)
            generalize (E[j]?.getD (0, 0)).1 = e1 at *
            generalize (E[j]?.getD (0, 0)).2 = e2 at *
            have hgt : Tryd.prog.eqGuardType Tryd.prog.depth 29 = false := by kernel_rfl
            have hEq := fun W => neA e1 e2 e1 e2 W
            simp only [beq_self_eq_true, Bool.and_self, Bool.not_true] at hEq
            go_wp2
            go_quiet (fail)
            go_wp2
            go_roundw
            case rel => exact ⟨j + 1, by go_num, by omega, hBl.trans ⟨rfl, rfl, rfl, Nat.le_refl _, fun _ _ => rfl⟩⟩
            case measure => simp [intOf]; omega
          · have hBe := hB2.trans ((hb3.trans (hBl.mono hs3)).mono hB2.size)
            go_wp2
            go_roundw
            case rel => exact ⟨k + 1, _, _, by go_num, by omega, rfl, rfl, hBe⟩
            case measure => simp [intOf]; omega
    · have haw := Lib.hid (awake_any wr (hT.below hB hw) (by have := hB.size; omega))
      go_wp2_with (go_at_call 19; refine haw.out.mono ?_; rintro e w7 ⟨rfl, hb7⟩)
      go_ret
      exact ⟨rfl, hB.trans (hb7.mono hB.size)⟩

end Go.Proofs.YtdlogklhekopgaaDoor

namespace Go.Proofs.YtdlogklhekopgaaDoor
open Go.RowKit Go.Shelf Go.Proofs
attribute [local go_sem] Oper.semAt_some

theorem same_lists {L M : List Nat} (hl : L.length = M.length) (h : ∀ j, j < L.length → L[j]?.getD 0 = M[j]?.getD 0) : L = M := by
  apply List.ext_getElem? 
  intro j
  by_cases hj : j < L.length
  · have := h j hj
    rw [List.getElem?_eq_getElem hj, List.getElem?_eq_getElem (by omega)] at this ⊢
    simpa using this
  · rw [List.getElem?_eq_none (by omega), List.getElem?_eq_none (by omega)]

set_option maxRecDepth 100000 in
set_option maxHeartbeats 4000000 in
/-- ints -/
theorem ints_any (a1 a2 : Option Addr) (c1 c2 : Nat) (L M : List Nat) (w : World) (hL : Elems w w.heap.size a1 L) (hM : Elems w w.heap.size a2 M) (lL : L.length ≤ 1000) (lM : M.length ≤ 1000) :
    Calls Tryd.prog 24 #[.slice a1 L.length c1, .slice a2 M.length c2] w fun e w' => e = .returned (.bool (decide (L = M))) ∧ Below w.heap.size w w' := by
  have HL := Lib.hid hL
  have HM := Lib.hid hM
  clear hL hM
  by_cases hlen : L.length = M.length
  · have hcr : Hid ((∃ j, j < L.length ∧ L[j]?.getD 0 ≠ M[j]?.getD 0) → decide (L = M) = false) := Lib.hid (by
      rintro ⟨j, _, hne⟩
      simp only [decide_eq_false_iff_not]
      rintro rfl
      exact hne rfl)
    have hcs : Hid ((∀ j, j < L.length → L[j]?.getD 0 = M[j]?.getD 0) → decide (L = M) = true) := Lib.hid (fun h => by simpa using same_lists hlen h)
    generalize decide (L = M) = d at *
    rw [← hlen]
    go_enter Tryd.func24, Tryd.ntmps24
    go_wp2
    go_loopw [5] (fun i W => ∃ k : Nat, i = .int .i64 k ∧ k ≤ L.length ∧ Hid (∀ j, j < k → L[j]?.getD 0 = M[j]?.getD 0) ∧ Below w.heap.size w W)
      (fun i _ => L.length - (intOf i).toNat)
    case atStart => exact ⟨0, rfl, Nat.zero_le _, Lib.hid (fun j hj => by omega), Below.refl _ _⟩
    case round =>
      obtain ⟨k, rfl, hk, hall, hB⟩ := hrel
      by_cases hlt : k < L.length
      · obtain ⟨g1, o1, rfl, hg1, h1⟩ := HL.out k hlt
        obtain ⟨g2, o2, rfl, hg2, h2⟩ := HM.out k (by omega)
        replace h1 := (hB.cell (p := ⟨g1, o1 + k, none⟩) hg1).trans h1
        replace h2 := (hB.cell (p := ⟨g2, o2 + k, none⟩) hg2).trans h2
        by_cases he : L[k]?.getD 0 = M[k]?.getD 0
        · have hn : Hid (∀ j, j < k + 1 → L[j]?.getD 0 = M[j]?.getD 0) := Lib.hid (fun j hj => by
            rcases Nat.lt_succ_iff_lt_or_eq.1 hj with h | rfl
            · exact hall.out j h
            · exact he)
          rw [← he] at h2
          clear hall he
          generalize L[k]?.getD 0 = x at *
          go_wp2
          go_quiet (fail)
          go_wp2
          go_roundw
          case rel => exact ⟨k + 1, by go_num, by omega, hn, hB.trans ⟨rfl, rfl, rfl, Nat.le_refl _, fun _ _ => rfl⟩⟩
          case measure => simp [intOf]; omega
        · have hd := hcr.out ⟨k, hlt, he⟩
          have hne : (((L[k]?.getD 0 : Nat) : Int) == ((M[k]?.getD 0 : Nat) : Int)) = false := by simp; omega
          clear hall hcs hcr he
          generalize L[k]?.getD 0 = x at *
          generalize M[k]?.getD 0 = y at *
          go_wp2
          go_quiet (fail)
          go_wp2
          go_ret
          exact ⟨by rw [hd]; rfl, hB.trans ⟨rfl, rfl, rfl, Nat.le_refl _, fun _ _ => rfl⟩⟩
      · have hd := hcs.out (fun j hj => hall.out j (by omega))
        clear hall hcs hcr
        go_wp2
        go_ret
        exact ⟨by rw [hd]; rfl, hB⟩
  · have hd : decide (L = M) = false := by simp; rintro rfl; exact hlen rfl
    rw [hd]
    have hne : (((L.length : Nat) : Int) == ((M.length : Nat) : Int)) = false := by simp; omega
    go_enter Tryd.func24, Tryd.ntmps24
    go_wp2
    go_ret
    exact ⟨rfl, Below.refl _ _⟩

end Go.Proofs.YtdlogklhekopgaaDoor

namespace Go.Proofs.YtdlogklhekopgaaDoor
open Go.RowKit Go.Shelf Go.Proofs
attribute [local go_sem] Oper.semAt_some

/-- coefficients as numbers -/
def bitsN (p n : Nat) : List Nat := (List.range n).map fun j => (p.testBit j).toNat
theorem bitsN_length (p n : Nat) : (bitsN p n).length = n := by simp [bitsN]
theorem bitsN_at {p n j : Nat} (h : j < n) : (bitsN p n)[j]?.getD 0 = (p.testBit j).toNat := by simp [bitsN, h]

set_option maxRecDepth 100000 in
set_option maxHeartbeats 4000000 in
/-- ref.Powers -/
theorem refPowers_any (ad : Option Addr) (cap p n : Nat) (w : World) (hn : n ≤ 1000) (hp : Elems w w.heap.size ad (bitsN p n)) :
    Calls Tryd.prog 25 #[.slice ad n cap] w fun e w' => ∃ v, e = .returned v ∧ w'.ownsRow w.heap.size 3 1 v (powersTo p n).length (ncells (powersTo p n)) ∧ Below w.heap.size w w' := by
  have HE := Lib.hid hp
  clear hp
  obtain ⟨i0, hi0, hz0, hzs, hzb⟩ := info_parts Tryd.info3
  go_enter Tryd.func25, Tryd.ntmps25
  go_wp2
  go_loopw [3, 4] (fun v i W => ∃ j : Nat, i = .int .i64 j ∧ j ≤ n ∧ Hid (W.ownsRow w.heap.size 3 1 v (powersTo p j).length (ncells (powersTo p j))) ∧ Below w.heap.size w W)
    (fun _ i _ => n - (intOf i).toNat)
  case atStart => exact ⟨0, rfl, Nat.zero_le _, Lib.hid (World.ownsRow_nil _ _ _ _), Below.refl _ _⟩
  case round =>
    obtain ⟨j, rfl, hj, hrow, hB⟩ := hrel
    obtain ⟨a1, n1, c1, hv⟩ := slice_of_row hrow.out
    subst hv
    have hl1 := powersTo_length p j
    by_cases hlt : j < n
    · obtain ⟨g, off, rfl, hgw, hc⟩ := HE.out j (by rw [bitsN_length]; exact hlt)
      rw [bitsN_at hlt] at hc
      replace hc := (hB.cell (p := ⟨g, off + j, none⟩) hgw).trans hc
      have hst := Lib.hid (powersTo_succ p j)
      cases hb : p.testBit j with
      | false =>
        rw [hb] at hc hst
        simp only [Bool.false_eq_true, if_false, List.append_nil] at hst
        simp only [Bool.toNat_false] at hc
        clear hb
        go_wp2
        go_roundw
        case rel => exact ⟨j + 1, by go_num, by omega, Lib.hid (by rw [hst.out]; exact hrow.out), hB⟩
        case measure => simp [intOf]; omega
      | true =>
        rw [hb] at hc hst
        simp only [if_true] at hst
        simp only [Bool.toNat_true] at hc
        clear hb
        have hfl : Hid ((powersTo p (j + 1)).length = (powersTo p j).length + 1 ∧ ncells (powersTo p (j + 1)) = ncells (powersTo p j) ++ [.int .i64 (j : Nat)]) := Lib.hid (by
          rw [hst.out]; exact ⟨by simp, by simp [ncells]⟩)
        clear hst
        go_wp2_with (at_builtin; refine wpList_append_own _ rfl _ _ 36 rfl w.heap.size 3 i0 _ 1 8 Tryd.underlying36 hi0 hz0 hzs hzb rfl (by decide) (.slice a1 n1 c1) (powersTo p j).length (ncells (powersTo p j)) rfl (hrow.out.alloc _) ⟨wr.heap.size, 0, none⟩ 1 1 [.int .i64 j] rfl rfl (cell_one_new _ _ _) (by simp [Value.oneCell']) (by unfold maxLen; omega) (by omega) (by have := hB.size; simp; omega) ?_; intro v' w2 hown' hgrow _; obtain ⟨g', cap', rfl⟩ := ownsRow_succ hown'; have HOWN := Lib.hid hown'; have HB1 : Below w.heap.size w w2 := (hB.alloc hB.size _).grown hgrow (by have := hB.size; simp; omega) (fun k hk => (hrow.out.lt k hk).1); clear hown' hgrow)
        go_roundw
        case rel => exact ⟨j + 1, by go_num, by omega, Lib.hid (by rw [hfl.out.1, hfl.out.2]; exact HOWN.out), HB1⟩
        case measure => simp [intOf]; omega
    · obtain rfl : j = n := by omega
      go_wp2
      go_ret
      exact ⟨_, rfl, hrow.out, hB⟩

end Go.Proofs.YtdlogklhekopgaaDoor

namespace Go.Proofs.YtdlogklhekopgaaDoor
open Go.RowKit Go.Shelf Go.Proofs
attribute [local go_sem] Oper.semAt_some

theorem shr_nat (s j : Nat) : ((s : Nat) : Int) / 2 ^ j = ((s / 2 ^ j : Nat) : Int) := by
  rw [Int.natCast_ediv]; simp
theorem shr_bit (s j : Nat) : ((((s : Nat) : Int) / 2 ^ j).tmod 2 == 1) = s.testBit j := by
  rw [shr_nat, Nat.testBit_eq_decide_div_mod_eq]
  generalize s / 2 ^ j = q
  have h : ((q : Nat) : Int).tmod 2 = ((q % 2 : Nat) : Int) := (Int.ofNat_tmod q 2).symm
  rw [h]
  rcases Nat.mod_two_eq_zero_or_one q with e | e <;> rw [e] <;> rfl

set_option maxRecDepth 100000 in
set_option maxHeartbeats 4000000 in
/-- ref.Effect -/
theorem refEff_any (ad : Option Addr) (cap : Nat) (L : List Nat) (s : Nat) (w : World) (hs : s < 65536) (hL : ∀ x ∈ L, x < 65536) (hl : L.length ≤ 64) (he : Elems w w.heap.size ad L) :
    Calls Tryd.prog 33 #[.slice ad L.length cap, .int .i64 s] w fun e w' => e = .returned (.int .i64 (Lt.eff L s : Nat)) ∧ w' = w := by
  have HE := Lib.hid he
  have HL := Lib.hid hL
  clear he hL
  go_enter Tryd.func33, Tryd.ntmps33
  go_wp2
  go_loopw [5, 6] (fun o i W => ∃ (j a : Nat), i = .int .i64 j ∧ o = .int .i64 a ∧ j ≤ L.length ∧ a < 65536 ∧ Hid (Lt.eff (L.take j) s = a) ∧ W = w)
    (fun _ i _ => L.length - (intOf i).toNat)
  case atStart => exact ⟨0, 0, rfl, rfl, Nat.zero_le _, by decide, Lib.hid (by simp [Lt.eff]), rfl⟩
  case round =>
    obtain ⟨j, a, rfl, rfl, hj, ha, hm, rfl⟩ := hrel
    by_cases hlt : j < L.length
    · obtain ⟨g, off, rfl, hgw, hc⟩ := HE.out j hlt
      have hOj : L[j]?.getD 0 < 65536 := by simp only [List.getElem?_eq_getElem hlt, Option.getD_some]; exact HL.out _ (List.getElem_mem hlt)
      have hxo := Lt.xor_i64 a (L[j]?.getD 0) (by omega) (by omega)
      have hst := Lib.hid (Lt.eff_take L s j)
      have hsb := shr_bit s j
      have hxl : a ^^^ L[j]?.getD 0 < 65536 := Nat.xor_lt_two_pow (n := 16) ha hOj
      generalize L[j]?.getD 0 = x at *
      cases hb : s.testBit j with
      | false =>
        rw [hb] at hsb hst
        simp only [Bool.false_eq_true, if_false, Nat.xor_zero] at hst
        clear hb
        go_wp2
        go_roundw
        case rel => exact ⟨j + 1, a, by go_num, rfl, by omega, ha, Lib.hid (hst.out.trans hm.out), trivial⟩
        case measure => simp [intOf]; omega
      | true =>
        rw [hb] at hsb hst
        simp only [if_true] at hst
        clear hb
        have hst' := Lib.hid (show Lt.eff (L.take (j + 1)) s = a ^^^ x by rw [hst.out, hm.out])
        clear hst hm
        generalize a ^^^ x = y at *
        go_wp2
        go_roundw
        case rel => exact ⟨j + 1, y, by go_num, rfl, by omega, hxl, hst', trivial⟩
        case measure => simp [intOf]; omega
    · have hme : Hid (Lt.eff L s = a) := Lib.hid (by have := hm.out; rwa [List.take_of_length_le (by omega)] at this)
      clear hm
      go_wp2
      go_ret
      exact ⟨by rw [hme.out]; rfl, rfl⟩

/-- the lamps of a set, counted from the first on -/
def sizeTo (s : Nat) : Nat → Nat
  | 0 => 0
  | i + 1 => sizeTo s i + (s / 2 ^ i) % 2
theorem sizeTo_le (s : Nat) : ∀ i, sizeTo s i ≤ i
  | 0 => Nat.le_refl _
  | i + 1 => by have := sizeTo_le s i; rw [sizeTo]; omega
theorem sizeTo_popN (s : Nat) : ∀ i k, sizeTo s i + Lt.popN k (s / 2 ^ i) = Lt.popN (i + k) s
  | 0, k => by simp [sizeTo]
  | i + 1, k => by
    have := sizeTo_popN s i (k + 1)
    rw [sizeTo]
    rw [Lt.popN] at this
    have e : s / 2 ^ i / 2 = s / 2 ^ (i + 1) := by rw [Nat.pow_succ, Nat.div_div_eq_div_mul]
    rw [e] at this
    rw [show i + 1 + k = i + (k + 1) by omega, ← this]; omega
theorem popN_zero : ∀ k, Lt.popN k 0 = 0
  | 0 => rfl
  | k + 1 => by rw [Lt.popN, popN_zero k]
theorem sizeTo_pop {s i : Nat} (hi : i ≤ 64) (h : s / 2 ^ i = 0) : sizeTo s i = Lt.pop s := by
  have := sizeTo_popN s i (64 - i)
  rw [h, popN_zero, show i + (64 - i) = 64 by omega] at this
  exact this

set_option maxRecDepth 100000 in
set_option maxHeartbeats 4000000 in
/-- ref.Size -/
theorem refSize_any (s : Nat) (w : World) (hs : s < 65536) :
    Calls Tryd.prog 41 #[.int .i64 s] w fun e w' => e = .returned (.int .i64 (Lt.pop s : Nat)) ∧ w' = w := by
  go_enter Tryd.func41, Tryd.ntmps41
  go_wp2
  go_loopw [3, 4] (fun o i W => ∃ (j : Nat), i = .int .i64 j ∧ o = .int .i64 (sizeTo s j : Nat) ∧ j ≤ 16 ∧ W = w)
    (fun _ i _ => 16 - (intOf i).toNat)
  case atStart => exact ⟨0, rfl, rfl, by decide, rfl⟩
  case round =>
    obtain ⟨j, rfl, rfl, hj, rfl⟩ := hrel
    have hst := Lib.hid (show sizeTo s (j + 1) = sizeTo s j + (s / 2 ^ j) % 2 from rfl)
    have hle := sizeTo_le s j
    have hend := Lib.hid (sizeTo_pop (s := s) (i := j) (by omega))
    have h16 : j = 16 → s / 2 ^ j = 0 := by rintro rfl; exact Nat.div_eq_of_lt (by simpa using hs)
    have hsh := shr_nat s j
    have hql : s / 2 ^ j < 65536 := Nat.lt_of_le_of_lt (Nat.div_le_self _ _) hs
    generalize sizeTo s j = c at *
    generalize s / 2 ^ j = q at *
    have htm : ((q : Nat) : Int).tmod 2 = ((q % 2 : Nat) : Int) := (Int.ofNat_tmod q 2).symm
    have hm2 : q % 2 < 2 := Nat.mod_lt _ (by decide)
    by_cases hq : 0 < q
    · generalize q % 2 = b at *
      go_wp2
      go_roundw
      case rel => exact ⟨j + 1, by go_num, by rw [hst.out]; simp, by omega, trivial⟩
      case measure => simp [intOf]; omega
    · have hq0 : q = 0 := by omega
      have he := Lib.hid (hend.out hq0)
      subst hq0
      clear hend hst
      go_wp2
      go_ret
      exact ⟨by rw [he.out]; rfl, rfl⟩

end Go.Proofs.YtdlogklhekopgaaDoor

namespace Go.Proofs.YtdlogklhekopgaaDoor
open Go.RowKit Go.Shelf Go.Proofs
attribute [local go_sem] Oper.semAt_some

set_option maxRecDepth 100000 in
set_option maxHeartbeats 4000000 in
/-- ref.top -/
theorem refTop_any (s : Nat) (w : World) (h0 : s ≠ 0) (hs : s < 65536) :
    Calls Tryd.prog 57 #[.int .i64 s] w fun e w' => e = .returned (.int .i64 (s.log2 : Nat)) ∧ w' = w := by
  go_enter Tryd.func57, Tryd.ntmps57
  go_wp2
  go_loopw [3] (fun i W => ∃ (j : Nat), i = .int .i64 j ∧ j ≤ 16 ∧ Hid (j ≤ s.log2) ∧ W = w)
    (fun i _ => 16 - (intOf i).toNat)
  case atStart => exact ⟨0, rfl, by decide, Lib.hid (Nat.zero_le _), rfl⟩
  case round =>
    obtain ⟨j, rfl, hj, hle, rfl⟩ := hrel
    have hsh := shr_nat s j
    have hql : s / 2 ^ j < 65536 := Nat.lt_of_le_of_lt (Nat.div_le_self _ _) hs
    have hup : Hid (1 < s / 2 ^ j → j + 1 ≤ s.log2) := Lib.hid (fun h => by
      have h2 : 2 ≤ s / 2 ^ j := h
      rw [Nat.le_div_iff_mul_le (Nat.two_pow_pos j)] at h2
      exact (Nat.le_log2 h0).2 (by rw [Nat.pow_succ]; omega))
    have hdn : Hid (¬ 1 < s / 2 ^ j → s.log2 = j) := Lib.hid (fun h => by
      have h2 : s / 2 ^ j < 2 := by omega
      rw [Nat.div_lt_iff_lt_mul (Nat.two_pow_pos j)] at h2
      have : s.log2 < j + 1 := (Nat.log2_lt h0).2 (by rw [Nat.pow_succ]; omega)
      have := hle.out
      omega)
    have hl16 : Hid (s.log2 < 16) := Lib.hid ((Nat.log2_lt h0).2 (by simpa using hs))
    generalize s / 2 ^ j = q at *
    by_cases hq : 1 < q
    · have h1 := Lib.hid (hup.out hq)
      clear hup hdn h0
      go_wp2
      go_roundw
      case rel => exact ⟨j + 1, by go_num, by have := h1.out; have := hl16.out; omega, h1, trivial⟩
      case measure => have := h1.out; have := hl16.out; simp [intOf]; omega
    · have h1 := Lib.hid (hdn.out hq)
      clear hup hdn h0
      go_wp2
      go_ret
      exact ⟨by rw [h1.out]; rfl, rfl⟩

theorem u64_mod (x : Int) (m : Nat) (h0 : 0 < m) (hm : m ≤ 65536) : ∃ r : Nat, (IntKind.u64.wrap x).tmod ((m : Nat) : Int) = (r : Int) ∧ r < m := by
  rw [IntKind.wrap_u64]
  have h1 : 0 ≤ x % 18446744073709551616 := Int.emod_nonneg _ (by decide)
  rw [Int.tmod_eq_emod_of_nonneg h1]
  have h2 : 0 ≤ x % 18446744073709551616 % (m : Int) := Int.emod_nonneg _ (by omega)
  have h3 : x % 18446744073709551616 % (m : Int) < m := Int.emod_lt_of_pos _ (by omega)
  exact ⟨(x % 18446744073709551616 % (m : Int)).toNat, by omega, by omega⟩

set_option maxRecDepth 100000 in
set_option maxHeartbeats 4000000 in
/-- set -/
theorem set_any (x : Int) (n : Nat) (w : World) (hn : n ≤ 16) :
    Calls Tryd.prog 31 #[.int .i64 x, .int .i64 n] w fun e w' => ∃ S : Nat, e = .returned (.int .i64 S) ∧ S < 2 ^ n ∧ w' = w := by
  have hp : 2 ^ n ≤ 65536 := Nat.le_trans (Nat.pow_le_pow_right (by decide) hn) (by decide)
  have hp0 := Nat.two_pow_pos n
  have hwp : IntKind.u64.wrap ((2 : Int) ^ n) = ((2 ^ n : Nat) : Int) := by
    have e : ((2 : Int) ^ n) = ((2 ^ n : Nat) : Int) := by simp
    rw [e]; exact Lt.wrap_u64_nat _ (by omega)
  generalize 2 ^ n = m at *
  obtain ⟨r, hr, hrl⟩ := u64_mod x m hp0 hp
  clear hp0
  have hm0 : (((m : Nat) : Int) == 0) = false := by simp; omega
  go_enter Tryd.func31, Tryd.ntmps31
  go_wp2
  go_ret
  exact ⟨r, by go_num, hrl, rfl⟩

end Go.Proofs.YtdlogklhekopgaaDoor
