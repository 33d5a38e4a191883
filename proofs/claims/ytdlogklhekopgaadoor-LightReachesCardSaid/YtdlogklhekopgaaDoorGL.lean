/- Contracts of the program's functions: a part of the proof. -/
import Derived.Test.YtdlogklhekopgaaDoorGK
import Derived.Test.YtdlogklhekopgaaDoorPA
import Derived.Deep.DeepCutAuto
import Derived.BigRegion
set_option linter.unusedVariables false
set_option linter.unusedSimpArgs false

namespace Go.Proofs.YtdlogklhekopgaaDoor
open Go.RowKit Go.Shelf Go.Proofs
attribute [local go_sem] Oper.semAt_some

theorem make_ints (n : Nat) (hn : n ≤ 100000) (W : World) : Sem.run Tryd.prog (Instr.makeSlice 36 (.int .i64 (n : Int)) (.int .i64 (n : Int))) W = .ok (.slice (some ⟨W.heap.size, 0, none⟩) n n) (W.alloc (.cells (List.replicate n (Value.int .i64 0)).toArray 3)) := by
  obtain ⟨i0, hi0, hz0, hzs, hzb⟩ := info_parts Tryd.info3
  have h := run_make W 36 3 i0 _ Tryd.underlying36 hi0 hz0 .i64 .i64 n n (by omega) (by omega) (by rw [hzb]; omega) (by omega)
  rw [h, hzs]
  have e : (madeCells (Value.int .i64 0).cells ((n : Int).toNat * 1)) = (List.replicate n (Value.int .i64 0)).toArray := by
    apply Array.ext'
    rw [Int.toNat_natCast, Nat.mul_one]
    exact toList_madeCells_one (.int .i64 0) n
  rw [e]
  simp

/-- a row of the call's own, its whole length -/
theorem owns_row3 {w : World} {base g n : Nat} {cs : List Value} (hb : base ≤ g) (hn : n ≤ maxLen) (hl : cs.length = n) (h : w.heap[g]? = some (.cells cs.toArray 3 (0, 0))) : w.ownsRow base 3 1 (.slice (some ⟨g, 0, none⟩) n n) n cs :=
  ⟨by omega, .inr ⟨g, n, cs.toArray, rfl, hb, h, Nat.le_refl _, hn, by simp [hl], by rw [Nat.mul_one, ← hl]; exact List.take_length⟩⟩
theorem owns_made (w : World) (base n : Nat) (hb : base ≤ w.heap.size) (hn : n ≤ maxLen) : (w.alloc (.cells (List.replicate n (Value.int .i64 0)).toArray 3)).ownsRow base 3 1 (.slice (some ⟨w.heap.size, 0, none⟩) n n) n (ncells (List.replicate n 0)) :=
  owns_row3 hb hn (by simp [ncells]) (by
    have e : ncells (List.replicate n 0) = List.replicate n (Value.int .i64 0) := by simp [ncells]
    rw [e]; exact World.alloc_heap_new w _)

theorem elems_of_own {w : World} {base g n cap : Nat} {L : List Nat} (h : w.ownsRow base 3 1 (.slice (some ⟨g, 0, none⟩) n cap) n (ncells L)) (hl : L.length = n) : Elems w w.heap.size (some ⟨g, 0, none⟩) L := by
  subst hl
  obtain ⟨ad, cap', e, hE⟩ := elems_of_row h
  obtain ⟨rfl, rfl⟩ : some ⟨g, 0, none⟩ = ad ∧ cap = cap' := by simpa using e
  exact hE
theorem Elems.up {w : World} {n₀ n₁ : Nat} {ad : Option Addr} {L : List Nat} (h : Elems w n₀ ad L) (hn : n₀ ≤ n₁) : Elems w n₁ ad L := fun j hj => by
  obtain ⟨g, off, e, hg, hc⟩ := h j hj
  exact ⟨g, off, e, by omega, hc⟩
theorem Elems.go {w w' : World} {ad : Option Addr} {L : List Nat} (h : Elems w w.heap.size ad L) (hb : Below w.heap.size w w') : Elems w' w'.heap.size ad L := (h.below hb (Nat.le_refl _)).up hb.size

/-- the first m coefficients, and nothing behind -/
def bitsTo (p n m : Nat) : List Nat := (List.range n).map fun j => if j < m then (p.testBit j).toNat else 0
theorem bitsTo_length (p n m : Nat) : (bitsTo p n m).length = n := by simp [bitsTo]
theorem bitsTo_zero (p n : Nat) : bitsTo p n 0 = List.replicate n 0 := by
  unfold bitsTo
  apply List.ext_getElem?
  intro j
  simp [List.getElem?_replicate]
  split <;> simp_all
theorem bitsTo_full (p n : Nat) : bitsTo p n n = bitsN p n := by
  unfold bitsTo bitsN
  exact List.map_congr_left fun j hj => by rw [if_pos (List.mem_range.1 hj)]
theorem bitsTo_set {p n m x y : Nat} (hm : m < n) (hy : y = (p.testBit m).toNat) : ((bitsTo p n m).set m x).set m y = bitsTo p n (m + 1) := by
  subst hy
  rw [List.set_set]
  apply List.ext_getElem?
  intro j
  rw [List.getElem?_set]
  unfold bitsTo
  by_cases e : m = j
  · subst e; simp [hm]
  · rw [if_neg e]
    by_cases hj : j < n
    · have : (j < m) ↔ (j < m + 1) := by omega
      simp [hj, this]
    · simp [hj]
theorem bitsTo_set1 {p n m y : Nat} (hm : m < n) (hy : y = (p.testBit m).toNat) : (bitsTo p n m).set m y = bitsTo p n (m + 1) := by
  rw [← bitsTo_set (x := y) hm hy, List.set_set]

theorem xor_mod2 (a b : Bool) : ((((a.toNat : Nat) : Int) + ((b.toNat : Nat) : Int)).tmod 2) = (((a ^^ b).toNat : Nat) : Int) := by cases a <;> cases b <;> rfl

set_option maxRecDepth 100000 in
set_option maxHeartbeats 4000000 in
/-- ref.Polynomial -/
theorem refPoly_any (k : Nat) (hk : k ≤ 200) (w : World) :
    Calls Tryd.prog 26 #[.int .i64 k] w fun e w' => ∃ ad cap, e = .returned (.slice ad (k + 2 : Nat) cap) ∧ Elems w' w'.heap.size ad (bitsN (Lt.pathOf false k) (k + 2)) ∧ Below w.heap.size w w' := by
  have hwr : IntKind.i64.wrap ((k : Int) + 2) = ((k + 2 : Nat) : Int) := by rw [IntKind.wrap_i64]; omega
  have hwr2 : (k : Int) + 2 = ((k + 2 : Nat) : Int) := by omega
  have hmk := make_ints (k + 2) (by omega)
  have hkn : k + 2 ≤ 202 := by omega
  have hn2 : 2 ≤ k + 2 := by omega
  have hkn2 : k < k + 2 := by omega
  have hown0 := Lib.hid (fun W => owns_made W w.heap.size (k + 2))
  have hownG := Lib.hid (fun W => owns_made W W.heap.size (k + 2) (Nat.le_refl _))
  generalize hn : k + 2 = n at *
  generalize hZ : (List.replicate n (Value.int IntKind.i64 0)).toArray = Z at *
  clear hZ hn
  go_enter Tryd.func26, Tryd.ntmps26
  go_wp2
  go_cut [3, 4] (fun x y W => ∃ g1 g2 : Nat, x = .slice (some ⟨g1, 0, none⟩) n n ∧ y = .slice (some ⟨g2, 0, none⟩) n n ∧ g1 ≠ g2 ∧
    Hid (W.ownsRow w.heap.size 3 1 (.slice (some ⟨g1, 0, none⟩) n n) n (ncells (List.replicate n 0))) ∧ Hid (W.ownsRow w.heap.size 3 1 (.slice (some ⟨g2, 0, none⟩) n n) n (ncells (List.replicate n 0))) ∧ Below w.heap.size w W)
  case first =>
    go_region
    all_goals go_wp2
    all_goals go_meet
    all_goals (
      have hm : n ≤ maxLen := by unfold maxLen; omega
      have a1 := (hown0.out w (Nat.le_refl _) hm)
      have a2 := (hown0.out (w.alloc (.cells Z 3)) (by simp) hm)
      have hB : Below w.heap.size w ((w.alloc (.cells Z 3)).alloc (.cells Z 3)).drew := (((Below.refl _ w).alloc (Nat.le_refl _) _).alloc (by simp) _).drew
      have e2 : (w.alloc (.cells Z 3)).heap.size = w.heap.size + 1 := by simp
      rw [e2] at a2
      first
        | exact ⟨w.heap.size + 1, w.heap.size, rfl, rfl, by omega, Lib.hid a2.drew, Lib.hid (a1.alloc _).drew, hB⟩
        | exact ⟨w.heap.size, w.heap.size + 1, rfl, rfl, by omega, Lib.hid (a1.alloc _).drew, Lib.hid a2.drew, hB⟩)
  case rest =>
    obtain ⟨g1, g2, rfl, rfl, hne, h1, h2, hB⟩ := hcut
    obtain ⟨hs1, -⟩ := h2.out.stored 0 (.int .i64 1)
    have hs2 := ownsRow_setCell_other h1.out (a := ⟨g2, 0, none⟩) (by simp [Value.ownBlock]; exact hne) (.int .i64 1)
    have hB1 : Below w.heap.size w (wc.setCell ⟨g2, 0, none⟩ (.int .i64 1)) := hB.setCell (p := ⟨g2, 0, none⟩) ((h2.out.lt g2 rfl).1) _
    have hc0 := h2.out.cellAt 0 (by omega)
    have hf0 := h2.out.frozenAt 0
    have e0 : (ncells (List.replicate n 0))[0]? = some (.int .i64 0) := by rw [ncells, List.map_replicate, List.getElem?_replicate, if_pos (by omega)]; rfl
    rw [e0] at hc0
    have f0 : ncells (List.replicate n 0) = ncells (bitsN (Lt.pathOf false 0) n) := by
      rw [← bitsTo_zero (Lt.pathOf false 0) n]; congr 1
      unfold bitsTo bitsN
      exact List.map_congr_left fun j _ => by rw [if_neg (by omega), Lt.pathOf_zero]; simp
    have f1 : (ncells (List.replicate n 0)).set 0 (.int .i64 1) = ncells (bitsN (Lt.pathOf false 1) n) := by
      rw [show (Value.int IntKind.i64 1) = .int .i64 ((1 : Nat) : Int) from rfl, ncells_set]; congr 1
      apply List.ext_getElem?
      intro j
      rw [List.getElem?_set, Lt.pathOf_one]
      unfold bitsN
      by_cases e : 0 = j
      · subst e; have h0n : 0 < n := by omega
        simp [h0n]
      · by_cases hj : j < n
        · have hb : Nat.testBit 1 j = false := by
            have := Nat.testBit_two_pow (n := 0) (m := j)
            rw [Nat.pow_zero] at this
            rw [this]; simp; omega
          simp [e, hj, hb]
        · simp [e, hj]
    rw [f1] at hs1
    rw [f0] at hs2
    have E1 := Lib.hid (elems_of_own hs2 (bitsN_length _ _))
    have E2 := Lib.hid (elems_of_own hs1 (bitsN_length _ _))
    clear hs1 hs2 e0 f0 f1 h1 h2 hB hown0
    obtain ⟨wa, hwa⟩ : ∃ wa, wa = wc.setCell ⟨g2, 0, none⟩ (.int .i64 1) := ⟨_, rfl⟩
    rw [← hwa] at E1 E2 hB1
    by_cases hk0 : k = 0
    · subst hk0
      go_wp2
      rw [← hwa]
      go_ret
      exact ⟨_, _, rfl, E1.out, hB1⟩
    · have hkt : (((k : Nat) : Int) == 0) = false := by simpa using hk0
      go_wp2
      rw [← hwa]
      clear hwa hc0 hf0
      go_loopw [3, 4, 5] (fun x y i W => ∃ (j : Nat) (a1 a2 : Option Addr), i = .int .i64 ((j : Nat) + 1) ∧ x = .slice a1 n n ∧ y = .slice a2 n n ∧ j + 1 ≤ k ∧
          Hid (Elems W W.heap.size a1 (bitsN (Lt.pathOf false j) n)) ∧ Hid (Elems W W.heap.size a2 (bitsN (Lt.pathOf false (j + 1)) n)) ∧ Below w.heap.size w W)
        (fun _ _ i _ => k - (intOf i).toNat)
      case atStart => exact ⟨0, _, _, rfl, rfl, rfl, by omega, E1, E2, hB1⟩
      case round =>
        clear E1 E2 hB1 hne
        obtain ⟨j, a1, a2, rfl, rfl, rfl, hj, H1, H2, hB⟩ := hrel
        by_cases hlt : j + 1 < k
        · have hltI : ((j : Nat) : Int) + 1 < (k : Int) := by omega
          have hst := Lib.hid (Lt.pathOf_step false j)
          have hR0 := Lib.hid (hownG.out wr (by unfold maxLen; omega))
          have hmk' := hmk wr
          have HE1 := Lib.hid (fun W (hb : Below wr.heap.size wr W) => H1.out.below hb (Nat.le_refl _))
          have HE2 := Lib.hid (fun W (hb : Below wr.heap.size wr W) => H2.out.below hb (Nat.le_refl _))
          have hB00 : Below wr.heap.size wr (wr.alloc (.cells Z 3)) := (Below.refl _ wr).alloc (Nat.le_refl _) _
          clear H1 H2 hmk'
          go_wp2
          obtain ⟨wo, rfl⟩ : ∃ wo : World, wo = wr := ⟨_, rfl⟩
          go_loopw [7] (fun i W => ∃ (m : Nat), i = .int .i64 m ∧ m ≤ n ∧ Hid (W.ownsRow wo.heap.size 3 1 (.slice (some ⟨wo.heap.size, 0, none⟩) n n) n (ncells (bitsTo (Lt.pathOf false (j + 2)) n m))) ∧ Below wo.heap.size wo W)
            (fun i _ => n - (intOf i).toNat)
          case atStart => exact ⟨0, rfl, Nat.zero_le _, Lib.hid (by rw [bitsTo_zero]; exact hR0.out), hB00⟩
          case round =>
            obtain ⟨m, rfl, hm, hrow, hBm⟩ := hrel
            by_cases hmn : m < n
            · obtain ⟨g1, o1, rfl, hg1, hc1⟩ := (HE1.out wr hBm) m (by rw [bitsN_length]; exact hmn)
              rw [bitsN_at hmn] at hc1
              have hcell := hrow.out.cellAt m (by omega)
              have hfz := hrow.out.frozenAt m
              have hold : ∃ v, (ncells (bitsTo (Lt.pathOf false (j + 2)) n m))[m]? = some v := ⟨_, List.getElem?_eq_getElem (by rw [ncells_length, bitsTo_length]; exact hmn)⟩
              obtain ⟨v0, hv0⟩ := hold
              rw [hv0] at hcell
              clear hv0
              have hs := (hrow.out.stored m (.int .i64 (((Lt.pathOf false j).testBit m).toNat : Nat))).1
              have hBs := hBm.setCell (p := ⟨wo.heap.size, m, none⟩) (Nat.le_refl _) (.int .i64 (((Lt.pathOf false j).testBit m).toNat : Nat))
              by_cases hm0 : m = 0
              · have hm0I : ¬ (0 : Int) < (m : Int) := by omega
                rw [ncells_set, bitsTo_set1 hmn (by rw [hst.out, hm0]; simp only [Bool.false_eq_true, if_false]; rw [Lt.psum_bit]; simp)] at hs
                have HS := Lib.hid hs
                clear hs hrow hm0
                generalize ((Lt.pathOf false j).testBit m).toNat = x at *
                go_wp2
                go_roundw
                case rel => exact ⟨m + 1, by go_num, by omega, HS, hBs⟩
                case measure => simp [intOf]; omega
              · have hm0I : (0 : Int) < (m : Int) := by omega
                obtain ⟨q, hq⟩ : ∃ q, m = q + 1 := ⟨m - 1, by omega⟩
                have hwm : IntKind.i64.wrap ((m : Int) - 1) = (q : Int) := by rw [IntKind.wrap_i64]; omega
                have hbit : Hid ((((Lt.pathOf false (j + 2)).testBit m).toNat : Nat) = ((Lt.pathOf false j).testBit m ^^ (Lt.pathOf false (j + 1)).testBit q).toNat) := Lib.hid (by
                  rw [hst.out, hq]; simp only [Bool.false_eq_true, if_false]; rw [Lt.psum_bit]; simp)
                have hxm := xor_mod2 ((Lt.pathOf false j).testBit m) ((Lt.pathOf false (j + 1)).testBit q)
                obtain ⟨g3, o3, he3, hg3, hc3⟩ := (HE2.out _ hBs) q (by rw [bitsN_length]; omega)
                subst he3
                rw [bitsN_at (by omega)] at hc3
                have hc1' := (hBs.cell (p := ⟨g1, o1 + m, none⟩) hg1).trans ((hBm.cell (p := ⟨g1, o1 + m, none⟩) hg1).symm.trans hc1)
                have hf2 := hs.frozenAt m
                have hcc2 := hs.cellAt m (by omega)
                rw [List.getElem?_set_self (by rw [ncells_length, bitsTo_length]; exact hmn)] at hcc2
                have hs3 := (hs.stored m (.int .i64 (((Lt.pathOf false (j + 2)).testBit m).toNat : Nat))).1
                rw [ncells_set, ncells_set, bitsTo_set hmn rfl] at hs3
                have HS := Lib.hid hs3
                have hBs3 := hBs.setCell (p := ⟨wo.heap.size, m, none⟩) (Nat.le_refl _) (.int .i64 (((Lt.pathOf false (j + 2)).testBit m).toNat : Nat))
                rw [hbit.out] at HS hBs3
                have hqn : q < n := by omega
                have hx1 : ((Lt.pathOf false j).testBit m).toNat ≤ 1 := Bool.toNat_le _
                have hy1 : ((Lt.pathOf false (j + 1)).testBit q).toNat ≤ 1 := Bool.toNat_le _
                clear hs hrow hm0 hs3 hbit hq hst
                generalize ((Lt.pathOf false j).testBit m ^^ (Lt.pathOf false (j + 1)).testBit q).toNat = z at *
                generalize ((Lt.pathOf false j).testBit m).toNat = x at *
                generalize ((Lt.pathOf false (j + 1)).testBit q).toNat = y at *
                have hxw : Hid ((wrap64 ((x : Int) + (y : Int))).tmod 2 = (z : Int)) := Lib.hid (by
                  rw [← hxm]; congr 1; unfold wrap64; omega)
                obtain ⟨W2, hW2⟩ : ∃ W2, W2 = wr.setCell ⟨wo.heap.size, m, none⟩ (.int .i64 (x : Nat)) := ⟨_, rfl⟩
                go_wp2
                rw [← hW2]
                rw [← hW2] at hc3 hc1' hf2 hcc2 HS hBs3 hBs
                clear hW2
                go_region
                go_wp2
                go_roundw
                case rel => exact ⟨m + 1, by go_num, by omega, Lib.hid HS.out.drew, hBs3.drew⟩
                case measure => simp [intOf]; omega
            · obtain rfl : m = n := by omega
              rw [bitsTo_full] at hrow
              have HN := Lib.hid (elems_of_own hrow.out (bitsN_length _ _))
              have HO := Lib.hid ((HE2.out wr hBm).up hBm.size)
              have hBB := hB.trans (hBm.mono hB.size)
              go_wp2
              go_roundw
              case rel => exact ⟨j + 1, _, _, by go_num, rfl, rfl, by omega, HO, HN, hBB⟩
              case measure => simp [intOf]; omega
        · obtain rfl : k = j + 1 := by omega
          go_wp2
          go_ret
          exact ⟨_, _, rfl, H2.out, hB⟩

end Go.Proofs.YtdlogklhekopgaaDoor

namespace Go.Proofs.YtdlogklhekopgaaDoor
open Go.RowKit Go.Shelf Go.Proofs
attribute [local go_sem] Oper.semAt_some

theorem powersTo_more {p : Nat} : ∀ d, powersTo p (Lt.plen p + d) = powersTo p (Lt.plen p)
  | 0 => rfl
  | d + 1 => by
    rw [← Nat.add_assoc, powersTo_succ, powersTo_more d, Lt.bit_plen (by omega)]
    simp
theorem powersOf_two (k : Nat) : powersTo (Lt.pathOf false k) (k + 2) = powersOf k := by
  have h := Lt.pathOf_plen false k
  have := powersTo_more (p := Lt.pathOf false k) (k + 2 - Lt.plen (Lt.pathOf false k))
  rw [show Lt.plen (Lt.pathOf false k) + (k + 2 - Lt.plen (Lt.pathOf false k)) = k + 2 by omega] at this
  exact this

theorem powersOf_length (k : Nat) : (powersOf k).length ≤ k := by
  unfold powersOf
  have h1 := powersTo_length (Lt.pathOf false k) (Lt.plen (Lt.pathOf false k))
  have h2 := Lt.pathOf_plen false k
  omega

/-- ref.Powers of ref.Polynomial's result -/
theorem refPowers_poly (ad : Option Addr) (cap k : Nat) (hk : k ≤ 200) (w : World) (hp : Elems w w.heap.size ad (bitsN (Lt.pathOf false k) (k + 2))) :
    Calls Tryd.prog 25 #[.slice ad (k + 2 : Nat) cap] w fun e w' => ∃ ad' cap', e = .returned (.slice ad' (powersOf k).length cap') ∧ Elems w' w'.heap.size ad' (powersOf k) ∧ Below w.heap.size w w' := by
  refine (refPowers_any ad cap (Lt.pathOf false k) (k + 2) w (by omega) hp).mono ?_
  rintro e w' ⟨v, rfl, hr, hb⟩
  rw [powersOf_two] at hr
  obtain ⟨ad', cap', rfl, hE⟩ := elems_of_row hr
  exact ⟨ad', cap', rfl, hE, hb⟩
theorem poly_elems (k : Nat) (hk : k ≤ 200) (w : World) :
    Calls Tryd.prog 23 #[.int .i64 k] w fun e w' => ∃ ad cap, e = .returned (.tuple #[.slice ad (powersOf k).length cap, .int .i64 0]) ∧ Elems w' w'.heap.size ad (powersOf k) ∧ Below w.heap.size w w' := by
  refine (polynomial_good k hk w).mono ?_
  rintro e w' ⟨v, rfl, hr, hb⟩
  obtain ⟨ad', cap', rfl, hE⟩ := elems_of_row hr
  exact ⟨ad', cap', rfl, hE, hb⟩

set_option maxRecDepth 100000 in
set_option maxHeartbeats 8000000 in
theorem lightPolynomials_any (k : Int) (w : World) (hT : Tab w) (hw : 1 < w.heap.size) : Calls Tryd.prog 5 #[.int .i64 k] w fun e w' => e = .returned (.bool true) ∧ Below w.heap.size w w' := by
  go_enter Tryd.func5, Tryd.ntmps5
  go_wp2
  go_loopw [0, 3] (fun x i W => ∃ (j : Nat) (r : Int), i = .int .i64 j ∧ j ≤ 2 ∧ x = .int .i64 r ∧ Below w.heap.size w W)
    (fun _ i _ => 2 - (intOf i).toNat)
  case atStart => exact ⟨0, k, rfl, by omega, rfl, Below.refl _ _⟩
  case round =>
    clear k
    obtain ⟨j, k, rfl, hj, rfl, hB⟩ := hrel
    by_cases hlt : j < 2
    · obtain ⟨z, hz, hz2⟩ := u64_mod k 201 (by decide) (by decide)
      by_cases hbad : k < 0 ∨ 200 < k
      · have hg := Lib.hid (fun W => polynomial_bad k hbad W)
        go_wp2_with fail
        refine (hg.out _).mono ?_
        rintro e w1 ⟨rfl, rfl⟩
        clear hg
        rcases (show k < 0 ∨ (0 ≤ k ∧ 200 < k) by omega) with h1 | ⟨h1, h2⟩
        · go_wp2
          go_roundw
          case rel => exact ⟨j + 1, _, by go_num, by omega, rfl, hB⟩
          case measure => simp [intOf]; omega
        · go_wp2
          go_roundw
          case rel => exact ⟨j + 1, _, by go_num, by omega, rfl, hB⟩
          case measure => simp [intOf]; omega
      · obtain ⟨K, rfl⟩ : ∃ K : Nat, k = K := ⟨k.toNat, by omega⟩
        have hK : K ≤ 200 := by omega
        have hg := Lib.hid (fun W => poly_elems K hK W)
        have hr1 := Lib.hid (fun W => refPoly_any K hK W)
        have hr2 := Lib.hid (fun ad cap W => refPowers_poly ad cap K hK W)
        have hlen := powersOf_length K
        have hint := Lib.hid (fun a1 a2 c1 c2 W h1 h2 => ints_any a1 a2 c1 c2 (powersOf K) (powersOf K) W h1 h2 (by omega) (by omega))
        simp only [decide_true] at hint
        generalize powersOf K = P at *
        clear hbad
        go_wp2_with fail
        refine (hg.out _).mono ?_
        rintro e w1 ⟨a1, c1, rfl, hE1, hb1⟩
        have HE1 := Lib.hid hE1
        clear hE1 hg
        go_wp2_with fail
        refine (hr1.out _).mono ?_
        rintro e w2 ⟨a2, c2, rfl, hE2, hb2⟩
        have hr2' := Lib.hid (hr2.out a2 c2 w2 hE2)
        clear hE2 hr1 hr2
        go_wp2_with fail
        refine hr2'.out.mono ?_
        rintro e w3 ⟨a3, c3, rfl, hE3, hb3⟩
        have hint' := Lib.hid (hint.out a1 a3 c1 c3 w3 ((HE1.out.go hb2).go hb3) hE3)
        have hB3 := ((hB.trans (hb1.mono hB.size)).trans (hb2.mono (by have := hB.size; have := hb1.size; omega))).trans (hb3.mono (by have := hB.size; have := hb1.size; have := hb2.size; omega))
        clear hE3 hr2' hint HE1 hb1 hb2 hb3
        go_wp2_with fail
        refine hint'.out.mono ?_
        rintro e w4 ⟨rfl, hb4⟩
        have hB4 := hB3.trans (hb4.mono hB3.size)
        clear hint' hB3 hb4
        go_wp2
        go_roundw
        case rel => exact ⟨j + 1, _, by go_num, by omega, rfl, hB4⟩
        case measure => simp [intOf]; omega
    · have haw := Lib.hid (awake_any wr (hT.below hB hw) (by have := hB.size; omega))
      go_wp2_with (go_at_call 19; refine haw.out.mono ?_; rintro e w7 ⟨rfl, hb7⟩)
      go_ret
      exact ⟨rfl, hB.trans (hb7.mono hB.size)⟩

end Go.Proofs.YtdlogklhekopgaaDoor
