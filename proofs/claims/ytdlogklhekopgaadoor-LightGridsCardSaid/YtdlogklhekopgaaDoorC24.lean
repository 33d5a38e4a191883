/- Contracts of the program's functions: part C24 of the proof. -/
import Derived.Test.YtdlogklhekopgaaDoorC23
set_option linter.unusedVariables false
set_option linter.unusedSimpArgs false
namespace Go.Proofs.YtdlogklhekopgaaDoor
open Go.RowKit Go.Shelf Go.Proofs
attribute [local go_sem] Oper.semAt_some

def vlen : Value → Nat
  | .slice _ n _ => n
  | _ => 0
theorem Poly.vlen {w : World} {n₀ : Nat} {v : Value} {p : Nat} (h : Poly w n₀ v p) : vlen v = Lt.plen p := by
  obtain ⟨ad, cap, rfl, _⟩ := h; rfl
theorem Poly.form {w : World} {n₀ : Nat} {v : Value} {p : Nat} (h : Poly w n₀ v p) : ∃ ad cap, v = .slice ad (Lt.plen p) cap := by
  obtain ⟨ad, cap, rfl, _⟩ := h; exact ⟨_, _, rfl⟩

set_option maxRecDepth 100000 in
set_option maxHeartbeats 4000000 in
/-- common -/
theorem common_any (v1 v2 : Value) (p q : Nat) (w : World) (hp : Poly w w.heap.size v1 p) (hq : Poly w w.heap.size v2 q) (lp : Lt.plen p ≤ 500) (lq : Lt.plen q ≤ 500) :
    Calls Tryd.prog 50 #[v1, v2] w fun e w' => ∃ v, e = .returned v ∧ Poly w' w'.heap.size v (Lt.gcdP p q) ∧ Below w.heap.size w w' := by
  have HP := Lib.hid hp
  have HQ := Lib.hid hq
  clear hp hq
  go_enter Tryd.func50, Tryd.ntmps50
  go_wp2
  go_loopw [0, 1] (fun v1 v2 W => ∃ (a b : Nat), Hid (Lt.gcdP a b = Lt.gcdP p q) ∧ Lt.plen a ≤ 500 ∧ Lt.plen b ≤ 500 ∧ Hid (Poly W W.heap.size v1 a) ∧ Hid (Poly W W.heap.size v2 b) ∧ Below w.heap.size w W)
    (fun _ v2 _ => vlen v2)
  case atStart => exact ⟨p, q, Lib.hid rfl, lp, lq, HP, HQ, Below.refl _ _⟩
  case round =>
    obtain ⟨a, b, hg, la, lb, hpa, hpb, hB⟩ := hrel
    obtain ⟨ad2, cap2, hv2⟩ := hpb.out.form
    subst hv2
    by_cases hb0 : b = 0
    · subst hb0
      have hl : Lt.plen 0 = 0 := rfl
      rw [hl] at hpb ⊢
      go_wp2
      go_ret
      exact ⟨_, rfl, by rw [← hg.out]; exact hpa.out, hB⟩
    · have hbp : 0 < Lt.plen b := by unfold Lt.plen; rw [if_neg hb0]; omega
      obtain ⟨wo, hwo⟩ : ∃ wo : World, wo = wr := ⟨_, rfl⟩
      subst hwo
      have hrm := Lib.hid (Lt.rem_plen (a := a) hb0)
      have hgs := Lib.hid (Lt.gcdP_step (a := a) hb0)
      go_wp2
      go_loopw [0] (fun v1 W => ∃ (c : Nat), Hid (Lt.rem c b = Lt.rem a b) ∧ Lt.plen c ≤ 500 ∧ Hid (Poly W W.heap.size v1 c) ∧ Below wo.heap.size wo W)
        (fun v1 _ => vlen v1)
      case atStart => exact ⟨a, Lib.hid rfl, la, hpa, Below.refl _ _⟩
      case round =>
        obtain ⟨c, hr, lc, hpc, hBc⟩ := hrel
        obtain ⟨ad1, cap1, hv1⟩ := hpc.out.form
        subst hv1
        by_cases hle : Lt.plen b ≤ Lt.plen c
        · have hs1 := Lib.hid (sum_any _ _ _ _ (Lt.plen c - Lt.plen b) wr hpc.out ((hpb.out.below hBc (Nat.le_refl _)).up hBc.size) (by omega) (by omega) (by omega))
          have hstep := Lib.hid (Lt.rem_step hb0 hle)
          have hless := Lt.psum_less hb0 hle
          have hsub : ((Lt.plen c : Nat) : Int) - ((Lt.plen b : Nat) : Int) = ((Lt.plen c - Lt.plen b : Nat) : Int) := by omega
          generalize Lt.psum c b (Lt.plen c - Lt.plen b) = d at *
          generalize Lt.plen c - Lt.plen b = dd at *
          go_wp2_with fail
          refine hs1.out.mono ?_
          rintro e w1 ⟨v, rfl, hp3, hb1⟩
          obtain ⟨ad3, cap3, hv3⟩ := hp3.form
          subst hv3
          have hp3' := Lib.hid hp3
          clear hp3 hs1
          go_wp2
          go_roundw
          case rel => exact ⟨d, Lib.hid (hstep.out.symm.trans hr.out), by omega, hp3', hBc.trans (hb1.mono hBc.size)⟩
          case measure => simp [vlen]; omega
        · have hrem := Lib.hid (Lt.rem_end (show Lt.plen c < Lt.plen b by omega))
          have hcr : c = Lt.rem a b := by rw [← hr.out, hrem.out]
          have hlc : Lt.plen c < Lt.plen b := by omega
          clear hrem hr hrm
          rw [← hcr] at hgs
          clear hcr
          go_wp2
          go_roundw
          case rel => exact ⟨b, c, Lib.hid (hgs.out.symm.trans hg.out), lb, lc, Lib.hid ((hpb.out.below hBc (Nat.le_refl _)).up hBc.size), hpc, hB.trans (hBc.mono hB.size)⟩
          case measure => simp [vlen]; omega

/-- the number of sets in the quiet basis of a grid -/
def gridQ (r c : Nat) (own : Bool) : Int := ((Lt.plen (Lt.gcdP (Lt.pathOf own (r + 1)) (Lt.pathOf false (c + 1))) : Nat) : Int) - 1

/-- the sides of a grid for GridQuiet -/
def sidesOk (r c : Int) : Bool := decide (1 ≤ r) && decide (1 ≤ c) && decide (r ≤ 60) && decide (c ≤ 60)

set_option maxHeartbeats 1000000 in
theorem gridQuiet_bad (r c : Int) (own : Bool) (h : sidesOk r c = false) (w : World) :
    Calls Tryd.prog 20 #[.int .i64 r, .int .i64 c, .bool own] w fun e w' => e = .returned (.tuple #[.int .i64 0, .int .i64 1]) ∧ w' = w := by
  by_cases h1 : min r c < 1
  · clear h
    go_enter Tryd.func20, Tryd.ntmps20
    go_wp2
    go_ret2
    exact ⟨rfl, rfl⟩
  · have h2 : 60 < max r c := by
      unfold sidesOk at h
      have e1 : decide (1 ≤ r) = true := by simp; omega
      have e2 : decide (1 ≤ c) = true := by simp; omega
      rw [e1, e2] at h
      simp at h
      omega
    clear h
    go_enter Tryd.func20, Tryd.ntmps20
    go_wp2
    go_ret2
    exact ⟨rfl, rfl⟩

set_option maxRecDepth 100000 in
set_option maxHeartbeats 1000000 in
theorem gridQuiet_good (r c : Nat) (own : Bool) (hr : 1 ≤ r) (hc : 1 ≤ c) (hr60 : r ≤ 60) (hc60 : c ≤ 60) (w : World) :
    Calls Tryd.prog 20 #[.int .i64 r, .int .i64 c, .bool own] w fun e w' => e = .returned (.tuple #[.int .i64 (gridQ r c own), .int .i64 0]) ∧ Below w.heap.size w w' := by
  have hp1 := Lib.hid (fun W => path_any (r + 1) own (by omega) W)
  have hp2 := Lib.hid (fun W => path_any (c + 1) false (by omega) W)
  have e1 : ((r + 1 : Nat) : Int) = (r : Int) + 1 := by omega
  have e2 : ((c + 1 : Nat) : Int) = (c : Int) + 1 := by omega
  rw [e1] at hp1
  rw [e2] at hp2
  clear e1 e2
  have l1 := Lt.pathOf_plen own (r + 1)
  have l2 := Lt.pathOf_plen false (c + 1)
  have hcm := Lib.hid (fun v1 v2 W h1 h2 => common_any v1 v2 (Lt.pathOf own (r + 1)) (Lt.pathOf false (c + 1)) W h1 h2 (by omega) (by omega))
  have l3 := Lt.gcdP_plen (Lt.pathOf own (r + 1)) (Lt.pathOf false (c + 1))
  unfold gridQ
  generalize Lt.pathOf own (r + 1) = p at *
  generalize Lt.pathOf false (c + 1) = q at *
  generalize Lt.gcdP p q = g at *
  go_enter Tryd.func20, Tryd.ntmps20
  go_wp2_with fail
  refine (hp1.out _).mono ?_
  rintro e w1 ⟨v1, rfl, hq1, hb1⟩
  have hq1' := Lib.hid hq1
  clear hq1
  go_wp2_with fail
  refine (hp2.out _).mono ?_
  rintro e w2 ⟨v2, rfl, hq2, hb2⟩
  have hc3 := Lib.hid (hcm.out v1 v2 w2 ((hq1'.out.below hb2 (Nat.le_refl _)).up hb2.size) hq2)
  clear hq2 hq1' hp1 hp2 hcm
  go_wp2_with fail
  refine hc3.out.mono ?_
  rintro e w3 ⟨v3, rfl, hq3, hb3⟩
  obtain ⟨ad3, cap3, hv3⟩ := hq3.form
  subst hv3
  clear hq3 hc3
  go_wp2
  go_ret2
  have hs := hb1.size
  have hs2 := hb2.size
  have hwr : wrap64 (((Lt.plen g : Nat) : Int) - 1) = ((Lt.plen g : Nat) : Int) - 1 := by unfold wrap64; omega
  exact ⟨by rw [← hwr]; rfl, (hb1.trans (hb2.mono hs)).trans (hb3.mono (by omega))⟩

/-- the powers of a polynomial whose coefficient is 1, from the first k -/
def powersTo (p k : Nat) : List Nat := (List.range k).filter fun i => p.testBit i
def powersOf (k : Nat) : List Nat := powersTo (Lt.pathOf false k) (Lt.plen (Lt.pathOf false k))
theorem powersTo_succ (p k : Nat) : powersTo p (k + 1) = powersTo p k ++ (if p.testBit k then [k] else []) := by
  unfold powersTo
  rw [List.range_succ, List.filter_append]
  cases h : p.testBit k <;> simp [h]
theorem powersTo_length (p : Nat) : ∀ k, (powersTo p k).length ≤ k := fun k => by
  unfold powersTo
  have := List.length_filter_le (fun i => p.testBit i) (List.range k)
  simpa using this

set_option maxHeartbeats 1000000 in
theorem polynomial_bad (k : Int) (h : k < 0 ∨ 200 < k) (w : World) :
    Calls Tryd.prog 23 #[.int .i64 k] w fun e w' => e = .returned (.tuple #[.slice none 0 0, .int .i64 1]) ∧ w' = w := by
  by_cases h1 : k < 0
  · clear h
    go_enter Tryd.func23, Tryd.ntmps23
    go_wp2
    go_ret2
    exact ⟨rfl, rfl⟩
  · have h2 : 200 < k := by omega
    clear h
    go_enter Tryd.func23, Tryd.ntmps23
    go_wp2
    go_ret2
    exact ⟨rfl, rfl⟩

set_option maxRecDepth 100000 in
set_option maxHeartbeats 4000000 in
theorem polynomial_good (k : Nat) (hk : k ≤ 200) (w : World) :
    Calls Tryd.prog 23 #[.int .i64 k] w fun e w' => ∃ v, e = .returned (.tuple #[v, .int .i64 0]) ∧ w'.ownsRow w.heap.size 3 1 v (powersOf k).length (ncells (powersOf k)) ∧ Below w.heap.size w w' := by
  have hp1 := Lib.hid (fun W => path_any k false (by omega) W)
  have l1 := Lt.pathOf_plen false k
  unfold powersOf
  generalize Lt.pathOf false k = p at *
  obtain ⟨i0, hi0, hz0, hzs, hzb⟩ := info_parts Tryd.info3
  go_enter Tryd.func23, Tryd.ntmps23
  go_wp2_with fail
  refine (hp1.out _).mono ?_
  rintro e w1 ⟨v1, rfl, ⟨ad, cap, rfl, hcs⟩, hb1⟩
  have HC := Lib.hid hcs
  clear hcs hp1
  go_wp2
  obtain ⟨wo, hwo⟩ : ∃ wo : World, wo = w1 := ⟨_, rfl⟩
  subst hwo
  go_loopw [4, 16] (fun v i W => ∃ j : Nat, i = .int .i64 j ∧ j ≤ Lt.plen p ∧ Hid (W.ownsRow wo.heap.size 3 1 v (powersTo p j).length (ncells (powersTo p j))) ∧ Below wo.heap.size wo W)
    (fun _ i _ => Lt.plen p - (intOf i).toNat)
  case atStart => exact ⟨0, rfl, Nat.zero_le _, Lib.hid (World.ownsRow_nil _ _ _ _), Below.refl _ _⟩
  case round =>
    obtain ⟨j, rfl, hj, hrow, hB⟩ := hrel
    obtain ⟨a1, n1, c1, hv⟩ := slice_of_row hrow.out
    subst hv
    have hl1 := powersTo_length p j
    by_cases hlt : j < Lt.plen p
    · obtain ⟨g, off, rfl, hgw, hc⟩ := HC.out j hlt
      replace hc := (hB.cell (p := ⟨g, off + j, none⟩) hgw).trans hc
      have hst := Lib.hid (powersTo_succ p j)
      cases hb : p.testBit j with
      | false =>
        rw [hb] at hc hst
        simp only [Bool.false_eq_true, if_false, List.append_nil] at hst
        clear hb
        go_wp2
        go_roundw
        case rel => exact ⟨j + 1, by go_num, by omega, Lib.hid (by rw [hst.out]; exact hrow.out), hB⟩
        case measure => simp [intOf]; omega
      | true =>
        rw [hb] at hc hst
        simp only [if_true] at hst
        clear hb
        have hfl : Hid ((powersTo p (j + 1)).length = (powersTo p j).length + 1 ∧ ncells (powersTo p (j + 1)) = ncells (powersTo p j) ++ [.int .i64 (j : Nat)]) := Lib.hid (by
          rw [hst.out]; exact ⟨by simp, by simp [ncells]⟩)
        clear hst
        go_wp2_with (at_builtin; refine wpList_append_own _ rfl _ _ 36 rfl wo.heap.size 3 i0 _ 1 8 Tryd.underlying36 hi0 hz0 hzs hzb rfl (by decide) (.slice a1 n1 c1) (powersTo p j).length (ncells (powersTo p j)) rfl (hrow.out.alloc _) ⟨wr.heap.size, 0, none⟩ 1 1 [.int .i64 j] rfl rfl (cell_one_new _ _ _) (by simp [Value.oneCell']) (by unfold maxLen; omega) (by omega) (by have := hB.size; simp; omega) ?_; intro v' w2 hown' hgrow _; obtain ⟨g', cap', rfl⟩ := ownsRow_succ hown'; have HOWN := Lib.hid hown'; have HB1 : Below wo.heap.size wo w2 := (hB.alloc hB.size _).grown hgrow (by have := hB.size; simp; omega) (fun k hk => (hrow.out.lt k hk).1); clear hown' hgrow)
        go_roundw
        case rel => exact ⟨j + 1, by go_num, by omega, Lib.hid (by rw [hfl.out.1, hfl.out.2]; exact HOWN.out), HB1⟩
        case measure => simp [intOf]; omega
    · obtain rfl : j = Lt.plen p := by omega
      go_wp2
      go_ret2
      exact ⟨_, rfl, Go.Joins.ownsRow_le hrow.out hb1.size, hb1.trans (hB.mono hb1.size)⟩

end Go.Proofs.YtdlogklhekopgaaDoor
