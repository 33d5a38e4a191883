/- Contracts of the program's functions: a part of the proof. -/
import Derived.Test.YtdlogklhekopgaaDoorGU
import Derived.Test.YtdlogklhekopgaaDoorPD
set_option linter.unusedVariables false
set_option linter.unusedSimpArgs false

namespace Go.Proofs.YtdlogklhekopgaaDoor
open Go.RowKit Go.Shelf Go.Proofs
attribute [local go_sem] Oper.semAt_some

set_option maxRecDepth 100000 in
set_option maxHeartbeats 8000000 in
/-- ref.Quiet -/
theorem refQuiet_ok {N : Nat} {es : List (Int × Int)} (h : Ok N es) (own : Bool) (ad : Option Addr) (cap : Nat) (w : World) (he : Elems w w.heap.size ad (G N es own)) :
    Calls Tryd.prog 37 #[.slice ad N cap] w fun e w' => ∃ v, e = .returned v ∧ w'.ownsRow w.heap.size 3 1 v (Lt.refQTo (G N es own) (2 ^ N)).1.length (ncells (Lt.refQTo (G N es own) (2 ^ N)).1) ∧ Below w.heap.size w w' := by
  have h16 := h.most
  have hpw := h.pow
  have h1N := h.one
  have hM1 : 1 ≤ 2 ^ N := Nat.two_pow_pos N
  have HE := Lib.hid (fun W (hb : Below w.heap.size w W) => he.below hb (Nat.le_refl _))
  have eE := Lib.hid (fun (s : Nat) (hs : s < 2 ^ N) W hE => reff_ok h own ad cap s hs W hE)
  have hwp := wrap_pow N (by omega)
  have eT := Lib.hid (fun (s : Nat) (h0 : s ≠ 0) (hs : s < 2 ^ N) W => refTop_any s W h0 (by omega))
  have hRS : Hid (∀ k, Lt.refQTo (G N es own) (k + 1) = if k ≠ 0 ∧ k &&& (Lt.refQTo (G N es own) k).2 = 0 ∧ Lt.eff (G N es own) k = 0 then ((Lt.refQTo (G N es own) k).1 ++ [k], (Lt.refQTo (G N es own) k).2 ||| 2 ^ k.log2) else Lt.refQTo (G N es own) k) := Lib.hid (fun k => rfl)
  have hR1 : Hid (Lt.refQTo (G N es own) 1 = ([], 0)) := Lib.hid (by rw [show (1 : Nat) = 0 + 1 from rfl, Lt.refQTo, if_neg (by rintro ⟨h, _⟩; exact h rfl)]; rfl)
  have hRL := Lib.hid (fun k => Lt.refQ_length (G N es own) k)
  have hRT := Lib.hid (fun k hk => Lt.refQ_tops (l := G N es own) (N := N) k hk)
  clear he h
  generalize Lt.refQTo (G N es own) = R at *
  generalize Lt.eff (G N es own) = EF at *
  generalize 2 ^ N = M at *
  go_enter Tryd.func37, Tryd.ntmps37
  go_wp2
  go_loopw [3, 4, 5] (fun v t i W => ∃ s : Nat, i = .int .i64 s ∧ 1 ≤ s ∧ s ≤ M ∧ t = .int .i64 ((R s).2 : Nat) ∧ Hid (W.ownsRow w.heap.size 3 1 v (R s).1.length (ncells (R s).1)) ∧ Below w.heap.size w W)
    (fun _ _ i _ => M - (intOf i).toNat)
  case atStart => exact ⟨1, rfl, Nat.le_refl _, hM1, by rw [hR1.out]; rfl, Lib.hid (by rw [hR1.out]; exact World.ownsRow_nil _ _ _ _), Below.refl _ _⟩
  case round =>
    obtain ⟨s, rfl, hs1, hsM, rfl, hrow, hB⟩ := hrel
    obtain ⟨a1, n1, c1, hv⟩ := slice_of_row hrow.out
    subst hv
    have hll := hRL.out s
    have htl := hRT.out s hsM
    by_cases hlt : s < M
    · have eE' := Lib.hid (eE.out s hlt wr ((HE.out wr hB).up hB.size))
      have hand := Lt.and_i64 s (R s).2 (by omega) (by omega)
      have hst := Lib.hid (hRS.out s)
      by_cases hu : s &&& (R s).2 = 0
      · have huI : ((((s &&& (R s).2 : Nat) : Int)) == 0) = true := by rw [hu]; rfl
        by_cases hz : EF s = 0
        · have hnew := hst.out
          rw [if_pos ⟨by omega, hu, hz⟩] at hnew
          have hlg : s.log2 < 16 := (Nat.log2_lt (by omega)).2 (by omega)
          have hwl := wrap_pow s.log2 (by omega)
          have hpl : 2 ^ s.log2 < 65536 := Nat.lt_of_lt_of_le (Nat.pow_lt_pow_right (by decide) hlg) (by decide)
          have hor := Lt.or_i64 (R s).2 (2 ^ s.log2) (Nat.lt_of_lt_of_le htl (Nat.le_trans hpw (by decide))) (Nat.lt_trans hpl (by decide))
          have eT' := Lib.hid (eT.out s (by omega) hlt)
          have hn1 : Hid ((R (s + 1)).2 = (R s).2 ||| 2 ^ s.log2) := Lib.hid (by rw [hnew])
          have hn2 : Hid ((R (s + 1)).1.length = (R s).1.length + 1 ∧ ncells (R (s + 1)).1 = ncells (R s).1 ++ [.int .i64 (s : Nat)]) := Lib.hid (by rw [hnew]; exact ⟨by simp, by simp [ncells]⟩)
          rw [hz] at eE'
          clear hst hnew hz eE eT hRS hR1 hRL hRT hpl
          rw [hu] at hand huI
          generalize s.log2 = lg at *
          generalize 2 ^ lg = pl at *
          generalize (R s).2 ||| pl = nt at *
          generalize (R s).2 = tp at *
          generalize ncells (R s).1 = NC at *
          generalize (R s).1.length = ln at *
          obtain ⟨i0, hi0, hz0, hzs, hzb⟩ := info_parts Tryd.info3
          go_wp2_with fail
          refine eE'.out.mono ?_
          rintro e w3 ⟨rfl, hww⟩
          have hww2 := hww.symm
          subst hww2
          clear eE' hww
          go_wp2_with (first | (at_builtin; refine wpList_append_own _ rfl _ _ 36 rfl w.heap.size 3 i0 _ 1 8 Tryd.underlying36 hi0 hz0 hzs hzb rfl (by decide) (.slice a1 n1 c1) ln NC rfl (hrow.out.alloc _) ⟨wr.heap.size, 0, none⟩ 1 1 [.int .i64 s] rfl rfl (cell_one_new _ _ _) (by simp [Value.oneCell']) (by unfold maxLen; omega) (by omega) (by have := hB.size; simp; omega) ?_; intro v' w5 hown' hgrow _; obtain ⟨g', cap', rfl⟩ := ownsRow_succ hown'; have HOWN := Lib.hid hown'; have HB1 : Below w.heap.size w w5 := (hB.alloc hB.size _).grown hgrow (by have := hB.size; simp; omega) (fun k hk => (hrow.out.lt k hk).1); clear hown' hgrow) | (go_at_call 57; refine (eT'.out _).mono ?_; rintro e w6 ⟨rfl, hww⟩; have hww2 := hww.symm; subst hww2))
          go_roundw
          case rel => exact ⟨s + 1, by go_num, by omega, by omega, by rw [hn1.out], Lib.hid (by rw [hn2.out.1, hn2.out.2]; exact HOWN.out), HB1⟩
          case measure => simp [intOf]; omega
        · have hold := hst.out
          rw [if_neg (fun h => hz h.2.2)] at hold
          have HOLD := Lib.hid hold
          have hzI : (((EF s : Nat) : Int) == 0) = false := by simpa using hz
          clear hst hold hz eE eT hRS hR1 hRL hRT
          rw [hu] at hand huI
          generalize EF s = ef at *
          generalize htt : (R s).2 = tp at *
          have HTT := Lib.hid htt
          clear htt
          go_wp2_with fail
          refine eE'.out.mono ?_
          rintro e w3 ⟨rfl, hww⟩
          have hww2 := hww.symm
          subst hww2
          clear eE' hww
          go_wp2
          go_roundw
          case rel => exact ⟨s + 1, by go_num, by omega, by omega, by rw [HOLD.out, HTT.out], Lib.hid (by rw [HOLD.out]; exact hrow.out), hB⟩
          case measure => simp [intOf]; omega
      · have hold := hst.out
        rw [if_neg (fun h => hu h.2.1)] at hold
        have HOLD := Lib.hid hold
        have huI : ((((s &&& (R s).2 : Nat) : Int)) == 0) = false := by simpa using hu
        clear hst hold hu eE eT hRS hR1 hRL hRT eE'
        generalize s &&& (R s).2 = u at *
        generalize htt : (R s).2 = tp at *
        have HTT := Lib.hid htt
        clear htt
        go_wp2
        go_roundw
        case rel => exact ⟨s + 1, by go_num, by omega, by omega, by rw [HOLD.out, HTT.out], Lib.hid (by rw [HOLD.out]; exact hrow.out), hB⟩
        case measure => simp [intOf]; omega
    · obtain rfl : s = M := by omega
      go_wp2
      go_ret
      exact ⟨_, rfl, hrow.out, hB⟩

end Go.Proofs.YtdlogklhekopgaaDoor
