/- Contracts of the program's functions: part C19 of the proof. -/
import Derived.Test.YtdlogklhekopgaaDoorC18
set_option linter.unusedVariables false
set_option linter.unusedSimpArgs false
namespace Go.Proofs.YtdlogklhekopgaaDoor
open Go.RowKit Go.Shelf Go.Proofs
attribute [local go_sem] Oper.semAt_some

/-- some set has the effect -/
def solved (n : Int) (es : List (Int × Int)) (own : Bool) (s : Int) : Bool := decide (code n es [s] = 0) && decide ((Lt.solveOf (gr n es own) s.toNat).2 = 0)

set_option maxHeartbeats 1000000 in
theorem solve_api (n s : Int) (ev : Value) (es : List (Int × Int)) (own : Bool) (w : World) (hlen : es.length ≤ 1000) (hes : ReadsP w ev es) :
    Calls Tryd.prog 39 #[.int .i64 n, ev, .bool own, .int .i64 s] w fun e w' =>
      e = .returned (.tuple #[.int .i64 ((if solved n es own s then (Lt.solveOf (gr n es own) s.toNat).1 else 0 : Nat) : Int), .bool (solved n es own s), .int .i64 (code n es [s] : Nat)]) ∧ Below w.heap.size w w' := by
  have hB0 : Below w.heap.size w (w.alloc (.cells #[.int .i64 s] 3)) := below_one _
  unfold solved
  by_cases hc : code n es [s] = 0
  · have ho := Lib.hid (open_good hc ev _ own _ hlen (by simp) (hes.below hB0) (reads_one w s))
    rw [hc]
    obtain ⟨S, rfl, hS, -⟩ := set_of_code hc
    clear hc hes
    simp only [Int.toNat_natCast, decide_true, Bool.true_and]
    generalize gr n es own = G at *
    have HEF := Lib.hid (fun b W hL => solve_any b G S hS W hL)
    by_cases h0 : (Lt.solveOf G S).2 = 0
    · have hd : decide ((Lt.solveOf G S).2 = 0) = true := by simpa using h0
      rw [hd] at HEF ⊢
      rw [if_pos rfl]
      generalize (Lt.solveOf G S).1 = r at *
      clear hd h0
      go_enter Tryd.func39, Tryd.ntmps39
      go_wp2_with fail
      refine ho.out.mono ?_
      rintro e w1 ⟨b, rfl, hL, hb⟩
      replace hb := hB0.trans (hb.mono hB0.size)
      have hef := Lib.hid (HEF.out b w1 hL)
      clear ho hL hB0 HEF
      go_wp2_with fail
      refine hef.out.mono ?_
      rintro e w2 ⟨rfl, hb2⟩
      go_wp2
      go_ret3
      exact ⟨rfl, hb.trans (hb2.mono hb.size)⟩
    · have hd : decide ((Lt.solveOf G S).2 = 0) = false := by simpa using h0
      rw [hd] at HEF ⊢
      rw [if_neg (by decide)]
      generalize (Lt.solveOf G S).1 = r at *
      clear hd h0
      go_enter Tryd.func39, Tryd.ntmps39
      go_wp2_with fail
      refine ho.out.mono ?_
      rintro e w1 ⟨b, rfl, hL, hb⟩
      replace hb := hB0.trans (hb.mono hB0.size)
      have hef := Lib.hid (HEF.out b w1 hL)
      clear ho hL hB0 HEF
      go_wp2_with fail
      refine hef.out.mono ?_
      rintro e w2 ⟨rfl, hb2⟩
      go_wp2
      go_ret3
      exact ⟨rfl, hb.trans (hb2.mono hb.size)⟩
  · have ho := Lib.hid (open_bad hc ev _ own _ hlen (by simp) (hes.below hB0) (reads_one w s))
    have hd : decide (code n es [s] = 0) = false := by simpa using hc
    rw [hd]
    simp only [Bool.false_and, Bool.false_eq_true, if_false]
    clear hes hd
    generalize code n es [s] = c at *
    have hct : (((c : Nat) : Int) == 0) = false := by simpa using hc
    clear hc
    go_enter Tryd.func39, Tryd.ntmps39
    go_wp2_with fail
    refine ho.out.mono ?_
    rintro e w1 ⟨rfl, hb⟩
    replace hb := hB0.trans (hb.mono hB0.size)
    clear ho hB0
    go_wp2
    go_ret3
    exact ⟨rfl, hb⟩

set_option maxHeartbeats 1000000 in
theorem fewest_api (n s : Int) (ev : Value) (es : List (Int × Int)) (own : Bool) (w : World) (hlen : es.length ≤ 1000) (hes : ReadsP w ev es) (hT : Tab w) (hw : 1 < w.heap.size) :
    Calls Tryd.prog 36 #[.int .i64 n, ev, .bool own, .int .i64 s] w fun e w' =>
      e = .returned (.tuple #[.int .i64 ((if solved n es own s then Lt.fewOf (gr n es own) s.toNat else 0 : Nat) : Int), .bool (solved n es own s), .int .i64 (code n es [s] : Nat)]) ∧ Below w.heap.size w w' := by
  have hB0 : Below w.heap.size w (w.alloc (.cells #[.int .i64 s] 3)) := below_one _
  unfold solved
  by_cases hc : code n es [s] = 0
  · have ho := Lib.hid (open_good hc ev _ own _ hlen (by simp) (hes.below hB0) (reads_one w s))
    rw [hc]
    obtain ⟨S, rfl, hS, -⟩ := set_of_code hc
    clear hc hes
    simp only [Int.toNat_natCast, decide_true, Bool.true_and]
    generalize gr n es own = G at *
    have HEF := Lib.hid (fun b W hL hT hw => fewest_any b G S hS W hL hT hw)
    have he : (if decide ((Lt.solveOf G S).2 = 0) = true then Lt.fewOf G S else 0) = (if (Lt.solveOf G S).2 = 0 then Lt.fewOf G S else 0) := by simp
    rw [he]
    generalize (if (Lt.solveOf G S).2 = 0 then Lt.fewOf G S else 0) = r at *
    generalize decide ((Lt.solveOf G S).2 = 0) = d at *
    clear he
    go_enter Tryd.func36, Tryd.ntmps36
    go_wp2_with fail
    refine ho.out.mono ?_
    rintro e w1 ⟨b, rfl, hL, hb⟩
    replace hb := hB0.trans (hb.mono hB0.size)
    have hef := Lib.hid (HEF.out b w1 hL (hT.below hb hw) (by have := hb.size; omega))
    clear ho hL hB0 HEF
    go_wp2_with fail
    refine hef.out.mono ?_
    rintro e w2 ⟨rfl, hb2⟩
    go_wp2
    go_ret3
    exact ⟨rfl, hb.trans (hb2.mono hb.size)⟩
  · have ho := Lib.hid (open_bad hc ev _ own _ hlen (by simp) (hes.below hB0) (reads_one w s))
    have hd : decide (code n es [s] = 0) = false := by simpa using hc
    rw [hd]
    simp only [Bool.false_and, Bool.false_eq_true, if_false]
    clear hes hd
    generalize code n es [s] = c at *
    have hct : (((c : Nat) : Int) == 0) = false := by simpa using hc
    clear hc
    go_enter Tryd.func36, Tryd.ntmps36
    go_wp2_with fail
    refine ho.out.mono ?_
    rintro e w1 ⟨rfl, hb⟩
    replace hb := hB0.trans (hb.mono hB0.size)
    clear ho hB0
    go_wp2
    go_ret3
    exact ⟨rfl, hb⟩

theorem gr_len {n : Int} {es : List (Int × Int)} {own : Bool} {xs : List Int} (hc : code n es xs = 0) : (gr n es own).length ≤ 16 := by
  unfold gr
  rw [Lt.graph_length]
  have := code_zero hc
  omega

/-- the quiet basis as Quiet hands it out -/
def quietT (n : Int) (es : List (Int × Int)) (own : Bool) : List Nat := if code n es [] = 0 then Lt.tidy (Lt.quietOf (gr n es own)) else []

set_option maxHeartbeats 1000000 in
theorem quiet_api (n : Int) (ev : Value) (es : List (Int × Int)) (own : Bool) (w : World) (hlen : es.length ≤ 1000) (hes : ReadsP w ev es) :
    Calls Tryd.prog 22 #[.int .i64 n, ev, .bool own] w fun e w' => ∃ v,
      e = .returned (.tuple #[v, .int .i64 (code n es [] : Nat)]) ∧ w'.ownsRow w.heap.size 3 1 v (quietT n es own).length (ncells (quietT n es own)) ∧ Below w.heap.size w w' := by
  unfold quietT
  by_cases hc : code n es [] = 0
  · have ho := Lib.hid (open_good hc ev _ own w hlen (by simp) hes (reads_nil w))
    have h16 := gr_len (own := own) hc
    rw [if_pos hc, hc]
    clear hc hes
    generalize gr n es own = G at *
    obtain ⟨hQ, hQ16⟩ := quiet_small h16
    have hQ' : ∀ x ∈ Lt.quietOf G, x < 65536 := fun x hx => by
      obtain ⟨i, hi, rfl⟩ := List.getElem_of_mem hx
      have := hQ i
      simpa [hi] using this
    have HR := Lib.hid (fun b W hL => reduced_any b G W hL)
    clear hQ h16
    generalize Lt.quietOf G = Q at *
    generalize Lt.basisOf G = B at *
    go_enter Tryd.func22, Tryd.ntmps22
    go_wp2_with fail
    refine ho.out.mono ?_
    rintro e w1 ⟨b, rfl, hL, hb⟩
    have hef := Lib.hid (HR.out b w1 hL)
    clear ho hL HR
    go_wp2_with fail
    refine hef.out.mono ?_
    rintro e w2 ⟨vB, vQ, rfl, ⟨hrB, hrQ⟩, hb2⟩
    obtain ⟨aB, nB, cB, rfl⟩ := slice_of_row hrB
    obtain ⟨ad, cap, rfl, hel⟩ := elems_of_row hrQ
    have ht := Lib.hid (tidied_any ad cap Q w2 hQ' (by omega) hel)
    clear hrB hrQ hef hel hQ'
    go_wp2_with fail
    refine ht.out.mono ?_
    rintro e w3 ⟨v, rfl, hr, hb3⟩
    obtain ⟨a3, n3, c3, rfl⟩ := slice_of_row hr
    have hr' := Lib.hid hr
    clear hr ht
    go_wp2
    go_ret2
    have hs1 := hb.size
    have hs2 := hb2.size
    exact ⟨_, rfl, Go.Joins.ownsRow_le hr'.out (by omega), (hb.trans (hb2.mono hs1)).trans (hb3.mono (by omega))⟩
  · have ho := Lib.hid (open_bad hc ev _ own w hlen (by simp) hes (reads_nil w))
    rw [if_neg hc]
    clear hes
    generalize code n es [] = c at *
    have hct : (((c : Nat) : Int) == 0) = false := by simpa using hc
    clear hc
    go_enter Tryd.func22, Tryd.ntmps22
    go_wp2_with fail
    refine ho.out.mono ?_
    rintro e w1 ⟨rfl, hb⟩
    clear ho
    go_wp2
    go_ret2
    exact ⟨_, rfl, World.ownsRow_nil _ _ _ _, hb⟩

set_option maxHeartbeats 1000000 in
theorem reachable_api (n : Int) (ev : Value) (es : List (Int × Int)) (own : Bool) (w : World) (hlen : es.length ≤ 1000) (hes : ReadsP w ev es) :
    Calls Tryd.prog 40 #[.int .i64 n, ev, .bool own] w fun e w' =>
      e = .returned (.tuple #[.int .i64 ((if code n es [] = 0 then 2 ^ (Lt.basisOf (gr n es own)).length else 0 : Nat) : Int), .int .i64 (code n es [] : Nat)]) ∧ Below w.heap.size w w' := by
  by_cases hc : code n es [] = 0
  · have ho := Lib.hid (open_good hc ev _ own w hlen (by simp) hes (reads_nil w))
    have h16 := gr_len (own := own) hc
    rw [if_pos hc, hc]
    clear hc hes
    generalize gr n es own = G at *
    have HR := Lib.hid (fun b W hL => reduced_any b G W hL)
    have hB16 : (Lt.basisOf G).length ≤ 16 := by have := (Lt.inv_of G).len; omega
    clear h16
    generalize Lt.quietOf G = Q at *
    generalize Lt.basisOf G = B at *
    have hw1 := Lt.wrap_u64_nat B.length (by omega)
    have hw2 := wrap_pow B.length (by omega)
    generalize 2 ^ B.length = m at *
    go_enter Tryd.func40, Tryd.ntmps40
    go_wp2_with fail
    refine ho.out.mono ?_
    rintro e w1 ⟨b, rfl, hL, hb⟩
    have hef := Lib.hid (HR.out b w1 hL)
    clear ho hL HR
    go_wp2_with fail
    refine hef.out.mono ?_
    rintro e w2 ⟨vB, vQ, rfl, ⟨hrB, hrQ⟩, hb2⟩
    obtain ⟨aB, cB, rfl, -⟩ := (ReadsB.of_row hrB).general
    obtain ⟨aQ, nQ, cQ, rfl⟩ := slice_of_row hrQ
    clear hrB hrQ hef
    go_wp2
    go_ret2
    have hs1 := hb.size
    exact ⟨by rw [← hw2]; rfl, hb.trans (hb2.mono hs1)⟩
  · have ho := Lib.hid (open_bad hc ev _ own w hlen (by simp) hes (reads_nil w))
    rw [if_neg hc]
    clear hes
    generalize code n es [] = c at *
    have hct : (((c : Nat) : Int) == 0) = false := by simpa using hc
    clear hc
    go_enter Tryd.func40, Tryd.ntmps40
    go_wp2_with fail
    refine ho.out.mono ?_
    rintro e w1 ⟨rfl, hb⟩
    clear ho
    go_wp2
    go_ret2
    exact ⟨rfl, hb⟩

end Go.Proofs.YtdlogklhekopgaaDoor
