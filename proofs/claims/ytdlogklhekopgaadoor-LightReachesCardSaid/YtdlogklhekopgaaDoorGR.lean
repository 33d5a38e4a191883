/- Contracts of the program's functions: a part of the proof. -/
import Derived.Test.YtdlogklhekopgaaDoorGQ
set_option linter.unusedVariables false
set_option linter.unusedSimpArgs false

namespace Go.Proofs.YtdlogklhekopgaaDoor
open Go.RowKit Go.Shelf Go.Proofs
attribute [local go_sem] Oper.semAt_some

set_option maxRecDepth 100000 in
set_option maxHeartbeats 8000000 in
theorem lightEffects_any (n : Int) (lv : Value) (es : List (Int × Int)) (x y : Int) (w : World) (hes : ReadsP w lv es) (hT : Tab w) (hw : 1 < w.heap.size) :
    Calls Tryd.prog 8 #[.int .i64 n, lv, .agg #[.int .i64 x, .int .i64 y]] w fun e w' => e = .returned (.bool true) ∧ Below w.heap.size w w' := by
  have hB0 : Below w.heap.size w (w.alloc (.cells #[.int .i64 x, .int .i64 y] 29)) := below_one _
  have ht := Lib.hid (tame_ok n lv es 16 (by decide) (by decide) _ (hes.below hB0))
  have hx0 : (w.alloc (.cells #[.int .i64 x, .int .i64 y] 29)).cell? ⟨w.heap.size, 0, none⟩ = some (.int .i64 x) := cell_two_new w _ _ _ 0 _ rfl
  have hy0 : (w.alloc (.cells #[.int .i64 x, .int .i64 y] 29)).cell? ⟨w.heap.size, 1, none⟩ = some (.int .i64 y) := cell_two_new w _ _ _ 1 _ rfl
  have hs0 : w.heap.size < (w.alloc (.cells #[.int .i64 x, .int .i64 y] 29)).heap.size := by simp
  have HX0 := Lib.hid hx0
  have HY0 := Lib.hid hy0
  clear hes hx0 hy0
  go_enter Tryd.func8, Tryd.ntmps8
  go_wp2_with fail
  refine ht.out.mono ?_
  rintro e w1 ⟨N, L, ad, k, cap, rfl, -, hO, hp, hb1⟩
  have HO := Lib.hid hO
  have HP := Lib.hid hp
  have h16 := hO.most
  have c0 := (hb1.cell (p := ⟨w.heap.size, 0, none⟩) hs0).trans HX0.out
  have c1 := (hb1.cell (p := ⟨w.heap.size, 1, none⟩) hs0).trans HY0.out
  have hB1 := hB0.trans (hb1.mono hB0.size)
  have hsv := Lib.hid (fun z W => set_val z N W h16)
  have hS := setN_lt x N h16
  have hSy := setN_lt y N h16
  clear ht hO hp hB0 hb1 HX0 HY0 hs0
  go_wp2
  go_quiet ((go_at_call 31; refine Calls.quiet_of_same (hsv.out _ _)))
  clear hsv c0 c1
  have HP1 : Hid (ReadsP (w1.drewN nq) (.slice ad k cap) L) := Lib.hid (ReadsP.below (w := w1) ⟨rfl, rfl, rfl, Nat.le_refl _, fun _ _ => rfl⟩ HP.out)
  have hB2 : Below w.heap.size w (w1.drewN nq) := hB1.trans ⟨rfl, rfl, rfl, Nat.le_refl _, fun _ _ => rfl⟩
  generalize w1.drewN nq = w2 at *
  generalize setN x N = A at *
  generalize setN y N = B at *
  clear HP hB1
  have hAB : A ^^^ B < 2 ^ N := Nat.xor_lt_two_pow hS hSy
  have hpw := HO.out.pow
  have hxo := Lt.xor_i64 A B (by omega) (by omega)
  have e1 := Lib.hid (fun own W hv hT hw => effect_ok HO.out (.slice ad k cap) own hS W hv hT hw)
  have e2 := Lib.hid (fun own W hv hT hw => effect_ok HO.out (.slice ad k cap) own hSy W hv hT hw)
  have e3 := Lib.hid (fun own W hv hT hw => effect_ok HO.out (.slice ad k cap) own hAB W hv hT hw)
  have e4 := Lib.hid (fun own W hv => near_ok HO.out (.slice ad k cap) own W hv)
  have e5 := Lib.hid (fun own ad cap W h => reff_ok HO.out own ad cap A hS W h)
  have hex := Lib.hid (fun own => Lt.eff_xor (G N L own) A B)
  have hl1 := fun own => HO.out.eff_lt own A
  have hl2 := fun own => HO.out.eff_lt own B
  have HL1 := Lib.hid hl1
  have HL2 := Lib.hid hl2
  clear hl1 hl2 hAB
  generalize A ^^^ B = C at *
  go_wp2
  go_loopw [10] (fun i W => ∃ (j : Int), i = .int .i64 j ∧ (j = 0 ∨ j = 1 ∨ j = 2) ∧ Hid (ReadsP W (.slice ad k cap) L) ∧ Below w.heap.size w W)
    (fun i _ => 2 - (intOf i).toNat)
  case atStart => exact ⟨0, rfl, .inl rfl, HP1, hB2⟩
  case round =>
    clear HP1 hB2
    obtain ⟨j, rfl, hj, HP, hB⟩ := hrel
    have hT0 := hT.below hB hw
    have hw0 : 1 < wr.heap.size := by have := hB.size; omega
    have HT := Lib.hid hT0
    clear hT0
    have fin : ∀ own, Hid (((Lt.eff (G N L own) C : Nat) : Int) = bits .xor .i64 ((Lt.eff (G N L own) A : Nat) : Int) ((Lt.eff (G N L own) B : Nat) : Int)) := fun own => Lib.hid (by
      rw [Lt.xor_i64 _ _ (by have := HL1.out own; omega) (by have := HL2.out own; omega), hex.out])
    have FIN := Lib.hid fin
    clear fin
    rcases hj with rfl | rfl | rfl
    · have f1 := Lib.hid (e1.out true wr HP.out HT.out hw0)
      have f5 := Lib.hid (e5.out true)
      have hfin := (FIN.out true).out
      generalize Lt.eff (G N L true) A = xa at *
      go_wp2_with fail
      refine f1.out.mono ?_
      rintro e w3 ⟨rfl, hb3⟩
      have HP3 := Lib.hid (HP.out.below hb3)
      have HT3 := Lib.hid (HT.out.below hb3 hw0)
      have hw3 : 1 < w3.heap.size := by have := hb3.size; omega
      have hB3 := hB.trans (hb3.mono hB.size)
      have f2 := Lib.hid (e2.out true w3 HP3.out HT3.out hw3)
      generalize Lt.eff (G N L true) B = xb at *
      clear HP HT hw0 hB hb3 f1
      go_wp2_with fail
      refine f2.out.mono ?_
      rintro e w4 ⟨rfl, hb4⟩
      have HP4 := Lib.hid (HP3.out.below hb4)
      have HT4 := Lib.hid (HT3.out.below hb4 hw3)
      have hw4 : 1 < w4.heap.size := by have := hb4.size; omega
      have hB4 := hB3.trans (hb4.mono hB3.size)
      have f3 := Lib.hid (e3.out true w4 HP4.out HT4.out hw4)
      generalize Lt.eff (G N L true) C = xc at *
      clear HP3 HT3 hw3 hB3 hb4 f2
      go_wp2_with fail
      refine f3.out.mono ?_
      rintro e w5 ⟨rfl, hb5⟩
      have HP5 := Lib.hid (HP4.out.below hb5)
      have hB5 := hB4.trans (hb5.mono hB4.size)
      have f4 := Lib.hid (e4.out true w5 HP5.out)
      clear HP4 HT4 hw4 hB4 hb5 f3
      go_wp2_with fail
      refine f4.out.mono ?_
      rintro e w6 ⟨a6, c6, rfl, E6, hb6⟩
      have HP6 := Lib.hid (HP5.out.below hb6)
      have hB6 := hB5.trans (hb6.mono hB5.size)
      have f6 := Lib.hid (f5.out a6 c6 w6 E6)
      clear HP5 hB5 hb6 f4 f5 E6
      go_wp2_with fail
      refine f6.out.mono ?_
      rintro e w7 ⟨rfl, rfl⟩
      clear f6
      go_wp2
      go_roundw
      case rel => exact ⟨1, rfl, .inr (.inl rfl), HP6, hB6⟩
      case measure => simp [intOf]
    · have f1 := Lib.hid (e1.out false wr HP.out HT.out hw0)
      have f5 := Lib.hid (e5.out false)
      have hfin := (FIN.out false).out
      generalize Lt.eff (G N L false) A = xa at *
      go_wp2_with fail
      refine f1.out.mono ?_
      rintro e w3 ⟨rfl, hb3⟩
      have HP3 := Lib.hid (HP.out.below hb3)
      have HT3 := Lib.hid (HT.out.below hb3 hw0)
      have hw3 : 1 < w3.heap.size := by have := hb3.size; omega
      have hB3 := hB.trans (hb3.mono hB.size)
      have f2 := Lib.hid (e2.out false w3 HP3.out HT3.out hw3)
      generalize Lt.eff (G N L false) B = xb at *
      clear HP HT hw0 hB hb3 f1
      go_wp2_with fail
      refine f2.out.mono ?_
      rintro e w4 ⟨rfl, hb4⟩
      have HP4 := Lib.hid (HP3.out.below hb4)
      have HT4 := Lib.hid (HT3.out.below hb4 hw3)
      have hw4 : 1 < w4.heap.size := by have := hb4.size; omega
      have hB4 := hB3.trans (hb4.mono hB3.size)
      have f3 := Lib.hid (e3.out false w4 HP4.out HT4.out hw4)
      generalize Lt.eff (G N L false) C = xc at *
      clear HP3 HT3 hw3 hB3 hb4 f2
      go_wp2_with fail
      refine f3.out.mono ?_
      rintro e w5 ⟨rfl, hb5⟩
      have HP5 := Lib.hid (HP4.out.below hb5)
      have hB5 := hB4.trans (hb5.mono hB4.size)
      have f4 := Lib.hid (e4.out false w5 HP5.out)
      clear HP4 HT4 hw4 hB4 hb5 f3
      go_wp2_with fail
      refine f4.out.mono ?_
      rintro e w6 ⟨a6, c6, rfl, E6, hb6⟩
      have HP6 := Lib.hid (HP5.out.below hb6)
      have hB6 := hB5.trans (hb6.mono hB5.size)
      have f6 := Lib.hid (f5.out a6 c6 w6 E6)
      clear HP5 hB5 hb6 f4 f5 E6
      go_wp2_with fail
      refine f6.out.mono ?_
      rintro e w7 ⟨rfl, rfl⟩
      clear f6
      go_wp2
      go_roundw
      case rel => exact ⟨2, rfl, .inr (.inr rfl), HP6, hB6⟩
      case measure => simp [intOf]
    · have haw := Lib.hid (awake_any wr (hT.below hB hw) (by have := hB.size; omega))
      go_wp2_with (go_at_call 19; refine haw.out.mono ?_; rintro e w7 ⟨rfl, hb7⟩)
      go_ret
      exact ⟨rfl, hB.trans (hb7.mono hB.size)⟩

end Go.Proofs.YtdlogklhekopgaaDoor
