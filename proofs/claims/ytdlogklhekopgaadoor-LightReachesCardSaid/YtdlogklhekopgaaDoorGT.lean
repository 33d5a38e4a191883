/- Contracts of the program's functions: a part of the proof. -/
import Derived.Test.YtdlogklhekopgaaDoorGS
set_option linter.unusedVariables false
set_option linter.unusedSimpArgs false

namespace Go.Proofs.YtdlogklhekopgaaDoor
open Go.RowKit Go.Shelf Go.Proofs
attribute [local go_sem] Oper.semAt_some

theorem Ok.tidy_mem {N : Nat} {es : List (Int × Int)} (_h : Ok N es) (own : Bool) : ∀ q ∈ Lt.tidy (Lt.quietOf (G N es own)), q < 2 ^ N ∧ Lt.eff (G N es own) q = 0 := fun q hq => by
  have hs : Lt.Sp (Lt.quietOf (G N es own)) q := (Lt.tidy_span _ q).1 (Lt.Sp.mem hq)
  exact ⟨hs.lt (Ok.quiet_lt own), Lt.quiet_eff _ hs⟩
theorem Ok.counts {N : Nat} {es : List (Int × Int)} (_h : Ok N es) (own : Bool) : (Lt.basisOf (G N es own)).length + (Lt.tidy (Lt.quietOf (G N es own))).length = N := by
  rw [Lt.tidy_length (Lt.inv_of _).rise]
  have := (Lt.inv_of (G N es own)).len
  rwa [G_length] at this
theorem Ok.best {N : Nat} {es : List (Int × Int)} (_h : Ok N es) (own : Bool) {t : Nat} (hc : can N es own t = true) : Lt.fewOf (G N es own) t < 2 ^ N ∧ ∀ s, s < 2 ^ N → Lt.eff (G N es own) s = t → Lt.pop (Lt.fewOf (G N es own) t) ≤ Lt.pop s := by
  have hb := Lt.fewOf_best (l := G N es own) (t := t) (by simpa [can] using hc)
  have h1 := hb.lt
  rw [G_length] at h1
  refine ⟨h1, fun s hs he => ?_⟩
  have := hb.least s (by rw [G_length]; exact hs) he
  unfold Lt.less at this
  simp only [Bool.or_eq_false_iff, decide_eq_false_iff_not] at this
  omega
theorem Elems.of_row {w : World} {base : Nat} {v : Value} {L : List Nat} (h : w.ownsRow base 3 1 v L.length (ncells L)) : ∃ ad cap, v = .slice ad L.length cap ∧ Elems w w.heap.size ad L := elems_of_row h

set_option maxRecDepth 100000 in
set_option maxHeartbeats 16000000 in
theorem lightGauss_any (n : Int) (lv : Value) (es : List (Int × Int)) (x y : Int) (w : World) (hes : ReadsP w lv es) (hT : Tab w) (hw : 1 < w.heap.size) :
    Calls Tryd.prog 11 #[.int .i64 n, lv, .agg #[.int .i64 x, .int .i64 y]] w fun e w' => e = .returned (.bool true) ∧ Below w.heap.size w w' := by
  have hB0 : Below w.heap.size w (w.alloc (.cells #[.int .i64 x, .int .i64 y] 29)) := below_one _
  have ht := Lib.hid (tame_ok n lv es 12 (by decide) (by decide) _ (hes.below hB0))
  have hx0 : (w.alloc (.cells #[.int .i64 x, .int .i64 y] 29)).cell? ⟨w.heap.size, 0, none⟩ = some (.int .i64 x) := cell_two_new w _ _ _ 0 _ rfl
  have hy0 : (w.alloc (.cells #[.int .i64 x, .int .i64 y] 29)).cell? ⟨w.heap.size, 1, none⟩ = some (.int .i64 y) := cell_two_new w _ _ _ 1 _ rfl
  have hs0 : w.heap.size < (w.alloc (.cells #[.int .i64 x, .int .i64 y] 29)).heap.size := by simp
  have HX0 := Lib.hid hx0
  have HY0 := Lib.hid hy0
  clear hes hx0 hy0
  go_enter Tryd.func11, Tryd.ntmps11
  go_wp2_with fail
  refine ht.out.mono ?_
  rintro e w1 ⟨N, L, ad, k, cap, rfl, hN12, hO, hp, hb1⟩
  have HO := Lib.hid hO
  have HP := Lib.hid hp
  have h16 := hO.most
  have c0 := (hb1.cell (p := ⟨w.heap.size, 0, none⟩) hs0).trans HX0.out
  have c1 := Lib.hid ((hb1.cell (p := ⟨w.heap.size, 1, none⟩) hs0).trans HY0.out)
  have hs1 : w.heap.size < w1.heap.size := Nat.lt_of_lt_of_le hs0 hb1.size
  have hB1 := hB0.trans (hb1.mono hB0.size)
  have hsv := Lib.hid (fun z W => set_val z N W h16)
  have hS := setN_lt x N h16
  clear ht hO hp hB0 hb1 HX0 HY0 hs0
  go_wp2_with (go_at_call 31; refine (hsv.out _ _).mono ?_; rintro e w2 ⟨rfl, hww⟩; have hww2 := hww.symm; subst hww2)
  clear hsv c0
  generalize setN x N = A at *
  have hpw := HO.out.pow
  have eQ := Lib.hid (fun own W hv => quiet_ok HO.out (.slice ad k cap) own W hv)
  have eM := Lib.hid (fun own W hv => reach_ok HO.out (.slice ad k cap) own W hv)
  have eS := Lib.hid (fun own W hv => solve_ok HO.out (.slice ad k cap) own hS W hv)
  have eF := Lib.hid (fun own W hv hT hw => fewest_ok HO.out (.slice ad k cap) own hS W hv hT hw)
  have eE := Lib.hid (fun own (s : Nat) (hs : s < 2 ^ N) W hv hT hw => effect_ok HO.out (.slice ad k cap) own hs W hv hT hw)
  have eZ := Lib.hid (fun (s : Nat) (hs : s < 2 ^ N) W => refSize_any s W (by omega))
  have pT := Lib.hid (fun own (hc : can N L own A = true) => And.intro (HO.out.solved own hc) (HO.out.best own hc))
  have pQ := Lib.hid (fun own => HO.out.tidy_mem own)
  have pC := Lib.hid (fun own => HO.out.counts own)
  have hwp := wrap_pow N (by omega)
  have hp0 := Nat.two_pow_pos N
  have HX := Lib.hid (fun own => Lt.eff_xor (G N L own))
  have hw1 : 1 < w1.heap.size := by omega
  have HT1 := Lib.hid (hT.below hB1 hw)
  obtain ⟨wo, hwo⟩ : ∃ wo : World, wo = w1 := ⟨_, rfl⟩
  subst hwo
  go_loopw [9] (fun i W => ∃ (j : Int), i = .int .i64 j ∧ (j = 0 ∨ j = 1 ∨ j = 2) ∧ Hid (ReadsP W (.slice ad k cap) L) ∧ Below wo.heap.size wo W)
    (fun i _ => 2 - (intOf i).toNat)
  case atStart => exact ⟨0, rfl, .inl rfl, HP, Below.refl _ _⟩
  case round =>
    clear HP
    obtain ⟨j, rfl, hj, HP, hB⟩ := hrel
    have hw0 : 1 < wr.heap.size := by have := hB.size; omega
    have HT := Lib.hid (HT1.out.below hB hw1)
    rcases hj with rfl | rfl | rfl
    · have gQ := Lib.hid (eQ.out true wr HP.out)
      have hcn := pC.out true
      have hqm := Lib.hid (pQ.out true)
      have gM := Lib.hid (fun W hv => eM.out true W hv)
      go_wp2_with fail
      refine gQ.out.mono ?_
      rintro e w3 ⟨vq, rfl, hrq, hb3⟩
      obtain ⟨aq, cq, rfl, hEq⟩ := elems_of_row hrq
      have HE3 := Lib.hid hEq
      have HP3 := Lib.hid (HP.out.below hb3)
      have HT3 := Lib.hid (HT.out.below hb3 hw0)
      have hw3 : 1 < w3.heap.size := by have := hb3.size; omega
      have hB3 := hB.trans (hb3.mono hB.size)
      have gM' := Lib.hid (gM.out w3 HP3.out)
      clear HP HT hw0 hB hb3 gQ hrq hEq eQ eM pQ pC gM
      generalize Lt.tidy (Lt.quietOf (G N L true)) = TQ at *
      generalize (Lt.basisOf (G N L true)).length = bl at *
      have hsub : ((N : Nat) : Int) - ((TQ.length : Nat) : Int) = ((bl : Nat) : Int) := by omega
      have hwb := wrap_pow bl (by omega)
      generalize 2 ^ bl = MB at *
      go_wp2_with fail
      refine gM'.out.mono ?_
      rintro e w4 ⟨rfl, hb4⟩
      have HE4 := Lib.hid (HE3.out.go hb4)
      have HP4 := Lib.hid (HP3.out.below hb4)
      have HT4 := Lib.hid (HT3.out.below hb4 hw3)
      have hw4 : 1 < w4.heap.size := by have := hb4.size; omega
      have hB4 := hB3.trans (hb4.mono hB3.size)
      have gS := Lib.hid (eS.out true w4 HP4.out)
      clear HE3 HP3 HT3 hw3 hB3 hb4 gM' eS
      cases hc : can N L true A with
      | false =>
        rw [hc, if_neg (by decide)] at gS
        have gF := Lib.hid (fun W hv hT hw => eF.out true W hv hT hw)
        rw [hc, if_neg (by decide)] at gF
        clear hc pT eE eZ HX
        go_wp2_with fail
        refine gS.out.mono ?_
        rintro e w5 ⟨rfl, hb5⟩
        have HP5 := Lib.hid (HP4.out.below hb5)
        have HT5 := Lib.hid (HT4.out.below hb5 hw4)
        have hw5 : 1 < w5.heap.size := by have := hb5.size; omega
        have hB5 := hB4.trans (hb5.mono hB4.size)
        have gF' := Lib.hid (gF.out w5 HP5.out HT5.out hw5)
        clear HE4 HP4 HT4 hw4 hB4 hb5 gS gF
        go_wp2_with fail
        refine gF'.out.mono ?_
        rintro e w6 ⟨rfl, hb6⟩
        have HP6 := Lib.hid (HP5.out.below hb6)
        have hB6 := hB5.trans (hb6.mono hB5.size)
        clear HP5 HT5 hw5 hB5 hb6 gF' eF
        go_wp2
        go_roundw
        case rel => exact ⟨1, rfl, .inr (.inl rfl), HP6, hB6⟩
        case measure => simp [intOf]
      | true =>
        rw [hc, if_pos rfl] at gS
        have gF := Lib.hid (fun W hv hT hw => eF.out true W hv hT hw)
        rw [hc, if_pos rfl] at gF
        obtain ⟨⟨hsl, hse⟩, hbl, hbest⟩ := pT.out true hc
        have HBEST := Lib.hid hbest
        have HSE := Lib.hid hse
        have hX := Lib.hid (HX.out true)
        have gE := Lib.hid (fun s hs W hv hT hw => eE.out true s hs W hv hT hw)
        clear hc pT eE HX hbest hse
        generalize (Lt.solveOf (G N L true) A).1 = s0 at *
        generalize Lt.fewOf (G N L true) A = bst at *
        go_wp2_with fail
        refine gS.out.mono ?_
        rintro e w5 ⟨rfl, hb5⟩
        have HE5 := Lib.hid (HE4.out.go hb5)
        have HP5 := Lib.hid (HP4.out.below hb5)
        have HT5 := Lib.hid (HT4.out.below hb5 hw4)
        have hw5 : 1 < w5.heap.size := by have := hb5.size; omega
        have hB5 := hB4.trans (hb5.mono hB4.size)
        have gF' := Lib.hid (gF.out w5 HP5.out HT5.out hw5)
        clear HE4 HP4 HT4 hw4 hB4 hb5 gS gF
        go_wp2_with fail
        refine gF'.out.mono ?_
        rintro e w6 ⟨rfl, hb6⟩
        have HE6 := Lib.hid (HE5.out.go hb6)
        have HP6 := Lib.hid (HP5.out.below hb6)
        have HT6 := Lib.hid (HT5.out.below hb6 hw5)
        have hw6 : 1 < w6.heap.size := by have := hb6.size; omega
        have hB6 := hB5.trans (hb6.mono hB5.size)
        have c6 := (hB6.cell (p := ⟨w.heap.size, 1, none⟩) hs1).trans c1.out
        clear HE5 HP5 HT5 hw5 hB5 hb6 gF' eF
        go_wp2
        obtain ⟨wa, hwa⟩ : ∃ wa : World, wa = w6 := ⟨_, rfl⟩
        subst hwa
        go_loopw [14, 20] (fun v i W => ∃ (t s : Nat), i = .int .i64 t ∧ v = .int .i64 s ∧ t ≤ TQ.length ∧ s < 2 ^ N ∧ Hid (Lt.eff (G N L true) s = A) ∧ W = wa)
          (fun _ i _ => TQ.length - (intOf i).toNat)
        case atStart => exact ⟨0, s0, rfl, rfl, Nat.zero_le _, hsl, HSE, rfl⟩
        case round =>
          clear HSE hsl
          obtain ⟨t, s, rfl, rfl, ht, hsl, HSE, rfl⟩ := hrel
          by_cases htl : t < TQ.length
          · obtain ⟨g, off, rfl, hgw, hc⟩ := HE6.out t htl
            obtain ⟨hql, hqe⟩ := hqm.out _ (Lt.mem_getD htl)
            have hxo := Lt.xor_i64 s (TQ[t]?.getD 0) (by omega) (by omega)
            have hxl : s ^^^ (TQ[t]?.getD 0) < 2 ^ N := Nat.xor_lt_two_pow hsl hql
            have HXE : Hid (Lt.eff (G N L true) (s ^^^ (TQ[t]?.getD 0)) = A) := Lib.hid (by rw [hX.out, HSE.out, hqe, Nat.xor_zero])
            have ht60 := tmod_nat t 60
            have ht60' : ((t : Nat) : Int).tmod 60 = ((t % 60 : Nat) : Int) := ht60
            have hm60 : t % 60 < 60 := Nat.mod_lt _ (by decide)
            clear ht60 hqe
            generalize t % 60 = m60 at *
            generalize s ^^^ (TQ[t]?.getD 0) = s' at *
            generalize TQ[t]?.getD 0 = q at *
            generalize hbit : ((y / 2 ^ m60).tmod 2 != 0) = bb
            cases bb with
            | false =>
              go_wp2
              go_roundw
              case rel => exact ⟨t + 1, s, by go_num, rfl, by omega, hsl, HSE, trivial⟩
              case measure => simp [intOf]; omega
            | true =>
              go_wp2
              go_roundw
              case rel => exact ⟨t + 1, s', by go_num, rfl, by omega, hxl, HXE, trivial⟩
              case measure => simp [intOf]; omega
          · have hpp := HBEST.out s hsl HSE.out
            have z1 := Lib.hid (eZ.out bst hbl)
            have z2 := Lib.hid (eZ.out s hsl)
            have gE' := Lib.hid (gE.out s hsl wr HP6.out HT6.out hw6)
            rw [HSE.out] at gE'
            have k1 : ¬ ((2 ^ N : Nat) : Int) ≤ (s : Int) := by omega
            have k2 : ¬ ((2 ^ N : Nat) : Int) ≤ (bst : Int) := by omega
            have k3 : ¬ ((Lt.pop s : Nat) : Int) < ((Lt.pop bst : Nat) : Int) := by omega
            clear HBEST HSE gE eZ hX hqm
            generalize Lt.pop s = ps at *
            generalize Lt.pop bst = pb at *
            generalize 2 ^ N = M at *
            go_wp2_with fail
            refine (z1.out _).mono ?_
            rintro e w7 ⟨rfl, rfl⟩
            go_wp2_with fail
            refine (z2.out _).mono ?_
            rintro e w7 ⟨rfl, rfl⟩
            clear z1 z2
            go_wp2_with fail
            refine gE'.out.mono ?_
            rintro e w7 ⟨rfl, hb7⟩
            have HP7 := Lib.hid (HP6.out.below hb7)
            have hB7 := hB6.trans (hb7.mono hB6.size)
            clear gE' HP6 hb7
            go_wp2
            go_roundw
            case rel => exact ⟨1, rfl, .inr (.inl rfl), HP7, hB7⟩
            case measure => simp [intOf]
    · have gQ := Lib.hid (eQ.out false wr HP.out)
      have hcn := pC.out false
      have hqm := Lib.hid (pQ.out false)
      have gM := Lib.hid (fun W hv => eM.out false W hv)
      go_wp2_with fail
      refine gQ.out.mono ?_
      rintro e w3 ⟨vq, rfl, hrq, hb3⟩
      obtain ⟨aq, cq, rfl, hEq⟩ := elems_of_row hrq
      have HE3 := Lib.hid hEq
      have HP3 := Lib.hid (HP.out.below hb3)
      have HT3 := Lib.hid (HT.out.below hb3 hw0)
      have hw3 : 1 < w3.heap.size := by have := hb3.size; omega
      have hB3 := hB.trans (hb3.mono hB.size)
      have gM' := Lib.hid (gM.out w3 HP3.out)
      clear HP HT hw0 hB hb3 gQ hrq hEq eQ eM pQ pC gM
      generalize Lt.tidy (Lt.quietOf (G N L false)) = TQ at *
      generalize (Lt.basisOf (G N L false)).length = bl at *
      have hsub : ((N : Nat) : Int) - ((TQ.length : Nat) : Int) = ((bl : Nat) : Int) := by omega
      have hwb := wrap_pow bl (by omega)
      generalize 2 ^ bl = MB at *
      go_wp2_with fail
      refine gM'.out.mono ?_
      rintro e w4 ⟨rfl, hb4⟩
      have HE4 := Lib.hid (HE3.out.go hb4)
      have HP4 := Lib.hid (HP3.out.below hb4)
      have HT4 := Lib.hid (HT3.out.below hb4 hw3)
      have hw4 : 1 < w4.heap.size := by have := hb4.size; omega
      have hB4 := hB3.trans (hb4.mono hB3.size)
      have gS := Lib.hid (eS.out false w4 HP4.out)
      clear HE3 HP3 HT3 hw3 hB3 hb4 gM' eS
      cases hc : can N L false A with
      | false =>
        rw [hc, if_neg (by decide)] at gS
        have gF := Lib.hid (fun W hv hT hw => eF.out false W hv hT hw)
        rw [hc, if_neg (by decide)] at gF
        clear hc pT eE eZ HX
        go_wp2_with fail
        refine gS.out.mono ?_
        rintro e w5 ⟨rfl, hb5⟩
        have HP5 := Lib.hid (HP4.out.below hb5)
        have HT5 := Lib.hid (HT4.out.below hb5 hw4)
        have hw5 : 1 < w5.heap.size := by have := hb5.size; omega
        have hB5 := hB4.trans (hb5.mono hB4.size)
        have gF' := Lib.hid (gF.out w5 HP5.out HT5.out hw5)
        clear HE4 HP4 HT4 hw4 hB4 hb5 gS gF
        go_wp2_with fail
        refine gF'.out.mono ?_
        rintro e w6 ⟨rfl, hb6⟩
        have HP6 := Lib.hid (HP5.out.below hb6)
        have hB6 := hB5.trans (hb6.mono hB5.size)
        clear HP5 HT5 hw5 hB5 hb6 gF' eF
        go_wp2
        go_roundw
        case rel => exact ⟨2, rfl, .inr (.inr rfl), HP6, hB6⟩
        case measure => simp [intOf]
      | true =>
        rw [hc, if_pos rfl] at gS
        have gF := Lib.hid (fun W hv hT hw => eF.out false W hv hT hw)
        rw [hc, if_pos rfl] at gF
        obtain ⟨⟨hsl, hse⟩, hbl, hbest⟩ := pT.out false hc
        have HBEST := Lib.hid hbest
        have HSE := Lib.hid hse
        have hX := Lib.hid (HX.out false)
        have gE := Lib.hid (fun s hs W hv hT hw => eE.out false s hs W hv hT hw)
        clear hc pT eE HX hbest hse
        generalize (Lt.solveOf (G N L false) A).1 = s0 at *
        generalize Lt.fewOf (G N L false) A = bst at *
        go_wp2_with fail
        refine gS.out.mono ?_
        rintro e w5 ⟨rfl, hb5⟩
        have HE5 := Lib.hid (HE4.out.go hb5)
        have HP5 := Lib.hid (HP4.out.below hb5)
        have HT5 := Lib.hid (HT4.out.below hb5 hw4)
        have hw5 : 1 < w5.heap.size := by have := hb5.size; omega
        have hB5 := hB4.trans (hb5.mono hB4.size)
        have gF' := Lib.hid (gF.out w5 HP5.out HT5.out hw5)
        clear HE4 HP4 HT4 hw4 hB4 hb5 gS gF
        go_wp2_with fail
        refine gF'.out.mono ?_
        rintro e w6 ⟨rfl, hb6⟩
        have HE6 := Lib.hid (HE5.out.go hb6)
        have HP6 := Lib.hid (HP5.out.below hb6)
        have HT6 := Lib.hid (HT5.out.below hb6 hw5)
        have hw6 : 1 < w6.heap.size := by have := hb6.size; omega
        have hB6 := hB5.trans (hb6.mono hB5.size)
        have c6 := (hB6.cell (p := ⟨w.heap.size, 1, none⟩) hs1).trans c1.out
        clear HE5 HP5 HT5 hw5 hB5 hb6 gF' eF
        go_wp2
        obtain ⟨wa, hwa⟩ : ∃ wa : World, wa = w6 := ⟨_, rfl⟩
        subst hwa
        go_loopw [14, 20] (fun v i W => ∃ (t s : Nat), i = .int .i64 t ∧ v = .int .i64 s ∧ t ≤ TQ.length ∧ s < 2 ^ N ∧ Hid (Lt.eff (G N L false) s = A) ∧ W = wa)
          (fun _ i _ => TQ.length - (intOf i).toNat)
        case atStart => exact ⟨0, s0, rfl, rfl, Nat.zero_le _, hsl, HSE, rfl⟩
        case round =>
          clear HSE hsl
          obtain ⟨t, s, rfl, rfl, ht, hsl, HSE, rfl⟩ := hrel
          by_cases htl : t < TQ.length
          · obtain ⟨g, off, rfl, hgw, hc⟩ := HE6.out t htl
            obtain ⟨hql, hqe⟩ := hqm.out _ (Lt.mem_getD htl)
            have hxo := Lt.xor_i64 s (TQ[t]?.getD 0) (by omega) (by omega)
            have hxl : s ^^^ (TQ[t]?.getD 0) < 2 ^ N := Nat.xor_lt_two_pow hsl hql
            have HXE : Hid (Lt.eff (G N L false) (s ^^^ (TQ[t]?.getD 0)) = A) := Lib.hid (by rw [hX.out, HSE.out, hqe, Nat.xor_zero])
            have ht60 := tmod_nat t 60
            have ht60' : ((t : Nat) : Int).tmod 60 = ((t % 60 : Nat) : Int) := ht60
            have hm60 : t % 60 < 60 := Nat.mod_lt _ (by decide)
            clear ht60 hqe
            generalize t % 60 = m60 at *
            generalize s ^^^ (TQ[t]?.getD 0) = s' at *
            generalize TQ[t]?.getD 0 = q at *
            generalize hbit : ((y / 2 ^ m60).tmod 2 != 0) = bb
            cases bb with
            | false =>
              go_wp2
              go_roundw
              case rel => exact ⟨t + 1, s, by go_num, rfl, by omega, hsl, HSE, trivial⟩
              case measure => simp [intOf]; omega
            | true =>
              go_wp2
              go_roundw
              case rel => exact ⟨t + 1, s', by go_num, rfl, by omega, hxl, HXE, trivial⟩
              case measure => simp [intOf]; omega
          · have hpp := HBEST.out s hsl HSE.out
            have z1 := Lib.hid (eZ.out bst hbl)
            have z2 := Lib.hid (eZ.out s hsl)
            have gE' := Lib.hid (gE.out s hsl wr HP6.out HT6.out hw6)
            rw [HSE.out] at gE'
            have k1 : ¬ ((2 ^ N : Nat) : Int) ≤ (s : Int) := by omega
            have k2 : ¬ ((2 ^ N : Nat) : Int) ≤ (bst : Int) := by omega
            have k3 : ¬ ((Lt.pop s : Nat) : Int) < ((Lt.pop bst : Nat) : Int) := by omega
            clear HBEST HSE gE eZ hX hqm
            generalize Lt.pop s = ps at *
            generalize Lt.pop bst = pb at *
            generalize 2 ^ N = M at *
            go_wp2_with fail
            refine (z1.out _).mono ?_
            rintro e w7 ⟨rfl, rfl⟩
            go_wp2_with fail
            refine (z2.out _).mono ?_
            rintro e w7 ⟨rfl, rfl⟩
            clear z1 z2
            go_wp2_with fail
            refine gE'.out.mono ?_
            rintro e w7 ⟨rfl, hb7⟩
            have HP7 := Lib.hid (HP6.out.below hb7)
            have hB7 := hB6.trans (hb7.mono hB6.size)
            clear gE' HP6 hb7
            go_wp2
            go_roundw
            case rel => exact ⟨2, rfl, .inr (.inr rfl), HP7, hB7⟩
            case measure => simp [intOf]
    · have haw := Lib.hid (awake_any wr HT.out hw0)
      clear eQ eM eS eF eE eZ pT pQ pC HX
      go_wp2_with (go_at_call 19; refine haw.out.mono ?_; rintro e w7 ⟨rfl, hb7⟩)
      go_ret
      exact ⟨rfl, (hB1.trans (hB.mono (Nat.le_of_lt hs1))).trans (hb7.mono (by have := hB.size; omega))⟩

end Go.Proofs.YtdlogklhekopgaaDoor
