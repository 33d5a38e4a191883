/- Contracts of the program's functions: a part of the proof. -/
import Derived.Test.YtdlogklhekopgaaDoorGR
set_option linter.unusedVariables false
set_option linter.unusedSimpArgs false

namespace Go.Proofs.YtdlogklhekopgaaDoor
open Go.RowKit Go.Shelf Go.Proofs
attribute [local go_sem] Oper.semAt_some

theorem odd_int (p : Nat) : (((p : Nat) : Int).tmod 2 == 1) = (p % 2 == 1) := by
  rw [tmod2]
  rcases Nat.mod_two_eq_zero_or_one p with e | e <;> rw [e] <;> rfl
theorem odd_int' (p : Nat) : (((p : Nat) : Int) % 2 == 1) = (p % 2 == 1) := by
  have e : ((p : Nat) : Int) % 2 = ((p % 2 : Nat) : Int) := by omega
  rw [e]
  rcases Nat.mod_two_eq_zero_or_one p with e | e <;> rw [e] <;> rfl

set_option maxRecDepth 100000 in
set_option maxHeartbeats 4000000 in
/-- ref.IsRefutation -/
theorem refIs_ok {N : Nat} {es : List (Int × Int)} (h : Ok N es) (own : Bool) (ad : Option Addr) (cap t q : Nat) (ht : t < 2 ^ N) (hq : q < 2 ^ N) (w : World) (he : Elems w w.heap.size ad (G N es own)) :
    Calls Tryd.prog 44 #[.slice ad N cap, .int .i64 t, .int .i64 q] w fun e w' => e = .returned (.bool (decide (Lt.eff (G N es own) q = 0) && oddB (q &&& t))) ∧ w' = w := by
  have hpw := h.pow
  have hf := Lib.hid (reff_ok h own ad cap q hq w he)
  have hand := Lt.and_i64 t q (by omega) (by omega)
  have hle : t &&& q < 65536 := Nat.lt_of_le_of_lt Nat.and_le_left (by omega)
  have hsz := Lib.hid (fun W => refSize_any (t &&& q) W hle)
  have hodd : oddB (q &&& t) = (Lt.pop (t &&& q) % 2 == 1) := by unfold oddB; rw [Nat.and_comm]
  have ho := odd_int' (Lt.pop (t &&& q))
  rw [← hodd] at ho
  have ho' := Lib.hid ho
  generalize oddB (q &&& t) = bb at *
  generalize Lt.pop (t &&& q) = pp at *
  generalize t &&& q = u at *
  clear hodd he
  by_cases h0 : Lt.eff (G N es own) q = 0
  · have hd : decide (Lt.eff (G N es own) q = 0) = true := by simpa using h0
    rw [hd, Bool.true_and]
    rw [h0] at hf
    clear hd h0
    go_enter Tryd.func44, Tryd.ntmps44
    go_wp2_with fail
    refine hf.out.mono ?_
    rintro e w1 ⟨rfl, rfl⟩
    go_wp2_with fail
    refine (hsz.out _).mono ?_
    rintro e w1 ⟨rfl, rfl⟩
    clear ho
    go_wp2
    go_ret
    exact ⟨by rw [← ho'.out]; rfl, rfl⟩
  · have hd : decide (Lt.eff (G N es own) q = 0) = false := by simpa using h0
    have hrt : (((Lt.eff (G N es own) q : Nat) : Int) == 0) = false := by simpa using h0
    rw [hd, Bool.false_and]
    clear hd h0
    generalize Lt.eff (G N es own) q = r at *
    go_enter Tryd.func44, Tryd.ntmps44
    go_wp2_with fail
    refine hf.out.mono ?_
    rintro e w1 ⟨rfl, rfl⟩
    go_wp2
    go_ret
    exact ⟨rfl, rfl⟩

/-- a target that can not be reached is refuted -/
theorem Ok.refuted {N : Nat} {es : List (Int × Int)} (h : Ok N es) (own : Bool) {t : Nat} (ht : t < 2 ^ N) (hc : can N es own t = false) :
    ∃ r, refuter (Lt.quietOf (G N es own)) t = some r ∧ r < 2 ^ N ∧ Lt.eff (G N es own) r = 0 ∧ oddB (r &&& t) = true := by
  have hno : ¬ ∃ s, Lt.eff (G N es own) s = t := fun hs => by
    have := (Lt.solve_iff (G N es own) t).2 hs
    unfold can at hc; rw [this] at hc; simp at hc
  obtain ⟨q, hq, hd⟩ := Lt.refute_of (h.small own) (h.sym own) (by rw [G_length]; exact ht) hno
  rw [G_length] at hd
  cases hr : refuter (Lt.quietOf (G N es own)) t with
  | none =>
    unfold refuter at hr
    rw [List.find?_eq_none] at hr
    have := hr q hq
    rw [oddB_dot (Ok.quiet_lt own q hq) (by have := h.most; omega), hd] at this
    simp at this
  | some r =>
    have hm : r ∈ Lt.quietOf (G N es own) := List.mem_of_find?_eq_some hr
    have ho : oddB (r &&& t) = true := by have := List.find?_some hr; simpa using this
    exact ⟨r, rfl, Ok.quiet_lt own r hm, (Lt.inv_of (G N es own)).effQ r hm, ho⟩
theorem Ok.solved {N : Nat} {es : List (Int × Int)} (_h : Ok N es) (own : Bool) {t : Nat} (hc : can N es own t = true) : (Lt.solveOf (G N es own) t).1 < 2 ^ N ∧ Lt.eff (G N es own) (Lt.solveOf (G N es own) t).1 = t := by
  have := Lt.solve_lt (G N es own) t
  rw [G_length] at this
  exact ⟨this, Lt.solve_sound _ _ (by simpa [can] using hc)⟩

set_option maxRecDepth 100000 in
set_option maxHeartbeats 8000000 in
/-- one graph's round of LightRefutes, of what it returns: near, refute, isrefutation, solve -/
theorem lightRefutes_any (n : Int) (lv : Value) (es : List (Int × Int)) (x y : Int) (w : World) (hes : ReadsP w lv es) (hT : Tab w) (hw : 1 < w.heap.size) :
    Calls Tryd.prog 12 #[.int .i64 n, lv, .agg #[.int .i64 x, .int .i64 y]] w fun e w' => e = .returned (.bool true) ∧ Below w.heap.size w w' := by
  have hB0 : Below w.heap.size w (w.alloc (.cells #[.int .i64 x, .int .i64 y] 29)) := below_one _
  have ht := Lib.hid (tame_ok n lv es 12 (by decide) (by decide) _ (hes.below hB0))
  have hx0 : (w.alloc (.cells #[.int .i64 x, .int .i64 y] 29)).cell? ⟨w.heap.size, 0, none⟩ = some (.int .i64 x) := cell_two_new w _ _ _ 0 _ rfl
  have hy0 : (w.alloc (.cells #[.int .i64 x, .int .i64 y] 29)).cell? ⟨w.heap.size, 1, none⟩ = some (.int .i64 y) := cell_two_new w _ _ _ 1 _ rfl
  have hs0 : w.heap.size < (w.alloc (.cells #[.int .i64 x, .int .i64 y] 29)).heap.size := by simp
  have HX0 := Lib.hid hx0
  have HY0 := Lib.hid hy0
  clear hes hx0 hy0
  go_enter Tryd.func12, Tryd.ntmps12
  go_wp2_with fail
  refine ht.out.mono ?_
  rintro e w1 ⟨N, L, ad, k, cap, rfl, -, hO, hp, hb1⟩
  have HO := Lib.hid hO
  have HP := Lib.hid hp
  have h16 := hO.most
  have c0 := (hb1.cell (p := ⟨w.heap.size, 0, none⟩) hs0).trans HX0.out
  have c1 := (hb1.cell (p := ⟨w.heap.size, 1, none⟩) hs0).trans HY0.out
  have hB1 := hB0.trans (hb1.mono hB0.size)
  have hsv := Lib.hid (fun z W => set_val z N W h16)
  have hS := setN_lt x N h16
  have hSy := setN_lt y N h16
  clear ht hO hp hB0 hb1 HX0 HY0 hs0
  go_wp2
  go_quiet ((go_at_call 31; refine Calls.quiet_of_same (hsv.out _ _)))
  clear hsv c0 c1
  have HP1 : Hid (ReadsP (w1.drewN nq) (.slice ad k cap) L) := Lib.hid (ReadsP.below (w := w1) ⟨rfl, rfl, rfl, Nat.le_refl _, fun _ _ => rfl⟩ HP.out)
  have hB2 : Below w.heap.size w (w1.drewN nq) := hB1.trans ⟨rfl, rfl, rfl, Nat.le_refl _, fun _ _ => rfl⟩
  generalize w1.drewN nq = w2 at *
  generalize setN x N = A at *
  generalize setN y N = B at *
  clear HP hB1
  have hpw := HO.out.pow
  have e4 := Lib.hid (fun own W hv => near_ok HO.out (.slice ad k cap) own W hv)
  have eR := Lib.hid (fun own W hv => refute_ok HO.out (.slice ad k cap) own hS W hv)
  have eI := Lib.hid (fun own W hv hT hw => isref_ok HO.out (.slice ad k cap) own hS hSy W hv hT hw)
  have eS := Lib.hid (fun own W hv => solve_ok HO.out (.slice ad k cap) own hS W hv)
  have fI := Lib.hid (fun own ad cap q hq W h => refIs_ok HO.out own ad cap A q hS hq W h)
  have fE := Lib.hid (fun own ad cap q hq W h => reff_ok HO.out own ad cap q hq W h)
  have pT := Lib.hid (fun own (hc : can N L own A = true) => And.intro (HO.out.no_refuter own hc) (HO.out.solved own hc))
  have pF := Lib.hid (fun own (hc : can N L own A = false) => HO.out.refuted own hS hc)
  have hwp := wrap_pow N (by omega)
  have hp0 := Nat.two_pow_pos N
  go_wp2
  go_loopw [10] (fun i W => ∃ (j : Int), i = .int .i64 j ∧ (j = 0 ∨ j = 1 ∨ j = 2) ∧ Hid (ReadsP W (.slice ad k cap) L) ∧ Below w.heap.size w W)
    (fun i _ => 2 - (intOf i).toNat)
  case atStart => exact ⟨0, rfl, .inl rfl, HP1, hB2⟩
  case round =>
    clear HP1 hB2
    obtain ⟨j, rfl, hj, HP, hB⟩ := hrel
    have hw0 : 1 < wr.heap.size := by have := hB.size; omega
    have HT := Lib.hid (hT.below hB hw)
    rcases hj with rfl | rfl | rfl
    · have f4 := Lib.hid (e4.out true wr HP.out)
      have gI := Lib.hid (fun W hv hT hw => eI.out true W hv hT hw)
      have hI := Lib.hid (fun ad cap W h => fI.out true ad cap B hSy W h)
      generalize hbb : (decide (Lt.eff (G N L true) B = 0) && oddB (B &&& A)) = bb at *
      go_wp2_with fail
      refine f4.out.mono ?_
      rintro e w3 ⟨a3, c3, rfl, E3, hb3⟩
      have HE3 := Lib.hid E3
      have HP3 := Lib.hid (HP.out.below hb3)
      have HT3 := Lib.hid (HT.out.below hb3 hw0)
      have hw3 : 1 < w3.heap.size := by have := hb3.size; omega
      have hB3 := hB.trans (hb3.mono hB.size)
      have gR := Lib.hid (eR.out true w3 HP3.out)
      clear HP HT hw0 hB hb3 f4 E3 e4
      cases hc : can N L true A with
      | true =>
        obtain ⟨hn, hsl, hse⟩ := pT.out true hc
        rw [hn] at gR
        simp only [Option.getD_none, Option.isSome_none] at gR
        have gS := Lib.hid (fun W hv => eS.out true W hv)
        rw [hc, if_pos rfl] at gS
        have gE := Lib.hid (fun ad cap W h => fE.out true ad cap _ hsl W h)
        rw [hse] at gE
        generalize (Lt.solveOf (G N L true) A).1 = s at *
        have hsM : ¬ ((2 ^ N : Nat) : Int) ≤ (s : Int) := by omega
        clear hn hse hc hbb
        generalize 2 ^ N = M at *
        go_wp2_with fail
        refine gR.out.mono ?_
        rintro e w4 ⟨rfl, hb4⟩
        have HE4 := Lib.hid (HE3.out.go hb4)
        have HP4 := Lib.hid (HP3.out.below hb4)
        have HT4 := Lib.hid (HT3.out.below hb4 hw3)
        have hw4 : 1 < w4.heap.size := by have := hb4.size; omega
        have hB4 := hB3.trans (hb4.mono hB3.size)
        have gI' := Lib.hid (gI.out w4 HP4.out HT4.out hw4)
        clear HE3 HP3 HT3 hw3 hB3 hb4 gR gI eI eR
        go_wp2_with fail
        refine gI'.out.mono ?_
        rintro e w5 ⟨rfl, hb5⟩
        have HE5 := Lib.hid (HE4.out.go hb5)
        have HP5 := Lib.hid (HP4.out.below hb5)
        have hB5 := hB4.trans (hb5.mono hB4.size)
        have gS' := Lib.hid (gS.out w5 HP5.out)
        clear HE4 HP4 HT4 hw4 hB4 hb5 gI' gS eS
        go_wp2_with fail
        refine gS'.out.mono ?_
        rintro e w6 ⟨rfl, hb6⟩
        have HE6 := Lib.hid (HE5.out.go hb6)
        have HP6 := Lib.hid (HP5.out.below hb6)
        have hB6 := hB5.trans (hb6.mono hB5.size)
        have hI' := Lib.hid (hI.out a3 c3 w6 HE6.out)
        have gE' := Lib.hid (gE.out a3 c3 w6 HE6.out)
        clear HE5 HP5 hB5 hb6 gS' hI gE HE6
        go_wp2_with fail
        refine hI'.out.mono ?_
        rintro e w7 ⟨rfl, rfl⟩
        clear hI'
        go_wp2_with fail
        refine gE'.out.mono ?_
        rintro e w8 ⟨rfl, rfl⟩
        clear gE'
        go_wp2
        go_roundw
        case rel => exact ⟨1, rfl, .inr (.inl rfl), HP6, hB6⟩
        case measure => simp [intOf]
      | false =>
        obtain ⟨r, hn, hsl, hse, hro⟩ := pF.out true hc
        rw [hn] at gR
        simp only [Option.getD_some, Option.isSome_some] at gR
        have gS := Lib.hid (fun W hv => eS.out true W hv)
        rw [hc, if_neg (by decide)] at gS
        have gE := Lib.hid (fun ad cap W h => fI.out true ad cap r hsl W h)
        rw [hse, hro] at gE
        simp only [decide_true, Bool.and_self] at gE
        have hsM : ¬ ((2 ^ N : Nat) : Int) ≤ (r : Int) := by omega
        clear hn hse hc hbb hro
        generalize 2 ^ N = M at *
        go_wp2_with fail
        refine gR.out.mono ?_
        rintro e w4 ⟨rfl, hb4⟩
        have HE4 := Lib.hid (HE3.out.go hb4)
        have HP4 := Lib.hid (HP3.out.below hb4)
        have HT4 := Lib.hid (HT3.out.below hb4 hw3)
        have hw4 : 1 < w4.heap.size := by have := hb4.size; omega
        have hB4 := hB3.trans (hb4.mono hB3.size)
        have gI' := Lib.hid (gI.out w4 HP4.out HT4.out hw4)
        clear HE3 HP3 HT3 hw3 hB3 hb4 gR gI eI eR
        go_wp2_with fail
        refine gI'.out.mono ?_
        rintro e w5 ⟨rfl, hb5⟩
        have HE5 := Lib.hid (HE4.out.go hb5)
        have HP5 := Lib.hid (HP4.out.below hb5)
        have hB5 := hB4.trans (hb5.mono hB4.size)
        have gS' := Lib.hid (gS.out w5 HP5.out)
        clear HE4 HP4 HT4 hw4 hB4 hb5 gI' gS eS
        go_wp2_with fail
        refine gS'.out.mono ?_
        rintro e w6 ⟨rfl, hb6⟩
        have HE6 := Lib.hid (HE5.out.go hb6)
        have HP6 := Lib.hid (HP5.out.below hb6)
        have hB6 := hB5.trans (hb6.mono hB5.size)
        have hI' := Lib.hid (hI.out a3 c3 w6 HE6.out)
        have gE' := Lib.hid (gE.out a3 c3 w6 HE6.out)
        clear HE5 HP5 hB5 hb6 gS' hI gE HE6
        go_wp2_with fail
        refine hI'.out.mono ?_
        rintro e w7 ⟨rfl, rfl⟩
        clear hI'
        go_wp2_with fail
        refine gE'.out.mono ?_
        rintro e w8 ⟨rfl, rfl⟩
        clear gE'
        go_wp2
        go_roundw
        case rel => exact ⟨1, rfl, .inr (.inl rfl), HP6, hB6⟩
        case measure => simp [intOf]
    · have f4 := Lib.hid (e4.out false wr HP.out)
      have gI := Lib.hid (fun W hv hT hw => eI.out false W hv hT hw)
      have hI := Lib.hid (fun ad cap W h => fI.out false ad cap B hSy W h)
      generalize hbb : (decide (Lt.eff (G N L false) B = 0) && oddB (B &&& A)) = bb at *
      go_wp2_with fail
      refine f4.out.mono ?_
      rintro e w3 ⟨a3, c3, rfl, E3, hb3⟩
      have HE3 := Lib.hid E3
      have HP3 := Lib.hid (HP.out.below hb3)
      have HT3 := Lib.hid (HT.out.below hb3 hw0)
      have hw3 : 1 < w3.heap.size := by have := hb3.size; omega
      have hB3 := hB.trans (hb3.mono hB.size)
      have gR := Lib.hid (eR.out false w3 HP3.out)
      clear HP HT hw0 hB hb3 f4 E3 e4
      cases hc : can N L false A with
      | true =>
        obtain ⟨hn, hsl, hse⟩ := pT.out false hc
        rw [hn] at gR
        simp only [Option.getD_none, Option.isSome_none] at gR
        have gS := Lib.hid (fun W hv => eS.out false W hv)
        rw [hc, if_pos rfl] at gS
        have gE := Lib.hid (fun ad cap W h => fE.out false ad cap _ hsl W h)
        rw [hse] at gE
        generalize (Lt.solveOf (G N L false) A).1 = s at *
        have hsM : ¬ ((2 ^ N : Nat) : Int) ≤ (s : Int) := by omega
        clear hn hse hc hbb
        generalize 2 ^ N = M at *
        go_wp2_with fail
        refine gR.out.mono ?_
        rintro e w4 ⟨rfl, hb4⟩
        have HE4 := Lib.hid (HE3.out.go hb4)
        have HP4 := Lib.hid (HP3.out.below hb4)
        have HT4 := Lib.hid (HT3.out.below hb4 hw3)
        have hw4 : 1 < w4.heap.size := by have := hb4.size; omega
        have hB4 := hB3.trans (hb4.mono hB3.size)
        have gI' := Lib.hid (gI.out w4 HP4.out HT4.out hw4)
        clear HE3 HP3 HT3 hw3 hB3 hb4 gR gI eI eR
        go_wp2_with fail
        refine gI'.out.mono ?_
        rintro e w5 ⟨rfl, hb5⟩
        have HE5 := Lib.hid (HE4.out.go hb5)
        have HP5 := Lib.hid (HP4.out.below hb5)
        have hB5 := hB4.trans (hb5.mono hB4.size)
        have gS' := Lib.hid (gS.out w5 HP5.out)
        clear HE4 HP4 HT4 hw4 hB4 hb5 gI' gS eS
        go_wp2_with fail
        refine gS'.out.mono ?_
        rintro e w6 ⟨rfl, hb6⟩
        have HE6 := Lib.hid (HE5.out.go hb6)
        have HP6 := Lib.hid (HP5.out.below hb6)
        have hB6 := hB5.trans (hb6.mono hB5.size)
        have hI' := Lib.hid (hI.out a3 c3 w6 HE6.out)
        have gE' := Lib.hid (gE.out a3 c3 w6 HE6.out)
        clear HE5 HP5 hB5 hb6 gS' hI gE HE6
        go_wp2_with fail
        refine hI'.out.mono ?_
        rintro e w7 ⟨rfl, rfl⟩
        clear hI'
        go_wp2_with fail
        refine gE'.out.mono ?_
        rintro e w8 ⟨rfl, rfl⟩
        clear gE'
        go_wp2
        go_roundw
        case rel => exact ⟨2, rfl, .inr (.inr rfl), HP6, hB6⟩
        case measure => simp [intOf]
      | false =>
        obtain ⟨r, hn, hsl, hse, hro⟩ := pF.out false hc
        rw [hn] at gR
        simp only [Option.getD_some, Option.isSome_some] at gR
        have gS := Lib.hid (fun W hv => eS.out false W hv)
        rw [hc, if_neg (by decide)] at gS
        have gE := Lib.hid (fun ad cap W h => fI.out false ad cap r hsl W h)
        rw [hse, hro] at gE
        simp only [decide_true, Bool.and_self] at gE
        have hsM : ¬ ((2 ^ N : Nat) : Int) ≤ (r : Int) := by omega
        clear hn hse hc hbb hro
        generalize 2 ^ N = M at *
        go_wp2_with fail
        refine gR.out.mono ?_
        rintro e w4 ⟨rfl, hb4⟩
        have HE4 := Lib.hid (HE3.out.go hb4)
        have HP4 := Lib.hid (HP3.out.below hb4)
        have HT4 := Lib.hid (HT3.out.below hb4 hw3)
        have hw4 : 1 < w4.heap.size := by have := hb4.size; omega
        have hB4 := hB3.trans (hb4.mono hB3.size)
        have gI' := Lib.hid (gI.out w4 HP4.out HT4.out hw4)
        clear HE3 HP3 HT3 hw3 hB3 hb4 gR gI eI eR
        go_wp2_with fail
        refine gI'.out.mono ?_
        rintro e w5 ⟨rfl, hb5⟩
        have HE5 := Lib.hid (HE4.out.go hb5)
        have HP5 := Lib.hid (HP4.out.below hb5)
        have hB5 := hB4.trans (hb5.mono hB4.size)
        have gS' := Lib.hid (gS.out w5 HP5.out)
        clear HE4 HP4 HT4 hw4 hB4 hb5 gI' gS eS
        go_wp2_with fail
        refine gS'.out.mono ?_
        rintro e w6 ⟨rfl, hb6⟩
        have HE6 := Lib.hid (HE5.out.go hb6)
        have HP6 := Lib.hid (HP5.out.below hb6)
        have hB6 := hB5.trans (hb6.mono hB5.size)
        have hI' := Lib.hid (hI.out a3 c3 w6 HE6.out)
        have gE' := Lib.hid (gE.out a3 c3 w6 HE6.out)
        clear HE5 HP5 hB5 hb6 gS' hI gE HE6
        go_wp2_with fail
        refine hI'.out.mono ?_
        rintro e w7 ⟨rfl, rfl⟩
        clear hI'
        go_wp2_with fail
        refine gE'.out.mono ?_
        rintro e w8 ⟨rfl, rfl⟩
        clear gE'
        go_wp2
        go_roundw
        case rel => exact ⟨2, rfl, .inr (.inr rfl), HP6, hB6⟩
        case measure => simp [intOf]
    · have haw := Lib.hid (awake_any wr HT.out hw0)
      clear e4 eR eI eS fI fE pT pF
      go_wp2_with (go_at_call 19; refine haw.out.mono ?_; rintro e w7 ⟨rfl, hb7⟩)
      go_ret
      exact ⟨rfl, hB.trans (hb7.mono hB.size)⟩

end Go.Proofs.YtdlogklhekopgaaDoor
