/- Contracts of the program's functions: a part of the proof. -/
import Derived.Test.YtdlogklhekopgaaDoorGT
set_option linter.unusedVariables false
set_option linter.unusedSimpArgs false

namespace Go.Proofs.YtdlogklhekopgaaDoor
open Go.RowKit Go.Shelf Go.Proofs
attribute [local go_sem] Oper.semAt_some

/-- whole numbers as cells -/
def icells (L : List Int) : List Value := L.map (Value.int .i64)
theorem icells_length (L : List Int) : (icells L).length = L.length := by simp [icells]
theorem icells_set (L : List Int) (j : Nat) (x : Int) : (icells L).set j (.int .i64 x) = icells (L.set j x) := by unfold icells; rw [List.map_set]
theorem icells_fn (f : Nat → Int) (n : Nat) : icells ((List.range n).map f) = (List.range n).map fun j => .int .i64 (f j) := by simp [icells]
theorem icells_at {f : Nat → Int} {n j : Nat} (h : j < n) : (icells ((List.range n).map f))[j]? = some (.int .i64 (f j)) := by simp [icells, h]
theorem fn_set {f g : Nat → Int} {n i : Nat} (hi : i < n) (h : ∀ j, j ≠ i → f j = g j) : ((List.range n).map f).set i (g i) = (List.range n).map g := by
  apply List.ext_getElem?
  intro j
  rw [List.getElem?_set]
  by_cases e : i = j
  · subst e; simp [hi]
  · rw [if_neg e]
    by_cases hj : j < n
    · simp [hj, h j (fun h => e h.symm)]
    · simp [hj]

/-- what ref.Fewest holds after k sets -/
def fewL (l : List Nat) (M k : Nat) : List Int := (List.range M).map fun t => Lt.refTo l t k

theorem refTo_form (l : List Nat) (t k : Nat) : Lt.refTo l t k = -1 ∨ ∃ s : Nat, s < k ∧ Lt.refTo l t k = (s : Int) := by
  rcases Lt.refTo_spec l t k with ⟨h, _⟩ | ⟨s, hs, h, _⟩
  · exact .inl h
  · exact .inr ⟨s, hs, h⟩

set_option maxRecDepth 100000 in
set_option maxHeartbeats 8000000 in
/-- ref.Fewest -/
theorem refFew_ok {N : Nat} {es : List (Int × Int)} (h : Ok N es) (own : Bool) (ad : Option Addr) (cap : Nat) (w : World) (he : Elems w w.heap.size ad (G N es own)) :
    Calls Tryd.prog 38 #[.slice ad N cap] w fun e w' => ∃ v, e = .returned v ∧ w'.ownsRow w.heap.size 3 1 v (2 ^ N) (icells (fewL (G N es own) (2 ^ N) (2 ^ N))) ∧ Below w.heap.size w w' := by
  have h16 := h.most
  have hpw := h.pow
  have HE := Lib.hid (fun W (hb : Below w.heap.size w W) => he.below hb (Nat.le_refl _))
  have eE := Lib.hid (fun (s : Nat) (hs : s < 2 ^ N) W hE => reff_ok h own ad cap s hs W hE)
  have eL := Lib.hid (fun s => h.eff_lt own s)
  have hwp := wrap_pow N (by omega)
  have hmk := make_ints (2 ^ N) (by omega)
  have hown0 := Lib.hid (owns_made w w.heap.size (2 ^ N) (Nat.le_refl _) (by unfold maxLen; omega))
  have eZ := Lib.hid (fun (s : Nat) (hs : s < 2 ^ N) W => refSize_any s W (by omega))
  have hRS : Hid (∀ t k, Lt.refTo (G N es own) t (k + 1) = if Lt.eff (G N es own) k = t ∧ (Lt.refTo (G N es own) t k < 0 ∨ Lt.pop k < Lt.pop (Lt.refTo (G N es own) t k).toNat) then (k : Int) else Lt.refTo (G N es own) t k) := Lib.hid (fun t k => rfl)
  have hRF := Lib.hid (fun t k => refTo_form (G N es own) t k)
  have hR0 : Hid (∀ t, Lt.refTo (G N es own) t 0 = -1) := Lib.hid (fun t => rfl)
  have hFL : Hid (∀ k, fewL (G N es own) (2 ^ N) k = (List.range (2 ^ N)).map fun t => Lt.refTo (G N es own) t k) := Lib.hid (fun k => rfl)
  have hz : List.replicate (2 ^ N) 0 = List.replicate (2 ^ N) 0 := rfl
  clear hz he h
  generalize (List.replicate (2 ^ N) (Value.int IntKind.i64 0)).toArray = Z at *
  generalize fewL (G N es own) (2 ^ N) = FL at *
  generalize Lt.refTo (G N es own) = RT at *
  generalize Lt.eff (G N es own) = EF at *
  generalize 2 ^ N = M at *
  have hB0 : Below w.heap.size w (w.alloc (.cells Z 3)) := below_one _
  have hrow0 : Hid ((w.alloc (.cells Z 3)).ownsRow w.heap.size 3 1 (.slice (some ⟨w.heap.size, 0, none⟩) M M) M (icells ((List.range M).map fun j => if j < 0 then (-1 : Int) else 0))) := Lib.hid (by
    have e : icells ((List.range M).map fun j => if j < 0 then (-1 : Int) else 0) = ncells (List.replicate M 0) := by
      apply List.ext_getElem?
      intro j
      unfold icells ncells
      by_cases hj : j < M <;> simp [hj]
    rw [e]; exact hown0.out)
  clear hown0
  go_enter Tryd.func38, Tryd.ntmps38
  go_wp2
  simp only [hwp]
  go_loopw [5] (fun i W => ∃ t : Nat, i = .int .i64 t ∧ t ≤ M ∧ Hid (W.ownsRow w.heap.size 3 1 (.slice (some ⟨w.heap.size, 0, none⟩) M M) M (icells ((List.range M).map fun j => if j < t then (-1 : Int) else 0))) ∧ Below w.heap.size w W)
    (fun i _ => M - (intOf i).toNat)
  case atStart => exact ⟨0, rfl, Nat.zero_le _, hrow0, hB0⟩
  case round =>
    clear hrow0 hB0
    obtain ⟨t, rfl, ht, hrow, hB⟩ := hrel
    by_cases htm : t < M
    · have hcell := hrow.out.cellAt t (by omega)
      rw [icells_at htm] at hcell
      have hfz := hrow.out.frozenAt t
      have hs := (hrow.out.stored t (.int .i64 (-1))).1
      rw [icells_set] at hs
      have hset := fn_set (f := fun j => if j < t then (-1 : Int) else 0) (g := fun j => if j < t + 1 then (-1 : Int) else 0) htm (fun j hj => by
        have : (j < t) ↔ (j < t + 1) := by omega
        simp only [this])
      simp only [Nat.lt_succ_self, if_true] at hset
      rw [hset] at hs
      have HS := Lib.hid hs
      have hBs := hB.setCell (p := ⟨w.heap.size, t, none⟩) (Nat.le_refl _) (.int .i64 (-1))
      clear hs hset hrow
      go_wp2
      go_roundw
      case rel => exact ⟨t + 1, by go_num, by omega, HS, hBs⟩
      case measure => simp [intOf]; omega
    · obtain rfl : t = M := by omega
      have hrow1 : Hid (wr.ownsRow w.heap.size 3 1 (.slice (some ⟨w.heap.size, 0, none⟩) t t) t (icells (FL 0))) := Lib.hid (by
        have e : (List.range t).map (fun j => if j < t then (-1 : Int) else 0) = FL 0 := by
          rw [hFL.out]
          exact List.map_congr_left fun j hj => by rw [if_pos (List.mem_range.1 hj), hR0.out]
        rw [← e]; exact hrow.out)
      clear hrow hR0
      go_wp2
      simp only [hwp]
      go_loopw [6] (fun i W => ∃ s : Nat, i = .int .i64 s ∧ s ≤ t ∧ Hid (W.ownsRow w.heap.size 3 1 (.slice (some ⟨w.heap.size, 0, none⟩) t t) t (icells (FL s))) ∧ Below w.heap.size w W)
        (fun i _ => t - (intOf i).toNat)
      case atStart => exact ⟨0, rfl, Nat.zero_le _, hrow1, hB⟩
      case round =>
        clear hrow1 hB
        obtain ⟨s, rfl, hs, hrow, hB⟩ := hrel
        by_cases hsm : s < t
        · have eE' := Lib.hid (eE.out s hsm wr ((HE.out wr hB).up hB.size))
          have hel := eL.out s
          have hst := Lib.hid (fun u => hRS.out u s)
          have hF0 := Lib.hid (hFL.out s)
          have hF1 := Lib.hid (hFL.out (s + 1))
          have hcell := hrow.out.cellAt (EF s) (by omega)
          rw [hF0.out, icells_at hel] at hcell
          have hfz := hrow.out.frozenAt (EF s)
          have hsame : Hid ((RT (EF s) (s + 1) = RT (EF s) s) → FL (s + 1) = FL s) := Lib.hid (fun hh => by
            rw [hF1.out, hF0.out]
            refine List.map_congr_left fun u _ => ?_
            by_cases e : EF s = u
            · subst e; exact hh
            · rw [hst.out u, if_neg (fun h => e h.1)])
          have hset : Hid ((RT (EF s) (s + 1) = (s : Int)) → (FL s).set (EF s) (s : Int) = FL (s + 1)) := Lib.hid (fun hh => by
            rw [hF1.out, hF0.out]
            have := fn_set (f := fun u => RT u s) (g := fun u => RT u (s + 1)) hel (fun u hu => by
              rw [hst.out u, if_neg (fun h => hu h.1.symm)])
            rw [← this]; simp only [hh])
          have hstE := Lib.hid (hst.out (EF s))
          have hss := (hrow.out.stored (EF s) (.int .i64 ((s : Nat) : Int))).1
          rw [icells_set] at hss
          have HSS := Lib.hid hss
          have hBs := hB.setCell (p := ⟨w.heap.size, EF s, none⟩) (Nat.le_refl _) (.int .i64 ((s : Nat) : Int))
          have zs := Lib.hid (eZ.out s hsm)
          rcases hRF.out (EF s) s with hm1 | ⟨b, hb, hmb⟩
          · rw [hm1] at hcell
            have hnew := Lib.hid (hset.out (by rw [hstE.out, hm1, if_pos ⟨rfl, .inl (by decide)⟩]))
            clear hst hF0 hF1 hsame hset hstE hm1 hss zs eE eL hRS hRF hFL eZ
            generalize EF s = u at *
            go_wp2_with fail
            refine eE'.out.mono ?_
            rintro e w3 ⟨rfl, hww⟩
            have hww2 := hww.symm
            subst hww2
            clear eE' hww
            go_wp2
            go_quiet (fail)
            have HS1 : Hid (((wr.drewN nq).setCell ⟨w.heap.size, u, none⟩ (.int .i64 ((s : Nat) : Int))).ownsRow w.heap.size 3 1 (.slice (some ⟨w.heap.size, 0, none⟩) t t) t (icells (FL (s + 1)))) := Lib.hid (by
              have h1 : (wr.drewN nq).ownsRow w.heap.size 3 1 (.slice (some ⟨w.heap.size, 0, none⟩) t t) t (icells (FL s)) := hrow.out
              have h2 := (h1.stored u (.int .i64 ((s : Nat) : Int))).1
              rw [icells_set, hnew.out] at h2
              exact h2)
            have hB1 : Below w.heap.size w ((wr.drewN nq).setCell ⟨w.heap.size, u, none⟩ (.int .i64 ((s : Nat) : Int))) := (hB.trans (⟨rfl, rfl, rfl, Nat.le_refl _, fun _ _ => rfl⟩ : Below w.heap.size wr (wr.drewN nq))).setCell (p := ⟨w.heap.size, u, none⟩) (Nat.le_refl _) _
            clear hrow hBs HSS hnew
            go_wp2
            go_roundw
            case rel => exact ⟨s + 1, by go_num, by omega, HS1, hB1⟩
            case measure => simp [intOf]; omega
          · rw [hmb] at hcell
            have zb := Lib.hid (eZ.out b (by omega))
            have hb0 : decide (((b : Nat) : Int) < 0) = false := by simp
            by_cases hpp : Lt.pop s < Lt.pop b
            · have hnew := Lib.hid (hset.out (by rw [hstE.out, hmb, if_pos ⟨rfl, .inr (by simpa using hpp)⟩]))
              clear hst hF0 hF1 hsame hset hstE hmb hss eE eL hRS hRF hFL eZ
              generalize EF s = u at *
              generalize Lt.pop s = ps at *
              generalize Lt.pop b = pb at *
              go_wp2_with fail
              refine eE'.out.mono ?_
              rintro e w3 ⟨rfl, hww⟩
              have hww2 := hww.symm
              subst hww2
              clear eE' hww
              go_wp2
              go_quiet (first | (go_at_call_of 41 s; exact Calls.quiet_of_same (zs.out _)) | (go_at_call_of 41 b; exact Calls.quiet_of_same (zb.out _)))
              have HS1 : Hid (((wr.drewN nq).setCell ⟨w.heap.size, u, none⟩ (.int .i64 ((s : Nat) : Int))).ownsRow w.heap.size 3 1 (.slice (some ⟨w.heap.size, 0, none⟩) t t) t (icells (FL (s + 1)))) := Lib.hid (by
                have h1 : (wr.drewN nq).ownsRow w.heap.size 3 1 (.slice (some ⟨w.heap.size, 0, none⟩) t t) t (icells (FL s)) := hrow.out
                have h2 := (h1.stored u (.int .i64 ((s : Nat) : Int))).1
                rw [icells_set, hnew.out] at h2
                exact h2)
              have hB1 : Below w.heap.size w ((wr.drewN nq).setCell ⟨w.heap.size, u, none⟩ (.int .i64 ((s : Nat) : Int))) := (hB.trans (⟨rfl, rfl, rfl, Nat.le_refl _, fun _ _ => rfl⟩ : Below w.heap.size wr (wr.drewN nq))).setCell (p := ⟨w.heap.size, u, none⟩) (Nat.le_refl _) _
              clear hrow hBs HSS hnew zs zb
              go_wp2
              go_roundw
              case rel => exact ⟨s + 1, by go_num, by omega, HS1, hB1⟩
              case measure => simp [intOf]; omega
            · have hno : ¬ (EF s = EF s ∧ (RT (EF s) s < 0 ∨ Lt.pop s < Lt.pop (RT (EF s) s).toNat)) := by
                rintro ⟨_, h⟩
                rw [hmb] at h
                rcases h with h | h
                · omega
                · exact hpp (by simpa using h)
              have hold := Lib.hid (hsame.out (by rw [hstE.out, if_neg hno]))
              clear hno
              clear hst hF0 hF1 hsame hset hstE hmb hss eE eL hRS hRF hFL eZ
              generalize EF s = u at *
              generalize Lt.pop s = ps at *
              generalize Lt.pop b = pb at *
              go_wp2_with fail
              refine eE'.out.mono ?_
              rintro e w3 ⟨rfl, hww⟩
              have hww2 := hww.symm
              subst hww2
              clear eE' hww
              go_wp2
              go_quiet (first | (go_at_call_of 41 s; exact Calls.quiet_of_same (zs.out _)) | (go_at_call_of 41 b; exact Calls.quiet_of_same (zb.out _)))
              have HS1 : Hid ((wr.drewN nq).ownsRow w.heap.size 3 1 (.slice (some ⟨w.heap.size, 0, none⟩) t t) t (icells (FL (s + 1)))) := Lib.hid (by
                have h1 : (wr.drewN nq).ownsRow w.heap.size 3 1 (.slice (some ⟨w.heap.size, 0, none⟩) t t) t (icells (FL s)) := hrow.out
                rw [hold.out]; exact h1)
              have hB1 : Below w.heap.size w (wr.drewN nq) := hB.trans ⟨rfl, rfl, rfl, Nat.le_refl _, fun _ _ => rfl⟩
              clear hrow hBs HSS hold zs zb
              go_wp2
              go_roundw
              case rel => exact ⟨s + 1, by go_num, by omega, HS1, hB1⟩
              case measure => simp [intOf]; omega
        · obtain rfl : s = t := by omega
          go_wp2
          go_ret
          exact ⟨_, rfl, hrow.out, hB⟩

end Go.Proofs.YtdlogklhekopgaaDoor

namespace Go.Proofs.YtdlogklhekopgaaDoor
open Go.RowKit Go.Shelf Go.Proofs
attribute [local go_sem] Oper.semAt_some

theorem Ok.refT {N : Nat} {es : List (Int × Int)} (_h : Ok N es) (own : Bool) {t : Nat} (hc : can N es own t = true) : Lt.refTo (G N es own) t (2 ^ N) = (Lt.fewOf (G N es own) t : Int) := by
  have hb := Lt.refTo_best (l := G N es own) (t := t)
  rw [G_length] at hb
  rcases hb with ⟨_, h⟩ | ⟨h, _⟩
  · exact absurd (by simpa [can] using hc) h
  · exact h
theorem Ok.refF {N : Nat} {es : List (Int × Int)} (_h : Ok N es) (own : Bool) {t : Nat} (hc : can N es own t = false) : Lt.refTo (G N es own) t (2 ^ N) = -1 := by
  have hb := Lt.refTo_best (l := G N es own) (t := t)
  rw [G_length] at hb
  rcases hb with ⟨h, _⟩ | ⟨_, h⟩
  · exact h
  · unfold can at hc; rw [h] at hc; simp at hc

theorem refFew_elem {N : Nat} {es : List (Int × Int)} (h : Ok N es) (own : Bool) (ad : Option Addr) (cap : Nat) (t : Nat) (ht : t < 2 ^ N) (w : World) (he : Elems w w.heap.size ad (G N es own)) :
    Calls Tryd.prog 38 #[.slice ad N cap] w fun e w' => ∃ g cap', e = .returned (.slice (some ⟨g, 0, none⟩) (2 ^ N : Nat) cap') ∧ w'.cell? ⟨g, t, none⟩ = some (.int .i64 (Lt.refTo (G N es own) t (2 ^ N))) ∧ Below w.heap.size w w' := by
  refine (refFew_ok h own ad cap w he).mono ?_
  rintro e w' ⟨v, rfl, hr, hb⟩
  obtain ⟨g, cap', rfl⟩ := Go.Joins.ownsRow_form hr (Nat.two_pow_pos N)
  have hc := hr.cellAt t (by omega)
  unfold fewL at hc
  rw [icells_at ht] at hc
  exact ⟨g, cap', rfl, hc, hb⟩

set_option maxRecDepth 100000 in
set_option maxHeartbeats 16000000 in
theorem lightSolves_any (n : Int) (lv : Value) (es : List (Int × Int)) (x : Int) (w : World) (hes : ReadsP w lv es) (hT : Tab w) (hw : 1 < w.heap.size) :
    Calls Tryd.prog 10 #[.int .i64 n, lv, .int .i64 x] w fun e w' => e = .returned (.bool true) ∧ Below w.heap.size w w' := by
  have ht := Lib.hid (tame_ok n lv es 11 (by decide) (by decide) w hes)
  clear hes
  go_enter Tryd.func10, Tryd.ntmps10
  go_wp2_with fail
  refine ht.out.mono ?_
  rintro e w1 ⟨N, L, ad, k, cap, rfl, -, hO, hp, hb1⟩
  have HO := Lib.hid hO
  have HP := Lib.hid hp
  have h16 := hO.most
  have hsv := Lib.hid (fun z W => set_val z N W h16)
  have hS := setN_lt x N h16
  clear ht hO hp
  go_wp2_with (go_at_call 31; refine (hsv.out _ _).mono ?_; rintro e w2 ⟨rfl, hww⟩; have hww2 := hww.symm; subst hww2)
  clear hsv
  generalize setN x N = A at *
  have hpw := HO.out.pow
  have eN := Lib.hid (fun own W hv => near_ok HO.out (.slice ad k cap) own W hv)
  have eW := Lib.hid (fun own ad cap W hE => refFew_elem HO.out own ad cap A hS W hE)
  have eS := Lib.hid (fun own W hv => solve_ok HO.out (.slice ad k cap) own hS W hv)
  have eF := Lib.hid (fun own W hv hT hw => fewest_ok HO.out (.slice ad k cap) own hS W hv hT hw)
  have fE := Lib.hid (fun own ad cap q hq W h => reff_ok HO.out own ad cap q hq W h)
  have pT := Lib.hid (fun own (hc : can N L own A = true) => And.intro (HO.out.solved own hc) (HO.out.refT own hc))
  have pF := Lib.hid (fun own (hc : can N L own A = false) => HO.out.refF own hc)
  have hwp := wrap_pow N (by omega)
  have hp0 := Nat.two_pow_pos N
  obtain ⟨wo, hwo⟩ : ∃ wo : World, wo = w1 := ⟨_, rfl⟩
  subst hwo
  go_loopw [9] (fun i W => ∃ (j : Int), i = .int .i64 j ∧ (j = 0 ∨ j = 1 ∨ j = 2) ∧ Hid (ReadsP W (.slice ad k cap) L) ∧ Below w.heap.size w W)
    (fun i _ => 2 - (intOf i).toNat)
  case atStart => exact ⟨0, rfl, .inl rfl, HP, hb1⟩
  case round =>
    clear HP
    obtain ⟨j, rfl, hj, HP, hB⟩ := hrel
    have hw0 : 1 < wr.heap.size := by have := hB.size; omega
    have HT := Lib.hid (hT.below hB hw)
    rcases hj with rfl | rfl | rfl
    · have gN := Lib.hid (eN.out true wr HP.out)
      have gW := Lib.hid (fun ad cap W hE => eW.out true ad cap W hE)
      go_wp2_with fail
      refine gN.out.mono ?_
      rintro e w3 ⟨a3, c3, rfl, E3, hb3⟩
      have HE3 := Lib.hid E3
      have HP3 := Lib.hid (HP.out.below hb3)
      have HT3 := Lib.hid (HT.out.below hb3 hw0)
      have hw3 : 1 < w3.heap.size := by have := hb3.size; omega
      have hB3 := hB.trans (hb3.mono hB.size)
      have gW' := Lib.hid (gW.out a3 c3 w3 E3)
      clear HP HT hw0 hB hb3 gN E3 eN eW gW
      go_wp2_with fail
      refine gW'.out.mono ?_
      rintro e w4 ⟨g4, c4, rfl, hc4, hb4⟩
      have HE4 := Lib.hid (HE3.out.go hb4)
      have HP4 := Lib.hid (HP3.out.below hb4)
      have HT4 := Lib.hid (HT3.out.below hb4 hw3)
      have hw4 : 1 < w4.heap.size := by have := hb4.size; omega
      have hB4 := hB3.trans (hb4.mono hB3.size)
      have gS := Lib.hid (eS.out true w4 HP4.out)
      clear HE3 HP3 HT3 hw3 hB3 hb4 gW' eS
      have gF := Lib.hid (fun W hv hT hw => eF.out true W hv hT hw)
      cases hc : can N L true A with
      | false =>
        rw [hc, if_neg (by decide)] at gS gF
        rw [pF.out true hc] at hc4
        clear hc pT pF
        generalize 2 ^ N = M at *
        go_wp2_with fail
        refine gS.out.mono ?_
        rintro e w5 ⟨rfl, hb5⟩
        have HE5 := Lib.hid (HE4.out.go hb5)
        have HP5 := Lib.hid (HP4.out.below hb5)
        have HT5 := Lib.hid (HT4.out.below hb5 hw4)
        have hw5 : 1 < w5.heap.size := by have := hb5.size; omega
        have hB5 := hB4.trans (hb5.mono hB4.size)
        have gF' := Lib.hid (gF.out w5 HP5.out HT5.out hw5)
        clear HE4 HP4 HT4 hw4 hB4 hb5 gS gF hc4 eF
        go_wp2_with fail
        refine gF'.out.mono ?_
        rintro e w6 ⟨rfl, hb6⟩
        have HE6 := Lib.hid (HE5.out.go hb6)
        have HP6 := Lib.hid (HP5.out.below hb6)
        have hB6 := hB5.trans (hb6.mono hB5.size)
        clear HE5 HP5 HT5 hw5 hB5 hb6 gF' fE HE6
        go_wp2
        go_roundw
        case rel => exact ⟨1, rfl, .inr (.inl rfl), HP6, hB6⟩
        case measure => simp [intOf]
      | true =>
        rw [hc, if_pos rfl] at gS gF
        obtain ⟨⟨hsl, hse⟩, hrt⟩ := pT.out true hc
        rw [hrt] at hc4
        have gE := Lib.hid (fun ad cap W h => fE.out true ad cap _ hsl W h)
        rw [hse] at gE
        clear hc pT pF hrt hse
        generalize (Lt.solveOf (G N L true) A).1 = s0 at *
        generalize Lt.fewOf (G N L true) A = bst at *
        have k1 : ¬ ((2 ^ N : Nat) : Int) ≤ (s0 : Int) := by omega
        generalize 2 ^ N = M at *
        go_wp2_with fail
        refine gS.out.mono ?_
        rintro e w5 ⟨rfl, hb5⟩
        have HE5 := Lib.hid (HE4.out.go hb5)
        have HP5 := Lib.hid (HP4.out.below hb5)
        have HT5 := Lib.hid (HT4.out.below hb5 hw4)
        have hw5 : 1 < w5.heap.size := by have := hb5.size; omega
        have hB5 := hB4.trans (hb5.mono hB4.size)
        have gF' := Lib.hid (gF.out w5 HP5.out HT5.out hw5)
        clear HE4 HP4 HT4 hw4 hB4 hb5 gS gF hc4 eF
        go_wp2_with fail
        refine gF'.out.mono ?_
        rintro e w6 ⟨rfl, hb6⟩
        have HE6 := Lib.hid (HE5.out.go hb6)
        have HP6 := Lib.hid (HP5.out.below hb6)
        have hB6 := hB5.trans (hb6.mono hB5.size)
        have gE' := Lib.hid (gE.out a3 c3 w6 HE6.out)
        clear HE5 HP5 HT5 hw5 hB5 hb6 gF' fE gE HE6
        go_wp2_with fail
        refine gE'.out.mono ?_
        rintro e w7 ⟨rfl, hww⟩
        have hww2 := hww.symm
        subst hww2
        clear gE' hww
        go_wp2
        go_roundw
        case rel => exact ⟨1, rfl, .inr (.inl rfl), HP6, hB6⟩
        case measure => simp [intOf]
    · have gN := Lib.hid (eN.out false wr HP.out)
      have gW := Lib.hid (fun ad cap W hE => eW.out false ad cap W hE)
      go_wp2_with fail
      refine gN.out.mono ?_
      rintro e w3 ⟨a3, c3, rfl, E3, hb3⟩
      have HE3 := Lib.hid E3
      have HP3 := Lib.hid (HP.out.below hb3)
      have HT3 := Lib.hid (HT.out.below hb3 hw0)
      have hw3 : 1 < w3.heap.size := by have := hb3.size; omega
      have hB3 := hB.trans (hb3.mono hB.size)
      have gW' := Lib.hid (gW.out a3 c3 w3 E3)
      clear HP HT hw0 hB hb3 gN E3 eN eW gW
      go_wp2_with fail
      refine gW'.out.mono ?_
      rintro e w4 ⟨g4, c4, rfl, hc4, hb4⟩
      have HE4 := Lib.hid (HE3.out.go hb4)
      have HP4 := Lib.hid (HP3.out.below hb4)
      have HT4 := Lib.hid (HT3.out.below hb4 hw3)
      have hw4 : 1 < w4.heap.size := by have := hb4.size; omega
      have hB4 := hB3.trans (hb4.mono hB3.size)
      have gS := Lib.hid (eS.out false w4 HP4.out)
      clear HE3 HP3 HT3 hw3 hB3 hb4 gW' eS
      have gF := Lib.hid (fun W hv hT hw => eF.out false W hv hT hw)
      cases hc : can N L false A with
      | false =>
        rw [hc, if_neg (by decide)] at gS gF
        rw [pF.out false hc] at hc4
        clear hc pT pF
        generalize 2 ^ N = M at *
        go_wp2_with fail
        refine gS.out.mono ?_
        rintro e w5 ⟨rfl, hb5⟩
        have HE5 := Lib.hid (HE4.out.go hb5)
        have HP5 := Lib.hid (HP4.out.below hb5)
        have HT5 := Lib.hid (HT4.out.below hb5 hw4)
        have hw5 : 1 < w5.heap.size := by have := hb5.size; omega
        have hB5 := hB4.trans (hb5.mono hB4.size)
        have gF' := Lib.hid (gF.out w5 HP5.out HT5.out hw5)
        clear HE4 HP4 HT4 hw4 hB4 hb5 gS gF hc4 eF
        go_wp2_with fail
        refine gF'.out.mono ?_
        rintro e w6 ⟨rfl, hb6⟩
        have HE6 := Lib.hid (HE5.out.go hb6)
        have HP6 := Lib.hid (HP5.out.below hb6)
        have hB6 := hB5.trans (hb6.mono hB5.size)
        clear HE5 HP5 HT5 hw5 hB5 hb6 gF' fE HE6
        go_wp2
        go_roundw
        case rel => exact ⟨2, rfl, .inr (.inr rfl), HP6, hB6⟩
        case measure => simp [intOf]
      | true =>
        rw [hc, if_pos rfl] at gS gF
        obtain ⟨⟨hsl, hse⟩, hrt⟩ := pT.out false hc
        rw [hrt] at hc4
        have gE := Lib.hid (fun ad cap W h => fE.out false ad cap _ hsl W h)
        rw [hse] at gE
        clear hc pT pF hrt hse
        generalize (Lt.solveOf (G N L false) A).1 = s0 at *
        generalize Lt.fewOf (G N L false) A = bst at *
        have k1 : ¬ ((2 ^ N : Nat) : Int) ≤ (s0 : Int) := by omega
        generalize 2 ^ N = M at *
        go_wp2_with fail
        refine gS.out.mono ?_
        rintro e w5 ⟨rfl, hb5⟩
        have HE5 := Lib.hid (HE4.out.go hb5)
        have HP5 := Lib.hid (HP4.out.below hb5)
        have HT5 := Lib.hid (HT4.out.below hb5 hw4)
        have hw5 : 1 < w5.heap.size := by have := hb5.size; omega
        have hB5 := hB4.trans (hb5.mono hB4.size)
        have gF' := Lib.hid (gF.out w5 HP5.out HT5.out hw5)
        clear HE4 HP4 HT4 hw4 hB4 hb5 gS gF hc4 eF
        go_wp2_with fail
        refine gF'.out.mono ?_
        rintro e w6 ⟨rfl, hb6⟩
        have HE6 := Lib.hid (HE5.out.go hb6)
        have HP6 := Lib.hid (HP5.out.below hb6)
        have hB6 := hB5.trans (hb6.mono hB5.size)
        have gE' := Lib.hid (gE.out a3 c3 w6 HE6.out)
        clear HE5 HP5 HT5 hw5 hB5 hb6 gF' fE gE HE6
        go_wp2_with fail
        refine gE'.out.mono ?_
        rintro e w7 ⟨rfl, hww⟩
        have hww2 := hww.symm
        subst hww2
        clear gE' hww
        go_wp2
        go_roundw
        case rel => exact ⟨2, rfl, .inr (.inr rfl), HP6, hB6⟩
        case measure => simp [intOf]
    · have haw := Lib.hid (awake_any wr HT.out hw0)
      clear eN eW eS eF fE pT pF
      go_wp2_with (go_at_call 19; refine haw.out.mono ?_; rintro e w7 ⟨rfl, hb7⟩)
      go_ret
      exact ⟨rfl, hB.trans (hb7.mono hB.size)⟩

end Go.Proofs.YtdlogklhekopgaaDoor
