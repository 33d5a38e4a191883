/- Contracts of the program's functions: part C17 of the proof. -/
import Derived.Test.YtdlogklhekopgaaDoorC16
set_option linter.unusedVariables false
set_option linter.unusedSimpArgs false
namespace Go.Proofs.YtdlogklhekopgaaDoor
open Go.RowKit Go.Shelf Go.Proofs
attribute [local go_sem] Oper.semAt_some

theorem len_any (x : Nat) (h : x < 65536) (w : World) : Calls Tryd.prog 71 #[.int .u64 x] w fun e w' => e = .returned (.int .i64 (Lib.bitLen x : Nat)) ∧ w' = w := by
  have := Tryd.bits_Len x w (by omega) (by omega)
  simpa using this

theorem bitLen_log2 {x : Nat} (h0 : x ≠ 0) (h : x < 65536) : Lib.bitLen x = x.log2 + 1 := by
  have hb := Lib.bitLenAux_bounds 64 x (by omega) h0
  have e : Lib.bitLen x = Lib.bitLenAux 64 x := rfl
  rw [← e] at hb
  have h1 : Lib.bitLen x - 1 ≤ x.log2 := (Nat.le_log2 h0).2 hb.2.1
  have h2 : x.log2 < Lib.bitLen x := (Nat.log2_lt h0).2 hb.2.2
  omega

/-- a list's elements one after the other, as a slice that the function ranges over finds them -/
def Elems (w : World) (n₀ : Nat) (ad : Option Addr) (L : List Nat) : Prop :=
  ∀ j, j < L.length → ∃ g off, ad = some ⟨g, off, none⟩ ∧ g < n₀ ∧ w.cell? ⟨g, off + j, none⟩ = some (.int .i64 ((L[j]?.getD 0 : Nat) : Int))

theorem Elems.below {w w' : World} {n₀ B : Nat} {ad : Option Addr} {L : List Nat} (h : Elems w n₀ ad L) (hb : Below B w w') (hB : n₀ ≤ B) : Elems w' n₀ ad L := fun j hj => by
  obtain ⟨g, off, e, hg, hc⟩ := h j hj
  exact ⟨g, off, e, hg, (hb.cell (p := ⟨g, off + j, none⟩) (show g < B by omega)).trans hc⟩

theorem elems_of_row {w : World} {base : Nat} {v : Value} {L : List Nat} (h : w.ownsRow base 3 1 v L.length (ncells L)) : ∃ ad cap, v = .slice ad L.length cap ∧ Elems w w.heap.size ad L := by
  obtain ⟨ad, cap, e, hr⟩ := (reads_of_rowN (n₀ := w.heap.size) (o := w.heap.size) h (Nat.le_refl _) (Nat.le_refl _)).general
  exact ⟨ad, cap, e, fun j hj => by obtain ⟨g, off, h1, h2, -, h3⟩ := hr j hj; exact ⟨g, off, h1, h2, h3⟩⟩

theorem step_set (O : List Nat) (cf : Nat → Nat) (j : Nat) (h : j < O.length) : ((O.take j).map cf ++ O.drop j).set j (cf (O[j]?.getD 0)) = (O.take (j + 1)).map cf ++ O.drop (j + 1) := by
  apply List.ext_getElem?
  intro i
  rw [List.getElem?_set]
  simp only [List.getElem?_append, List.length_map, List.length_take, List.getElem?_map, List.getElem?_take, List.getElem?_drop, List.length_append, List.length_drop]
  rw [Nat.min_eq_left (by omega), Nat.min_eq_left (by omega)]
  by_cases h1 : i < j
  · rw [if_neg (by omega), if_pos h1, if_pos h1, if_pos (by omega), if_pos (by omega)]
  · by_cases h2 : j = i
    · subst h2
      rw [if_pos rfl, if_pos (by omega), if_pos (by omega), if_pos (by omega)]
      simp [h]
    · rw [if_neg h2, if_neg h1, if_neg (by omega)]
      congr 1; omega
theorem step_same (O : List Nat) (cf : Nat → Nat) (j : Nat) (h : j < O.length) (hc : cf (O[j]?.getD 0) = O[j]?.getD 0) : (O.take j).map cf ++ O.drop j = (O.take (j + 1)).map cf ++ O.drop (j + 1) := by
  rw [← step_set O cf j h, hc]
  apply List.ext_getElem?
  intro i
  rw [List.getElem?_set]
  by_cases h2 : j = i
  · subst h2
    rw [if_pos rfl, if_pos (by simp; omega), List.getElem?_append_right (by simp; omega)]
    simp [h, Nat.min_eq_left (Nat.le_of_lt h)]
  · rw [if_neg h2]
theorem ncells_set (l : List Nat) (j x : Nat) : (ncells l).set j (.int .i64 (x : Nat)) = ncells (l.set j x) := by
  unfold ncells; rw [List.map_set]
theorem step_get (O : List Nat) (cf : Nat → Nat) (j : Nat) (h : j < O.length) : (ncells ((O.take j).map cf ++ O.drop j))[j]? = some (.int .i64 ((O[j]?.getD 0 : Nat) : Int)) := by
  unfold ncells
  rw [List.getElem?_map, List.getElem?_append_right (by simp; omega)]
  simp [h, Nat.min_eq_left (Nat.le_of_lt h)]

set_option maxRecDepth 100000 in
set_option maxHeartbeats 4000000 in
/-- tidied -/
theorem tidied_any (ad : Option Addr) (cap : Nat) (L : List Nat) (w : World) (hL : ∀ x ∈ L, x < 65536) (h16 : L.length ≤ 100) (he : Elems w w.heap.size ad L) :
    Calls Tryd.prog 53 #[.slice ad L.length cap] w fun e w' => ∃ v, e = .returned v ∧ w'.ownsRow w.heap.size 3 1 v (Lt.tidy L).length (ncells (Lt.tidy L)) ∧ Below w.heap.size w w' := by
  have HE := Lib.hid he
  clear he
  go_enter Tryd.func53, Tryd.ntmps53
  go_wp2
  go_loopw [3, 13] (fun v i wr => ∃ (k : Nat), i = .int .i64 k ∧ k ≤ L.length ∧ Hid (wr.ownsRow w.heap.size 3 1 v (Lt.tidyTo (L.take k)).length (ncells (Lt.tidyTo (L.take k)))) ∧ Below w.heap.size w wr)
    (fun _ i _ => L.length - (intOf i).toNat)
  case atStart => exact ⟨0, rfl, Nat.zero_le _, Lib.hid (World.ownsRow_nil _ _ _ _), Below.refl _ _⟩
  case round =>
    obtain ⟨k, rfl, hk, hrow, hB⟩ := hrel
    by_cases hlt : k < L.length
    · obtain ⟨g, off, rfl, hgw, hc⟩ := HE.out k hlt
      replace hc := (hB.cell (p := ⟨g, off + k, none⟩) hgw).trans hc
      have hsl : L[k]?.getD 0 < 65536 := by simp only [List.getElem?_eq_getElem hlt, Option.getD_some]; exact hL _ (List.getElem_mem hlt)
      obtain ⟨hOs, hOl⟩ := Lt.tidyTo_facts (m := 16) (L.take k) (fun x hx => hL x (List.mem_of_mem_take hx))
      have hOl' : (Lt.tidyTo (L.take k)).length ≤ 100 := by rw [List.length_take] at hOl; omega
      have hnext : Hid (Lt.tidyTo (L.take (k + 1)) = Lt.tidyStep (Lt.tidyTo (L.take k)) (L[k]?.getD 0)) := Lib.hid (by
        rw [← Lt.tidyTo_snoc, List.take_succ_eq_append_getElem hlt, List.getElem?_eq_getElem hlt, Option.getD_some])
      have HL := Lib.hid hL
      have HOS := Lib.hid hOs
      clear hOl hL hOs
      generalize L[k]?.getD 0 = s at *
      generalize Lt.tidyTo (L.take k) = O at *
      obtain ⟨ad2, cap2, rfl, hel⟩ := elems_of_row hrow.out
      have HEL := Lib.hid hel
      clear hel
      go_wp2
      obtain ⟨wo, rfl⟩ : ∃ wo : World, wo = wr := ⟨_, rfl⟩
      go_loopw [5, 19] (fun x i W => ∃ (j a : Nat), i = .int .i64 j ∧ x = .int .i64 a ∧ j ≤ O.length ∧ a < 65536 ∧ Hid (Lt.minRed (O.take j) s = a) ∧ W = wo)
        (fun _ i _ => O.length - (intOf i).toNat)
      case atStart => exact ⟨0, s, rfl, rfl, Nat.zero_le _, hsl, Lib.hid rfl, rfl⟩
      case round =>
        obtain ⟨j, a, rfl, rfl, hj, ha, hm, rfl⟩ := hrel
        by_cases hlt2 : j < O.length
        · obtain ⟨g2, off2, rfl, hgw2, hc2⟩ := HEL.out j hlt2
          have hOj : O[j]?.getD 0 < 65536 := by simp only [List.getElem?_eq_getElem hlt2, Option.getD_some]; exact HOS.out _ (List.getElem_mem hlt2)
          have hxo := Lt.xor_i64 a (O[j]?.getD 0) (by omega) (by omega)
          have hst : Hid (Lt.minRed (O.take (j + 1)) s = min a (a ^^^ O[j]?.getD 0)) := Lib.hid (by
            rw [List.take_succ_eq_append_getElem hlt2, Lt.minRed_snoc, hm.out, List.getElem?_eq_getElem hlt2, Option.getD_some])
          have hxl : a ^^^ O[j]?.getD 0 < 65536 := Nat.xor_lt_two_pow (n := 16) ha hOj
          clear hm
          generalize O[j]?.getD 0 = t at *
          generalize a ^^^ t = u at *
          go_wp2
          go_roundw
          case rel => exact ⟨j + 1, min a u, by go_num, by rw [show (min (a : Int) (u : Int)) = ((min a u : Nat) : Int) by omega], by omega, by omega, hst, trivial⟩
          case measure => simp [intOf]; omega
        · have hmf : Hid (Lt.minRed O s = a) := Lib.hid (by have := hm.out; rwa [List.take_of_length_le (by omega)] at this)
          clear hm
          by_cases ha0 : a = 0
          · have hat : ((a : Int) == 0) = true := by simp [ha0]
            have ha0' := Lib.hid ha0
            clear ha0
            go_wp2
            go_roundw
            case rel => exact ⟨k + 1, by go_num, by omega, Lib.hid (by rw [hnext.out, Lt.tidyStep, hmf.out, if_pos ha0'.out]; exact hrow.out), hB⟩
            case measure => simp [intOf]; omega
          · have hat : ((a : Int) == 0) = false := by simpa using ha0
            have hlen := Lib.hid (fun W => len_any a ha W)
            have hlg : a.log2 < 16 := (Nat.log2_lt ha0).2 (by omega)
            rw [bitLen_log2 ha0 ha] at hlen
            have hstep : Hid (Lt.tidyTo (List.take (k + 1) L) = Lt.desc (O.map (Lt.clearTop a) ++ [a])) := Lib.hid (by rw [hnext.out, Lt.tidyStep, hmf.out, if_neg ha0])
            have hct : Hid (∀ t, Lt.clearTop a t = if t &&& 2 ^ a.log2 = 0 then t else t ^^^ a) := Lib.hid (fun t => rfl)
            have hcl : Hid (∀ t, t < 65536 → Lt.clearTop a t < 65536) := Lib.hid (fun t ht => Lt.clearTop_lt (m := 16) ha ht)
            clear ha0 hnext hmf HEL
            generalize Lt.clearTop a = cf at *
            have wa := Lt.wrap_u64_nat a (by omega)
            have wl := Lt.wrap_u64_nat a.log2 (by omega)
            have wp := wrap_pow a.log2 (by omega)
            have h2k : (2 : Nat) ^ a.log2 < 65536 := Nat.lt_of_lt_of_le (Nat.pow_lt_pow_right (by decide) hlg) (by decide)
            generalize a.log2 = lg at *
            generalize 2 ^ lg = m at *
            go_wp2_with fail
            refine (hlen.out _).mono ?_
            rintro e w1 ⟨rfl, rfl⟩
            go_wp2
            obtain ⟨wo, rfl⟩ : ∃ wo : World, wo = w1 := ⟨_, rfl⟩
            have hone : O.length = 0 ∨ 0 < O.length := by omega
            go_loopw [39] (fun i W => ∃ (j : Nat), i = .int .i64 j ∧ j ≤ O.length ∧ Hid (W.ownsRow w.heap.size 3 1 (.slice ad2 O.length cap2) O.length (ncells ((O.take j).map cf ++ O.drop j))) ∧ Below w.heap.size w W)
              (fun i _ => O.length - (intOf i).toNat)
            case atStart => exact ⟨0, rfl, Nat.zero_le _, Lib.hid (by simpa using hrow.out), hB⟩
            case round =>
              obtain ⟨j, rfl, hj, hrw, hBW⟩ := hrel
              by_cases hlt2 : j < O.length
              · obtain ⟨g2, cp, hev⟩ := Go.Joins.ownsRow_form hrw.out (by omega)
                obtain ⟨rfl, rfl⟩ : ad2 = some ⟨g2, 0, none⟩ ∧ cap2 = cp := by simpa using hev
                have hcell := hrw.out.cellAt j (by omega)
                have hfz := hrw.out.frozenAt j
                have hOj : O[j]?.getD 0 < 65536 := by simp only [List.getElem?_eq_getElem hlt2, Option.getD_some]; exact HOS.out _ (List.getElem_mem hlt2)
                have hnc := step_get O cf j hlt2
                rw [hnc] at hcell
                have hset : Hid (∀ x, x = cf (O[j]?.getD 0) → (ncells ((O.take j).map cf ++ O.drop j)).set j (.int .i64 (x : Nat)) = ncells ((O.take (j + 1)).map cf ++ O.drop (j + 1))) := Lib.hid (by
                  rintro x rfl
                  rw [ncells_set, step_set O cf j hlt2])
                have hsame : Hid (∀ x, x = O[j]?.getD 0 → x = cf x → (ncells ((O.take j).map cf ++ O.drop j)) = ncells ((O.take (j + 1)).map cf ++ O.drop (j + 1))) := Lib.hid (by
                  rintro x rfl hx
                  rw [step_same O cf j hlt2 hx.symm])
                have hcf := Lib.hid (hct.out (O[j]?.getD 0))
                have hand := Lt.and_i64 (O[j]?.getD 0) m (by omega) (by omega)
                have hxo := Lt.xor_i64 (O[j]?.getD 0) a (by omega) (by omega)
                clear hnc
                generalize O[j]?.getD 0 = t at *
                generalize t ^^^ a = t' at *
                generalize t &&& m = q at *
                by_cases hq : q = 0
                · rw [if_pos hq] at hcf
                  have hqt : ((q : Int) == 0) = true := by simp [hq]
                  clear hq
                  go_wp2
                  go_roundw
                  case rel => exact ⟨j + 1, by go_num, by omega, Lib.hid (by rw [← hsame.out t rfl hcf.out.symm]; exact hrw.out), hBW⟩
                  case measure => simp [intOf]; omega
                · rw [if_neg hq] at hcf
                  have hqt : ((q : Int) == 0) = false := by simpa using hq
                  clear hq
                  go_wp2
                  go_roundw
                  case rel =>
                    have hs := hrw.out.stored j (.int .i64 (t' : Nat))
                    rw [hset.out t' hcf.out.symm] at hs
                    exact ⟨j + 1, by go_num, by omega, Lib.hid hs.1, hBW.setCell (p := ⟨g2, j, none⟩) (hrw.out.lt g2 rfl).1 _⟩
                  case measure => simp [intOf]; omega
              · have hrf : Hid (wr.ownsRow w.heap.size 3 1 (.slice ad2 O.length cap2) O.length (ncells (O.map cf))) := Lib.hid (by
                  have := hrw.out
                  rwa [List.take_of_length_le (by omega), List.drop_of_length_le (by omega), List.append_nil] at this)
                have HCL := hcl
                clear hrw hcl hct
                obtain ⟨i0, hi0, hz0, hzs, hzb⟩ := info_parts Tryd.info3
                go_wp2_with (at_builtin; refine wpList_append_own _ rfl _ _ 36 rfl w.heap.size 3 i0 _ 1 8 Tryd.underlying36 hi0 hz0 hzs hzb rfl (by decide) (.slice ad2 O.length cap2) O.length (ncells (O.map cf)) rfl (hrf.out.alloc _) ⟨wr.heap.size, 0, none⟩ 1 1 [.int .i64 a] rfl rfl (cell_one_new _ _ _) (by simp [Value.oneCell']) (by unfold maxLen; omega) (by omega) (by have := hBW.size; simp; omega) ?_; intro v' w1 hown' hgrow _; obtain ⟨g', cap', rfl⟩ := ownsRow_succ hown'; have HOWN := Lib.hid hown'; have HGR := Lib.hid hgrow; clear hown' hgrow)
                have hbound : ∀ x ∈ O.map cf ++ [a], x < 65536 := by
                  intro x hx
                  rw [List.mem_append, List.mem_map] at hx
                  rcases hx with ⟨t, ht, rfl⟩ | hx
                  · exact HCL.out t (HOS.out t ht)
                  · rw [List.mem_singleton] at hx; subst hx; exact ha
                have hsort := Lib.hid (sortDesc_any g' (O.length + 1) cap' w.heap.size (O.map cf ++ [a]) w1 (by omega) hbound (by
                  have e : ncells (O.map cf ++ [a]) = ncells (O.map cf) ++ [.int .i64 (a : Nat)] := by simp [ncells]
                  rw [e]; exact HOWN.out))
                have hdl : (Lt.desc (O.map cf ++ [a])).length = O.length + 1 := by rw [Lt.desc_length]; simp
                rw [← hstep.out] at hsort hdl
                have hB1 : Below w.heap.size w w1 := (hBW.alloc hBW.size _).grown HGR.out (by have := hBW.size; simp; omega) (fun k hk => (hrf.out.lt k hk).1)
                clear hbound hstep
                go_wp2_with fail
                refine hsort.out.mono ?_
                rintro e w2 ⟨rfl, hr2, hb2⟩
                have HR2 : Hid (w2.ownsRow w.heap.size 3 1 (.slice (some ⟨g', 0, none⟩) (O.length + 1) cap') (Lt.tidyTo (List.take (k + 1) L)).length (ncells (Lt.tidyTo (List.take (k + 1) L)))) := Lib.hid (by rw [hdl]; exact hr2)
                clear hr2 hdl hsort
                go_wp2
                go_roundw
                case rel => exact ⟨k + 1, by go_num, by omega, HR2, hB1.trans hb2⟩
                case measure => simp [intOf]; omega
    · obtain ⟨a2, n2, c2, hv⟩ := slice_of_row hrow.out
      subst hv
      have hfin : Hid (wr.ownsRow w.heap.size 3 1 (.slice a2 n2 c2) (Lt.tidyTo L).length (ncells (Lt.tidyTo L))) := Lib.hid (by
        have := hrow.out
        rwa [List.take_of_length_le (by omega)] at this)
      have hlen : (Lt.tidyTo L).length ≤ L.length := (Lt.tidyTo_facts (m := 16) L hL).2
      clear hrow
      have hsort := Lib.hid (sortAsc_any (Lt.tidyTo L).length w.heap.size _ (Lt.tidyTo L) wr (by omega) hB.size hfin.out)
      have hal : (Lt.tidy L).length = (Lt.tidyTo L).length := Lt.asc_length _
      clear hfin hlen hL
      go_wp2_with fail
      refine hsort.out.mono ?_
      rintro e w2 ⟨rfl, hr2, hb2⟩
      have HR2 := Lib.hid hr2
      clear hr2 hsort
      go_wp2
      go_ret
      exact ⟨_, rfl, by rw [hal]; exact HR2.out, hB.trans hb2⟩

end Go.Proofs.YtdlogklhekopgaaDoor
