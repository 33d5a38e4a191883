/- Contracts of the program's functions: a part of the proof. -/
import Derived.Test.YtdlogklhekopgaaDoorGG
import Derived.Test.YtdlogklhekopgaaDoorPA
import Derived.Test.YtdlogklhekopgaaDoorShelf
import Derived.Lib.OwnBridge
import Derived.Lib.AppendIntMem
import Derived.Lib.SmallJoins
set_option linter.unusedVariables false
set_option linter.unusedSimpArgs false

namespace Go.Proofs.YtdlogklhekopgaaDoor
open Go.RowKit Go.Shelf Go.Proofs Go.Lib Go.Sort

/-- numbers below 65536, as cells -/
def encF (x : Fin 65536) : Value := .int .i64 ((x.val : Nat) : Int)
def cfF (x y : Fin 65536) : Int := (y.val : Int) - (x.val : Int)

theorem ltF (x y : Fin 65536) : ltOf cfF x y = decide (y.val < x.val) := by
  unfold ltOf cfF
  by_cases h : y.val < x.val <;> simp [h] <;> omega
theorem swoF : SWO (ltOf cfF) where
  irrefl x := by rw [ltF]; simp
  trans x y z h1 h2 := by rw [ltF] at *; simp at *; omega
  ntrans x y z h1 h2 := by rw [ltF] at *; simp at *; omega
theorem totF (x y : Fin 65536) (h1 : ltOf cfF x y = false) (h2 : ltOf cfF y x = false) : x = y := by
  rw [ltF] at *; simp at *; exact Fin.ext (by omega)

set_option maxHeartbeats 1000000 in
theorem closure73 (x y : Fin 65536) (W : World) : Calls Tryd.prog 73 #[encF x, encF y] W fun e w' => e = .returned (.int .i64 (cfF x y)) ∧ ∃ q, w' = W.drewN q := by
  have hx := x.isLt
  have hy := y.isLt
  unfold encF cfF
  generalize x.val = a at *
  generalize y.val = b at *
  go_enter Tryd.func73, Tryd.ntmps73
  go_wp2
  go_ret
  exact ⟨by go_num, 0, rfl⟩

def toF (x : Nat) : Fin 65536 := ⟨x % 65536, Nat.mod_lt _ (by decide)⟩
theorem ncells_F {L : List Nat} (h : ∀ x ∈ L, x < 65536) : (L.map toF).map encF = ncells L := by
  unfold ncells
  rw [List.map_map]
  refine List.map_congr_left fun x hx => ?_
  have := h x hx
  simp only [Function.comp, encF, toF, Nat.mod_eq_of_lt this]

theorem desc_F {L : List Nat} (h : ∀ x ∈ L, x < 65536) : (L.map toF).mergeSort (fun x y => !(ltOf cfF) y x) = (Lt.desc L).map toF := by
  unfold Lt.desc
  rw [List.map_mergeSort]
  intro a ha b hb
  have h1 := h a ha
  have h2 := h b hb
  rw [ltF]
  simp only [toF, Nat.mod_eq_of_lt h1, Nat.mod_eq_of_lt h2]
  by_cases hab : b ≤ a <;> simp [hab] <;> omega

/-- slices.SortFunc under 'b - a' -/
theorem sortDesc_any (g n cap base : Nat) (L : List Nat) (w : World) (hn : n < 1000) (hL : ∀ x ∈ L, x < 65536) (hr : w.ownsRow base 3 1 (.slice (some ⟨g, 0, none⟩) n cap) n (ncells L)) :
    Calls Tryd.prog 72 #[.slice (some ⟨g, 0, none⟩) n cap, .func (.func 73) #[] #[]] w fun e w' => e = .returned (.tuple #[]) ∧ w'.ownsRow base 3 1 (.slice (some ⟨g, 0, none⟩) n cap) n (ncells (Lt.desc L)) ∧ Below base w w' := by
  have eg : ∀ args w, (callFunc 73 args).run Tryd.prog w = .ok (.enter 73 args) w := enters_of Tryd.func73 (by kernel_rfl) rfl
  rw [← ncells_F hL] at hr
  obtain ⟨g', cap', he, hbg, hg, -, -, hl, hH⟩ := holds_of_ownsRow hr (by simp)
  obtain ⟨rfl, rfl⟩ : g = g' ∧ cap = cap' := by simpa using he
  have hS := Tryd.slices_SortFunc_total encF (fun _ => rfl) cfF swoF 73 #[] g 0 cap (L.map toF).toArray w eg
    (CmpReads.lays (fun _ _ _ _ x y => closure73 x y _)) hH hg (by simp at hl ⊢; omega) totF
  have e1 : (L.map toF).toArray.size = n := by simpa using hl
  rw [e1] at hS
  refine hS.mono ?_
  rintro e w' ⟨rfl, m, os, rfl⟩
  simp only [desc_F hL]
  have hdl : ((Lt.desc L).map toF).length = n := by rw [List.length_map, Lt.desc_length]; simpa using hl
  have h2 := ownsRow_putRow (q := m) (k := n) hr hdl (Nat.le_refl _)
  rw [← hdl, List.take_length, hdl, ncells_F (fun x hx => hL x (Lt.mem_desc.1 hx))] at h2
  refine ⟨by trivial, ?_, ?_⟩
  · exact ownsRow_grow h2 0 os
  · exact (below_putRow (Below.refl base w) hbg).trans (below_grow base _ (by have := (below_putRow (enc := encF) (q := m) (d := ((Lt.desc L).map toF).toArray) (Below.refl base w) hbg).size; omega) 0 os)

theorem asc_I (L : List Nat) : (L.map (fun x : Nat => (x : Int))).mergeSort (fun x y => decide (x ≤ y)) = (Lt.asc L).map (fun x : Nat => (x : Int)) := by
  unfold Lt.asc
  rw [List.map_mergeSort]
  intro a _ b _
  by_cases h : a ≤ b <;> simp [h]
theorem ncells_I (L : List Nat) : (L.map (fun x : Nat => (x : Int))).map (Value.int .i64) = ncells L := by
  unfold ncells; rw [List.map_map]; rfl

/-- slices.Sort -/
theorem sortAsc_any (n base : Nat) (v : Value) (L : List Nat) (w : World) (hn : n < 1000) (hb : base ≤ w.heap.size) (hr : w.ownsRow base 3 1 v n (ncells L)) :
    Calls Tryd.prog 74 #[v] w fun e w' => e = .returned (.tuple #[]) ∧ w'.ownsRow base 3 1 v n (ncells (Lt.asc L)) ∧ Below base w w' := by
  by_cases hv : v = .slice none 0 0
  · subst hv
    rcases hr.2 with ⟨-, rfl⟩ | ⟨g, cap, cur, he, _⟩
    · refine (Tryd.slices_Sort_int_none _ _ _).mono ?_
      rintro e w' ⟨rfl, rfl⟩
      have h0 : L = [] := List.length_eq_zero_iff.1 (by simpa [ncells_length] using hr.1)
      subst h0
      exact ⟨by trivial, by rw [show Lt.asc [] = [] by simp [Lt.asc]]; exact hr, Below.refl _ _⟩
    · simp at he
  · rw [← ncells_I] at hr
    obtain ⟨g, cap, rfl, hbg, hg, -, -, hl, hH⟩ := holds_of_ownsRow hr hv
    have hS := Tryd.slices_Sort_int g 0 cap (L.map (fun x : Nat => (x : Int))) w hH hg (by simp at hl ⊢; omega)
    rw [hl] at hS
    refine hS.mono ?_
    rintro e w' ⟨rfl, m, os, rfl⟩
    simp only [asc_I L]
    have hdl : ((Lt.asc L).map (fun x : Nat => (x : Int))).length = n := by rw [List.length_map, Lt.asc_length]; simpa using hl
    have h2 := ownsRow_putRow (q := m) (k := n) hr hdl (Nat.le_refl _)
    rw [← hdl, List.take_length, hdl, ncells_I] at h2
    refine ⟨by trivial, ?_, ?_⟩
    · exact ownsRow_grow h2 0 os
    · exact (below_putRow (Below.refl base w) hbg).trans (below_grow base _ (by have := (below_putRow (enc := Value.int .i64) (q := m) (d := ((Lt.asc L).map (fun x : Nat => (x : Int))).toArray) (Below.refl base w) hbg).size; omega) 0 os)

end Go.Proofs.YtdlogklhekopgaaDoor

namespace Go.Proofs.YtdlogklhekopgaaDoor
open Go.RowKit Go.Shelf Go.Proofs
attribute [local go_sem] Oper.semAt_some

theorem len_any (x : Nat) (h : x < 65536) (w : World) : Calls Tryd.prog 71 #[.int .u64 x] w fun e w' => e = .returned (.int .i64 (Lib.bitLen x : Nat)) ∧ w' = w := by
  have := Tryd.bits_Len x w (by omega) (by omega)
  simpa using this

theorem bitLen_log2 {x : Nat} (h0 : x ≠ 0) (h : x < 65536) : Lib.bitLen x = x.log2 + 1 := by
  have hb := Lib.bitLenAux_bounds 64 x (by omega) h0
  have e : Lib.bitLen x = Lib.bitLenAux 64 x := rfl
  rw [← e] at hb
  have h1 : Lib.bitLen x - 1 ≤ x.log2 := (Nat.le_log2 h0).2 hb.2.1
  have h2 : x.log2 < Lib.bitLen x := (Nat.log2_lt h0).2 hb.2.2
  omega

/-- a list's elements one after the other, as a slice that the function ranges over finds them -/
def Elems (w : World) (n₀ : Nat) (ad : Option Addr) (L : List Nat) : Prop :=
  ∀ j, j < L.length → ∃ g off, ad = some ⟨g, off, none⟩ ∧ g < n₀ ∧ w.cell? ⟨g, off + j, none⟩ = some (.int .i64 ((L[j]?.getD 0 : Nat) : Int))

theorem Elems.below {w w' : World} {n₀ B : Nat} {ad : Option Addr} {L : List Nat} (h : Elems w n₀ ad L) (hb : Below B w w') (hB : n₀ ≤ B) : Elems w' n₀ ad L := fun j hj => by
  obtain ⟨g, off, e, hg, hc⟩ := h j hj
  exact ⟨g, off, e, hg, (hb.cell (p := ⟨g, off + j, none⟩) (show g < B by omega)).trans hc⟩

theorem elems_of_row {w : World} {base : Nat} {v : Value} {L : List Nat} (h : w.ownsRow base 3 1 v L.length (ncells L)) : ∃ ad cap, v = .slice ad L.length cap ∧ Elems w w.heap.size ad L := by
  obtain ⟨ad, cap, e, hr⟩ := (reads_of_rowN (n₀ := w.heap.size) (o := w.heap.size) h (Nat.le_refl _) (Nat.le_refl _)).general
  exact ⟨ad, cap, e, fun j hj => by obtain ⟨g, off, h1, h2, -, h3⟩ := hr j hj; exact ⟨g, off, h1, h2, h3⟩⟩

theorem step_set (O : List Nat) (cf : Nat → Nat) (j : Nat) (h : j < O.length) : ((O.take j).map cf ++ O.drop j).set j (cf (O[j]?.getD 0)) = (O.take (j + 1)).map cf ++ O.drop (j + 1) := by
  apply List.ext_getElem?
  intro i
  rw [List.getElem?_set]
  simp only [List.getElem?_append, List.length_map, List.length_take, List.getElem?_map, List.getElem?_take, List.getElem?_drop, List.length_append, List.length_drop]
  rw [Nat.min_eq_left (by omega), Nat.min_eq_left (by omega)]
  by_cases h1 : i < j
  · rw [if_neg (by omega), if_pos h1, if_pos h1, if_pos (by omega), if_pos (by omega)]
  · by_cases h2 : j = i
    · subst h2
      rw [if_pos rfl, if_pos (by omega), if_pos (by omega), if_pos (by omega)]
      simp [h]
    · rw [if_neg h2, if_neg h1, if_neg (by omega)]
      congr 1; omega
theorem step_same (O : List Nat) (cf : Nat → Nat) (j : Nat) (h : j < O.length) (hc : cf (O[j]?.getD 0) = O[j]?.getD 0) : (O.take j).map cf ++ O.drop j = (O.take (j + 1)).map cf ++ O.drop (j + 1) := by
  rw [← step_set O cf j h, hc]
  apply List.ext_getElem?
  intro i
  rw [List.getElem?_set]
  by_cases h2 : j = i
  · subst h2
    rw [if_pos rfl, if_pos (by simp; omega), List.getElem?_append_right (by simp; omega)]
    simp [h, Nat.min_eq_left (Nat.le_of_lt h)]
  · rw [if_neg h2]
theorem ncells_set (l : List Nat) (j x : Nat) : (ncells l).set j (.int .i64 (x : Nat)) = ncells (l.set j x) := by
  unfold ncells; rw [List.map_set]
theorem step_get (O : List Nat) (cf : Nat → Nat) (j : Nat) (h : j < O.length) : (ncells ((O.take j).map cf ++ O.drop j))[j]? = some (.int .i64 ((O[j]?.getD 0 : Nat) : Int)) := by
  unfold ncells
  rw [List.getElem?_map, List.getElem?_append_right (by simp; omega)]
  simp [h, Nat.min_eq_left (Nat.le_of_lt h)]

set_option maxRecDepth 100000 in
set_option maxHeartbeats 4000000 in
/-- tidied -/
theorem tidied_any (ad : Option Addr) (cap : Nat) (L : List Nat) (w : World) (hL : ∀ x ∈ L, x < 65536) (h16 : L.length ≤ 100) (he : Elems w w.heap.size ad L) :
    Calls Tryd.prog 53 #[.slice ad L.length cap] w fun e w' => ∃ v, e = .returned v ∧ w'.ownsRow w.heap.size 3 1 v (Lt.tidy L).length (ncells (Lt.tidy L)) ∧ Below w.heap.size w w' := by
  have HE := Lib.hid he
  clear he
  go_enter Tryd.func53, Tryd.ntmps53
  go_wp2
  go_loopw [3, 13] (fun v i wr => ∃ (k : Nat), i = .int .i64 k ∧ k ≤ L.length ∧ Hid (wr.ownsRow w.heap.size 3 1 v (Lt.tidyTo (L.take k)).length (ncells (Lt.tidyTo (L.take k)))) ∧ Below w.heap.size w wr)
    (fun _ i _ => L.length - (intOf i).toNat)
  case atStart => exact ⟨0, rfl, Nat.zero_le _, Lib.hid (World.ownsRow_nil _ _ _ _), Below.refl _ _⟩
  case round =>
    obtain ⟨k, rfl, hk, hrow, hB⟩ := hrel
    by_cases hlt : k < L.length
    · obtain ⟨g, off, rfl, hgw, hc⟩ := HE.out k hlt
      replace hc := (hB.cell (p := ⟨g, off + k, none⟩) hgw).trans hc
      have hsl : L[k]?.getD 0 < 65536 := by simp only [List.getElem?_eq_getElem hlt, Option.getD_some]; exact hL _ (List.getElem_mem hlt)
      obtain ⟨hOs, hOl⟩ := Lt.tidyTo_facts (m := 16) (L.take k) (fun x hx => hL x (List.mem_of_mem_take hx))
      have hOl' : (Lt.tidyTo (L.take k)).length ≤ 100 := by rw [List.length_take] at hOl; omega
      have hnext : Hid (Lt.tidyTo (L.take (k + 1)) = Lt.tidyStep (Lt.tidyTo (L.take k)) (L[k]?.getD 0)) := Lib.hid (by
        rw [← Lt.tidyTo_snoc, List.take_succ_eq_append_getElem hlt, List.getElem?_eq_getElem hlt, Option.getD_some])
      have HL := Lib.hid hL
      have HOS := Lib.hid hOs
      clear hOl hL hOs
      generalize L[k]?.getD 0 = s at *
      generalize Lt.tidyTo (L.take k) = O at *
      obtain ⟨ad2, cap2, rfl, hel⟩ := elems_of_row hrow.out
      have HEL := Lib.hid hel
      clear hel
      go_wp2
      obtain ⟨wo, rfl⟩ : ∃ wo : World, wo = wr := ⟨_, rfl⟩
      go_loopw [5, 19] (fun x i W => ∃ (j a : Nat), i = .int .i64 j ∧ x = .int .i64 a ∧ j ≤ O.length ∧ a < 65536 ∧ Hid (Lt.minRed (O.take j) s = a) ∧ W = wo)
        (fun _ i _ => O.length - (intOf i).toNat)
      case atStart => exact ⟨0, s, rfl, rfl, Nat.zero_le _, hsl, Lib.hid rfl, rfl⟩
      case round =>
        obtain ⟨j, a, rfl, rfl, hj, ha, hm, rfl⟩ := hrel
        by_cases hlt2 : j < O.length
        · obtain ⟨g2, off2, rfl, hgw2, hc2⟩ := HEL.out j hlt2
          have hOj : O[j]?.getD 0 < 65536 := by simp only [List.getElem?_eq_getElem hlt2, Option.getD_some]; exact HOS.out _ (List.getElem_mem hlt2)
          have hxo := Lt.xor_i64 a (O[j]?.getD 0) (by omega) (by omega)
          have hst : Hid (Lt.minRed (O.take (j + 1)) s = min a (a ^^^ O[j]?.getD 0)) := Lib.hid (by
            rw [List.take_succ_eq_append_getElem hlt2, Lt.minRed_snoc, hm.out, List.getElem?_eq_getElem hlt2, Option.getD_some])
          have hxl : a ^^^ O[j]?.getD 0 < 65536 := Nat.xor_lt_two_pow (n := 16) ha hOj
          clear hm
          generalize O[j]?.getD 0 = t at *
          generalize a ^^^ t = u at *
          go_wp2
          go_roundw
          case rel => exact ⟨j + 1, min a u, by go_num, by rw [show (min (a : Int) (u : Int)) = ((min a u : Nat) : Int) by omega], by omega, by omega, hst, trivial⟩
          case measure => simp [intOf]; omega
        · have hmf : Hid (Lt.minRed O s = a) := Lib.hid (by have := hm.out; rwa [List.take_of_length_le (by omega)] at this)
          clear hm
          by_cases ha0 : a = 0
          · have hat : ((a : Int) == 0) = true := by simp [ha0]
            have ha0' := Lib.hid ha0
            clear ha0
            go_wp2
            go_roundw
            case rel => exact ⟨k + 1, by go_num, by omega, Lib.hid (by rw [hnext.out, Lt.tidyStep, hmf.out, if_pos ha0'.out]; exact hrow.out), hB⟩
            case measure => simp [intOf]; omega
          · have hat : ((a : Int) == 0) = false := by simpa using ha0
            have hlen := Lib.hid (fun W => len_any a ha W)
            have hlg : a.log2 < 16 := (Nat.log2_lt ha0).2 (by omega)
            rw [bitLen_log2 ha0 ha] at hlen
            have hstep : Hid (Lt.tidyTo (List.take (k + 1) L) = Lt.desc (O.map (Lt.clearTop a) ++ [a])) := Lib.hid (by rw [hnext.out, Lt.tidyStep, hmf.out, if_neg ha0])
            have hct : Hid (∀ t, Lt.clearTop a t = if t &&& 2 ^ a.log2 = 0 then t else t ^^^ a) := Lib.hid (fun t => rfl)
            have hcl : Hid (∀ t, t < 65536 → Lt.clearTop a t < 65536) := Lib.hid (fun t ht => Lt.clearTop_lt (m := 16) ha ht)
            clear ha0 hnext hmf HEL
            generalize Lt.clearTop a = cf at *
            have wa := Lt.wrap_u64_nat a (by omega)
            have wl := Lt.wrap_u64_nat a.log2 (by omega)
            have wp := wrap_pow a.log2 (by omega)
            have h2k : (2 : Nat) ^ a.log2 < 65536 := Nat.lt_of_lt_of_le (Nat.pow_lt_pow_right (by decide) hlg) (by decide)
            generalize a.log2 = lg at *
            generalize 2 ^ lg = m at *
            go_wp2_with fail
            refine (hlen.out _).mono ?_
            rintro e w1 ⟨rfl, rfl⟩
            go_wp2
            obtain ⟨wo, rfl⟩ : ∃ wo : World, wo = w1 := ⟨_, rfl⟩
            have hone : O.length = 0 ∨ 0 < O.length := by omega
            go_loopw [39] (fun i W => ∃ (j : Nat), i = .int .i64 j ∧ j ≤ O.length ∧ Hid (W.ownsRow w.heap.size 3 1 (.slice ad2 O.length cap2) O.length (ncells ((O.take j).map cf ++ O.drop j))) ∧ Below w.heap.size w W)
              (fun i _ => O.length - (intOf i).toNat)
            case atStart => exact ⟨0, rfl, Nat.zero_le _, Lib.hid (by simpa using hrow.out), hB⟩
            case round =>
              obtain ⟨j, rfl, hj, hrw, hBW⟩ := hrel
              by_cases hlt2 : j < O.length
              · obtain ⟨g2, cp, hev⟩ := Go.Joins.ownsRow_form hrw.out (by omega)
                obtain ⟨rfl, rfl⟩ : ad2 = some ⟨g2, 0, none⟩ ∧ cap2 = cp := by simpa using hev
                have hcell := hrw.out.cellAt j (by omega)
                have hfz := hrw.out.frozenAt j
                have hOj : O[j]?.getD 0 < 65536 := by simp only [List.getElem?_eq_getElem hlt2, Option.getD_some]; exact HOS.out _ (List.getElem_mem hlt2)
                have hnc := step_get O cf j hlt2
                rw [hnc] at hcell
                have hset : Hid (∀ x, x = cf (O[j]?.getD 0) → (ncells ((O.take j).map cf ++ O.drop j)).set j (.int .i64 (x : Nat)) = ncells ((O.take (j + 1)).map cf ++ O.drop (j + 1))) := Lib.hid (by
                  rintro x rfl
                  rw [ncells_set, step_set O cf j hlt2])
                have hsame : Hid (∀ x, x = O[j]?.getD 0 → x = cf x → (ncells ((O.take j).map cf ++ O.drop j)) = ncells ((O.take (j + 1)).map cf ++ O.drop (j + 1))) := Lib.hid (by
                  rintro x rfl hx
                  rw [step_same O cf j hlt2 hx.symm])
                have hcf := Lib.hid (hct.out (O[j]?.getD 0))
                have hand := Lt.and_i64 (O[j]?.getD 0) m (by omega) (by omega)
                have hxo := Lt.xor_i64 (O[j]?.getD 0) a (by omega) (by omega)
                clear hnc
                generalize O[j]?.getD 0 = t at *
                generalize t ^^^ a = t' at *
                generalize t &&& m = q at *
                by_cases hq : q = 0
                · rw [if_pos hq] at hcf
                  have hqt : ((q : Int) == 0) = true := by simp [hq]
                  clear hq
                  go_wp2
                  go_roundw
                  case rel => exact ⟨j + 1, by go_num, by omega, Lib.hid (by rw [← hsame.out t rfl hcf.out.symm]; exact hrw.out), hBW⟩
                  case measure => simp [intOf]; omega
                · rw [if_neg hq] at hcf
                  have hqt : ((q : Int) == 0) = false := by simpa using hq
                  clear hq
                  go_wp2
                  go_roundw
                  case rel =>
                    have hs := hrw.out.stored j (.int .i64 (t' : Nat))
                    rw [hset.out t' hcf.out.symm] at hs
                    exact ⟨j + 1, by go_num, by omega, Lib.hid hs.1, hBW.setCell (p := ⟨g2, j, none⟩) (hrw.out.lt g2 rfl).1 _⟩
                  case measure => simp [intOf]; omega
              · have hrf : Hid (wr.ownsRow w.heap.size 3 1 (.slice ad2 O.length cap2) O.length (ncells (O.map cf))) := Lib.hid (by
                  have := hrw.out
                  rwa [List.take_of_length_le (by omega), List.drop_of_length_le (by omega), List.append_nil] at this)
                have HCL := hcl
                clear hrw hcl hct
                obtain ⟨i0, hi0, hz0, hzs, hzb⟩ := info_parts Tryd.info3
                go_wp2_with (at_builtin; refine wpList_append_own _ rfl _ _ 36 rfl w.heap.size 3 i0 _ 1 8 Tryd.underlying36 hi0 hz0 hzs hzb rfl (by decide) (.slice ad2 O.length cap2) O.length (ncells (O.map cf)) rfl (hrf.out.alloc _) ⟨wr.heap.size, 0, none⟩ 1 1 [.int .i64 a] rfl rfl (cell_one_new _ _ _) (by simp [Value.oneCell']) (by unfold maxLen; omega) (by omega) (by have := hBW.size; simp; omega) ?_; intro v' w1 hown' hgrow _; obtain ⟨g', cap', rfl⟩ := ownsRow_succ hown'; have HOWN := Lib.hid hown'; have HGR := Lib.hid hgrow; clear hown' hgrow)
                have hbound : ∀ x ∈ O.map cf ++ [a], x < 65536 := by
                  intro x hx
                  rw [List.mem_append, List.mem_map] at hx
                  rcases hx with ⟨t, ht, rfl⟩ | hx
                  · exact HCL.out t (HOS.out t ht)
                  · rw [List.mem_singleton] at hx; subst hx; exact ha
                have hsort := Lib.hid (sortDesc_any g' (O.length + 1) cap' w.heap.size (O.map cf ++ [a]) w1 (by omega) hbound (by
                  have e : ncells (O.map cf ++ [a]) = ncells (O.map cf) ++ [.int .i64 (a : Nat)] := by simp [ncells]
                  rw [e]; exact HOWN.out))
                have hdl : (Lt.desc (O.map cf ++ [a])).length = O.length + 1 := by rw [Lt.desc_length]; simp
                rw [← hstep.out] at hsort hdl
                have hB1 : Below w.heap.size w w1 := (hBW.alloc hBW.size _).grown HGR.out (by have := hBW.size; simp; omega) (fun k hk => (hrf.out.lt k hk).1)
                clear hbound hstep
                go_wp2_with fail
                refine hsort.out.mono ?_
                rintro e w2 ⟨rfl, hr2, hb2⟩
                have HR2 : Hid (w2.ownsRow w.heap.size 3 1 (.slice (some ⟨g', 0, none⟩) (O.length + 1) cap') (Lt.tidyTo (List.take (k + 1) L)).length (ncells (Lt.tidyTo (List.take (k + 1) L)))) := Lib.hid (by rw [hdl]; exact hr2)
                clear hr2 hdl hsort
                go_wp2
                go_roundw
                case rel => exact ⟨k + 1, by go_num, by omega, HR2, hB1.trans hb2⟩
                case measure => simp [intOf]; omega
    · obtain ⟨a2, n2, c2, hv⟩ := slice_of_row hrow.out
      subst hv
      have hfin : Hid (wr.ownsRow w.heap.size 3 1 (.slice a2 n2 c2) (Lt.tidyTo L).length (ncells (Lt.tidyTo L))) := Lib.hid (by
        have := hrow.out
        rwa [List.take_of_length_le (by omega)] at this)
      have hlen : (Lt.tidyTo L).length ≤ L.length := (Lt.tidyTo_facts (m := 16) L hL).2
      clear hrow
      have hsort := Lib.hid (sortAsc_any (Lt.tidyTo L).length w.heap.size _ (Lt.tidyTo L) wr (by omega) hB.size hfin.out)
      have hal : (Lt.tidy L).length = (Lt.tidyTo L).length := Lt.asc_length _
      clear hfin hlen hL
      go_wp2_with fail
      refine hsort.out.mono ?_
      rintro e w2 ⟨rfl, hr2, hb2⟩
      have HR2 := Lib.hid hr2
      clear hr2 hsort
      go_wp2
      go_ret
      exact ⟨_, rfl, by rw [hal]; exact HR2.out, hB.trans hb2⟩

end Go.Proofs.YtdlogklhekopgaaDoor

namespace Go.Proofs.YtdlogklhekopgaaDoor
open Go.RowKit Go.Shelf Go.Proofs
attribute [local go_sem] Oper.semAt_some

/-- what is wrong with a graph and some sets -/
def code (n : Int) (es : List (Int × Int)) (xs : List Int) : Nat :=
  if n < 1 ∨ 16 < n then 1 else if Lt.edgesOk n (-1, -1) es = false then 40 else if xs.any (badSet (2 ^ n.toNat)) then 1 else 0
def gr (n : Int) (es : List (Int × Int)) (own : Bool) : List Nat := Lt.graph n.toNat es own

theorem code_zero {n : Int} {es : List (Int × Int)} {xs : List Int} (h : code n es xs = 0) : 1 ≤ n ∧ n ≤ 16 ∧ Lt.edgesOk n (-1, -1) es = true ∧ ∀ x ∈ xs, 0 ≤ x ∧ x < 2 ^ n.toNat := by
  unfold code at h
  by_cases h1 : n < 1 ∨ 16 < n
  · rw [if_pos h1] at h; cases h
  · rw [if_neg h1] at h
    by_cases h2 : Lt.edgesOk n (-1, -1) es = false
    · rw [if_pos h2] at h; cases h
    · rw [if_neg h2] at h
      by_cases h3 : xs.any (badSet (2 ^ n.toNat)) = true
      · rw [if_pos h3] at h; cases h
      · refine ⟨by omega, by omega, by simpa using h2, fun x hx => ?_⟩
        have h4 : badSet (2 ^ n.toNat) x = false := by
          cases hb : badSet (2 ^ n.toNat) x with
          | false => rfl
          | true => exact absurd (List.any_eq_true.2 ⟨x, hx, hb⟩) h3
        unfold badSet at h4
        simp only [Bool.or_eq_false_iff, decide_eq_false_iff_not] at h4
        refine ⟨by omega, ?_⟩
        have h5 := h4.2
        have e : ((2 ^ n.toNat : Nat) : Int) = 2 ^ n.toNat := by simp
        omega

theorem code_le (n : Int) (es : List (Int × Int)) (xs : List Int) : code n es xs = 0 ∨ code n es xs = 1 ∨ code n es xs = 40 := by
  unfold code; split
  · simp
  · split
    · simp
    · split <;> simp

def OpenRes (n : Int) (es : List (Int × Int)) (own : Bool) (xs : List Int) (w : World) (e : Ending) (w' : World) : Prop :=
  Below w.heap.size w w' ∧ ((code n es xs ≠ 0 ∧ e = .returned (.tuple #[.pointer none, .int .i64 (code n es xs : Nat)])) ∨
    (code n es xs = 0 ∧ ∃ b, e = .returned (.tuple #[.pointer (some ⟨b, 0, none⟩), .int .i64 0]) ∧ w.heap.size ≤ b ∧ Lamps w' b (gr n es own)))

/-- open, whatever comes -/
theorem open_all (n : Int) (ev sv : Value) (es : List (Int × Int)) (xs : List Int) (own : Bool) (w : World) (hlen : es.length ≤ 1000) (hxs : xs.length ≤ 1000)
    (hes : ReadsP w ev es) (hsv : Reads w sv xs) : Calls Tryd.prog 49 #[.int .i64 n, ev, .bool own, sv] w (OpenRes n es own xs w) := by
  by_cases h : n < 1 ∨ 16 < n
  · refine (open_arg n h ev sv own w).mono ?_
    rintro e w' ⟨rfl, hb⟩
    have hc : code n es xs = 1 := by unfold code; rw [if_pos h]
    exact ⟨hb, .inl ⟨by rw [hc]; decide, by rw [hc]; rfl⟩⟩
  · obtain ⟨N, rfl⟩ : ∃ N : Nat, n = N := ⟨n.toNat, by omega⟩
    refine (open_any N (by omega) (by omega) ev sv es xs own w hlen hxs hes hsv).mono ?_
    rintro e w' ⟨hb, ⟨h1, rfl⟩ | ⟨h1, h2, rfl⟩ | ⟨h1, h2, b, rfl, h3, h4⟩⟩
    · have hc : code N es xs = 40 := by unfold code; rw [if_neg h, if_pos h1]
      exact ⟨hb, .inl ⟨by rw [hc]; decide, by rw [hc]; rfl⟩⟩
    · have hc : code N es xs = 1 := by unfold code; rw [if_neg h, if_neg (by rw [h1]; decide), if_pos (by simpa using h2)]
      exact ⟨hb, .inl ⟨by rw [hc]; decide, by rw [hc]; rfl⟩⟩
    · have hc : code N es xs = 0 := by unfold code; rw [if_neg h, if_neg (by rw [h1]; decide), if_neg (by simpa using h2)]
      exact ⟨hb, .inr ⟨hc, b, rfl, h3, by unfold gr; simpa using h4⟩⟩

theorem open_bad {n : Int} {es : List (Int × Int)} {xs : List Int} (hc : code n es xs ≠ 0) (ev sv : Value) (own : Bool) (w : World) (hlen : es.length ≤ 1000) (hxs : xs.length ≤ 1000)
    (hes : ReadsP w ev es) (hsv : Reads w sv xs) : Calls Tryd.prog 49 #[.int .i64 n, ev, .bool own, sv] w fun e w' => e = .returned (.tuple #[.pointer none, .int .i64 (code n es xs : Nat)]) ∧ Below w.heap.size w w' := by
  refine (open_all n ev sv es xs own w hlen hxs hes hsv).mono ?_
  rintro e w' ⟨hb, ⟨_, rfl⟩ | ⟨h, _⟩⟩
  · exact ⟨rfl, hb⟩
  · exact absurd h hc
theorem open_good {n : Int} {es : List (Int × Int)} {xs : List Int} (hc : code n es xs = 0) (ev sv : Value) (own : Bool) (w : World) (hlen : es.length ≤ 1000) (hxs : xs.length ≤ 1000)
    (hes : ReadsP w ev es) (hsv : Reads w sv xs) : Calls Tryd.prog 49 #[.int .i64 n, ev, .bool own, sv] w fun e w' => ∃ b, e = .returned (.tuple #[.pointer (some ⟨b, 0, none⟩), .int .i64 0]) ∧ Lamps w' b (gr n es own) ∧ Below w.heap.size w w' := by
  refine (open_all n ev sv es xs own w hlen hxs hes hsv).mono ?_
  rintro e w' ⟨hb, ⟨h, _⟩ | ⟨_, b, rfl, _, hL⟩⟩
  · exact absurd hc h
  · exact ⟨b, rfl, hL, hb⟩

theorem reads_nil (w : World) : Reads w (.slice none 0 0) [] := .inl ⟨rfl, rfl⟩
theorem reads_one (w : World) (x : Int) : Reads (w.alloc (.cells #[.int .i64 x] 3)) (.slice (some ⟨w.heap.size, 0, none⟩) 1 1) [x] :=
  .inr ⟨w.heap.size, 0, 1, rfl, by simp, fun j hj => by
    obtain rfl : j = 0 := by simpa using hj
    exact cell_one_new _ _ _ 0 _ rfl⟩
theorem reads_two (w : World) (x y : Int) : Reads (w.alloc (.cells #[.int .i64 x, .int .i64 y] 3)) (.slice (some ⟨w.heap.size, 0, none⟩) 2 2) [x, y] :=
  .inr ⟨w.heap.size, 0, 2, rfl, by simp, fun j hj => by
    have hh : (w.alloc (.cells #[.int .i64 x, .int .i64 y] 3)).heap[w.heap.size]? = some (.cells #[.int .i64 x, .int .i64 y] 3 (0, 0)) := World.alloc_heap_new w _
    have : j = 0 ∨ j = 1 := by simp at hj; omega
    unfold World.cell?
    rcases this with rfl | rfl
    · show (match (w.alloc (.cells #[.int .i64 x, .int .i64 y] 3)).heap[w.heap.size]? with | some (.cells c elem frozen) => _ | _ => _) = _
      rw [hh]; rfl
    · show (match (w.alloc (.cells #[.int .i64 x, .int .i64 y] 3)).heap[w.heap.size]? with | some (.cells c elem frozen) => _ | _ => _) = _
      rw [hh]; rfl⟩

set_option maxHeartbeats 1000000 in
theorem check_api (n : Int) (ev : Value) (es : List (Int × Int)) (w : World) (hlen : es.length ≤ 1000) (hes : ReadsP w ev es) :
    Calls Tryd.prog 18 #[.int .i64 n, ev] w fun e w' => e = .returned (.int .i64 (code n es [] : Nat)) ∧ Below w.heap.size w w' := by
  by_cases hc : code n es [] = 0
  · have ho := Lib.hid (open_good hc ev _ false w hlen (by simp) hes (reads_nil w))
    clear hes
    rw [hc]
    go_enter Tryd.func18, Tryd.ntmps18
    go_wp2_with fail
    refine ho.out.mono ?_
    rintro e w1 ⟨b, rfl, -, hb⟩
    go_wp2
    go_ret
    exact ⟨rfl, hb⟩
  · have ho := Lib.hid (open_bad hc ev _ false w hlen (by simp) hes (reads_nil w))
    clear hes
    generalize code n es [] = c at *
    go_enter Tryd.func18, Tryd.ntmps18
    go_wp2_with fail
    refine ho.out.mono ?_
    rintro e w1 ⟨rfl, hb⟩
    go_wp2
    go_ret
    exact ⟨rfl, hb⟩

theorem set_of_code {n s : Int} {es : List (Int × Int)} (hc : code n es [s] = 0) : ∃ S : Nat, s = S ∧ S < 65536 ∧ S < 2 ^ n.toNat := by
  obtain ⟨h1, h2, h3, h4⟩ := code_zero hc
  have h5 := h4 s (by simp)
  have h6 : (2 : Nat) ^ n.toNat ≤ 2 ^ 16 := Nat.pow_le_pow_right (by decide) (by omega)
  have e : ((2 ^ n.toNat : Nat) : Int) = 2 ^ n.toNat := by simp
  exact ⟨s.toNat, by omega, by omega, by omega⟩

theorem below_one {w : World} (o : Obj) : Below w.heap.size w (w.alloc o) := (Below.refl _ w).alloc (Nat.le_refl _) o

set_option maxHeartbeats 1000000 in
theorem effect_api (n s : Int) (ev : Value) (es : List (Int × Int)) (own : Bool) (w : World) (hlen : es.length ≤ 1000) (hes : ReadsP w ev es) (hT : Tab w) (hw : 1 < w.heap.size) :
    Calls Tryd.prog 32 #[.int .i64 n, ev, .bool own, .int .i64 s] w fun e w' =>
      e = .returned (.tuple #[.int .i64 ((if code n es [s] = 0 then Lt.eff (gr n es own) s.toNat else 0 : Nat) : Int), .int .i64 (code n es [s] : Nat)]) ∧ Below w.heap.size w w' := by
  have hB0 : Below w.heap.size w (w.alloc (.cells #[.int .i64 s] 3)) := below_one _
  by_cases hc : code n es [s] = 0
  · have ho := Lib.hid (open_good hc ev _ own _ hlen (by simp) (hes.below hB0) (reads_one w s))
    rw [if_pos hc, hc]
    obtain ⟨S, rfl, hS, -⟩ := set_of_code hc
    clear hc hes
    simp only [Int.toNat_natCast]
    generalize gr n es own = G at *
    have HEF := Lib.hid (fun b W hL hT hw => effect_any b G S hS W hL hT hw)
    generalize Lt.eff G S = r at *
    go_enter Tryd.func32, Tryd.ntmps32
    go_wp2_with fail
    refine ho.out.mono ?_
    rintro e w1 ⟨b, rfl, hL, hb⟩
    replace hb := hB0.trans (hb.mono hB0.size)
    have hef := Lib.hid (HEF.out b w1 hL (hT.below hb hw) (by have := hb.size; omega))
    clear ho hL hB0 HEF
    go_wp2_with fail
    refine hef.out.mono ?_
    rintro e w2 ⟨rfl, hb2⟩
    go_wp2
    go_ret2
    exact ⟨rfl, hb.trans (hb2.mono hb.size)⟩
  · have ho := Lib.hid (open_bad hc ev _ own _ hlen (by simp) (hes.below hB0) (reads_one w s))
    rw [if_neg hc]
    clear hes
    generalize code n es [s] = c at *
    have hct : (((c : Nat) : Int) == 0) = false := by simpa using hc
    clear hc
    go_enter Tryd.func32, Tryd.ntmps32
    go_wp2_with fail
    refine ho.out.mono ?_
    rintro e w1 ⟨rfl, hb⟩
    replace hb := hB0.trans (hb.mono hB0.size)
    clear ho hB0
    go_wp2
    go_ret2
    exact ⟨rfl, hb⟩

end Go.Proofs.YtdlogklhekopgaaDoor

namespace Go.Proofs.YtdlogklhekopgaaDoor
open Go.RowKit Go.Shelf Go.Proofs
attribute [local go_sem] Oper.semAt_some

/-- some set has the effect -/
def solved (n : Int) (es : List (Int × Int)) (own : Bool) (s : Int) : Bool := decide (code n es [s] = 0) && decide ((Lt.solveOf (gr n es own) s.toNat).2 = 0)

set_option maxHeartbeats 1000000 in
theorem solve_api (n s : Int) (ev : Value) (es : List (Int × Int)) (own : Bool) (w : World) (hlen : es.length ≤ 1000) (hes : ReadsP w ev es) :
    Calls Tryd.prog 39 #[.int .i64 n, ev, .bool own, .int .i64 s] w fun e w' =>
      e = .returned (.tuple #[.int .i64 ((if solved n es own s then (Lt.solveOf (gr n es own) s.toNat).1 else 0 : Nat) : Int), .bool (solved n es own s), .int .i64 (code n es [s] : Nat)]) ∧ Below w.heap.size w w' := by
  have hB0 : Below w.heap.size w (w.alloc (.cells #[.int .i64 s] 3)) := below_one _
  unfold solved
  by_cases hc : code n es [s] = 0
  · have ho := Lib.hid (open_good hc ev _ own _ hlen (by simp) (hes.below hB0) (reads_one w s))
    rw [hc]
    obtain ⟨S, rfl, hS, -⟩ := set_of_code hc
    clear hc hes
    simp only [Int.toNat_natCast, decide_true, Bool.true_and]
    generalize gr n es own = G at *
    have HEF := Lib.hid (fun b W hL => solve_any b G S hS W hL)
    by_cases h0 : (Lt.solveOf G S).2 = 0
    · have hd : decide ((Lt.solveOf G S).2 = 0) = true := by simpa using h0
      rw [hd] at HEF ⊢
      rw [if_pos rfl]
      generalize (Lt.solveOf G S).1 = r at *
      clear hd h0
      go_enter Tryd.func39, Tryd.ntmps39
      go_wp2_with fail
      refine ho.out.mono ?_
      rintro e w1 ⟨b, rfl, hL, hb⟩
      replace hb := hB0.trans (hb.mono hB0.size)
      have hef := Lib.hid (HEF.out b w1 hL)
      clear ho hL hB0 HEF
      go_wp2_with fail
      refine hef.out.mono ?_
      rintro e w2 ⟨rfl, hb2⟩
      go_wp2
      go_ret3
      exact ⟨rfl, hb.trans (hb2.mono hb.size)⟩
    · have hd : decide ((Lt.solveOf G S).2 = 0) = false := by simpa using h0
      rw [hd] at HEF ⊢
      rw [if_neg (by decide)]
      generalize (Lt.solveOf G S).1 = r at *
      clear hd h0
      go_enter Tryd.func39, Tryd.ntmps39
      go_wp2_with fail
      refine ho.out.mono ?_
      rintro e w1 ⟨b, rfl, hL, hb⟩
      replace hb := hB0.trans (hb.mono hB0.size)
      have hef := Lib.hid (HEF.out b w1 hL)
      clear ho hL hB0 HEF
      go_wp2_with fail
      refine hef.out.mono ?_
      rintro e w2 ⟨rfl, hb2⟩
      go_wp2
      go_ret3
      exact ⟨rfl, hb.trans (hb2.mono hb.size)⟩
  · have ho := Lib.hid (open_bad hc ev _ own _ hlen (by simp) (hes.below hB0) (reads_one w s))
    have hd : decide (code n es [s] = 0) = false := by simpa using hc
    rw [hd]
    simp only [Bool.false_and, Bool.false_eq_true, if_false]
    clear hes hd
    generalize code n es [s] = c at *
    have hct : (((c : Nat) : Int) == 0) = false := by simpa using hc
    clear hc
    go_enter Tryd.func39, Tryd.ntmps39
    go_wp2_with fail
    refine ho.out.mono ?_
    rintro e w1 ⟨rfl, hb⟩
    replace hb := hB0.trans (hb.mono hB0.size)
    clear ho hB0
    go_wp2
    go_ret3
    exact ⟨rfl, hb⟩

set_option maxHeartbeats 1000000 in
theorem fewest_api (n s : Int) (ev : Value) (es : List (Int × Int)) (own : Bool) (w : World) (hlen : es.length ≤ 1000) (hes : ReadsP w ev es) (hT : Tab w) (hw : 1 < w.heap.size) :
    Calls Tryd.prog 36 #[.int .i64 n, ev, .bool own, .int .i64 s] w fun e w' =>
      e = .returned (.tuple #[.int .i64 ((if solved n es own s then Lt.fewOf (gr n es own) s.toNat else 0 : Nat) : Int), .bool (solved n es own s), .int .i64 (code n es [s] : Nat)]) ∧ Below w.heap.size w w' := by
  have hB0 : Below w.heap.size w (w.alloc (.cells #[.int .i64 s] 3)) := below_one _
  unfold solved
  by_cases hc : code n es [s] = 0
  · have ho := Lib.hid (open_good hc ev _ own _ hlen (by simp) (hes.below hB0) (reads_one w s))
    rw [hc]
    obtain ⟨S, rfl, hS, -⟩ := set_of_code hc
    clear hc hes
    simp only [Int.toNat_natCast, decide_true, Bool.true_and]
    generalize gr n es own = G at *
    have HEF := Lib.hid (fun b W hL hT hw => fewest_any b G S hS W hL hT hw)
    have he : (if decide ((Lt.solveOf G S).2 = 0) = true then Lt.fewOf G S else 0) = (if (Lt.solveOf G S).2 = 0 then Lt.fewOf G S else 0) := by simp
    rw [he]
    generalize (if (Lt.solveOf G S).2 = 0 then Lt.fewOf G S else 0) = r at *
    generalize decide ((Lt.solveOf G S).2 = 0) = d at *
    clear he
    go_enter Tryd.func36, Tryd.ntmps36
    go_wp2_with fail
    refine ho.out.mono ?_
    rintro e w1 ⟨b, rfl, hL, hb⟩
    replace hb := hB0.trans (hb.mono hB0.size)
    have hef := Lib.hid (HEF.out b w1 hL (hT.below hb hw) (by have := hb.size; omega))
    clear ho hL hB0 HEF
    go_wp2_with fail
    refine hef.out.mono ?_
    rintro e w2 ⟨rfl, hb2⟩
    go_wp2
    go_ret3
    exact ⟨rfl, hb.trans (hb2.mono hb.size)⟩
  · have ho := Lib.hid (open_bad hc ev _ own _ hlen (by simp) (hes.below hB0) (reads_one w s))
    have hd : decide (code n es [s] = 0) = false := by simpa using hc
    rw [hd]
    simp only [Bool.false_and, Bool.false_eq_true, if_false]
    clear hes hd
    generalize code n es [s] = c at *
    have hct : (((c : Nat) : Int) == 0) = false := by simpa using hc
    clear hc
    go_enter Tryd.func36, Tryd.ntmps36
    go_wp2_with fail
    refine ho.out.mono ?_
    rintro e w1 ⟨rfl, hb⟩
    replace hb := hB0.trans (hb.mono hB0.size)
    clear ho hB0
    go_wp2
    go_ret3
    exact ⟨rfl, hb⟩

theorem gr_len {n : Int} {es : List (Int × Int)} {own : Bool} {xs : List Int} (hc : code n es xs = 0) : (gr n es own).length ≤ 16 := by
  unfold gr
  rw [Lt.graph_length]
  have := code_zero hc
  omega

/-- the quiet basis as Quiet hands it out -/
def quietT (n : Int) (es : List (Int × Int)) (own : Bool) : List Nat := if code n es [] = 0 then Lt.tidy (Lt.quietOf (gr n es own)) else []

set_option maxHeartbeats 1000000 in
theorem quiet_api (n : Int) (ev : Value) (es : List (Int × Int)) (own : Bool) (w : World) (hlen : es.length ≤ 1000) (hes : ReadsP w ev es) :
    Calls Tryd.prog 22 #[.int .i64 n, ev, .bool own] w fun e w' => ∃ v,
      e = .returned (.tuple #[v, .int .i64 (code n es [] : Nat)]) ∧ w'.ownsRow w.heap.size 3 1 v (quietT n es own).length (ncells (quietT n es own)) ∧ Below w.heap.size w w' := by
  unfold quietT
  by_cases hc : code n es [] = 0
  · have ho := Lib.hid (open_good hc ev _ own w hlen (by simp) hes (reads_nil w))
    have h16 := gr_len (own := own) hc
    rw [if_pos hc, hc]
    clear hc hes
    generalize gr n es own = G at *
    obtain ⟨hQ, hQ16⟩ := quiet_small h16
    have hQ' : ∀ x ∈ Lt.quietOf G, x < 65536 := fun x hx => by
      obtain ⟨i, hi, rfl⟩ := List.getElem_of_mem hx
      have := hQ i
      simpa [hi] using this
    have HR := Lib.hid (fun b W hL => reduced_any b G W hL)
    clear hQ h16
    generalize Lt.quietOf G = Q at *
    generalize Lt.basisOf G = B at *
    go_enter Tryd.func22, Tryd.ntmps22
    go_wp2_with fail
    refine ho.out.mono ?_
    rintro e w1 ⟨b, rfl, hL, hb⟩
    have hef := Lib.hid (HR.out b w1 hL)
    clear ho hL HR
    go_wp2_with fail
    refine hef.out.mono ?_
    rintro e w2 ⟨vB, vQ, rfl, ⟨hrB, hrQ⟩, hb2⟩
    obtain ⟨aB, nB, cB, rfl⟩ := slice_of_row hrB
    obtain ⟨ad, cap, rfl, hel⟩ := elems_of_row hrQ
    have ht := Lib.hid (tidied_any ad cap Q w2 hQ' (by omega) hel)
    clear hrB hrQ hef hel hQ'
    go_wp2_with fail
    refine ht.out.mono ?_
    rintro e w3 ⟨v, rfl, hr, hb3⟩
    obtain ⟨a3, n3, c3, rfl⟩ := slice_of_row hr
    have hr' := Lib.hid hr
    clear hr ht
    go_wp2
    go_ret2
    have hs1 := hb.size
    have hs2 := hb2.size
    exact ⟨_, rfl, Go.Joins.ownsRow_le hr'.out (by omega), (hb.trans (hb2.mono hs1)).trans (hb3.mono (by omega))⟩
  · have ho := Lib.hid (open_bad hc ev _ own w hlen (by simp) hes (reads_nil w))
    rw [if_neg hc]
    clear hes
    generalize code n es [] = c at *
    have hct : (((c : Nat) : Int) == 0) = false := by simpa using hc
    clear hc
    go_enter Tryd.func22, Tryd.ntmps22
    go_wp2_with fail
    refine ho.out.mono ?_
    rintro e w1 ⟨rfl, hb⟩
    clear ho
    go_wp2
    go_ret2
    exact ⟨_, rfl, World.ownsRow_nil _ _ _ _, hb⟩

set_option maxHeartbeats 1000000 in
theorem reachable_api (n : Int) (ev : Value) (es : List (Int × Int)) (own : Bool) (w : World) (hlen : es.length ≤ 1000) (hes : ReadsP w ev es) :
    Calls Tryd.prog 40 #[.int .i64 n, ev, .bool own] w fun e w' =>
      e = .returned (.tuple #[.int .i64 ((if code n es [] = 0 then 2 ^ (Lt.basisOf (gr n es own)).length else 0 : Nat) : Int), .int .i64 (code n es [] : Nat)]) ∧ Below w.heap.size w w' := by
  by_cases hc : code n es [] = 0
  · have ho := Lib.hid (open_good hc ev _ own w hlen (by simp) hes (reads_nil w))
    have h16 := gr_len (own := own) hc
    rw [if_pos hc, hc]
    clear hc hes
    generalize gr n es own = G at *
    have HR := Lib.hid (fun b W hL => reduced_any b G W hL)
    have hB16 : (Lt.basisOf G).length ≤ 16 := by have := (Lt.inv_of G).len; omega
    clear h16
    generalize Lt.quietOf G = Q at *
    generalize Lt.basisOf G = B at *
    have hw1 := Lt.wrap_u64_nat B.length (by omega)
    have hw2 := wrap_pow B.length (by omega)
    generalize 2 ^ B.length = m at *
    go_enter Tryd.func40, Tryd.ntmps40
    go_wp2_with fail
    refine ho.out.mono ?_
    rintro e w1 ⟨b, rfl, hL, hb⟩
    have hef := Lib.hid (HR.out b w1 hL)
    clear ho hL HR
    go_wp2_with fail
    refine hef.out.mono ?_
    rintro e w2 ⟨vB, vQ, rfl, ⟨hrB, hrQ⟩, hb2⟩
    obtain ⟨aB, cB, rfl, -⟩ := (ReadsB.of_row hrB).general
    obtain ⟨aQ, nQ, cQ, rfl⟩ := slice_of_row hrQ
    clear hrB hrQ hef
    go_wp2
    go_ret2
    have hs1 := hb.size
    exact ⟨by rw [← hw2]; rfl, hb.trans (hb2.mono hs1)⟩
  · have ho := Lib.hid (open_bad hc ev _ own w hlen (by simp) hes (reads_nil w))
    rw [if_neg hc]
    clear hes
    generalize code n es [] = c at *
    have hct : (((c : Nat) : Int) == 0) = false := by simpa using hc
    clear hc
    go_enter Tryd.func40, Tryd.ntmps40
    go_wp2_with fail
    refine ho.out.mono ?_
    rintro e w1 ⟨rfl, hb⟩
    clear ho
    go_wp2
    go_ret2
    exact ⟨rfl, hb⟩

end Go.Proofs.YtdlogklhekopgaaDoor
