/- Contracts of the program's functions: part C16 of the proof. -/
import Derived.Test.YtdlogklhekopgaaDoorC15
import Derived.Test.YtdlogklhekopgaaDoorP11
import Derived.Test.YtdlogklhekopgaaDoorShelf
import Derived.Lib.OwnBridge
import Derived.Lib.AppendIntMem
import Derived.Lib.SmallJoins
set_option linter.unusedVariables false
set_option linter.unusedSimpArgs false
namespace Go.Proofs.YtdlogklhekopgaaDoor
open Go.RowKit Go.Shelf Go.Proofs Go.Lib Go.Sort

/-- numbers below 65536, as cells -/
def encF (x : Fin 65536) : Value := .int .i64 ((x.val : Nat) : Int)
def cfF (x y : Fin 65536) : Int := (y.val : Int) - (x.val : Int)

theorem ltF (x y : Fin 65536) : ltOf cfF x y = decide (y.val < x.val) := by
  unfold ltOf cfF
  by_cases h : y.val < x.val <;> simp [h] <;> omega
theorem swoF : SWO (ltOf cfF) where
  irrefl x := by rw [ltF]; simp
  trans x y z h1 h2 := by rw [ltF] at *; simp at *; omega
  ntrans x y z h1 h2 := by rw [ltF] at *; simp at *; omega
theorem totF (x y : Fin 65536) (h1 : ltOf cfF x y = false) (h2 : ltOf cfF y x = false) : x = y := by
  rw [ltF] at *; simp at *; exact Fin.ext (by omega)

set_option maxHeartbeats 1000000 in
theorem closure73 (x y : Fin 65536) (W : World) : Calls Tryd.prog 73 #[encF x, encF y] W fun e w' => e = .returned (.int .i64 (cfF x y)) ∧ ∃ q, w' = W.drewN q := by
  have hx := x.isLt
  have hy := y.isLt
  unfold encF cfF
  generalize x.val = a at *
  generalize y.val = b at *
  go_enter Tryd.func73, Tryd.ntmps73
  go_wp2
  go_ret
  exact ⟨by go_num, 0, rfl⟩

def toF (x : Nat) : Fin 65536 := ⟨x % 65536, Nat.mod_lt _ (by decide)⟩
theorem ncells_F {L : List Nat} (h : ∀ x ∈ L, x < 65536) : (L.map toF).map encF = ncells L := by
  unfold ncells
  rw [List.map_map]
  refine List.map_congr_left fun x hx => ?_
  have := h x hx
  simp only [Function.comp, encF, toF, Nat.mod_eq_of_lt this]

theorem desc_F {L : List Nat} (h : ∀ x ∈ L, x < 65536) : (L.map toF).mergeSort (fun x y => !(ltOf cfF) y x) = (Lt.desc L).map toF := by
  unfold Lt.desc
  rw [List.map_mergeSort]
  intro a ha b hb
  have h1 := h a ha
  have h2 := h b hb
  rw [ltF]
  simp only [toF, Nat.mod_eq_of_lt h1, Nat.mod_eq_of_lt h2]
  by_cases hab : b ≤ a <;> simp [hab] <;> omega

/-- slices.SortFunc under 'b - a' -/
theorem sortDesc_any (g n cap base : Nat) (L : List Nat) (w : World) (hn : n < 1000) (hL : ∀ x ∈ L, x < 65536) (hr : w.ownsRow base 3 1 (.slice (some ⟨g, 0, none⟩) n cap) n (ncells L)) :
    Calls Tryd.prog 72 #[.slice (some ⟨g, 0, none⟩) n cap, .func (.func 73) #[] #[]] w fun e w' => e = .returned (.tuple #[]) ∧ w'.ownsRow base 3 1 (.slice (some ⟨g, 0, none⟩) n cap) n (ncells (Lt.desc L)) ∧ Below base w w' := by
  have eg : ∀ args w, (callFunc 73 args).run Tryd.prog w = .ok (.enter 73 args) w := enters_of Tryd.func73 (by kernel_rfl) rfl
  rw [← ncells_F hL] at hr
  obtain ⟨g', cap', he, hbg, hg, -, -, hl, hH⟩ := holds_of_ownsRow hr (by simp)
  obtain ⟨rfl, rfl⟩ : g = g' ∧ cap = cap' := by simpa using he
  have hS := Tryd.slices_SortFunc_total encF (fun _ => rfl) cfF swoF 73 #[] g 0 cap (L.map toF).toArray w eg
    (CmpReads.lays (fun _ _ _ _ x y => closure73 x y _)) hH hg (by simp at hl ⊢; omega) totF
  have e1 : (L.map toF).toArray.size = n := by simpa using hl
  rw [e1] at hS
  refine hS.mono ?_
  rintro e w' ⟨rfl, m, os, rfl⟩
  simp only [desc_F hL]
  have hdl : ((Lt.desc L).map toF).length = n := by rw [List.length_map, Lt.desc_length]; simpa using hl
  have h2 := ownsRow_putRow (q := m) (k := n) hr hdl (Nat.le_refl _)
  rw [← hdl, List.take_length, hdl, ncells_F (fun x hx => hL x (Lt.mem_desc.1 hx))] at h2
  refine ⟨by trivial, ?_, ?_⟩
  · exact ownsRow_grow h2 0 os
  · exact (below_putRow (Below.refl base w) hbg).trans (below_grow base _ (by have := (below_putRow (enc := encF) (q := m) (d := ((Lt.desc L).map toF).toArray) (Below.refl base w) hbg).size; omega) 0 os)

theorem asc_I (L : List Nat) : (L.map (fun x : Nat => (x : Int))).mergeSort (fun x y => decide (x ≤ y)) = (Lt.asc L).map (fun x : Nat => (x : Int)) := by
  unfold Lt.asc
  rw [List.map_mergeSort]
  intro a _ b _
  by_cases h : a ≤ b <;> simp [h]
theorem ncells_I (L : List Nat) : (L.map (fun x : Nat => (x : Int))).map (Value.int .i64) = ncells L := by
  unfold ncells; rw [List.map_map]; rfl

/-- slices.Sort -/
theorem sortAsc_any (n base : Nat) (v : Value) (L : List Nat) (w : World) (hn : n < 1000) (hb : base ≤ w.heap.size) (hr : w.ownsRow base 3 1 v n (ncells L)) :
    Calls Tryd.prog 74 #[v] w fun e w' => e = .returned (.tuple #[]) ∧ w'.ownsRow base 3 1 v n (ncells (Lt.asc L)) ∧ Below base w w' := by
  by_cases hv : v = .slice none 0 0
  · subst hv
    rcases hr.2 with ⟨-, rfl⟩ | ⟨g, cap, cur, he, _⟩
    · refine (Tryd.slices_Sort_int_none _ _ _).mono ?_
      rintro e w' ⟨rfl, rfl⟩
      have h0 : L = [] := List.length_eq_zero_iff.1 (by simpa [ncells_length] using hr.1)
      subst h0
      exact ⟨by trivial, by rw [show Lt.asc [] = [] by simp [Lt.asc]]; exact hr, Below.refl _ _⟩
    · simp at he
  · rw [← ncells_I] at hr
    obtain ⟨g, cap, rfl, hbg, hg, -, -, hl, hH⟩ := holds_of_ownsRow hr hv
    have hS := Tryd.slices_Sort_int g 0 cap (L.map (fun x : Nat => (x : Int))) w hH hg (by simp at hl ⊢; omega)
    rw [hl] at hS
    refine hS.mono ?_
    rintro e w' ⟨rfl, m, os, rfl⟩
    simp only [asc_I L]
    have hdl : ((Lt.asc L).map (fun x : Nat => (x : Int))).length = n := by rw [List.length_map, Lt.asc_length]; simpa using hl
    have h2 := ownsRow_putRow (q := m) (k := n) hr hdl (Nat.le_refl _)
    rw [← hdl, List.take_length, hdl, ncells_I] at h2
    refine ⟨by trivial, ?_, ?_⟩
    · exact ownsRow_grow h2 0 os
    · exact (below_putRow (Below.refl base w) hbg).trans (below_grow base _ (by have := (below_putRow (enc := Value.int .i64) (q := m) (d := ((Lt.asc L).map (fun x : Nat => (x : Int))).toArray) (Below.refl base w) hbg).size; omega) 0 os)

end Go.Proofs.YtdlogklhekopgaaDoor
