/- Plain facts on the lamps (no program): part P11 of the proof. -/
import Derived.Test.YtdlogklhekopgaaDoorP6
set_option linter.unusedVariables false
set_option linter.unusedSimpArgs false
namespace Lt

/-! ### the list made tidy -/
def desc (l : List Nat) : List Nat := l.mergeSort (fun x y => decide (y ≤ x))
def asc (l : List Nat) : List Nat := l.mergeSort (fun x y => decide (x ≤ y))
def minRed (out : List Nat) (s : Nat) : Nat := out.foldl (fun a t => min a (a ^^^ t)) s
def clearTop (r t : Nat) : Nat := if t &&& 2 ^ r.log2 = 0 then t else t ^^^ r
def tidyStep (out : List Nat) (s : Nat) : List Nat := if minRed out s = 0 then out else desc (out.map (clearTop (minRed out s)) ++ [minRed out s])
def tidyTo (l : List Nat) : List Nat := l.foldl tidyStep []
def tidy (l : List Nat) : List Nat := asc (tidyTo l)

theorem desc_length (l : List Nat) : (desc l).length = l.length := by simp [desc]
theorem asc_length (l : List Nat) : (asc l).length = l.length := by simp [asc]
theorem mem_desc {l : List Nat} {x : Nat} : x ∈ desc l ↔ x ∈ l := by simp [desc]
theorem mem_asc {l : List Nat} {x : Nat} : x ∈ asc l ↔ x ∈ l := by simp [asc]

theorem minRed_lt {m : Nat} : ∀ (out : List Nat) (s : Nat), s < 2 ^ m → minRed out s < 2 ^ m
  | [], s, hs => hs
  | t :: out, s, hs => minRed_lt out _ (Nat.lt_of_le_of_lt (Nat.min_le_left _ _) hs)

theorem minRed_snoc (out : List Nat) (s t : Nat) : minRed (out ++ [t]) s = min (minRed out s) (minRed out s ^^^ t) := by simp [minRed, List.foldl_append]

theorem clearTop_lt {m r t : Nat} (hr : r < 2 ^ m) (ht : t < 2 ^ m) : clearTop r t < 2 ^ m := by
  unfold clearTop; split
  · exact ht
  · exact Nat.xor_lt_two_pow ht hr

theorem tidyStep_lt {m : Nat} {out : List Nat} {s : Nat} (ho : ∀ x ∈ out, x < 2 ^ m) (hs : s < 2 ^ m) : ∀ x ∈ tidyStep out s, x < 2 ^ m := by
  unfold tidyStep
  split
  · exact ho
  · intro x hx
    rw [mem_desc, List.mem_append, List.mem_map] at hx
    rcases hx with ⟨t, ht, rfl⟩ | hx
    · exact clearTop_lt (minRed_lt _ _ hs) (ho t ht)
    · rw [List.mem_singleton] at hx; subst hx; exact minRed_lt _ _ hs

theorem tidyStep_length (out : List Nat) (s : Nat) : (tidyStep out s).length ≤ out.length + 1 := by
  unfold tidyStep
  split
  · omega
  · rw [desc_length]; simp

theorem tidyTo_snoc (l : List Nat) (s : Nat) : tidyTo (l ++ [s]) = tidyStep (tidyTo l) s := by simp [tidyTo, List.foldl_append]

theorem tidyTo_facts {m : Nat} (l : List Nat) (hl : ∀ x ∈ l, x < 2 ^ m) : (∀ x ∈ tidyTo l, x < 2 ^ m) ∧ (tidyTo l).length ≤ l.length := by
  suffices h : ∀ (l out : List Nat), (∀ x ∈ out, x < 2 ^ m) → (∀ x ∈ l, x < 2 ^ m) → (∀ x ∈ l.foldl tidyStep out, x < 2 ^ m) ∧ (l.foldl tidyStep out).length ≤ out.length + l.length by
    have := h l [] (by simp) hl
    simpa [tidyTo] using this
  intro l
  induction l with
  | nil => intro out ho _; exact ⟨ho, by simp⟩
  | cons s l ih =>
    intro out ho hl
    have h1 := ih (tidyStep out s) (tidyStep_lt ho (hl s List.mem_cons_self)) (fun x hx => hl x (List.mem_cons_of_mem _ hx))
    refine ⟨h1.1, ?_⟩
    have := tidyStep_length out s
    have h2 := h1.2
    simp only [List.foldl_cons, List.length_cons] at *
    omega

end Lt
