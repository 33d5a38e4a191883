/- Plain facts on the lamps (no program): part P7 of the proof. -/
import Derived.Test.YtdlogklhekopgaaDoorP6
import Derived.Lib.TrailingZeros
set_option linter.unusedVariables false
set_option linter.unusedSimpArgs false
namespace Lt
open Go

/-! ### the members of a set -/
def bitsOf (x : Nat) : List Nat := (List.range 64).filter (fun i => x.testBit i)

theorem ctz_parts {x : Nat} (h0 : x ≠ 0) (h : x < 2 ^ 64) : ∃ m, x = 2 ^ Lib.ctz 64 x * (2 * m + 1) ∧ Lib.ctz 64 x < 64 := by
  have e : Lib.ctz 64 x = Lib.ctzFrom 64 x := by unfold Lib.ctz; simp [h0]
  rw [e]; exact Lib.ctzFrom_spec 64 x (by omega) h

theorem clear_low {x k m : Nat} (hx : x = 2 ^ k * (2 * m + 1)) (i : Nat) : (x &&& (x - 1)).testBit i = (x.testBit i && decide (i ≠ k)) := by
  have hp := Nat.two_pow_pos k
  have e1 : x = 2 ^ k * (2 * m + 1) + 0 := by omega
  have e2 : x - 1 = 2 ^ k * (2 * m) + (2 ^ k - 1) := by rw [hx, Nat.mul_add, Nat.mul_one]; omega
  rw [Nat.testBit_and, e2, Nat.testBit_two_pow_mul_add (2 * m) (by omega : 2 ^ k - 1 < 2 ^ k) i]
  have e3 : x.testBit i = if i < k then false else (2 * m + 1).testBit (i - k) := by
    rw [e1, Nat.testBit_two_pow_mul_add (2 * m + 1) hp i]; simp
  rw [e3]
  by_cases h : i < k
  · simp [h]
  · by_cases e : i = k
    · subst e; simp [Nat.testBit_zero]
    · obtain ⟨j, rfl⟩ : ∃ j, i = k + (j + 1) := ⟨i - k - 1, by omega⟩
      have e4 : k + (j + 1) - k = j + 1 := by omega
      have d1 : (2 * m + 1) / 2 = m := by omega
      have d2 : (2 * m) / 2 = m := by omega
      simp [h, e4, Nat.testBit_succ, d1, d2]

theorem low_bit {x k m : Nat} (hx : x = 2 ^ k * (2 * m + 1)) : x.testBit k = true ∧ ∀ i, i < k → x.testBit i = false := by
  have e1 : x = 2 ^ k * (2 * m + 1) + 0 := by omega
  constructor
  · rw [e1, Nat.testBit_two_pow_mul_add (2 * m + 1) (Nat.two_pow_pos k) k]; simp [Nat.testBit_zero]
  · intro i hi; rw [e1, Nat.testBit_two_pow_mul_add (2 * m + 1) (Nat.two_pow_pos k) i]; simp [hi]

theorem filter_range_head {p q : Nat → Bool} {n k : Nat} (hk : k < n) (hp : p k = true) (hlow : ∀ i, i < k → p i = false) (hq : ∀ i, q i = (p i && decide (i ≠ k))) :
    (List.range n).filter p = k :: (List.range n).filter q := by
  obtain ⟨d, rfl⟩ : ∃ d, n = k + 1 + d := ⟨n - k - 1, by omega⟩
  rw [List.range_add, List.range_succ]
  simp only [List.filter_append]
  have h1 : (List.range k).filter p = [] := by
    rw [List.filter_eq_nil_iff]; intro i hi; simp [hlow i (by simpa using hi)]
  have h2 : (List.range k).filter q = [] := by
    rw [List.filter_eq_nil_iff]; intro i hi; simp [hq, hlow i (by simpa using hi)]
  have h3 : [k].filter q = [] := by simp [hq]
  have h4 : ((List.range d).map (fun x => k + 1 + x)).filter p = ((List.range d).map (fun x => k + 1 + x)).filter q := by
    apply List.filter_congr
    intro i hi
    obtain ⟨j, _, rfl⟩ := List.mem_map.1 hi
    rw [hq]; have : k + 1 + j ≠ k := by omega
    simp [this]
  rw [h1, h2, h3, h4]; simp [hp]

theorem bitsOf_step {x : Nat} (h0 : x ≠ 0) (h : x < 2 ^ 64) : bitsOf x = Lib.ctz 64 x :: bitsOf (x &&& (x - 1)) := by
  obtain ⟨m, hm, hk⟩ := ctz_parts h0 h
  obtain ⟨h1, h2⟩ := low_bit hm
  exact filter_range_head hk h1 h2 (fun i => clear_low hm i)

theorem bitsOf_zero : bitsOf 0 = [] := by
  unfold bitsOf; rw [List.filter_eq_nil_iff]; simp

theorem clear_lt {x : Nat} (h0 : x ≠ 0) (h : x < 2 ^ 64) : (x &&& (x - 1)) < x := by
  have := Nat.and_le_right (n := x) (m := x - 1); omega

/-- the sum of the rows of the members, one after the other -/
def effList (l : List Nat) (is : List Nat) : Nat := is.foldl (fun a i => a ^^^ l[i]?.getD 0) 0
theorem effList_snoc (l is : List Nat) (i : Nat) : effList l (is ++ [i]) = effList l is ^^^ l[i]?.getD 0 := by simp [effList, List.foldl_append]

theorem eff_take (l : List Nat) (s n : Nat) : eff (l.take (n + 1)) s = eff (l.take n) s ^^^ (if s.testBit n then l[n]?.getD 0 else 0) := by
  by_cases h : n < l.length
  · rw [List.take_succ_eq_append_getElem h, eff_snoc]
    simp [Nat.min_eq_left (Nat.le_of_lt h), h]
  · have e1 : l.take (n + 1) = l := List.take_of_length_le (by omega)
    have e2 : l.take n = l := List.take_of_length_le (by omega)
    have e3 : l[n]? = none := List.getElem?_eq_none_iff.2 (by omega)
    rw [e1, e2, e3]; simp

theorem effList_filter (l : List Nat) (s : Nat) : ∀ n, effList l ((List.range n).filter (fun i => s.testBit i)) = eff (l.take n) s
  | 0 => by simp [effList, eff]
  | n + 1 => by
    rw [eff_take, ← effList_filter l s n, List.range_succ, List.filter_append]
    cases h : s.testBit n with
    | true =>
      have e : [n].filter (fun i => s.testBit i) = [n] := by simp [h]
      rw [e, effList_snoc]; simp
    | false =>
      have e : [n].filter (fun i => s.testBit i) = [] := by simp [h]
      rw [e]; simp

theorem effList_bitsOf {l : List Nat} (hl : l.length ≤ 64) (s : Nat) : effList l (bitsOf s) = eff l s := by
  unfold bitsOf; rw [effList_filter, List.take_of_length_le hl]

end Lt
