/- Plain facts on the lamps (no program): part P9 of the proof. -/
import Derived.Test.YtdlogklhekopgaaDoorP8
set_option linter.unusedVariables false
set_option linter.unusedSimpArgs false
namespace Lt
open Go

def swar (x : Nat) : Nat :=
  let a1 := (x / 2 &&& 6148914691236517205) + (x &&& 6148914691236517205)
  let a2 := (a1 / 4 &&& 3689348814741910323) + (a1 &&& 3689348814741910323)
  let a3 := (a2 / 16 + a2) &&& 1085102592571150095
  let a4 := a3 + a3 / 256
  let a5 := a4 + a4 / 65536
  let a6 := a5 + a5 / 4294967296
  a6 &&& 127

theorem popN_small : ∀ (k x : Nat), x < 2 ^ k → ∀ d, popN (k + d) x = popN k x
  | 0, x, h, d => by
    have : x = 0 := by simpa using h
    subst this
    induction d with
    | zero => rfl
    | succ d ih => simp [popN] at *; exact ih
  | k + 1, x, h, d => by
    have e : k + 1 + d = (k + d) + 1 := by omega
    rw [e, popN, popN, popN_small k (x / 2) (by rw [Nat.pow_succ] at h; omega) d]

/-- all numbers below n meet p -/
def allBelow (p : Nat → Bool) : Nat → Bool
  | 0 => true
  | n + 1 => p n && allBelow p n
theorem allBelow_at {p : Nat → Bool} : ∀ {n : Nat}, allBelow p n = true → ∀ i, i < n → p i = true
  | n + 1, h, i, hi => by
    simp only [allBelow, Bool.and_eq_true] at h
    by_cases e : i = n
    · subst e; exact h.1
    · exact allBelow_at h.2 i (by omega)

set_option maxRecDepth 1000000 in
theorem swar_row : allBelow (fun h => allBelow (fun l => Nat.beq (swar (256 * h + l)) (popN 8 h + popN 8 l)) 256) 256 = true := by decide +kernel

theorem popN_split : ∀ (j k x : Nat), popN (j + k) x = popN j (x % 2 ^ j) + popN k (x / 2 ^ j)
  | 0, k, x => by simp [popN]
  | j + 1, k, x => by
    have e : j + 1 + k = (j + k) + 1 := by omega
    have h1 : x % 2 ^ (j + 1) % 2 = x % 2 := by
      rw [Nat.pow_succ, Nat.mul_comm]; exact Nat.mod_mul_right_mod x 2 (2 ^ j)
    have h2 : x % 2 ^ (j + 1) / 2 = x / 2 % 2 ^ j := by
      rw [Nat.pow_succ, Nat.mul_comm, Nat.mod_mul_right_div_self]
    have h3 : x / 2 / 2 ^ j = x / 2 ^ (j + 1) := by rw [Nat.div_div_eq_div_mul, Nat.pow_succ, Nat.mul_comm]
    rw [e, popN, popN_split j k (x / 2), popN, h1, h2, h3]; omega

theorem swar_pop {x : Nat} (h : x < 65536) : swar x = pop x := by
  have h1 := allBelow_at (allBelow_at swar_row (x / 256) (by omega)) (x % 256) (by omega)
  rw [Nat.div_add_mod] at h1
  rw [Nat.eq_of_beq_eq_true h1]
  unfold pop
  have e : (64 : Nat) = 8 + 56 := rfl
  have h2 : popN 56 (x / 2 ^ 8) = popN 8 (x / 256) := popN_small 8 (x / 2 ^ 8) (by omega) 48
  rw [e, popN_split 8 56 x, h2]
  have : x % 2 ^ 8 = x % 256 := rfl
  rw [this]; omega

theorem and_u64 (a b : Nat) (ha : a < 18446744073709551616) (hb : b < 18446744073709551616) : bits .and .u64 (a : Int) (b : Int) = ((a &&& b : Nat) : Int) := bits_and_u64_nat a b ha hb

theorem swar_bounds {x : Nat} (h : x < 65536) : ∃ a1 a2 a3 a4 a5 a6 : Nat, a1 < 131072 ∧ a2 < 262144 ∧ a3 < 524288 ∧ a4 < 1048576 ∧ a5 < 2097152 ∧ a6 < 4194304 ∧
    (x / 2 &&& 6148914691236517205) + (x &&& 6148914691236517205) = a1 ∧ (a1 / 4 &&& 3689348814741910323) + (a1 &&& 3689348814741910323) = a2 ∧ (a2 / 16 + a2) &&& 1085102592571150095 = a3 ∧
    a3 + a3 / 256 = a4 ∧ a4 + a4 / 65536 = a5 ∧ a5 + a5 / 4294967296 = a6 ∧ a6 &&& 127 = pop x := by
  have hp := swar_pop h
  unfold swar at hp
  dsimp only at hp
  have b1 : (x / 2 &&& 6148914691236517205) + (x &&& 6148914691236517205) < 131072 := by
    have h1 : (x / 2 &&& 6148914691236517205) ≤ x / 2 := Nat.and_le_left
    have h2 : (x &&& 6148914691236517205) ≤ x := Nat.and_le_left
    omega
  generalize e1 : (x / 2 &&& 6148914691236517205) + (x &&& 6148914691236517205) = a1 at *
  have b2 : (a1 / 4 &&& 3689348814741910323) + (a1 &&& 3689348814741910323) < 262144 := by
    have h1 : (a1 / 4 &&& 3689348814741910323) ≤ a1 / 4 := Nat.and_le_left
    have h2 : (a1 &&& 3689348814741910323) ≤ a1 := Nat.and_le_left
    omega
  generalize e2 : (a1 / 4 &&& 3689348814741910323) + (a1 &&& 3689348814741910323) = a2 at *
  have b3 : (a2 / 16 + a2) &&& 1085102592571150095 < 524288 := by
    have h1 : (a2 / 16 + a2) &&& 1085102592571150095 ≤ a2 / 16 + a2 := Nat.and_le_left
    omega
  generalize e3 : (a2 / 16 + a2) &&& 1085102592571150095 = a3 at *
  exact ⟨a1, a2, a3, _, _, _, b1, b2, b3, by omega, by omega, by omega, rfl, e2, e3, rfl, rfl, rfl, hp⟩

end Lt
