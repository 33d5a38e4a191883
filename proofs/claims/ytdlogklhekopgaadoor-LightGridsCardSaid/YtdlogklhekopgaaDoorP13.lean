/- Plain facts on the lamps (no program): part P13 of the proof. -/
import Derived.Test.YtdlogklhekopgaaDoorP3
set_option linter.unusedVariables false
set_option linter.unusedSimpArgs false
namespace Lt

/-! ### polynomials modulo 2, their coefficients as bits -/
def plen (p : Nat) : Nat := if p = 0 then 0 else p.log2 + 1

theorem plen_zero : plen 0 = 0 := rfl
theorem lt_plen (p : Nat) : p < 2 ^ plen p := by
  unfold plen; split
  · subst_vars; decide
  · exact Nat.lt_log2_self
theorem plen_le {p k : Nat} (h : p < 2 ^ k) : plen p ≤ k := by
  unfold plen; split
  · omega
  · exact log2_lt (by assumption) h
theorem plen_top {p : Nat} (h : p ≠ 0) : p.testBit (plen p - 1) = true := by
  unfold plen; rw [if_neg h]; simpa using testBit_log2 h
theorem bit_plen {p j : Nat} (h : plen p ≤ j) : p.testBit j = false :=
  testBit_of_lt (Nat.lt_of_lt_of_le (lt_plen p) (Nat.pow_le_pow_right (by decide) h))
theorem plen_of {p n : Nat} (hlow : ∀ j, n ≤ j → p.testBit j = false) (htop : n = 0 ∨ p.testBit (n - 1) = true) : plen p = n := by
  have h1 : p < 2 ^ n := Nat.lt_pow_two_of_testBit _ (fun j hj => hlow j hj)
  have h2 := plen_le h1
  rcases htop with rfl | ht
  · omega
  · by_cases hn : n = 0
    · omega
    · have : ¬ plen p ≤ n - 1 := fun h => by rw [bit_plen h] at ht; cases ht
      omega
theorem plen_pos {p : Nat} (h : 0 < plen p) : p ≠ 0 := by rintro rfl; simp [plen] at h
theorem plen_eq_zero {p : Nat} (h : plen p = 0) : p = 0 := by
  have := lt_plen p; rw [h] at this; omega

/-- the sum of a polynomial and another one, so much higher -/
def psum (p q h : Nat) : Nat := p ^^^ (q <<< h)
theorem psum_bit (p q h j : Nat) : (psum p q h).testBit j = (p.testBit j ^^ (decide (h ≤ j) && q.testBit (j - h))) := by
  unfold psum; rw [Nat.testBit_xor, Nat.testBit_shiftLeft]
theorem psum_plen (p q h : Nat) : plen (psum p q h) ≤ max (plen p) (plen q + h) := by
  apply plen_le
  apply Nat.lt_pow_two_of_testBit
  intro j hj
  rw [psum_bit, bit_plen (by omega), bit_plen (p := q) (by omega)]; simp

/-- the first k coefficients of the second polynomial added -/
def sumTo (p q h k : Nat) (j : Nat) : Bool := p.testBit j ^^ (decide (h ≤ j) && decide (j < h + k) && q.testBit (j - h))

/-- f(k) of x, or of x + 1 -/
def pathTo (more : Bool) : Nat → Nat × Nat
  | 0 => (0, 1)
  | k + 1 => ((pathTo more k).2, if more then psum (psum (pathTo more k).1 (pathTo more k).2 1) (pathTo more k).2 0 else psum (pathTo more k).1 (pathTo more k).2 1)
def pathOf (more : Bool) (k : Nat) : Nat := if k = 0 then 0 else (pathTo more (k - 1)).2

/-- the rest of a division; the greatest common divisor -/
def remTo (b : Nat) : Nat → Nat → Nat
  | 0, a => a
  | f + 1, a => if plen b ≤ plen a then remTo b f (psum a b (plen a - plen b)) else a
def rem (a b : Nat) : Nat := remTo b (plen a) a
def gcdTo : Nat → Nat → Nat → Nat
  | 0, a, _ => a
  | f + 1, a, b => if b = 0 then a else gcdTo f b (rem a b)
def gcdP (a b : Nat) : Nat := gcdTo (plen b) a b

theorem psum_less {a b : Nat} (hb : b ≠ 0) (h : plen b ≤ plen a) : plen (psum a b (plen a - plen b)) < plen a := by
  have hbp : 0 < plen b := by unfold plen; rw [if_neg hb]; omega
  have ha : a ≠ 0 := plen_pos (by omega)
  have h1 : psum a b (plen a - plen b) < 2 ^ (plen a - 1) := by
    apply Nat.lt_pow_two_of_testBit
    intro j hj
    rw [psum_bit]
    by_cases e : j = plen a - 1
    · subst e
      rw [plen_top ha, show plen a - 1 - (plen a - plen b) = plen b - 1 by omega, plen_top hb]
      have : plen a - plen b ≤ plen a - 1 := by omega
      simp [this]
    · rw [bit_plen (by omega), bit_plen (p := b) (by omega)]; simp
  have := plen_le h1
  omega

theorem remTo_step {a b f : Nat} (hb : b ≠ 0) (hf : plen a ≤ f) (h : plen b ≤ plen a) : remTo b f a = remTo b (plen (psum a b (plen a - plen b))) (psum a b (plen a - plen b)) := by
  -- any fuel that is at least the length will do
  suffices hs : ∀ (n f g a : Nat), plen a ≤ n → plen a ≤ f → plen a ≤ g → remTo b f a = remTo b g a by
    have hlt := psum_less hb h
    cases f with
    | zero => omega
    | succ f =>
      rw [remTo, if_pos h]
      exact hs _ _ _ _ (Nat.le_refl _) (by omega) (Nat.le_refl _)
  intro n
  induction n with
  | zero =>
    intro f g a hn hf hg
    have h0 : plen a = 0 := by omega
    have : ¬ plen b ≤ plen a := by
      have : 0 < plen b := by unfold plen; rw [if_neg hb]; omega
      omega
    cases f <;> cases g <;> simp [remTo, this]
  | succ n ih =>
    intro f g a hn hf hg
    have hbp : 0 < plen b := by unfold plen; rw [if_neg hb]; omega
    by_cases hle : plen b ≤ plen a
    · have hlt := psum_less hb hle
      cases f with
      | zero => omega
      | succ f =>
        cases g with
        | zero => omega
        | succ g =>
          rw [remTo, remTo, if_pos hle, if_pos hle]
          exact ih _ _ _ (by omega) (by omega) (by omega)
    · cases f <;> cases g <;> simp [remTo, hle]

theorem rem_step {a b : Nat} (hb : b ≠ 0) (h : plen b ≤ plen a) : rem a b = rem (psum a b (plen a - plen b)) b := remTo_step hb (Nat.le_refl _) h
theorem rem_end {a b : Nat} (h : plen a < plen b) : rem a b = a := by
  unfold rem
  have : ¬ plen b ≤ plen a := by omega
  cases plen a <;> simp [remTo] <;> omega

theorem rem_less {b : Nat} (hb : b ≠ 0) : ∀ (n a : Nat), plen a ≤ n → plen (rem a b) < plen b
  | 0, a, hn => by
    have hbp : 0 < plen b := by unfold plen; rw [if_neg hb]; omega
    rw [rem_end (by omega)]; omega
  | n + 1, a, hn => by
    by_cases h : plen b ≤ plen a
    · rw [rem_step hb h]
      exact rem_less hb n _ (by have := psum_less hb h; omega)
    · rw [rem_end (by omega)]; omega

theorem gcdTo_fuel : ∀ (n f g a b : Nat), plen b ≤ n → plen b ≤ f → plen b ≤ g → gcdTo f a b = gcdTo g a b
  | n, f, g, a, b, hn, hf, hg => by
    by_cases hb : b = 0
    · subst hb
      cases f <;> cases g <;> simp [gcdTo]
    · have hbp : 0 < plen b := by unfold plen; rw [if_neg hb]; omega
      have hl := rem_less hb _ a (Nat.le_refl _)
      cases n with
      | zero => omega
      | succ n =>
        cases f with
        | zero => omega
        | succ f =>
          cases g with
          | zero => omega
          | succ g =>
            rw [gcdTo, gcdTo, if_neg hb, if_neg hb]
            exact gcdTo_fuel n f g b (rem a b) (by omega) (by omega) (by omega)

theorem gcdP_zero (a : Nat) : gcdP a 0 = a := rfl
theorem gcdP_step {a b : Nat} (hb : b ≠ 0) : gcdP a b = gcdP b (rem a b) := by
  have hl := rem_less hb _ a (Nat.le_refl _)
  unfold gcdP
  have hbp : 0 < plen b := by unfold plen; rw [if_neg hb]; omega
  obtain ⟨n, hn⟩ : ∃ n, plen b = n + 1 := ⟨plen b - 1, by omega⟩
  rw [hn, gcdTo, if_neg hb]
  exact gcdTo_fuel n _ _ _ _ (by omega) (by omega) (Nat.le_refl _)

end Lt

namespace Lt
theorem pathTo_plen (more : Bool) : ∀ k, plen (pathTo more k).1 ≤ k ∧ plen (pathTo more k).2 ≤ k + 1
  | 0 => by
    have h1 : plen (pathTo more 0).1 = 0 := rfl
    have h2 : plen (pathTo more 0).2 = 1 := by show plen 1 = 1; decide
    omega
  | k + 1 => by
    obtain ⟨h1, h2⟩ := pathTo_plen more k
    have h3 := psum_plen (pathTo more k).1 (pathTo more k).2 1
    have h4 := psum_plen (psum (pathTo more k).1 (pathTo more k).2 1) (pathTo more k).2 0
    refine ⟨by simpa [pathTo] using h2, ?_⟩
    simp only [pathTo]
    split <;> omega
theorem pathOf_plen (more : Bool) (k : Nat) : plen (pathOf more k) ≤ k := by
  unfold pathOf
  split
  · simp [plen]
  · have := (pathTo_plen more (k - 1)).2; omega
theorem rem_plen {a b : Nat} (hb : b ≠ 0) : plen (rem a b) < plen b := rem_less hb _ a (Nat.le_refl _)
end Lt

namespace Lt
theorem gcdP_plen' : ∀ (n a b : Nat), plen b ≤ n → plen (gcdP a b) ≤ max (plen a) (plen b)
  | n, a, b, hn => by
    by_cases hb : b = 0
    · subst hb; rw [gcdP_zero]; omega
    · have hl := rem_plen (a := a) hb
      rw [gcdP_step hb]
      cases n with
      | zero => omega
      | succ n =>
        have := gcdP_plen' n b (rem a b) (by omega)
        omega
theorem gcdP_plen (a b : Nat) : plen (gcdP a b) ≤ max (plen a) (plen b) := gcdP_plen' _ a b (Nat.le_refl _)
end Lt
