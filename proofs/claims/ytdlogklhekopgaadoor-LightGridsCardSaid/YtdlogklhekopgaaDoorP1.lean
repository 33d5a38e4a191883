/- Plain facts on the lamps (no program): part P1 of the proof. -/
set_option linter.unusedVariables false
set_option linter.unusedSimpArgs false
namespace Lt

def eff : List Nat → Nat → Nat
  | [], _ => 0
  | r :: rs, s => (if s.testBit 0 then r else 0) ^^^ eff rs (s / 2)

theorem testBit_div2 (s i : Nat) : (s / 2).testBit i = s.testBit (i + 1) := by
  rw [Nat.testBit_succ]

theorem xor_div2 (a b : Nat) : (a ^^^ b) / 2 = a / 2 ^^^ b / 2 := by
  apply Nat.eq_of_testBit_eq; intro i; simp [Nat.testBit_xor, testBit_div2]

theorem eff_zero (l : List Nat) : eff l 0 = 0 := by
  induction l with
  | nil => rfl
  | cons r rs ih => simp [eff, ih]

theorem xor4 (a b c d : Nat) : (a ^^^ b) ^^^ (c ^^^ d) = (a ^^^ c) ^^^ (b ^^^ d) := by
  simp only [Nat.xor_assoc]; congr 1; rw [← Nat.xor_assoc, Nat.xor_comm b c, Nat.xor_assoc]

theorem eff_xor (l : List Nat) (a b : Nat) : eff l (a ^^^ b) = eff l a ^^^ eff l b := by
  induction l generalizing a b with
  | nil => simp [eff]
  | cons r rs ih =>
    simp only [eff, xor_div2, ih, Nat.testBit_xor]
    rw [xor4]
    congr 1
    cases a.testBit 0 <;> cases b.testBit 0 <;> simp

theorem eff_snoc (l : List Nat) (r s : Nat) : eff (l ++ [r]) s = eff l s ^^^ (if s.testBit l.length then r else 0) := by
  induction l generalizing s with
  | nil => simp [eff]
  | cons a l ih =>
    simp only [List.cons_append, eff, ih, testBit_div2, List.length_cons, Nat.xor_assoc]

theorem eff_lt {l : List Nat} {m : Nat} (h : ∀ r ∈ l, r < 2 ^ m) (s : Nat) : eff l s < 2 ^ m := by
  induction l generalizing s with
  | nil => simp [eff]; exact Nat.two_pow_pos m
  | cons a l ih =>
    simp only [eff]
    apply Nat.xor_lt_two_pow
    · split
      · exact h a (by simp)
      · exact Nat.two_pow_pos m
    · exact ih (fun r hr => h r (by simp [hr])) _

theorem eff_congr (l : List Nat) (a b : Nat) (h : ∀ i, i < l.length → a.testBit i = b.testBit i) : eff l a = eff l b := by
  induction l generalizing a b with
  | nil => rfl
  | cons r rs ih =>
    simp only [eff]
    rw [h 0 (by simp), ih (a / 2) (b / 2) (fun i hi => by rw [testBit_div2, testBit_div2]; exact h (i + 1) (by simpa using hi))]

theorem eff_bit (l : List Nat) (i : Nat) (hi : i < l.length) : eff l (2 ^ i) = l[i] := by
  induction l generalizing i with
  | nil => simp at hi
  | cons r rs ih =>
    cases i with
    | zero => simp [eff, eff_zero]
    | succ i =>
      have : 2 ^ (i + 1) / 2 = 2 ^ i := by rw [Nat.pow_succ]; omega
      simp only [eff, this]
      rw [ih i (by simpa using hi)]
      simp

/-- bit b of the effect: how many chosen rows have it, odd -/
theorem eff_testBit_cons (r : Nat) (rs : List Nat) (s j : Nat) : (eff (r :: rs) s).testBit j = ((s.testBit 0 && r.testBit j) ^^ (eff rs (s / 2)).testBit j) := by
  simp only [eff, Nat.testBit_xor]
  cases s.testBit 0 <;> simp

end Lt
