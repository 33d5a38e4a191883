/- Plain facts on the lamps (no program): part P3 of the proof. -/
import Derived.Test.YtdlogklhekopgaaDoorP2
set_option linter.unusedVariables false
set_option linter.unusedSimpArgs false
namespace Lt

/-! ### spans -/
def Sp (l : List Nat) (x : Nat) : Prop := ∃ c, x = eff l c

theorem Sp.zero (l : List Nat) : Sp l 0 := ⟨0, (eff_zero l).symm⟩
theorem Sp.xor {l : List Nat} {x y : Nat} : Sp l x → Sp l y → Sp l (x ^^^ y)
  | ⟨a, ha⟩, ⟨b, hb⟩ => ⟨a ^^^ b, by rw [eff_xor, ← ha, ← hb]⟩
theorem Sp.mem {l : List Nat} {x : Nat} (h : x ∈ l) : Sp l x := by
  obtain ⟨i, hi, rfl⟩ := List.getElem_of_mem h
  exact ⟨2 ^ i, (eff_bit l i hi).symm⟩
theorem Sp.trans {l l' : List Nat} {x : Nat} (h : Sp l x) (hl : ∀ y ∈ l, Sp l' y) : Sp l' x := by
  obtain ⟨c, rfl⟩ := h
  induction l generalizing c with
  | nil => exact Sp.zero l'
  | cons r rs ih =>
    simp only [eff]
    refine Sp.xor ?_ (ih (fun y hy => hl y (by simp [hy])) _)
    split
    · exact hl r (by simp)
    · exact Sp.zero l'
theorem Sp.sub {l l' : List Nat} {x : Nat} (h : Sp l x) (hl : ∀ y ∈ l, y ∈ l') : Sp l' x := h.trans fun _ hy => Sp.mem (hl _ hy)
theorem Sp.lt {l : List Nat} {m x : Nat} (h : Sp l x) (hl : ∀ y ∈ l, y < 2 ^ m) : x < 2 ^ m := by
  obtain ⟨c, rfl⟩ := h; exact eff_lt hl c

theorem xor_self_right (a b : Nat) : a ^^^ b ^^^ b = a := by rw [Nat.xor_assoc, Nat.xor_self, Nat.xor_zero]

/-- a choice below 2 to the length will do -/
theorem eff_mod (l : List Nat) (c : Nat) : eff l (c % 2 ^ l.length) = eff l c :=
  eff_congr l _ _ fun i hi => by simp [Nat.testBit_mod_two_pow, hi]

/-- a map that takes differences to differences takes sums to sums -/
theorem eff_map (f : Nat → Nat) (h0 : f 0 = 0) (hx : ∀ a b, f (a ^^^ b) = f a ^^^ f b) (l : List Nat) (c : Nat) : f (eff l c) = eff (l.map f) c := by
  induction l generalizing c with
  | nil => exact h0
  | cons r rs ih =>
    simp only [eff, List.map_cons, hx, ih]
    split <;> simp [h0]

/-! ### the greatest bit -/
theorem testBit_log2 {n : Nat} (h : n ≠ 0) : n.testBit n.log2 = true := by
  have h1 := Nat.log2_self_le h
  have h2 := @Nat.lt_log2_self n
  rw [Nat.testBit_eq_decide_div_mod_eq]
  have : n / 2 ^ n.log2 = 1 := by
    rw [Nat.div_eq_iff (Nat.two_pow_pos _)]
    rw [Nat.pow_succ] at h2
    omega
  simp [this]

theorem testBit_of_lt {n i : Nat} (h : n < 2 ^ i) : n.testBit i = false := Nat.testBit_lt_two_pow h

theorem log2_lt {n k : Nat} (h : n ≠ 0) (hk : n < 2 ^ k) : n.log2 < k := (Nat.log2_lt h).2 hk
theorem lt_of_log2 {n k : Nat} (hk : n.log2 < k) : n < 2 ^ k := by
  by_cases h : n = 0
  · subst h; exact Nat.two_pow_pos _
  · exact (Nat.log2_lt h).1 hk

theorem lt_of_bit {x y : Nat} (i : Nat) (hx : x.testBit i = false) (hy : y.testBit i = true) (h : ∀ j, i < j → x.testBit j = y.testBit j) : x < y := by
  have hq : x / 2 ^ (i + 1) = y / 2 ^ (i + 1) := by
    apply Nat.eq_of_testBit_eq; intro j
    rw [Nat.testBit_div_two_pow, Nat.testBit_div_two_pow]; exact h _ (by omega)
  have h1 : x % 2 ^ (i + 1) < 2 ^ i := by
    apply Nat.lt_pow_two_of_testBit
    intro j hj
    rw [Nat.testBit_mod_two_pow]
    by_cases e : j = i
    · subst e; simp [hx]
    · have : ¬ j < i + 1 := by omega
      simp [this]
  have h2 : 2 ^ i ≤ y % 2 ^ (i + 1) := Nat.ge_two_pow_of_testBit (by rw [Nat.testBit_mod_two_pow]; simp [hy])
  have h3 := Nat.div_add_mod x (2 ^ (i + 1))
  have h4 := Nat.div_add_mod y (2 ^ (i + 1))
  rw [hq] at h3
  omega

/-- x differs from y first where y has a bit: x is less -/
theorem xor_lt_iff {p b : Nat} (hb : b ≠ 0) : p ^^^ b < p ↔ p.testBit b.log2 = true := by
  have hhi : ∀ j, b.log2 < j → b.testBit j = false := fun j hj =>
    testBit_of_lt (lt_of_log2 hj)
  constructor
  · intro h
    cases hc : p.testBit b.log2 with
    | true => rfl
    | false =>
      have : p < p ^^^ b := lt_of_bit b.log2 hc (by simp [Nat.testBit_xor, hc, testBit_log2 hb]) (fun j hj => by simp [Nat.testBit_xor, hhi j hj])
      omega
  · intro h
    exact lt_of_bit b.log2 (by simp [Nat.testBit_xor, h, testBit_log2 hb]) h (fun j hj => by simp [Nat.testBit_xor, hhi j hj])

/-! ### echelons -/
/-- none is 0, each one's greatest bit is greater than the next one's -/
def Ech (l : List Nat) : Prop := (∀ x ∈ l, x ≠ 0) ∧ l.Pairwise (fun a b => b < 2 ^ a.log2)

theorem Ech.tail {a : Nat} {l : List Nat} (h : Ech (a :: l)) : Ech l := ⟨fun x hx => h.1 x (by simp [hx]), (List.pairwise_cons.1 h.2).2⟩
theorem Ech.low {a : Nat} {l : List Nat} (h : Ech (a :: l)) : ∀ x ∈ l, x < 2 ^ a.log2 := (List.pairwise_cons.1 h.2).1

/-- a sum that is 0 chooses none -/
theorem Ech.free {l : List Nat} (h : Ech l) {c : Nat} (hc : eff l c = 0) : ∀ i, i < l.length → c.testBit i = false := by
  induction l generalizing c with
  | nil => intro i hi; simp at hi
  | cons a l ih =>
    have hlow : eff l (c / 2) < 2 ^ a.log2 := eff_lt h.low _
    have h0 : c.testBit 0 = false := by
      cases hb : c.testBit 0 with
      | false => rfl
      | true =>
        simp only [eff, hb, if_true] at hc
        have := congrArg (fun z => z.testBit a.log2) hc
        simp only [Nat.testBit_xor, testBit_log2 (h.1 a (by simp)), testBit_of_lt hlow, Nat.zero_testBit] at this
        exact absurd this (by decide)
    simp only [eff, h0, Bool.false_eq_true, if_false, Nat.zero_xor] at hc
    intro i hi
    cases i with
    | zero => exact h0
    | succ i => rw [← testBit_div2]; exact ih h.tail hc i (by simpa using hi)

/-- a sum that has none of the greatest bits is 0 -/
theorem Ech.none {l : List Nat} (h : Ech l) {x : Nat} (hx : Sp l x) (hb : ∀ b ∈ l, x.testBit b.log2 = false) : x = 0 := by
  obtain ⟨c, rfl⟩ := hx
  induction l generalizing c with
  | nil => rfl
  | cons a l ih =>
    have hlow : eff l (c / 2) < 2 ^ a.log2 := eff_lt h.low _
    have ha := hb a (by simp)
    have h0 : c.testBit 0 = false := by
      cases hc : c.testBit 0 with
      | false => rfl
      | true =>
        simp only [eff, hc, if_true, Nat.testBit_xor, testBit_log2 (h.1 a (by simp)), testBit_of_lt hlow] at ha
        exact absurd ha (by decide)
    have he : eff (a :: l) c = eff l (c / 2) := by simp [eff, h0]
    rw [he] at hb ⊢
    exact ih h.tail _ (fun b hm => hb b (by simp [hm]))

theorem Ech.nodup {l : List Nat} (h : Ech l) : l.Nodup := by
  induction l with
  | nil => simp
  | cons a l ih =>
    refine List.nodup_cons.2 ⟨fun hm => ?_, ih h.tail⟩
    have := h.low a hm
    have := Nat.log2_self_le (h.1 a (by simp))
    omega

/-- the other way round: rising -/
def Rise (l : List Nat) : Prop := (∀ x ∈ l, x ≠ 0) ∧ l.Pairwise (fun a b => a < 2 ^ b.log2)

theorem eff_reverse_span (l : List Nat) (x : Nat) : Sp l.reverse x ↔ Sp l x :=
  ⟨fun h => h.sub fun y hy => by simpa using hy, fun h => h.sub fun y hy => by simpa using hy⟩

theorem Rise.ech {l : List Nat} (h : Rise l) : Ech l.reverse := ⟨fun x hx => h.1 x (by simpa using hx), by rw [List.pairwise_reverse]; exact h.2⟩

end Lt
