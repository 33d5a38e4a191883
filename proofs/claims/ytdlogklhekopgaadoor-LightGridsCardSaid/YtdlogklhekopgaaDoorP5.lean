/- Plain facts on the lamps (no program): part P5 of the proof. -/
import Derived.Test.YtdlogklhekopgaaDoorP4
set_option linter.unusedVariables false
set_option linter.unusedSimpArgs false
namespace Lt

/-- what solve comes to: a set, and what is left of the target -/
def solveOf (l : List Nat) (t : Nat) : Press := red1 (basisOf l) (0, t)

theorem effB_map (l : List Nat) (c : Nat) : eff l (eff ((basisOf l).map (·.1)) c) = eff ((basisOf l).map (·.2)) c := by
  rw [eff_map (eff l) (eff_zero l) (eff_xor l), List.map_map]
  congr 1
  exact List.map_congr_left fun b hb => (inv_of l).effB b hb

theorem solve_lt (l : List Nat) (t : Nat) : (solveOf l t).1 < 2 ^ l.length := by
  obtain ⟨c, h1, -⟩ := red1_comb (basisOf l) (0, t)
  unfold solveOf; rw [h1]
  simp only [Nat.zero_xor]
  exact eff_lt (fun x hx => by obtain ⟨b, hb, rfl⟩ := List.mem_map.1 hx; exact (inv_of l).ltB b hb) c

theorem solve_sound (l : List Nat) (t : Nat) (h : (solveOf l t).2 = 0) : eff l (solveOf l t).1 = t := by
  obtain ⟨c, h1, h2⟩ := red1_comb (basisOf l) (0, t)
  unfold solveOf at *
  rw [h2] at h
  rw [h1]; simp only [Nat.zero_xor]
  rw [effB_map]
  have := congrArg (fun z => z ^^^ eff ((basisOf l).map (·.2)) c) h
  simp only [Nat.xor_assoc, Nat.xor_self, Nat.xor_zero, Nat.zero_xor] at this
  exact this.symm

/-- each set is a sum of the basis' sets and of quiet sets -/
theorem set_parts (l : List Nat) {s : Nat} (hs : s < 2 ^ l.length) : ∃ a b, Sp ((basisOf l).map (·.1)) a ∧ Sp (quietOf l) b ∧ s = a ^^^ b := by
  obtain ⟨c, rfl⟩ := (inv_of l).span s hs
  generalize (basisOf l).map (·.1) = B
  generalize quietOf l = Q
  clear hs
  induction B generalizing c with
  | nil => exact ⟨0, eff Q c, Sp.zero _, ⟨c, rfl⟩, by simp⟩
  | cons x B ih =>
    obtain ⟨a, b, ha, hb, h⟩ := ih (c / 2)
    refine ⟨(if c.testBit 0 then x else 0) ^^^ a, b, Sp.xor ?_ (ha.sub (by simp +contextual)), hb, ?_⟩
    · split
      · exact Sp.mem (by simp)
      · exact Sp.zero _
    · simp only [List.cons_append, eff, h, Nat.xor_assoc]

theorem quiet_eff (l : List Nat) {b : Nat} (h : Sp (quietOf l) b) : eff l b = 0 := by
  obtain ⟨c, rfl⟩ := h
  rw [eff_map (eff l) (eff_zero l) (eff_xor l), List.map_congr_left (g := fun _ => 0) (fun q hq => (inv_of l).effQ q hq)]
  generalize quietOf l = Q
  induction Q generalizing c with
  | nil => rfl
  | cons x Q ih => simp [eff, ih]

/-- an effect is a sum of the basis' effects -/
theorem eff_span (l : List Nat) (s : Nat) : Sp ((basisOf l).map (·.2)) (eff l s) := by
  rw [← eff_mod]
  obtain ⟨a, b, ha, hb, h⟩ := set_parts l (Nat.mod_lt s (Nat.two_pow_pos l.length))
  rw [h, eff_xor, quiet_eff l hb, Nat.xor_zero]
  obtain ⟨c, rfl⟩ := ha
  exact ⟨c, effB_map l c⟩

theorem solve_iff (l : List Nat) (t : Nat) : (solveOf l t).2 = 0 ↔ ∃ s, eff l s = t := by
  constructor
  · intro h; exact ⟨_, solve_sound l t h⟩
  · rintro ⟨s, rfl⟩
    obtain ⟨c, -, h2⟩ := red1_comb (basisOf l) (0, eff l s)
    refine (inv_of l).ech.none (x := (solveOf l (eff l s)).2) ?_ ?_
    · unfold solveOf; rw [h2]; exact Sp.xor (eff_span l s) ⟨c, rfl⟩
    · intro b hb
      obtain ⟨p, hp, rfl⟩ := List.mem_map.1 hb
      exact red1_none (inv_of l).ech _ p hp

/-- the quiet sets are the sums of those found -/
theorem quiet_span (l : List Nat) {s : Nat} (hs : s < 2 ^ l.length) (h0 : eff l s = 0) : Sp (quietOf l) s := by
  obtain ⟨a, b, ⟨c, rfl⟩, hb, h⟩ := set_parts l hs
  have hz : eff ((basisOf l).map (·.2)) c = 0 := by
    rw [h, eff_xor, quiet_eff l hb, Nat.xor_zero, effB_map] at h0; exact h0
  have hfree := (inv_of l).ech.free hz
  have : eff ((basisOf l).map (·.1)) c = 0 := by
    rw [eff_congr _ c 0 (fun i hi => by rw [hfree i (by simpa using hi)]; simp), eff_zero]
  rw [this, Nat.zero_xor] at h
  rw [h]; exact hb

/-! ### either or -/
theorem dual {E : List Nat} {k : Nat} (hE : Ech E) (hlt : ∀ x ∈ E, x < 2 ^ k) {r : Nat} (hr : r ≠ 0) (hrk : r < 2 ^ k) (hn : ∀ b ∈ E, r.testBit b.log2 = false) :
    ∃ q, q < 2 ^ k ∧ dot k q r = true ∧ ∀ b ∈ E, dot k q b = false := by
  induction E with
  | nil => exact ⟨2 ^ r.log2, Nat.pow_lt_pow_right (by decide) (log2_lt hr hrk), by rw [dot_bit k _ r (log2_lt hr hrk), testBit_log2 hr], by simp⟩
  | cons b E ih =>
    obtain ⟨q, h1, h2, h3⟩ := ih hE.tail (fun x hx => hlt x (by simp [hx])) (fun x hx => hn x (by simp [hx]))
    have hb := hE.1 b (by simp)
    have hbk : b.log2 < k := log2_lt hb (hlt b (by simp))
    cases hd : dot k q b with
    | false =>
      refine ⟨q, h1, h2, fun x hx => ?_⟩
      rcases List.mem_cons.1 hx with rfl | hx
      · exact hd
      · exact h3 x hx
    | true =>
      refine ⟨q ^^^ 2 ^ b.log2, Nat.xor_lt_two_pow h1 (Nat.pow_lt_pow_right (by decide) hbk), ?_, fun x hx => ?_⟩
      · rw [dot_xor_left, dot_bit k _ r hbk, h2, hn b (by simp)]; rfl
      · rw [dot_xor_left, dot_bit k _ x hbk]
        rcases List.mem_cons.1 hx with rfl | hx
        · rw [hd, testBit_log2 hb]; rfl
        · rw [h3 x hx, testBit_of_lt (hE.low x hx)]; rfl

/-- all rows below 2 to the length -/
def Small (l : List Nat) : Prop := ∀ r ∈ l, r < 2 ^ l.length

theorem basis_small {l : List Nat} (hl : Small l) : ∀ x ∈ (basisOf l).map (·.2), x < 2 ^ l.length := by
  intro x hx
  obtain ⟨b, hb, rfl⟩ := List.mem_map.1 hx
  rw [← (inv_of l).effB b hb]; exact eff_lt hl _

theorem dot_span {k q : Nat} {E : List Nat} (h : ∀ b ∈ E, dot k q b = false) {x : Nat} (hx : Sp E x) : dot k q x = false := by
  obtain ⟨c, rfl⟩ := hx
  induction E generalizing c with
  | nil => exact dot_zero k q
  | cons b E ih =>
    simp only [eff, dot_xor]
    rw [ih (fun x hx => h x (by simp [hx]))]
    split
    · rw [h b (by simp)]; rfl
    · rw [dot_zero]; rfl

/-- no set has the target as its effect: then a quiet set among those found has an odd number of lamps in common with it -/
theorem refute_of {l : List Nat} (hl : Small l) (hs : Sym l) {t : Nat} (ht : t < 2 ^ l.length) (h : ¬ ∃ s, eff l s = t) : ∃ q ∈ quietOf l, dot l.length q t = true := by
  obtain ⟨c, -, h2⟩ := red1_comb (basisOf l) (0, t)
  have hr0 : (solveOf l t).2 ≠ 0 := fun e => h ((solve_iff l t).1 e)
  have hcs : Sp ((basisOf l).map (·.2)) (eff ((basisOf l).map (·.2)) c) := ⟨c, rfl⟩
  have hr : (solveOf l t).2 = t ^^^ eff ((basisOf l).map (·.2)) c := h2
  obtain ⟨q, hq, hqr, hqb⟩ := dual (inv_of l).ech (basis_small hl) hr0 (by rw [hr]; exact Nat.xor_lt_two_pow ht (hcs.lt (basis_small hl))) (fun b hb => by
    obtain ⟨p, hp, rfl⟩ := List.mem_map.1 hb
    exact red1_none (inv_of l).ech _ p hp)
  rw [hr, dot_xor, dot_span hqb hcs, Bool.xor_false] at hqr
  -- q is quiet
  have hquiet : eff l q = 0 := by
    apply Nat.eq_of_testBit_eq; intro j
    rw [Nat.zero_testBit]
    by_cases hj : j < l.length
    · have := dot_eff_sym hs q (2 ^ j)
      rw [dot_span hqb (eff_span l _), dot_bit _ _ _ hj] at this
      exact this.symm
    · exact testBit_of_lt (Nat.lt_of_lt_of_le (eff_lt hl q) (pow_le (by omega)))
  obtain ⟨c', hc'⟩ := quiet_span l hq hquiet
  -- one of its parts has an odd number in common
  apply Classical.byContradiction
  intro hno
  have : dot l.length t q = false := dot_span (E := quietOf l) (fun b hb => by
    cases hd : dot l.length t b with
    | false => rfl
    | true => exact absurd ⟨b, hb, by rw [dot_comm]; exact hd⟩ hno) ⟨c', hc'⟩
  rw [dot_comm, hqr] at this
  exact absurd this (by decide)

theorem not_refuted {l : List Nat} (hs : Sym l) {t s q : Nat} (he : eff l s = t) (hq : eff l q = 0) : dot l.length q t = false := by
  rw [← he, dot_eff_sym hs, hq, dot_zero]

theorem xsum_ones (n q : Nat) : xsum n (fun i => q.testBit i) = dot n q (2 ^ n - 1) := by
  unfold dot; exact xsum_congr fun i hi => by simp [Nat.testBit_two_pow_sub_one, hi]

/-- Sutner: with own all lamps go on -/
theorem sutner {l : List Nat} (hl : Small l) (hs : Sym l) (ho : ∀ i, i < l.length → (l[i]?.getD 0).testBit i = true) : ∃ s, eff l s = 2 ^ l.length - 1 := by
  apply Classical.byContradiction
  intro h
  obtain ⟨q, hq, hd⟩ := refute_of hl hs (t := 2 ^ l.length - 1) (by have := Nat.two_pow_pos l.length; omega) h
  rw [← xsum_ones, ← dot_self hs ho, (inv_of l).effQ q hq, dot_zero] at hd
  exact absurd hd (by decide)

end Lt
