/- Plain facts on the lamps (no program): part P6 of the proof. -/
import Derived.Test.YtdlogklhekopgaaDoorP5
set_option linter.unusedVariables false
set_option linter.unusedSimpArgs false
namespace Lt

/-! ### fewer lamps -/
def pop (x : Nat) : Nat := popN 64 x
/-- a set has fewer lamps than another one, or as many and is less -/
def less (a b : Nat) : Bool := decide (pop a < pop b) || (decide (pop a = pop b) && decide (a < b))

theorem less_irrefl (a : Nat) : less a a = false := by simp [less]
theorem less_trans {a b c : Nat} (h : less a b = true) (k : less b c = true) : less a c = true := by
  simp only [less, Bool.or_eq_true, Bool.and_eq_true, decide_eq_true_eq] at *; omega
theorem less_total {a b : Nat} (h : less a b = false) (k : less b a = false) : a = b := by
  simp only [less, Bool.or_eq_false_iff, Bool.and_eq_false_iff, decide_eq_false_iff_not] at *; omega
theorem not_less_trans {a b c : Nat} (h : less b a = false) (k : less c b = false) : less c a = false := by
  simp only [less, Bool.or_eq_false_iff, Bool.and_eq_false_iff, decide_eq_false_iff_not] at *; omega

/-- the best of the sums from a start on: after k sums -/
def bestTo (Q : List Nat) (s : Nat) : Nat → Nat
  | 0 => s
  | k + 1 => if less (s ^^^ eff Q k) (bestTo Q s k) then s ^^^ eff Q k else bestTo Q s k

theorem bestTo_form (Q : List Nat) (s : Nat) : ∀ k, ∃ c, bestTo Q s k = s ^^^ eff Q c
  | 0 => ⟨0, by simp [bestTo, eff_zero]⟩
  | k + 1 => by
    simp only [bestTo]; split
    · exact ⟨k, rfl⟩
    · exact bestTo_form Q s k

theorem bestTo_least (Q : List Nat) (s : Nat) : ∀ k c, c < k → less (s ^^^ eff Q c) (bestTo Q s k) = false
  | 0, _, h => by omega
  | k + 1, c, h => by
    simp only [bestTo]
    split
    · rename_i hl
      by_cases e : c = k
      · subst e; exact less_irrefl _
      · have := bestTo_least Q s k c (by omega)
        cases hc : less (s ^^^ eff Q c) (s ^^^ eff Q k) with
        | false => rfl
        | true => rw [less_trans hc hl] at this; exact absurd this (by decide)
    · rename_i hl
      by_cases e : c = k
      · subst e; simpa using hl
      · exact bestTo_least Q s k c (by omega)

/-- the best set with an effect -/
def fewOf (l : List Nat) (t : Nat) : Nat := bestTo (quietOf l) (solveOf l t).1 (2 ^ (quietOf l).length)

structure IsBest (l : List Nat) (t s : Nat) : Prop where
  lt : s < 2 ^ l.length
  eff : eff l s = t
  least : ∀ s', s' < 2 ^ l.length → Lt.eff l s' = t → less s' s = false

theorem IsBest.eq {l : List Nat} {t a b : Nat} (ha : IsBest l t a) (hb : IsBest l t b) : a = b :=
  less_total (hb.least a ha.lt ha.eff) (ha.least b hb.lt hb.eff)

theorem fewOf_best {l : List Nat} {t : Nat} (h : (solveOf l t).2 = 0) : IsBest l t (fewOf l t) := by
  have hs := solve_sound l t h
  have hlt := solve_lt l t
  obtain ⟨c, hc⟩ := bestTo_form (quietOf l) (solveOf l t).1 (2 ^ (quietOf l).length)
  refine ⟨?_, ?_, ?_⟩
  · unfold fewOf; rw [hc]; exact Nat.xor_lt_two_pow hlt (eff_lt (inv_of l).ltQ c)
  · unfold fewOf; rw [hc, eff_xor, hs, quiet_eff l ⟨c, rfl⟩, Nat.xor_zero]
  · intro s' hs' he
    have hq : Sp (quietOf l) ((solveOf l t).1 ^^^ s') := quiet_span l (Nat.xor_lt_two_pow hlt hs') (by rw [eff_xor, hs, he, Nat.xor_self])
    obtain ⟨d, hd⟩ := hq
    have h2 := bestTo_least (quietOf l) (solveOf l t).1 (2 ^ (quietOf l).length) (d % 2 ^ (quietOf l).length) (Nat.mod_lt _ (Nat.two_pow_pos _))
    rw [eff_mod, ← hd, ← Nat.xor_assoc, Nat.xor_self, Nat.zero_xor] at h2
    exact h2

/-! ### the reference: over all sets, one after the other -/
/-- the best of the sets below k with the effect t, and -1 before there is one -/
def refTo (l : List Nat) (t : Nat) : Nat → Int
  | 0 => -1
  | k + 1 => if eff l k = t ∧ (refTo l t k < 0 ∨ pop k < pop (refTo l t k).toNat) then (k : Int) else refTo l t k

theorem refTo_spec (l : List Nat) (t : Nat) : ∀ k, (refTo l t k = -1 ∧ ∀ s, s < k → eff l s ≠ t) ∨
    (∃ s, s < k ∧ refTo l t k = (s : Int) ∧ eff l s = t ∧ ∀ s', s' < k → eff l s' = t → less s' s = false)
  | 0 => .inl ⟨rfl, fun s h => by omega⟩
  | k + 1 => by
    simp only [refTo]
    rcases refTo_spec l t k with ⟨h1, h2⟩ | ⟨s, hs, h1, h2, h3⟩
    · rw [h1]
      by_cases he : eff l k = t
      · rw [if_pos ⟨he, .inl (by decide)⟩]
        refine .inr ⟨k, by omega, rfl, he, fun s' hs' he' => ?_⟩
        by_cases e : s' = k
        · subst e; exact less_irrefl _
        · exact absurd he' (h2 s' (by omega))
      · rw [if_neg (fun h => he h.1)]
        refine .inl ⟨rfl, fun s hs => ?_⟩
        by_cases e : s = k
        · subst e; exact he
        · exact h2 s (by omega)
    · rw [h1]
      by_cases hc : eff l k = t ∧ (((s : Int) < 0) ∨ pop k < pop ((s : Int)).toNat)
      · rw [if_pos hc]
        obtain ⟨he, hc⟩ := hc
        have hp : pop k < pop s := by
          rcases hc with hc | hc
          · omega
          · simpa using hc
        refine .inr ⟨k, by omega, rfl, he, fun s' hs' he' => ?_⟩
        by_cases e : s' = k
        · subst e; exact less_irrefl _
        · refine not_less_trans (b := s) ?_ (h3 s' (by omega) he')
          simp only [less, Bool.or_eq_false_iff, Bool.and_eq_false_iff, decide_eq_false_iff_not]; omega
      · rw [if_neg hc]
        refine .inr ⟨s, by omega, rfl, h2, fun s' hs' he' => ?_⟩
        by_cases e : s' = k
        · subst e
          simp only [less, Bool.or_eq_false_iff, Bool.and_eq_false_iff, decide_eq_false_iff_not]
          simp only [he', true_and, Int.toNat_natCast] at hc
          omega
        · exact h3 s' (by omega) he'

/-- the reference's answer is the program's -/
theorem refTo_best {l : List Nat} {t : Nat} : (refTo l t (2 ^ l.length) = -1 ∧ (solveOf l t).2 ≠ 0) ∨ (refTo l t (2 ^ l.length) = (fewOf l t : Int) ∧ (solveOf l t).2 = 0) := by
  rcases refTo_spec l t (2 ^ l.length) with ⟨h1, h2⟩ | ⟨s, hs, h1, h2, h3⟩
  · refine .inl ⟨h1, fun h => ?_⟩
    exact h2 _ (solve_lt l t) (solve_sound l t h)
  · have hz : (solveOf l t).2 = 0 := (solve_iff l t).2 ⟨s, h2⟩
    refine .inr ⟨?_, hz⟩
    rw [h1, (fewOf_best hz).eq ⟨hs, h2, h3⟩]

/-! ### how many -/
theorem eff_inj {l : List Nat} (h : Ech l) {a b : Nat} (ha : a < 2 ^ l.length) (hb : b < 2 ^ l.length) (he : eff l a = eff l b) : a = b := by
  have : eff l (a ^^^ b) = 0 := by rw [eff_xor, he, Nat.xor_self]
  have hf := h.free this
  apply Nat.eq_of_testBit_eq; intro i
  by_cases hi : i < l.length
  · have := hf i hi
    rw [Nat.testBit_xor] at this
    revert this; cases a.testBit i <;> cases b.testBit i <;> simp
  · rw [testBit_of_lt (Nat.lt_of_lt_of_le ha (pow_le (by omega))), testBit_of_lt (Nat.lt_of_lt_of_le hb (pow_le (by omega)))]

/-- how many of the numbers below k are told by p -/
def count (p : Nat → Bool) : Nat → Nat
  | 0 => 0
  | k + 1 => count p k + if p k then 1 else 0

theorem count_filter (p : Nat → Bool) (k : Nat) : count p k = ((List.range k).filter p).length := by
  induction k with
  | zero => rfl
  | succ k ih => rw [count, ih, List.range_succ, List.filter_append]; cases h : p k <;> simp [h]

theorem count_congr {p q : Nat → Bool} {k : Nat} (h : ∀ i, i < k → p i = q i) : count p k = count q k := by
  induction k with
  | zero => rfl
  | succ k ih => rw [count, count, ih (fun i hi => h i (by omega)), h k (by omega)]

/-- as many targets are effects as the basis has sums -/
theorem count_reach {l : List Nat} (hl : Small l) : count (fun t => decide ((solveOf l t).2 = 0)) (2 ^ l.length) = 2 ^ (basisOf l).length := by
  have hE := (inv_of l).ech
  rw [count_filter]
  have hlen : ((basisOf l).map (·.2)).length = (basisOf l).length := by simp
  have hn1 : ((List.range (2 ^ (basisOf l).length)).map (eff ((basisOf l).map (·.2)))).Nodup := by
    rw [List.nodup_iff_pairwise_ne, List.pairwise_map]
    refine List.Pairwise.imp_of_mem ?_ (List.nodup_iff_pairwise_ne.1 List.nodup_range)
    intro a b ha hb hne he
    exact hne (eff_inj hE (by rw [hlen]; simpa using ha) (by rw [hlen]; simpa using hb) he)
  have hn2 : ((List.range (2 ^ l.length)).filter (fun t => decide ((solveOf l t).2 = 0))).Nodup := List.nodup_range.filter _
  have hp : ((List.range (2 ^ (basisOf l).length)).map (eff ((basisOf l).map (·.2)))).Perm ((List.range (2 ^ l.length)).filter (fun t => decide ((solveOf l t).2 = 0))) := by
    refine (List.perm_ext_iff_of_nodup hn1 hn2).2 fun x => ?_
    simp only [List.mem_map, List.mem_range, List.mem_filter, decide_eq_true_eq]
    constructor
    · rintro ⟨c, hc, rfl⟩
      refine ⟨eff_lt (basis_small hl) c, (solve_iff l _).2 ⟨_, effB_map l c⟩⟩
    · rintro ⟨hx, hz⟩
      obtain ⟨s, rfl⟩ := (solve_iff l x).1 hz
      obtain ⟨c, hc⟩ := eff_span l s
      exact ⟨c % 2 ^ (basisOf l).length, Nat.mod_lt _ (Nat.two_pow_pos _), by rw [hc, ← hlen, eff_mod]⟩
  rw [← hp.length_eq]; simp

end Lt
