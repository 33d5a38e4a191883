/- Plain facts on the lamps (no program): a part of the proof. -/
import Derived.Test.YtdlogklhekopgaaDoorPD
import Derived.Lib.Slices
set_option linter.unusedVariables false
set_option linter.unusedSimpArgs false

namespace Lt
open Go

theorem popN_pos : ∀ (k x : Nat), x ≠ 0 → x < 2 ^ k → 0 < popN k x
  | 0, x, h0, h => by simp at h; omega
  | k + 1, x, h0, h => by
    rw [popN]
    by_cases hx : x % 2 = 0
    · have := popN_pos k (x / 2) (by omega) (by rw [Nat.pow_succ] at h; omega)
      omega
    · omega
theorem pop_pos {x : Nat} (h0 : x ≠ 0) (h : x < 2 ^ 64) : 0 < pop x := popN_pos 64 x h0 h
theorem pop_zero : pop 0 = 0 := by decide

/-- what Hardest holds after k sets -/
def hardTo (l : List Nat) (x : Nat) : Nat → Nat
  | 0 => 0
  | k + 1 => if k ≠ 0 ∧ eff l k = x ∧ (hardTo l x k = 0 ∨ pop k < hardTo l x k) then pop k else hardTo l x k
/-- the number of lamps that a target needs, 0 where it can not be reached -/
def need (l : List Nat) (M x : Nat) : Nat := if refTo l x M < 0 then 0 else pop (refTo l x M).toNat

theorem hardTo_need {l : List Nat} {x : Nat} (hx : x ≠ 0) : ∀ k, k ≤ 2 ^ 64 → hardTo l x k = need l k x
  | 0, _ => by simp [hardTo, need, refTo]
  | k + 1, hk => by
    have ih := hardTo_need (l := l) hx k (by omega)
    have hR : refTo l x (k + 1) = if eff l k = x ∧ (refTo l x k < 0 ∨ pop k < pop (refTo l x k).toNat) then (k : Int) else refTo l x k := rfl
    have hH : hardTo l x (k + 1) = if k ≠ 0 ∧ eff l k = x ∧ (hardTo l x k = 0 ∨ pop k < hardTo l x k) then pop k else hardTo l x k := rfl
    have hnew : refTo l x (k + 1) = (k : Int) → need l (k + 1) x = pop k := fun h => by
      unfold need; rw [h, if_neg (by omega), Int.toNat_natCast]
    have hold : refTo l x (k + 1) = refTo l x k → need l (k + 1) x = need l k x := fun h => by unfold need; rw [h]
    by_cases he : eff l k = x
    · have hk0 : k ≠ 0 := by rintro rfl; rw [eff_zero] at he; exact hx he.symm
      rcases refTo_spec l x k with ⟨h1, _⟩ | ⟨s, hs, h1, h2, _⟩
      · have hh : hardTo l x k = 0 := by rw [ih]; unfold need; rw [h1, if_pos (by decide)]
        rw [if_pos ⟨hk0, he, .inl hh⟩] at hH
        rw [if_pos ⟨he, .inl (by rw [h1]; decide)⟩] at hR
        rw [hH, hnew hR]
      · have hs0 : s ≠ 0 := by rintro rfl; rw [eff_zero] at h2; exact hx h2.symm
        have hp := pop_pos hs0 (by omega)
        have hh : hardTo l x k = pop s := by rw [ih]; unfold need; rw [h1, if_neg (by omega), Int.toNat_natCast]
        by_cases hlt : pop k < pop s
        · rw [if_pos ⟨hk0, he, .inr (by rw [hh]; exact hlt)⟩] at hH
          rw [if_pos ⟨he, .inr (by rw [h1, Int.toNat_natCast]; exact hlt)⟩] at hR
          rw [hH, hnew hR]
        · have n1 : ¬ (k ≠ 0 ∧ eff l k = x ∧ (hardTo l x k = 0 ∨ pop k < hardTo l x k)) := by
            rintro ⟨_, _, h⟩
            rw [hh] at h
            omega
          have n2 : ¬ (eff l k = x ∧ (refTo l x k < 0 ∨ pop k < pop (refTo l x k).toNat)) := by
            rintro ⟨_, h⟩
            rw [h1, Int.toNat_natCast] at h
            omega
          rw [if_neg n1] at hH
          rw [if_neg n2] at hR
          rw [hH, hold hR, ih]
    · have n1 : ¬ (k ≠ 0 ∧ eff l k = x ∧ (hardTo l x k = 0 ∨ pop k < hardTo l x k)) := fun h => he h.2.1
      have n2 : ¬ (eff l k = x ∧ (refTo l x k < 0 ∨ pop k < pop (refTo l x k).toNat)) := fun h => he h.1
      rw [if_neg n1] at hH
      rw [if_neg n2] at hR
      rw [hH, hold hR, ih]

theorem refTo_zero (l : List Nat) : ∀ k, refTo l 0 (k + 1) = 0
  | 0 => by rw [refTo, if_pos ⟨eff_zero l, .inl (by show (-1 : Int) < 0; decide)⟩]; rfl
  | k + 1 => by
    rw [refTo, refTo_zero l k, if_neg]
    rintro ⟨_, h⟩
    rcases h with h | h
    · omega
    · rw [show Int.toNat 0 = 0 from rfl, pop_zero] at h; omega
theorem need_zero (l : List Nat) {M : Nat} (hM : 0 < M) : need l M 0 = 0 := by
  obtain ⟨k, rfl⟩ : ∃ k, M = k + 1 := ⟨M - 1, by omega⟩
  unfold need; rw [refTo_zero, if_neg (by decide)]; exact pop_zero
theorem need_far {l : List Nat} {M x : Nat} (h : ∀ s, eff l s ≠ x) : need l M x = 0 := by
  unfold need
  rcases refTo_spec l x M with ⟨h1, _⟩ | ⟨s, _, _, h2, _⟩
  · rw [h1, if_pos (by decide)]
  · exact absurd h2 (h s)

/-- the reference's hardest target, over the first t -/
def hardB (l : List Nat) (M : Nat) : Nat → Nat
  | 0 => 0
  | t + 1 => if 0 ≤ refTo l t M ∧ pop (refTo l (hardB l M t) M).toNat < pop (refTo l t M).toNat then t else hardB l M t

theorem hardB_spec (l : List Nat) {M : Nat} (hM : 0 < M) : ∀ t, 0 ≤ refTo l (hardB l M t) M ∧ (hardB l M t < t ∨ hardB l M t = 0) ∧ (∀ j, j < t → need l M j ≤ need l M (hardB l M t)) ∧ (∀ j, j < hardB l M t → need l M j < need l M (hardB l M t))
  | 0 => by
    obtain ⟨k, rfl⟩ : ∃ k, M = k + 1 := ⟨M - 1, by omega⟩
    refine ⟨?_, .inr rfl, fun j hj => by omega, fun j hj => by simp [hardB] at hj⟩
    show 0 ≤ refTo l 0 (k + 1)
    rw [refTo_zero]; exact Int.le_refl _
  | t + 1 => by
    obtain ⟨h1, h2, h3, h4⟩ := hardB_spec l hM t
    have hn : need l M (hardB l M t) = pop (refTo l (hardB l M t) M).toNat := by unfold need; rw [if_neg (by omega)]
    rw [hardB]
    by_cases hc : 0 ≤ refTo l t M ∧ pop (refTo l (hardB l M t) M).toNat < pop (refTo l t M).toNat
    · rw [if_pos hc]
      have hnt : need l M t = pop (refTo l t M).toNat := by unfold need; rw [if_neg (by omega)]
      refine ⟨hc.1, .inl (by omega), fun j hj => ?_, fun j hj => ?_⟩
      · by_cases e : j = t
        · subst e; exact Nat.le_refl _
        · have := h3 j (by omega); omega
      · have := h3 j hj; omega
    · rw [if_neg hc]
      refine ⟨h1, by omega, fun j hj => ?_, h4⟩
      by_cases e : j = t
      · subst e
        unfold need
        by_cases hr : refTo l j M < 0
        · rw [if_pos hr]; omega
        · rw [if_neg hr, if_neg (by omega)]
          have : ¬ pop (refTo l (hardB l M j) M).toNat < pop (refTo l j M).toNat := fun h => hc ⟨by omega, h⟩
          omega
      · exact h3 j (by omega)

theorem max_le {zs : List Int} {v : Int} : ∀ k, 0 < k → k ≤ zs.length → (∀ j, j < k → zs.getD j 0 ≤ v) → Lib.maxOf (zs.take k) ≤ v
  | 0, h, _, _ => by omega
  | 1, _, _, h => by rw [Lib.maxOf_one]; exact h 0 (by omega)
  | k + 2, _, hl, h => by
    rw [Lib.maxOf_step zs (k + 1) (by omega) (by omega)]
    have h1 := max_le (k + 1) (by omega) (by omega) (fun j hj => h j (by omega))
    have h2 := h (k + 1) (by omega)
    omega
theorem le_max {zs : List Int} : ∀ k j, j < k → k ≤ zs.length → zs.getD j 0 ≤ Lib.maxOf (zs.take k)
  | 0, _, h, _ => by omega
  | 1, j, h, _ => by
    obtain rfl : j = 0 := by omega
    rw [Lib.maxOf_one]; exact Int.le_refl _
  | k + 2, j, h, hl => by
    rw [Lib.maxOf_step zs (k + 1) (by omega) (by omega)]
    by_cases e : j = k + 1
    · subst e; omega
    · have := le_max (zs := zs) (k + 1) j (by omega) (by omega)
      omega

/-- the greatest element and where it is met first -/
theorem hardest_max {f : Nat → Nat} {b K : Nat} (hb : b < K) (hle : ∀ j, j < K → f j ≤ f b) (hlt : ∀ j, j < b → f j < f b) :
    Lib.maxOf (((List.range K).map fun j => ((f j : Nat) : Int)).take K) = (f b : Int) ∧ Lib.idxOf (((List.range K).map fun j => ((f j : Nat) : Int)).take K) (f b : Int) = (b : Int) := by
  have hl : ((List.range K).map fun j => ((f j : Nat) : Int)).length = K := by simp
  have hg : ∀ j, j < K → ((List.range K).map fun j => ((f j : Nat) : Int)).getD j 0 = (f j : Int) := fun j hj => by simp [List.getD, hj]
  generalize ((List.range K).map fun j => ((f j : Nat) : Int)) = zs at *
  constructor
  · have h1 := max_le (zs := zs) (v := (f b : Int)) K (by omega) (by omega) (fun j hj => by rw [hg j hj]; have := hle j hj; omega)
    have h2 := le_max (zs := zs) K b hb (by omega)
    rw [hg b hb] at h2
    omega
  · exact Lib.idxOf_hit zs K b _ hb (by omega) (hg b hb) (fun j hj => by rw [hg j (by omega)]; have := hlt j hj; omega)
end Lt
