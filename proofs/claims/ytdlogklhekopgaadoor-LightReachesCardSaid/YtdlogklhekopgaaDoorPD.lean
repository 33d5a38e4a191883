/- Plain facts on the lamps (no program): a part of the proof. -/
import Derived.Test.YtdlogklhekopgaaDoorPC
set_option linter.unusedVariables false
set_option linter.unusedSimpArgs false

namespace Lt
theorem refQ_length (l : List Nat) : ∀ k, (refQTo l k).1.length ≤ k
  | 0 => Nat.le_refl _
  | k + 1 => by
    have ih := refQ_length l k
    rw [refQTo]; split
    · simp; omega
    · omega
theorem refQ_tops {l : List Nat} {N : Nat} : ∀ k, k ≤ 2 ^ N → (refQTo l k).2 < 2 ^ N
  | 0, _ => Nat.two_pow_pos N
  | k + 1, h => by
    have ih := refQ_tops (l := l) (N := N) k (by omega)
    rw [refQTo]; split
    · rename_i hc
      refine Nat.or_lt_two_pow ih (Nat.pow_lt_pow_right (by decide) (log2_lt (k := N) hc.1 (by omega)))
    · exact ih
end Lt

namespace Lt

/-! ### a graph of at most 16 lamps has at most 120 edges -/
def cI (e : Int × Int) : Int := 16 * e.1 + e.2
def Vld (n : Int) (e : Int × Int) : Prop := 0 ≤ e.1 ∧ e.1 < e.2 ∧ e.2 < n
theorem cmp2_lt {n : Int} (hn : n ≤ 16) {last e : Int × Int} (hl : last = (-1, -1) ∨ Vld n last) (he : Vld n e) (h : 0 < cmp2 e.1 e.2 last.1 last.2) : cI last < cI e := by
  obtain ⟨h1, h2, h3⟩ := he
  rcases hl with rfl | ⟨k1, k2, k3⟩
  · unfold cI; simp only; omega
  · unfold cI
    unfold cmp2 at h
    by_cases hlt : e.1 < last.1
    · have : cmpI e.1 last.1 = -1 := by unfold cmpI; rw [if_pos hlt]
      rw [this, if_pos (by decide)] at h; omega
    · by_cases hgt : last.1 < e.1
      · omega
      · have e0 : cmpI e.1 last.1 = 0 := by unfold cmpI; rw [if_neg hlt, if_neg hgt]
        rw [e0, if_neg (by decide)] at h
        by_cases h4 : e.2 < last.2
        · have : cmpI e.2 last.2 = -1 := by unfold cmpI; rw [if_pos h4]
          rw [this] at h; omega
        · by_cases h5 : last.2 < e.2
          · omega
          · have : cmpI e.2 last.2 = 0 := by unfold cmpI; rw [if_neg h4, if_neg h5]
            rw [this] at h; omega
theorem edges_rising {n : Int} (hn : n ≤ 16) : ∀ (es : List (Int × Int)) (last : Int × Int), (last = (-1, -1) ∨ Vld n last) → edgesOk n last es = true →
    (∀ x ∈ es, cI last < cI x) ∧ es.Pairwise (fun a b => cI a < cI b)
  | [], _, _, _ => ⟨by simp, by simp⟩
  | e :: es, last, hl, h => by
    simp only [edgesOk, Bool.and_eq_true] at h
    obtain ⟨p0, p1, p2, p3⟩ := edgeOk_parts h.1
    have hv : Vld n e := ⟨p1, p2, p3⟩
    have hlt := cmp2_lt hn hl hv p0
    obtain ⟨i1, i2⟩ := edges_rising hn es e (.inr hv) h.2
    refine ⟨fun x hx => ?_, List.pairwise_cons.2 ⟨i1, i2⟩⟩
    rcases List.mem_cons.1 hx with rfl | hx
    · exact hlt
    · have := i1 x hx; omega

theorem rising_le : ∀ {m l : List Nat}, l.Pairwise (· < ·) → m.Pairwise (· < ·) → (∀ x ∈ l, x ∈ m) → l.length ≤ m.length
  | [], [], _, _, _ => Nat.le_refl _
  | [], a :: l, _, _, h => by have := h a List.mem_cons_self; simp at this
  | b :: m, [], _, _, _ => by simp
  | b :: m, a :: l, hl, hm, h => by
    have hl1 := List.pairwise_cons.1 hl
    have hm1 := List.pairwise_cons.1 hm
    by_cases e : a = b
    · subst e
      have := rising_le (m := m) (l := l) hl1.2 hm1.2 (fun x hx => by
        rcases List.mem_cons.1 (h x (List.mem_cons_of_mem _ hx)) with e | e
        · have := hl1.1 x hx; omega
        · exact e)
      simp; omega
    · have ha : a ∈ m := by
        rcases List.mem_cons.1 (h a List.mem_cons_self) with e' | e'
        · exact absurd e' e
        · exact e'
      have hab := hm1.1 a ha
      have := rising_le (m := m) (l := a :: l) hl hm1.2 (fun x hx => by
        rcases List.mem_cons.1 (h x hx) with e' | e'
        · rcases List.mem_cons.1 hx with e2 | e2
          · omega
          · have := hl1.1 x e2; omega
        · exact e')
      simp at this ⊢; omega

theorem codes_rising : ((List.range 256).filter fun j => decide (j / 16 < j % 16)).Pairwise (· < ·) := List.Pairwise.filter _ List.pairwise_lt_range
set_option maxRecDepth 100000 in
theorem codes_length : ((List.range 256).filter fun j => decide (j / 16 < j % 16)).length = 120 := by decide +kernel

theorem edges_few {n : Int} (hn : n ≤ 16) {es : List (Int × Int)} (h : edgesOk n (-1, -1) es = true) : es.length ≤ 120 := by
  obtain ⟨-, h2⟩ := edges_rising hn es (-1, -1) (.inl rfl) h
  have hmem := edgesOk_mem h
  have hr : (es.map fun e => (cI e).toNat).Pairwise (· < ·) := by
    rw [List.pairwise_map]
    refine List.Pairwise.imp_of_mem ?_ h2
    intro a b ha hb hab
    have := hmem a ha
    unfold cI at *
    omega
  have := rising_le hr codes_rising (fun x hx => by
    obtain ⟨e, he, rfl⟩ := List.mem_map.1 hx
    obtain ⟨h1, h2, h3⟩ := hmem e he
    rw [List.mem_filter, List.mem_range, decide_eq_true_eq]
    unfold cI
    omega)
  rw [List.length_map, codes_length] at this
  exact this
end Lt
