/- Plain facts on the lamps (no program): part P4 of the proof. -/
import Derived.Test.YtdlogklhekopgaaDoorP3
set_option linter.unusedVariables false
set_option linter.unusedSimpArgs false
namespace Lt

abbrev Press := Nat × Nat
def red1 : List Press → Press → Press
  | [], p => p
  | b :: B, p => red1 B (if p.2 ^^^ b.2 < p.2 then (p.1 ^^^ b.1, p.2 ^^^ b.2) else p)
def insAt (B : List Press) (e : Nat) : Nat := B.findIdx (fun b => decide (b.2 < e))
def ins (B : List Press) (p : Press) : List Press := B.take (insAt B p.2) ++ p :: B.drop (insAt B p.2)
def add (B : List Press) (Q : List Nat) (p : Press) : List Press × List Nat :=
  if (red1 B p).2 = 0 then (B, Q ++ [(red1 B p).1]) else (ins B (red1 B p), Q)
def redTo (l : List Nat) : Nat → List Press × List Nat
  | 0 => ([], [])
  | i + 1 => add (redTo l i).1 (redTo l i).2 (2 ^ i, l[i]?.getD 0)

theorem red1_comb (B : List Press) (p : Press) : ∃ c, (red1 B p).1 = p.1 ^^^ eff (B.map (·.1)) c ∧ (red1 B p).2 = p.2 ^^^ eff (B.map (·.2)) c := by
  induction B generalizing p with
  | nil => exact ⟨0, by simp [red1, eff], by simp [red1, eff]⟩
  | cons b B ih =>
    simp only [red1]
    split
    · obtain ⟨c, h1, h2⟩ := ih (p.1 ^^^ b.1, p.2 ^^^ b.2)
      refine ⟨2 * c + 1, ?_, ?_⟩
      · rw [h1]; simp only [List.map_cons, eff]
        have e1 : (2 * c + 1) / 2 = c := by omega
        have e2 : (2 * c + 1).testBit 0 = true := by simp [Nat.testBit_zero]
        rw [e1, e2]; simp [Nat.xor_assoc]
      · rw [h2]; simp only [List.map_cons, eff]
        have e1 : (2 * c + 1) / 2 = c := by omega
        have e2 : (2 * c + 1).testBit 0 = true := by simp [Nat.testBit_zero]
        rw [e1, e2]; simp [Nat.xor_assoc]
    · obtain ⟨c, h1, h2⟩ := ih p
      refine ⟨2 * c, ?_, ?_⟩
      · rw [h1]; simp only [List.map_cons, eff]
        have e1 : 2 * c / 2 = c := by omega
        have e2 : (2 * c).testBit 0 = false := by simp [Nat.testBit_zero]
        rw [e1, e2]; simp
      · rw [h2]; simp only [List.map_cons, eff]
        have e1 : 2 * c / 2 = c := by omega
        have e2 : (2 * c).testBit 0 = false := by simp [Nat.testBit_zero]
        rw [e1, e2]; simp

theorem red1_bit (B : List Press) (p : Press) (k : Nat) (hB : ∀ b ∈ B, b.2 < 2 ^ k) : (red1 B p).2.testBit k = p.2.testBit k := by
  obtain ⟨c, -, h⟩ := red1_comb B p
  rw [h, Nat.testBit_xor, testBit_of_lt (eff_lt (fun x hx => by obtain ⟨b, hb, rfl⟩ := List.mem_map.1 hx; exact hB b hb) c)]; simp

theorem red1_none {B : List Press} (h : Ech (B.map (·.2))) (p : Press) : ∀ b ∈ B, (red1 B p).2.testBit b.2.log2 = false := by
  induction B generalizing p with
  | nil => simp
  | cons b B ih =>
    intro x hx
    simp only [red1]
    rcases List.mem_cons.1 hx with rfl | hx
    · rw [red1_bit B _ x.2.log2 (fun y hy => h.low y.2 (List.mem_map_of_mem hy))]
      have hb : x.2 ≠ 0 := h.1 x.2 (by simp)
      split
      · rename_i hlt
        simp [Nat.testBit_xor, (xor_lt_iff hb).1 hlt, testBit_log2 hb]
      · rename_i hlt
        cases hc : p.2.testBit x.2.log2 with
        | false => rfl
        | true => exact absurd ((xor_lt_iff hb).2 hc) hlt
    · exact ih h.tail _ x hx

theorem ech_ins {B : List Press} (h : Ech (B.map (·.2))) {p : Press} (hp : p.2 ≠ 0) (hn : ∀ b ∈ B, p.2.testBit b.2.log2 = false) : Ech ((ins B p).map (·.2)) := by
  have hne : ∀ b ∈ B, b.2.log2 ≠ p.2.log2 := fun b hb e => by
    have := hn b hb; rw [e, testBit_log2 hp] at this; exact absurd this (by decide)
  have key : ∀ b ∈ B, b.2 < p.2 → b.2 < 2 ^ p.2.log2 := fun b hb hlt => by
    apply lt_of_log2
    have h1 := hne b hb
    have h2 := @Nat.lt_log2_self p.2
    have h3 : b.2.log2 < p.2.log2 + 1 := log2_lt (h.1 b.2 (List.mem_map_of_mem hb)) (by omega)
    omega
  have key' : ∀ b ∈ B, ¬ b.2 < p.2 → p.2 < 2 ^ b.2.log2 := fun b hb hlt => by
    apply lt_of_log2
    have h1 := hne b hb
    have h2 := @Nat.lt_log2_self b.2
    have h3 : p.2.log2 < b.2.log2 + 1 := log2_lt hp (by omega)
    omega
  clear hn hne
  unfold ins insAt
  induction B with
  | nil => simp [Ech, hp]
  | cons b B ih =>
    simp only [List.findIdx_cons]
    by_cases hlt : b.2 < p.2
    · simp only [hlt, decide_true, cond_true, List.take_zero, List.drop_zero, List.nil_append]
      refine ⟨fun x hx => ?_, ?_⟩
      · simp only [List.map_cons, List.mem_cons] at hx
        rcases hx with rfl | hx
        · exact hp
        · exact h.1 x (by simpa using hx)
      · refine List.pairwise_cons.2 ⟨fun x hx => ?_, h.2⟩
        obtain ⟨y, hy, rfl⟩ := List.mem_map.1 hx
        rcases List.mem_cons.1 hy with rfl | hy'
        · exact key y (by simp) hlt
        · have h1 : y.2 < 2 ^ b.2.log2 := h.low y.2 (List.mem_map_of_mem hy')
          have h2 := Nat.log2_self_le (h.1 b.2 (by simp))
          exact key y hy (by omega)
    · simp only [hlt, decide_false, cond_false, List.take_succ_cons, List.drop_succ_cons, List.cons_append]
      have hi := ih h.tail (fun x hx => key x (by simp [hx])) (fun x hx => key' x (by simp [hx]))
      refine ⟨fun x hx => ?_, ?_⟩
      · simp only [List.map_cons, List.mem_cons] at hx
        rcases hx with rfl | hx
        · exact h.1 b.2 (by simp)
        · exact hi.1 x hx
      · refine List.pairwise_cons.2 ⟨fun x hx => ?_, hi.2⟩
        obtain ⟨y, hy, rfl⟩ := List.mem_map.1 hx
        rcases List.mem_append.1 hy with hy | hy
        · exact h.low y.2 (List.mem_map_of_mem (List.mem_of_mem_take hy))
        · rcases List.mem_cons.1 hy with rfl | hy
          · exact key' b (by simp) hlt
          · exact h.low y.2 (List.mem_map_of_mem (List.mem_of_mem_drop hy))

theorem ins_mem {B : List Press} {p b : Press} : b ∈ ins B p ↔ b = p ∨ b ∈ B := by
  unfold ins
  constructor
  · intro h
    rcases List.mem_append.1 h with h | h
    · exact .inr (List.mem_of_mem_take h)
    · rcases List.mem_cons.1 h with h | h
      · exact .inl h
      · exact .inr (List.mem_of_mem_drop h)
  · rintro (rfl | h)
    · simp
    · rw [← List.take_append_drop (insAt B p.2) B] at h
      rcases List.mem_append.1 h with h | h
      · exact List.mem_append.2 (.inl h)
      · exact List.mem_append.2 (.inr (by simp [h]))

theorem ins_length (B : List Press) (p : Press) : (ins B p).length = B.length + 1 := by
  unfold ins; simp; omega

structure Inv (l : List Nat) (i : Nat) (B : List Press) (Q : List Nat) : Prop where
  effB : ∀ b ∈ B, eff l b.1 = b.2
  effQ : ∀ q ∈ Q, eff l q = 0
  ech : Ech (B.map (·.2))
  len : B.length + Q.length = i
  ltB : ∀ b ∈ B, b.1 < 2 ^ i
  ltQ : ∀ q ∈ Q, q < 2 ^ i
  span : ∀ s, s < 2 ^ i → Sp (B.map (·.1) ++ Q) s
  rise : Rise Q

theorem pow_le {i j : Nat} (h : i ≤ j) : 2 ^ i ≤ 2 ^ j := Nat.pow_le_pow_right (by decide) h

theorem Inv.step {l : List Nat} {i : Nat} {B : List Press} {Q : List Nat} (h : Inv l i B Q) (hi : i < l.length) :
    Inv l (i + 1) (add B Q (2 ^ i, l[i]?.getD 0)).1 (add B Q (2 ^ i, l[i]?.getD 0)).2 := by
  obtain ⟨c, h1, h2⟩ := red1_comb B (2 ^ i, l[i]?.getD 0)
  have hlt : eff (B.map (·.1)) c < 2 ^ i := eff_lt (by simpa using h.ltB) c
  have hmap : eff l (eff (B.map (·.1)) c) = eff (B.map (·.2)) c := by
    rw [eff_map (eff l) (eff_zero l) (eff_xor l), List.map_map]
    congr 1
    exact List.map_congr_left fun b hb => h.effB b hb
  have heff : eff l (red1 B (2 ^ i, l[i]?.getD 0)).1 = (red1 B (2 ^ i, l[i]?.getD 0)).2 := by
    rw [h1, h2, eff_xor, hmap, eff_bit l i hi]; simp [hi]
  have htop : (red1 B (2 ^ i, l[i]?.getD 0)).1.testBit i = true := by
    rw [h1, Nat.testBit_xor, testBit_of_lt hlt]; simp
  have hltp : (red1 B (2 ^ i, l[i]?.getD 0)).1 < 2 ^ (i + 1) := by
    rw [h1]
    exact Nat.xor_lt_two_pow (Nat.pow_lt_pow_right (by decide) (by omega)) (Nat.lt_of_lt_of_le hlt (pow_le (by omega)))
  have hnone := red1_none h.ech (2 ^ i, l[i]?.getD 0)
  have hsp : Sp (B.map (·.1)) (2 ^ i ^^^ (red1 B (2 ^ i, l[i]?.getD 0)).1) := ⟨c, by rw [h1, ← Nat.xor_assoc, Nat.xor_self, Nat.zero_xor]⟩
  generalize hpp : red1 B (2 ^ i, l[i]?.getD 0) = p at heff htop hltp hnone h1 hsp
  have hold : ∀ x, x < 2 ^ i → x < 2 ^ (i + 1) := fun x hx => Nat.lt_of_lt_of_le hx (pow_le (by omega))
  -- what was spanned, and the new one, span all
  have hall : ∀ (L : List Nat), (∀ x ∈ B.map (·.1) ++ Q, Sp L x) → Sp L p.1 → ∀ s, s < 2 ^ (i + 1) → Sp L s := by
    intro L hL hp s hs
    have hsmall : ∀ s, s < 2 ^ i → Sp L s := fun s hs => (h.span s hs).trans hL
    cases hb : s.testBit i with
    | false =>
      refine hsmall s (Nat.lt_pow_two_of_testBit s fun j hj => ?_)
      by_cases e : j = i
      · rw [e]; exact hb
      · exact testBit_of_lt (Nat.lt_of_lt_of_le hs (pow_le (by omega)))
    | true =>
      have : s = (s ^^^ p.1) ^^^ p.1 := (xor_self_right s p.1).symm
      rw [this]
      refine Sp.xor (hsmall _ (Nat.lt_pow_two_of_testBit _ fun j hj => ?_)) hp
      by_cases e : j = i
      · subst e; rw [Nat.testBit_xor, hb, htop]; rfl
      · have hj : i + 1 ≤ j := by omega
        rw [Nat.testBit_xor, testBit_of_lt (Nat.lt_of_lt_of_le hs (pow_le hj)), testBit_of_lt (Nat.lt_of_lt_of_le hltp (pow_le hj))]; rfl
  unfold add
  rw [hpp]
  by_cases h0 : p.2 = 0
  · rw [if_pos h0]
    have hp0 : p.1 ≠ 0 := fun e => by rw [e] at htop; simp at htop
    have hlog : p.1.log2 = i := by
      have a := log2_lt hp0 hltp
      have b := Nat.ge_two_pow_of_testBit htop
      have c := @Nat.lt_log2_self p.1
      have : i < p.1.log2 + 1 := (Nat.pow_lt_pow_iff_right (by decide : 1 < 2)).1 (by omega)
      omega
    refine ⟨h.effB, ?_, h.ech, by simp only [List.length_append, List.length_cons, List.length_nil]; have := h.len; omega, fun b hb => hold _ (h.ltB b hb), ?_, ?_, ?_⟩
    · intro q hq
      rcases List.mem_append.1 hq with hq | hq
      · exact h.effQ q hq
      · simp only [List.mem_singleton] at hq; rw [hq, heff, h0]
    · intro q hq
      rcases List.mem_append.1 hq with hq | hq
      · exact hold _ (h.ltQ q hq)
      · simp only [List.mem_singleton] at hq; rw [hq]; exact hltp
    · refine hall _ (fun x hx => Sp.mem ?_) (Sp.mem (by simp))
      rcases List.mem_append.1 hx with hx | hx
      · exact List.mem_append.2 (.inl hx)
      · exact List.mem_append.2 (.inr (by simp [hx]))
    · refine ⟨fun x hx => ?_, ?_⟩
      · rcases List.mem_append.1 hx with hx | hx
        · exact h.rise.1 x hx
        · simp only [List.mem_singleton] at hx; rw [hx]; exact hp0
      · rw [List.pairwise_append]
        refine ⟨h.rise.2, by simp, fun a ha b hb => ?_⟩
        simp only [List.mem_singleton] at hb; rw [hb, hlog]; exact h.ltQ a ha
  · rw [if_neg h0]
    refine ⟨?_, h.effQ, ech_ins h.ech h0 hnone, by simp only [ins_length]; have := h.len; omega, ?_, fun q hq => hold _ (h.ltQ q hq), ?_, h.rise⟩
    · intro b hb
      rcases ins_mem.1 hb with rfl | hb
      · exact heff
      · exact h.effB b hb
    · intro b hb
      rcases ins_mem.1 hb with rfl | hb
      · exact hltp
      · exact hold _ (h.ltB b hb)
    · refine hall _ (fun x hx => Sp.mem ?_) (Sp.mem ?_)
      · rcases List.mem_append.1 hx with hx | hx
        · obtain ⟨b, hb, rfl⟩ := List.mem_map.1 hx
          exact List.mem_append.2 (.inl (List.mem_map_of_mem (ins_mem.2 (.inr hb))))
        · exact List.mem_append.2 (.inr hx)
      · exact List.mem_append.2 (.inl (List.mem_map_of_mem (ins_mem.2 (.inl rfl))))

theorem inv_to (l : List Nat) : ∀ i, i ≤ l.length → Inv l i (redTo l i).1 (redTo l i).2
  | 0, _ => ⟨by simp [redTo], by simp [redTo], by simp [redTo, Ech], by simp [redTo], by simp [redTo], by simp [redTo], fun s hs => by
      have : s = 0 := by simpa using hs
      rw [this]; exact Sp.zero _, by simp [redTo, Rise]⟩
  | i + 1, hi => (inv_to l i (by omega)).step (by omega)

def basisOf (l : List Nat) : List Press := (redTo l l.length).1
def quietOf (l : List Nat) : List Nat := (redTo l l.length).2
theorem inv_of (l : List Nat) : Inv l l.length (basisOf l) (quietOf l) := inv_to l _ (Nat.le_refl _)

end Lt
