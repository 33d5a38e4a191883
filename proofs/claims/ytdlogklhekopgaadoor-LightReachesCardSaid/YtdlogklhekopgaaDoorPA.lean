/- Plain facts on the lamps (no program): a part of the proof. -/
set_option linter.unusedVariables false
set_option linter.unusedSimpArgs false

namespace Lt

def eff : List Nat → Nat → Nat
  | [], _ => 0
  | r :: rs, s => (if s.testBit 0 then r else 0) ^^^ eff rs (s / 2)

theorem testBit_div2 (s i : Nat) : (s / 2).testBit i = s.testBit (i + 1) := by
  rw [Nat.testBit_succ]

theorem xor_div2 (a b : Nat) : (a ^^^ b) / 2 = a / 2 ^^^ b / 2 := by
  apply Nat.eq_of_testBit_eq; intro i; simp [Nat.testBit_xor, testBit_div2]

theorem eff_zero (l : List Nat) : eff l 0 = 0 := by
  induction l with
  | nil => rfl
  | cons r rs ih => simp [eff, ih]

theorem xor4 (a b c d : Nat) : (a ^^^ b) ^^^ (c ^^^ d) = (a ^^^ c) ^^^ (b ^^^ d) := by
  simp only [Nat.xor_assoc]; congr 1; rw [← Nat.xor_assoc, Nat.xor_comm b c, Nat.xor_assoc]

theorem eff_xor (l : List Nat) (a b : Nat) : eff l (a ^^^ b) = eff l a ^^^ eff l b := by
  induction l generalizing a b with
  | nil => simp [eff]
  | cons r rs ih =>
    simp only [eff, xor_div2, ih, Nat.testBit_xor]
    rw [xor4]
    congr 1
    cases a.testBit 0 <;> cases b.testBit 0 <;> simp

theorem eff_snoc (l : List Nat) (r s : Nat) : eff (l ++ [r]) s = eff l s ^^^ (if s.testBit l.length then r else 0) := by
  induction l generalizing s with
  | nil => simp [eff]
  | cons a l ih =>
    simp only [List.cons_append, eff, ih, testBit_div2, List.length_cons, Nat.xor_assoc]

theorem eff_lt {l : List Nat} {m : Nat} (h : ∀ r ∈ l, r < 2 ^ m) (s : Nat) : eff l s < 2 ^ m := by
  induction l generalizing s with
  | nil => simp [eff]; exact Nat.two_pow_pos m
  | cons a l ih =>
    simp only [eff]
    apply Nat.xor_lt_two_pow
    · split
      · exact h a (by simp)
      · exact Nat.two_pow_pos m
    · exact ih (fun r hr => h r (by simp [hr])) _

theorem eff_congr (l : List Nat) (a b : Nat) (h : ∀ i, i < l.length → a.testBit i = b.testBit i) : eff l a = eff l b := by
  induction l generalizing a b with
  | nil => rfl
  | cons r rs ih =>
    simp only [eff]
    rw [h 0 (by simp), ih (a / 2) (b / 2) (fun i hi => by rw [testBit_div2, testBit_div2]; exact h (i + 1) (by simpa using hi))]

theorem eff_bit (l : List Nat) (i : Nat) (hi : i < l.length) : eff l (2 ^ i) = l[i] := by
  induction l generalizing i with
  | nil => simp at hi
  | cons r rs ih =>
    cases i with
    | zero => simp [eff, eff_zero]
    | succ i =>
      have : 2 ^ (i + 1) / 2 = 2 ^ i := by rw [Nat.pow_succ]; omega
      simp only [eff, this]
      rw [ih i (by simpa using hi)]
      simp

/-- bit b of the effect: how many chosen rows have it, odd -/
theorem eff_testBit_cons (r : Nat) (rs : List Nat) (s j : Nat) : (eff (r :: rs) s).testBit j = ((s.testBit 0 && r.testBit j) ^^ (eff rs (s / 2)).testBit j) := by
  simp only [eff, Nat.testBit_xor]
  cases s.testBit 0 <;> simp

end Lt

namespace Lt

def xsum : Nat → (Nat → Bool) → Bool
  | 0, _ => false
  | n + 1, f => xsum n f ^^ f n

theorem xsum_congr {n : Nat} {f g : Nat → Bool} (h : ∀ i, i < n → f i = g i) : xsum n f = xsum n g := by
  induction n with
  | zero => rfl
  | succ n ih => simp only [xsum]; rw [ih (fun i hi => h i (by omega)), h n (by omega)]

theorem xsum_false (n : Nat) : xsum n (fun _ => false) = false := by
  induction n with
  | zero => rfl
  | succ n ih => simp [xsum, ih]

theorem xsum_xor (n : Nat) (f g : Nat → Bool) : xsum n (fun i => f i ^^ g i) = (xsum n f ^^ xsum n g) := by
  induction n with
  | zero => rfl
  | succ n ih =>
    simp only [xsum, ih]
    cases xsum n f <;> cases xsum n g <;> cases f n <;> cases g n <;> rfl

theorem xsum_and (n : Nat) (b : Bool) (f : Nat → Bool) : (b && xsum n f) = xsum n (fun i => b && f i) := by
  cases b
  · simp [xsum_false]
  · simp

theorem xsum_swap (n m : Nat) (f : Nat → Nat → Bool) : xsum n (fun i => xsum m (fun j => f i j)) = xsum m (fun j => xsum n (fun i => f i j)) := by
  induction n with
  | zero => simp [xsum, xsum_false]
  | succ n ih => simp only [xsum]; rw [xsum_xor, ih]

theorem xsum_one (n i : Nat) (hi : i < n) (f : Nat → Bool) : xsum n (fun j => decide (j = i) && f j) = f i := by
  induction n with
  | zero => omega
  | succ n ih =>
    simp only [xsum]
    by_cases h : i = n
    · subst h
      rw [xsum_congr (g := fun _ => false) (fun j hj => by have : j ≠ i := by omega
                                                           simp [this]), xsum_false]
      simp
    · rw [ih (by omega)]
      have : n ≠ i := fun e => h e.symm
      simp [this]

/-- the first one apart -/
theorem xsum_succ (n : Nat) (f : Nat → Bool) : xsum (n + 1) f = (f 0 ^^ xsum n (fun i => f (i + 1))) := by
  induction n with
  | zero => simp [xsum]
  | succ n ih => rw [xsum, ih, xsum]; cases f 0 <;> simp

/-- the parity of what q and x have in common among the first k bits -/
def dot (k q x : Nat) : Bool := xsum k (fun i => q.testBit i && x.testBit i)

theorem dot_comm (k q x : Nat) : dot k q x = dot k x q := by
  unfold dot; exact xsum_congr fun i _ => Bool.and_comm _ _

theorem dot_xor (k q a b : Nat) : dot k q (a ^^^ b) = (dot k q a ^^ dot k q b) := by
  unfold dot; rw [← xsum_xor]
  exact xsum_congr fun i _ => by rw [Nat.testBit_xor]; cases q.testBit i <;> simp

theorem dot_xor_left (k a b x : Nat) : dot k (a ^^^ b) x = (dot k a x ^^ dot k b x) := by
  rw [dot_comm, dot_xor, dot_comm k x a, dot_comm k x b]

theorem dot_zero (k q : Nat) : dot k q 0 = false := by
  unfold dot; simp [xsum_false]

theorem dot_bit (k i x : Nat) (hi : i < k) : dot k (2 ^ i) x = x.testBit i := by
  unfold dot
  rw [xsum_congr (g := fun j => decide (j = i) && x.testBit j) (fun j _ => by
    rw [Nat.testBit_two_pow]
    by_cases h : i = j
    · simp [h]
    · have : ¬ j = i := fun e => h e.symm
      simp [h, this])]
  exact xsum_one k i hi _

theorem eff_testBit (l : List Nat) (s j : Nat) : (eff l s).testBit j = xsum l.length (fun i => s.testBit i && (l[i]?.getD 0).testBit j) := by
  induction l generalizing s with
  | nil => simp [eff, xsum]
  | cons r rs ih =>
    rw [eff_testBit_cons, ih, List.length_cons, xsum_succ]
    simp [testBit_div2]

/-- symmetric: i switches j just if j switches i -/
def Sym (l : List Nat) : Prop := ∀ i j, i < l.length → j < l.length → (l[i]?.getD 0).testBit j = (l[j]?.getD 0).testBit i

theorem dot_eff_sym {l : List Nat} (h : Sym l) (q s : Nat) : dot l.length q (eff l s) = dot l.length s (eff l q) := by
  unfold dot
  rw [xsum_congr (g := fun i => xsum l.length (fun j => q.testBit i && (s.testBit j && (l[j]?.getD 0).testBit i))) (fun i _ => by rw [eff_testBit, xsum_and])]
  rw [xsum_swap]
  refine xsum_congr fun j hj => ?_
  rw [eff_testBit, xsum_and]
  refine xsum_congr fun i hi => ?_
  rw [h j i hj hi]
  cases q.testBit i <;> cases s.testBit j <;> simp

/-- all lamps: dot with q is the parity of q -/
def popN : Nat → Nat → Nat
  | 0, _ => 0
  | k + 1, x => x % 2 + popN k (x / 2)

theorem popN_odd (k x : Nat) : (popN k x % 2 == 1) = xsum k (fun i => x.testBit i) := by
  induction k generalizing x with
  | zero => rfl
  | succ k ih =>
    rw [xsum_succ, xsum_congr (g := fun i => (x / 2).testBit i) (fun i _ => (testBit_div2 x i).symm), ← ih]
    simp only [popN, Nat.testBit_zero]
    rcases Nat.mod_two_eq_zero_or_one x with h | h <;> rcases Nat.mod_two_eq_zero_or_one (popN k (x / 2)) with h' | h' <;> simp [h, h', Nat.add_mod]

theorem popN_dot (k q x : Nat) : (popN k (q &&& x) % 2 == 1) = dot k q x := by
  rw [popN_odd]; unfold dot; exact xsum_congr fun i _ => Nat.testBit_and _ _ _

/-- with own, the lamps that q has in common with its own effect are as odd as q itself -/
theorem xsum_pairs (n : Nat) (f : Nat → Nat → Bool) (h : ∀ i j, i < n → j < n → f i j = f j i) : xsum n (fun i => xsum n (fun j => f i j)) = xsum n (fun i => f i i) := by
  induction n with
  | zero => rfl
  | succ n ih =>
    simp only [xsum]
    rw [xsum_xor, ih (fun i j hi hj => h i j (by omega) (by omega)), xsum_congr (g := fun i => f n i) (fun i hi => h i n (by omega) (by omega))]
    cases xsum n (fun i => f i i) <;> cases xsum n (fun i => f n i) <;> simp

theorem dot_self {l : List Nat} (h : Sym l) (ho : ∀ i, i < l.length → (l[i]?.getD 0).testBit i = true) (q : Nat) : dot l.length q (eff l q) = xsum l.length (fun i => q.testBit i) := by
  unfold dot
  rw [xsum_congr (g := fun i => xsum l.length (fun j => q.testBit i && (q.testBit j && (l[j]?.getD 0).testBit i))) (fun i _ => by rw [eff_testBit, xsum_and])]
  rw [xsum_pairs]
  · exact xsum_congr fun i hi => by rw [ho i hi]; simp
  · intro i j hi hj
    rw [h j i hj hi]; cases q.testBit i <;> cases q.testBit j <;> simp

end Lt

namespace Lt

/-! ### spans -/
def Sp (l : List Nat) (x : Nat) : Prop := ∃ c, x = eff l c

theorem Sp.zero (l : List Nat) : Sp l 0 := ⟨0, (eff_zero l).symm⟩
theorem Sp.xor {l : List Nat} {x y : Nat} : Sp l x → Sp l y → Sp l (x ^^^ y)
  | ⟨a, ha⟩, ⟨b, hb⟩ => ⟨a ^^^ b, by rw [eff_xor, ← ha, ← hb]⟩
theorem Sp.mem {l : List Nat} {x : Nat} (h : x ∈ l) : Sp l x := by
  obtain ⟨i, hi, rfl⟩ := List.getElem_of_mem h
  exact ⟨2 ^ i, (eff_bit l i hi).symm⟩
theorem Sp.trans {l l' : List Nat} {x : Nat} (h : Sp l x) (hl : ∀ y ∈ l, Sp l' y) : Sp l' x := by
  obtain ⟨c, rfl⟩ := h
  induction l generalizing c with
  | nil => exact Sp.zero l'
  | cons r rs ih =>
    simp only [eff]
    refine Sp.xor ?_ (ih (fun y hy => hl y (by simp [hy])) _)
    split
    · exact hl r (by simp)
    · exact Sp.zero l'
theorem Sp.sub {l l' : List Nat} {x : Nat} (h : Sp l x) (hl : ∀ y ∈ l, y ∈ l') : Sp l' x := h.trans fun _ hy => Sp.mem (hl _ hy)
theorem Sp.lt {l : List Nat} {m x : Nat} (h : Sp l x) (hl : ∀ y ∈ l, y < 2 ^ m) : x < 2 ^ m := by
  obtain ⟨c, rfl⟩ := h; exact eff_lt hl c

theorem xor_self_right (a b : Nat) : a ^^^ b ^^^ b = a := by rw [Nat.xor_assoc, Nat.xor_self, Nat.xor_zero]

/-- a choice below 2 to the length will do -/
theorem eff_mod (l : List Nat) (c : Nat) : eff l (c % 2 ^ l.length) = eff l c :=
  eff_congr l _ _ fun i hi => by simp [Nat.testBit_mod_two_pow, hi]

/-- a map that takes differences to differences takes sums to sums -/
theorem eff_map (f : Nat → Nat) (h0 : f 0 = 0) (hx : ∀ a b, f (a ^^^ b) = f a ^^^ f b) (l : List Nat) (c : Nat) : f (eff l c) = eff (l.map f) c := by
  induction l generalizing c with
  | nil => exact h0
  | cons r rs ih =>
    simp only [eff, List.map_cons, hx, ih]
    split <;> simp [h0]

/-! ### the greatest bit -/
theorem testBit_log2 {n : Nat} (h : n ≠ 0) : n.testBit n.log2 = true := by
  have h1 := Nat.log2_self_le h
  have h2 := @Nat.lt_log2_self n
  rw [Nat.testBit_eq_decide_div_mod_eq]
  have : n / 2 ^ n.log2 = 1 := by
    rw [Nat.div_eq_iff (Nat.two_pow_pos _)]
    rw [Nat.pow_succ] at h2
    omega
  simp [this]

theorem testBit_of_lt {n i : Nat} (h : n < 2 ^ i) : n.testBit i = false := Nat.testBit_lt_two_pow h

theorem log2_lt {n k : Nat} (h : n ≠ 0) (hk : n < 2 ^ k) : n.log2 < k := (Nat.log2_lt h).2 hk
theorem lt_of_log2 {n k : Nat} (hk : n.log2 < k) : n < 2 ^ k := by
  by_cases h : n = 0
  · subst h; exact Nat.two_pow_pos _
  · exact (Nat.log2_lt h).1 hk

theorem lt_of_bit {x y : Nat} (i : Nat) (hx : x.testBit i = false) (hy : y.testBit i = true) (h : ∀ j, i < j → x.testBit j = y.testBit j) : x < y := by
  have hq : x / 2 ^ (i + 1) = y / 2 ^ (i + 1) := by
    apply Nat.eq_of_testBit_eq; intro j
    rw [Nat.testBit_div_two_pow, Nat.testBit_div_two_pow]; exact h _ (by omega)
  have h1 : x % 2 ^ (i + 1) < 2 ^ i := by
    apply Nat.lt_pow_two_of_testBit
    intro j hj
    rw [Nat.testBit_mod_two_pow]
    by_cases e : j = i
    · subst e; simp [hx]
    · have : ¬ j < i + 1 := by omega
      simp [this]
  have h2 : 2 ^ i ≤ y % 2 ^ (i + 1) := Nat.ge_two_pow_of_testBit (by rw [Nat.testBit_mod_two_pow]; simp [hy])
  have h3 := Nat.div_add_mod x (2 ^ (i + 1))
  have h4 := Nat.div_add_mod y (2 ^ (i + 1))
  rw [hq] at h3
  omega

/-- x differs from y first where y has a bit: x is less -/
theorem xor_lt_iff {p b : Nat} (hb : b ≠ 0) : p ^^^ b < p ↔ p.testBit b.log2 = true := by
  have hhi : ∀ j, b.log2 < j → b.testBit j = false := fun j hj =>
    testBit_of_lt (lt_of_log2 hj)
  constructor
  · intro h
    cases hc : p.testBit b.log2 with
    | true => rfl
    | false =>
      have : p < p ^^^ b := lt_of_bit b.log2 hc (by simp [Nat.testBit_xor, hc, testBit_log2 hb]) (fun j hj => by simp [Nat.testBit_xor, hhi j hj])
      omega
  · intro h
    exact lt_of_bit b.log2 (by simp [Nat.testBit_xor, h, testBit_log2 hb]) h (fun j hj => by simp [Nat.testBit_xor, hhi j hj])

/-! ### echelons -/
/-- none is 0, each one's greatest bit is greater than the next one's -/
def Ech (l : List Nat) : Prop := (∀ x ∈ l, x ≠ 0) ∧ l.Pairwise (fun a b => b < 2 ^ a.log2)

theorem Ech.tail {a : Nat} {l : List Nat} (h : Ech (a :: l)) : Ech l := ⟨fun x hx => h.1 x (by simp [hx]), (List.pairwise_cons.1 h.2).2⟩
theorem Ech.low {a : Nat} {l : List Nat} (h : Ech (a :: l)) : ∀ x ∈ l, x < 2 ^ a.log2 := (List.pairwise_cons.1 h.2).1

/-- a sum that is 0 chooses none -/
theorem Ech.free {l : List Nat} (h : Ech l) {c : Nat} (hc : eff l c = 0) : ∀ i, i < l.length → c.testBit i = false := by
  induction l generalizing c with
  | nil => intro i hi; simp at hi
  | cons a l ih =>
    have hlow : eff l (c / 2) < 2 ^ a.log2 := eff_lt h.low _
    have h0 : c.testBit 0 = false := by
      cases hb : c.testBit 0 with
      | false => rfl
      | true =>
        simp only [eff, hb, if_true] at hc
        have := congrArg (fun z => z.testBit a.log2) hc
        simp only [Nat.testBit_xor, testBit_log2 (h.1 a (by simp)), testBit_of_lt hlow, Nat.zero_testBit] at this
        exact absurd this (by decide)
    simp only [eff, h0, Bool.false_eq_true, if_false, Nat.zero_xor] at hc
    intro i hi
    cases i with
    | zero => exact h0
    | succ i => rw [← testBit_div2]; exact ih h.tail hc i (by simpa using hi)

/-- a sum that has none of the greatest bits is 0 -/
theorem Ech.none {l : List Nat} (h : Ech l) {x : Nat} (hx : Sp l x) (hb : ∀ b ∈ l, x.testBit b.log2 = false) : x = 0 := by
  obtain ⟨c, rfl⟩ := hx
  induction l generalizing c with
  | nil => rfl
  | cons a l ih =>
    have hlow : eff l (c / 2) < 2 ^ a.log2 := eff_lt h.low _
    have ha := hb a (by simp)
    have h0 : c.testBit 0 = false := by
      cases hc : c.testBit 0 with
      | false => rfl
      | true =>
        simp only [eff, hc, if_true, Nat.testBit_xor, testBit_log2 (h.1 a (by simp)), testBit_of_lt hlow] at ha
        exact absurd ha (by decide)
    have he : eff (a :: l) c = eff l (c / 2) := by simp [eff, h0]
    rw [he] at hb ⊢
    exact ih h.tail _ (fun b hm => hb b (by simp [hm]))

theorem Ech.nodup {l : List Nat} (h : Ech l) : l.Nodup := by
  induction l with
  | nil => simp
  | cons a l ih =>
    refine List.nodup_cons.2 ⟨fun hm => ?_, ih h.tail⟩
    have := h.low a hm
    have := Nat.log2_self_le (h.1 a (by simp))
    omega

/-- the other way round: rising -/
def Rise (l : List Nat) : Prop := (∀ x ∈ l, x ≠ 0) ∧ l.Pairwise (fun a b => a < 2 ^ b.log2)

theorem eff_reverse_span (l : List Nat) (x : Nat) : Sp l.reverse x ↔ Sp l x :=
  ⟨fun h => h.sub fun y hy => by simpa using hy, fun h => h.sub fun y hy => by simpa using hy⟩

theorem Rise.ech {l : List Nat} (h : Rise l) : Ech l.reverse := ⟨fun x hx => h.1 x (by simpa using hx), by rw [List.pairwise_reverse]; exact h.2⟩

end Lt

namespace Lt

abbrev Press := Nat × Nat
def red1 : List Press → Press → Press
  | [], p => p
  | b :: B, p => red1 B (if p.2 ^^^ b.2 < p.2 then (p.1 ^^^ b.1, p.2 ^^^ b.2) else p)
def insAt (B : List Press) (e : Nat) : Nat := B.findIdx (fun b => decide (b.2 < e))
def ins (B : List Press) (p : Press) : List Press := B.take (insAt B p.2) ++ p :: B.drop (insAt B p.2)
def add (B : List Press) (Q : List Nat) (p : Press) : List Press × List Nat :=
  if (red1 B p).2 = 0 then (B, Q ++ [(red1 B p).1]) else (ins B (red1 B p), Q)
def redTo (l : List Nat) : Nat → List Press × List Nat
  | 0 => ([], [])
  | i + 1 => add (redTo l i).1 (redTo l i).2 (2 ^ i, l[i]?.getD 0)

theorem red1_comb (B : List Press) (p : Press) : ∃ c, (red1 B p).1 = p.1 ^^^ eff (B.map (·.1)) c ∧ (red1 B p).2 = p.2 ^^^ eff (B.map (·.2)) c := by
  induction B generalizing p with
  | nil => exact ⟨0, by simp [red1, eff], by simp [red1, eff]⟩
  | cons b B ih =>
    simp only [red1]
    split
    · obtain ⟨c, h1, h2⟩ := ih (p.1 ^^^ b.1, p.2 ^^^ b.2)
      refine ⟨2 * c + 1, ?_, ?_⟩
      · rw [h1]; simp only [List.map_cons, eff]
        have e1 : (2 * c + 1) / 2 = c := by omega
        have e2 : (2 * c + 1).testBit 0 = true := by simp [Nat.testBit_zero]
        rw [e1, e2]; simp [Nat.xor_assoc]
      · rw [h2]; simp only [List.map_cons, eff]
        have e1 : (2 * c + 1) / 2 = c := by omega
        have e2 : (2 * c + 1).testBit 0 = true := by simp [Nat.testBit_zero]
        rw [e1, e2]; simp [Nat.xor_assoc]
    · obtain ⟨c, h1, h2⟩ := ih p
      refine ⟨2 * c, ?_, ?_⟩
      · rw [h1]; simp only [List.map_cons, eff]
        have e1 : 2 * c / 2 = c := by omega
        have e2 : (2 * c).testBit 0 = false := by simp [Nat.testBit_zero]
        rw [e1, e2]; simp
      · rw [h2]; simp only [List.map_cons, eff]
        have e1 : 2 * c / 2 = c := by omega
        have e2 : (2 * c).testBit 0 = false := by simp [Nat.testBit_zero]
        rw [e1, e2]; simp

theorem red1_bit (B : List Press) (p : Press) (k : Nat) (hB : ∀ b ∈ B, b.2 < 2 ^ k) : (red1 B p).2.testBit k = p.2.testBit k := by
  obtain ⟨c, -, h⟩ := red1_comb B p
  rw [h, Nat.testBit_xor, testBit_of_lt (eff_lt (fun x hx => by obtain ⟨b, hb, rfl⟩ := List.mem_map.1 hx; exact hB b hb) c)]; simp

theorem red1_none {B : List Press} (h : Ech (B.map (·.2))) (p : Press) : ∀ b ∈ B, (red1 B p).2.testBit b.2.log2 = false := by
  induction B generalizing p with
  | nil => simp
  | cons b B ih =>
    intro x hx
    simp only [red1]
    rcases List.mem_cons.1 hx with rfl | hx
    · rw [red1_bit B _ x.2.log2 (fun y hy => h.low y.2 (List.mem_map_of_mem hy))]
      have hb : x.2 ≠ 0 := h.1 x.2 (by simp)
      split
      · rename_i hlt
        simp [Nat.testBit_xor, (xor_lt_iff hb).1 hlt, testBit_log2 hb]
      · rename_i hlt
        cases hc : p.2.testBit x.2.log2 with
        | false => rfl
        | true => exact absurd ((xor_lt_iff hb).2 hc) hlt
    · exact ih h.tail _ x hx

theorem ech_ins {B : List Press} (h : Ech (B.map (·.2))) {p : Press} (hp : p.2 ≠ 0) (hn : ∀ b ∈ B, p.2.testBit b.2.log2 = false) : Ech ((ins B p).map (·.2)) := by
  have hne : ∀ b ∈ B, b.2.log2 ≠ p.2.log2 := fun b hb e => by
    have := hn b hb; rw [e, testBit_log2 hp] at this; exact absurd this (by decide)
  have key : ∀ b ∈ B, b.2 < p.2 → b.2 < 2 ^ p.2.log2 := fun b hb hlt => by
    apply lt_of_log2
    have h1 := hne b hb
    have h2 := @Nat.lt_log2_self p.2
    have h3 : b.2.log2 < p.2.log2 + 1 := log2_lt (h.1 b.2 (List.mem_map_of_mem hb)) (by omega)
    omega
  have key' : ∀ b ∈ B, ¬ b.2 < p.2 → p.2 < 2 ^ b.2.log2 := fun b hb hlt => by
    apply lt_of_log2
    have h1 := hne b hb
    have h2 := @Nat.lt_log2_self b.2
    have h3 : p.2.log2 < b.2.log2 + 1 := log2_lt hp (by omega)
    omega
  clear hn hne
  unfold ins insAt
  induction B with
  | nil => simp [Ech, hp]
  | cons b B ih =>
    simp only [List.findIdx_cons]
    by_cases hlt : b.2 < p.2
    · simp only [hlt, decide_true, cond_true, List.take_zero, List.drop_zero, List.nil_append]
      refine ⟨fun x hx => ?_, ?_⟩
      · simp only [List.map_cons, List.mem_cons] at hx
        rcases hx with rfl | hx
        · exact hp
        · exact h.1 x (by simpa using hx)
      · refine List.pairwise_cons.2 ⟨fun x hx => ?_, h.2⟩
        obtain ⟨y, hy, rfl⟩ := List.mem_map.1 hx
        rcases List.mem_cons.1 hy with rfl | hy'
        · exact key y (by simp) hlt
        · have h1 : y.2 < 2 ^ b.2.log2 := h.low y.2 (List.mem_map_of_mem hy')
          have h2 := Nat.log2_self_le (h.1 b.2 (by simp))
          exact key y hy (by omega)
    · simp only [hlt, decide_false, cond_false, List.take_succ_cons, List.drop_succ_cons, List.cons_append]
      have hi := ih h.tail (fun x hx => key x (by simp [hx])) (fun x hx => key' x (by simp [hx]))
      refine ⟨fun x hx => ?_, ?_⟩
      · simp only [List.map_cons, List.mem_cons] at hx
        rcases hx with rfl | hx
        · exact h.1 b.2 (by simp)
        · exact hi.1 x hx
      · refine List.pairwise_cons.2 ⟨fun x hx => ?_, hi.2⟩
        obtain ⟨y, hy, rfl⟩ := List.mem_map.1 hx
        rcases List.mem_append.1 hy with hy | hy
        · exact h.low y.2 (List.mem_map_of_mem (List.mem_of_mem_take hy))
        · rcases List.mem_cons.1 hy with rfl | hy
          · exact key' b (by simp) hlt
          · exact h.low y.2 (List.mem_map_of_mem (List.mem_of_mem_drop hy))

theorem ins_mem {B : List Press} {p b : Press} : b ∈ ins B p ↔ b = p ∨ b ∈ B := by
  unfold ins
  constructor
  · intro h
    rcases List.mem_append.1 h with h | h
    · exact .inr (List.mem_of_mem_take h)
    · rcases List.mem_cons.1 h with h | h
      · exact .inl h
      · exact .inr (List.mem_of_mem_drop h)
  · rintro (rfl | h)
    · simp
    · rw [← List.take_append_drop (insAt B p.2) B] at h
      rcases List.mem_append.1 h with h | h
      · exact List.mem_append.2 (.inl h)
      · exact List.mem_append.2 (.inr (by simp [h]))

theorem ins_length (B : List Press) (p : Press) : (ins B p).length = B.length + 1 := by
  unfold ins; simp; omega

structure Inv (l : List Nat) (i : Nat) (B : List Press) (Q : List Nat) : Prop where
  effB : ∀ b ∈ B, eff l b.1 = b.2
  effQ : ∀ q ∈ Q, eff l q = 0
  ech : Ech (B.map (·.2))
  len : B.length + Q.length = i
  ltB : ∀ b ∈ B, b.1 < 2 ^ i
  ltQ : ∀ q ∈ Q, q < 2 ^ i
  span : ∀ s, s < 2 ^ i → Sp (B.map (·.1) ++ Q) s
  rise : Rise Q

theorem pow_le {i j : Nat} (h : i ≤ j) : 2 ^ i ≤ 2 ^ j := Nat.pow_le_pow_right (by decide) h

theorem Inv.step {l : List Nat} {i : Nat} {B : List Press} {Q : List Nat} (h : Inv l i B Q) (hi : i < l.length) :
    Inv l (i + 1) (add B Q (2 ^ i, l[i]?.getD 0)).1 (add B Q (2 ^ i, l[i]?.getD 0)).2 := by
  obtain ⟨c, h1, h2⟩ := red1_comb B (2 ^ i, l[i]?.getD 0)
  have hlt : eff (B.map (·.1)) c < 2 ^ i := eff_lt (by simpa using h.ltB) c
  have hmap : eff l (eff (B.map (·.1)) c) = eff (B.map (·.2)) c := by
    rw [eff_map (eff l) (eff_zero l) (eff_xor l), List.map_map]
    congr 1
    exact List.map_congr_left fun b hb => h.effB b hb
  have heff : eff l (red1 B (2 ^ i, l[i]?.getD 0)).1 = (red1 B (2 ^ i, l[i]?.getD 0)).2 := by
    rw [h1, h2, eff_xor, hmap, eff_bit l i hi]; simp [hi]
  have htop : (red1 B (2 ^ i, l[i]?.getD 0)).1.testBit i = true := by
    rw [h1, Nat.testBit_xor, testBit_of_lt hlt]; simp
  have hltp : (red1 B (2 ^ i, l[i]?.getD 0)).1 < 2 ^ (i + 1) := by
    rw [h1]
    exact Nat.xor_lt_two_pow (Nat.pow_lt_pow_right (by decide) (by omega)) (Nat.lt_of_lt_of_le hlt (pow_le (by omega)))
  have hnone := red1_none h.ech (2 ^ i, l[i]?.getD 0)
  have hsp : Sp (B.map (·.1)) (2 ^ i ^^^ (red1 B (2 ^ i, l[i]?.getD 0)).1) := ⟨c, by rw [h1, ← Nat.xor_assoc, Nat.xor_self, Nat.zero_xor]⟩
  generalize hpp : red1 B (2 ^ i, l[i]?.getD 0) = p at heff htop hltp hnone h1 hsp
  have hold : ∀ x, x < 2 ^ i → x < 2 ^ (i + 1) := fun x hx => Nat.lt_of_lt_of_le hx (pow_le (by omega))
  -- what was spanned, and the new one, span all
  have hall : ∀ (L : List Nat), (∀ x ∈ B.map (·.1) ++ Q, Sp L x) → Sp L p.1 → ∀ s, s < 2 ^ (i + 1) → Sp L s := by
    intro L hL hp s hs
    have hsmall : ∀ s, s < 2 ^ i → Sp L s := fun s hs => (h.span s hs).trans hL
    cases hb : s.testBit i with
    | false =>
      refine hsmall s (Nat.lt_pow_two_of_testBit s fun j hj => ?_)
      by_cases e : j = i
      · rw [e]; exact hb
      · exact testBit_of_lt (Nat.lt_of_lt_of_le hs (pow_le (by omega)))
    | true =>
      have : s = (s ^^^ p.1) ^^^ p.1 := (xor_self_right s p.1).symm
      rw [this]
      refine Sp.xor (hsmall _ (Nat.lt_pow_two_of_testBit _ fun j hj => ?_)) hp
      by_cases e : j = i
      · subst e; rw [Nat.testBit_xor, hb, htop]; rfl
      · have hj : i + 1 ≤ j := by omega
        rw [Nat.testBit_xor, testBit_of_lt (Nat.lt_of_lt_of_le hs (pow_le hj)), testBit_of_lt (Nat.lt_of_lt_of_le hltp (pow_le hj))]; rfl
  unfold add
  rw [hpp]
  by_cases h0 : p.2 = 0
  · rw [if_pos h0]
    have hp0 : p.1 ≠ 0 := fun e => by rw [e] at htop; simp at htop
    have hlog : p.1.log2 = i := by
      have a := log2_lt hp0 hltp
      have b := Nat.ge_two_pow_of_testBit htop
      have c := @Nat.lt_log2_self p.1
      have : i < p.1.log2 + 1 := (Nat.pow_lt_pow_iff_right (by decide : 1 < 2)).1 (by omega)
      omega
    refine ⟨h.effB, ?_, h.ech, by simp only [List.length_append, List.length_cons, List.length_nil]; have := h.len; omega, fun b hb => hold _ (h.ltB b hb), ?_, ?_, ?_⟩
    · intro q hq
      rcases List.mem_append.1 hq with hq | hq
      · exact h.effQ q hq
      · simp only [List.mem_singleton] at hq; rw [hq, heff, h0]
    · intro q hq
      rcases List.mem_append.1 hq with hq | hq
      · exact hold _ (h.ltQ q hq)
      · simp only [List.mem_singleton] at hq; rw [hq]; exact hltp
    · refine hall _ (fun x hx => Sp.mem ?_) (Sp.mem (by simp))
      rcases List.mem_append.1 hx with hx | hx
      · exact List.mem_append.2 (.inl hx)
      · exact List.mem_append.2 (.inr (by simp [hx]))
    · refine ⟨fun x hx => ?_, ?_⟩
      · rcases List.mem_append.1 hx with hx | hx
        · exact h.rise.1 x hx
        · simp only [List.mem_singleton] at hx; rw [hx]; exact hp0
      · rw [List.pairwise_append]
        refine ⟨h.rise.2, by simp, fun a ha b hb => ?_⟩
        simp only [List.mem_singleton] at hb; rw [hb, hlog]; exact h.ltQ a ha
  · rw [if_neg h0]
    refine ⟨?_, h.effQ, ech_ins h.ech h0 hnone, by simp only [ins_length]; have := h.len; omega, ?_, fun q hq => hold _ (h.ltQ q hq), ?_, h.rise⟩
    · intro b hb
      rcases ins_mem.1 hb with rfl | hb
      · exact heff
      · exact h.effB b hb
    · intro b hb
      rcases ins_mem.1 hb with rfl | hb
      · exact hltp
      · exact hold _ (h.ltB b hb)
    · refine hall _ (fun x hx => Sp.mem ?_) (Sp.mem ?_)
      · rcases List.mem_append.1 hx with hx | hx
        · obtain ⟨b, hb, rfl⟩ := List.mem_map.1 hx
          exact List.mem_append.2 (.inl (List.mem_map_of_mem (ins_mem.2 (.inr hb))))
        · exact List.mem_append.2 (.inr hx)
      · exact List.mem_append.2 (.inl (List.mem_map_of_mem (ins_mem.2 (.inl rfl))))

theorem inv_to (l : List Nat) : ∀ i, i ≤ l.length → Inv l i (redTo l i).1 (redTo l i).2
  | 0, _ => ⟨by simp [redTo], by simp [redTo], by simp [redTo, Ech], by simp [redTo], by simp [redTo], by simp [redTo], fun s hs => by
      have : s = 0 := by simpa using hs
      rw [this]; exact Sp.zero _, by simp [redTo, Rise]⟩
  | i + 1, hi => (inv_to l i (by omega)).step (by omega)

def basisOf (l : List Nat) : List Press := (redTo l l.length).1
def quietOf (l : List Nat) : List Nat := (redTo l l.length).2
theorem inv_of (l : List Nat) : Inv l l.length (basisOf l) (quietOf l) := inv_to l _ (Nat.le_refl _)

end Lt

namespace Lt

/-- what solve comes to: a set, and what is left of the target -/
def solveOf (l : List Nat) (t : Nat) : Press := red1 (basisOf l) (0, t)

theorem effB_map (l : List Nat) (c : Nat) : eff l (eff ((basisOf l).map (·.1)) c) = eff ((basisOf l).map (·.2)) c := by
  rw [eff_map (eff l) (eff_zero l) (eff_xor l), List.map_map]
  congr 1
  exact List.map_congr_left fun b hb => (inv_of l).effB b hb

theorem solve_lt (l : List Nat) (t : Nat) : (solveOf l t).1 < 2 ^ l.length := by
  obtain ⟨c, h1, -⟩ := red1_comb (basisOf l) (0, t)
  unfold solveOf; rw [h1]
  simp only [Nat.zero_xor]
  exact eff_lt (fun x hx => by obtain ⟨b, hb, rfl⟩ := List.mem_map.1 hx; exact (inv_of l).ltB b hb) c

theorem solve_sound (l : List Nat) (t : Nat) (h : (solveOf l t).2 = 0) : eff l (solveOf l t).1 = t := by
  obtain ⟨c, h1, h2⟩ := red1_comb (basisOf l) (0, t)
  unfold solveOf at *
  rw [h2] at h
  rw [h1]; simp only [Nat.zero_xor]
  rw [effB_map]
  have := congrArg (fun z => z ^^^ eff ((basisOf l).map (·.2)) c) h
  simp only [Nat.xor_assoc, Nat.xor_self, Nat.xor_zero, Nat.zero_xor] at this
  exact this.symm

/-- each set is a sum of the basis' sets and of quiet sets -/
theorem set_parts (l : List Nat) {s : Nat} (hs : s < 2 ^ l.length) : ∃ a b, Sp ((basisOf l).map (·.1)) a ∧ Sp (quietOf l) b ∧ s = a ^^^ b := by
  obtain ⟨c, rfl⟩ := (inv_of l).span s hs
  generalize (basisOf l).map (·.1) = B
  generalize quietOf l = Q
  clear hs
  induction B generalizing c with
  | nil => exact ⟨0, eff Q c, Sp.zero _, ⟨c, rfl⟩, by simp⟩
  | cons x B ih =>
    obtain ⟨a, b, ha, hb, h⟩ := ih (c / 2)
    refine ⟨(if c.testBit 0 then x else 0) ^^^ a, b, Sp.xor ?_ (ha.sub (by simp +contextual)), hb, ?_⟩
    · split
      · exact Sp.mem (by simp)
      · exact Sp.zero _
    · simp only [List.cons_append, eff, h, Nat.xor_assoc]

theorem quiet_eff (l : List Nat) {b : Nat} (h : Sp (quietOf l) b) : eff l b = 0 := by
  obtain ⟨c, rfl⟩ := h
  rw [eff_map (eff l) (eff_zero l) (eff_xor l), List.map_congr_left (g := fun _ => 0) (fun q hq => (inv_of l).effQ q hq)]
  generalize quietOf l = Q
  induction Q generalizing c with
  | nil => rfl
  | cons x Q ih => simp [eff, ih]

/-- an effect is a sum of the basis' effects -/
theorem eff_span (l : List Nat) (s : Nat) : Sp ((basisOf l).map (·.2)) (eff l s) := by
  rw [← eff_mod]
  obtain ⟨a, b, ha, hb, h⟩ := set_parts l (Nat.mod_lt s (Nat.two_pow_pos l.length))
  rw [h, eff_xor, quiet_eff l hb, Nat.xor_zero]
  obtain ⟨c, rfl⟩ := ha
  exact ⟨c, effB_map l c⟩

theorem solve_iff (l : List Nat) (t : Nat) : (solveOf l t).2 = 0 ↔ ∃ s, eff l s = t := by
  constructor
  · intro h; exact ⟨_, solve_sound l t h⟩
  · rintro ⟨s, rfl⟩
    obtain ⟨c, -, h2⟩ := red1_comb (basisOf l) (0, eff l s)
    refine (inv_of l).ech.none (x := (solveOf l (eff l s)).2) ?_ ?_
    · unfold solveOf; rw [h2]; exact Sp.xor (eff_span l s) ⟨c, rfl⟩
    · intro b hb
      obtain ⟨p, hp, rfl⟩ := List.mem_map.1 hb
      exact red1_none (inv_of l).ech _ p hp

/-- the quiet sets are the sums of those found -/
theorem quiet_span (l : List Nat) {s : Nat} (hs : s < 2 ^ l.length) (h0 : eff l s = 0) : Sp (quietOf l) s := by
  obtain ⟨a, b, ⟨c, rfl⟩, hb, h⟩ := set_parts l hs
  have hz : eff ((basisOf l).map (·.2)) c = 0 := by
    rw [h, eff_xor, quiet_eff l hb, Nat.xor_zero, effB_map] at h0; exact h0
  have hfree := (inv_of l).ech.free hz
  have : eff ((basisOf l).map (·.1)) c = 0 := by
    rw [eff_congr _ c 0 (fun i hi => by rw [hfree i (by simpa using hi)]; simp), eff_zero]
  rw [this, Nat.zero_xor] at h
  rw [h]; exact hb

/-! ### either or -/
theorem dual {E : List Nat} {k : Nat} (hE : Ech E) (hlt : ∀ x ∈ E, x < 2 ^ k) {r : Nat} (hr : r ≠ 0) (hrk : r < 2 ^ k) (hn : ∀ b ∈ E, r.testBit b.log2 = false) :
    ∃ q, q < 2 ^ k ∧ dot k q r = true ∧ ∀ b ∈ E, dot k q b = false := by
  induction E with
  | nil => exact ⟨2 ^ r.log2, Nat.pow_lt_pow_right (by decide) (log2_lt hr hrk), by rw [dot_bit k _ r (log2_lt hr hrk), testBit_log2 hr], by simp⟩
  | cons b E ih =>
    obtain ⟨q, h1, h2, h3⟩ := ih hE.tail (fun x hx => hlt x (by simp [hx])) (fun x hx => hn x (by simp [hx]))
    have hb := hE.1 b (by simp)
    have hbk : b.log2 < k := log2_lt hb (hlt b (by simp))
    cases hd : dot k q b with
    | false =>
      refine ⟨q, h1, h2, fun x hx => ?_⟩
      rcases List.mem_cons.1 hx with rfl | hx
      · exact hd
      · exact h3 x hx
    | true =>
      refine ⟨q ^^^ 2 ^ b.log2, Nat.xor_lt_two_pow h1 (Nat.pow_lt_pow_right (by decide) hbk), ?_, fun x hx => ?_⟩
      · rw [dot_xor_left, dot_bit k _ r hbk, h2, hn b (by simp)]; rfl
      · rw [dot_xor_left, dot_bit k _ x hbk]
        rcases List.mem_cons.1 hx with rfl | hx
        · rw [hd, testBit_log2 hb]; rfl
        · rw [h3 x hx, testBit_of_lt (hE.low x hx)]; rfl

/-- all rows below 2 to the length -/
def Small (l : List Nat) : Prop := ∀ r ∈ l, r < 2 ^ l.length

theorem basis_small {l : List Nat} (hl : Small l) : ∀ x ∈ (basisOf l).map (·.2), x < 2 ^ l.length := by
  intro x hx
  obtain ⟨b, hb, rfl⟩ := List.mem_map.1 hx
  rw [← (inv_of l).effB b hb]; exact eff_lt hl _

theorem dot_span {k q : Nat} {E : List Nat} (h : ∀ b ∈ E, dot k q b = false) {x : Nat} (hx : Sp E x) : dot k q x = false := by
  obtain ⟨c, rfl⟩ := hx
  induction E generalizing c with
  | nil => exact dot_zero k q
  | cons b E ih =>
    simp only [eff, dot_xor]
    rw [ih (fun x hx => h x (by simp [hx]))]
    split
    · rw [h b (by simp)]; rfl
    · rw [dot_zero]; rfl

/-- no set has the target as its effect: then a quiet set among those found has an odd number of lamps in common with it -/
theorem refute_of {l : List Nat} (hl : Small l) (hs : Sym l) {t : Nat} (ht : t < 2 ^ l.length) (h : ¬ ∃ s, eff l s = t) : ∃ q ∈ quietOf l, dot l.length q t = true := by
  obtain ⟨c, -, h2⟩ := red1_comb (basisOf l) (0, t)
  have hr0 : (solveOf l t).2 ≠ 0 := fun e => h ((solve_iff l t).1 e)
  have hcs : Sp ((basisOf l).map (·.2)) (eff ((basisOf l).map (·.2)) c) := ⟨c, rfl⟩
  have hr : (solveOf l t).2 = t ^^^ eff ((basisOf l).map (·.2)) c := h2
  obtain ⟨q, hq, hqr, hqb⟩ := dual (inv_of l).ech (basis_small hl) hr0 (by rw [hr]; exact Nat.xor_lt_two_pow ht (hcs.lt (basis_small hl))) (fun b hb => by
    obtain ⟨p, hp, rfl⟩ := List.mem_map.1 hb
    exact red1_none (inv_of l).ech _ p hp)
  rw [hr, dot_xor, dot_span hqb hcs, Bool.xor_false] at hqr
  -- q is quiet
  have hquiet : eff l q = 0 := by
    apply Nat.eq_of_testBit_eq; intro j
    rw [Nat.zero_testBit]
    by_cases hj : j < l.length
    · have := dot_eff_sym hs q (2 ^ j)
      rw [dot_span hqb (eff_span l _), dot_bit _ _ _ hj] at this
      exact this.symm
    · exact testBit_of_lt (Nat.lt_of_lt_of_le (eff_lt hl q) (pow_le (by omega)))
  obtain ⟨c', hc'⟩ := quiet_span l hq hquiet
  -- one of its parts has an odd number in common
  apply Classical.byContradiction
  intro hno
  have : dot l.length t q = false := dot_span (E := quietOf l) (fun b hb => by
    cases hd : dot l.length t b with
    | false => rfl
    | true => exact absurd ⟨b, hb, by rw [dot_comm]; exact hd⟩ hno) ⟨c', hc'⟩
  rw [dot_comm, hqr] at this
  exact absurd this (by decide)

theorem not_refuted {l : List Nat} (hs : Sym l) {t s q : Nat} (he : eff l s = t) (hq : eff l q = 0) : dot l.length q t = false := by
  rw [← he, dot_eff_sym hs, hq, dot_zero]

theorem xsum_ones (n q : Nat) : xsum n (fun i => q.testBit i) = dot n q (2 ^ n - 1) := by
  unfold dot; exact xsum_congr fun i hi => by simp [Nat.testBit_two_pow_sub_one, hi]

/-- Sutner: with own all lamps go on -/
theorem sutner {l : List Nat} (hl : Small l) (hs : Sym l) (ho : ∀ i, i < l.length → (l[i]?.getD 0).testBit i = true) : ∃ s, eff l s = 2 ^ l.length - 1 := by
  apply Classical.byContradiction
  intro h
  obtain ⟨q, hq, hd⟩ := refute_of hl hs (t := 2 ^ l.length - 1) (by have := Nat.two_pow_pos l.length; omega) h
  rw [← xsum_ones, ← dot_self hs ho, (inv_of l).effQ q hq, dot_zero] at hd
  exact absurd hd (by decide)

end Lt

namespace Lt

/-! ### fewer lamps -/
def pop (x : Nat) : Nat := popN 64 x
/-- a set has fewer lamps than another one, or as many and is less -/
def less (a b : Nat) : Bool := decide (pop a < pop b) || (decide (pop a = pop b) && decide (a < b))

theorem less_irrefl (a : Nat) : less a a = false := by simp [less]
theorem less_trans {a b c : Nat} (h : less a b = true) (k : less b c = true) : less a c = true := by
  simp only [less, Bool.or_eq_true, Bool.and_eq_true, decide_eq_true_eq] at *; omega
theorem less_total {a b : Nat} (h : less a b = false) (k : less b a = false) : a = b := by
  simp only [less, Bool.or_eq_false_iff, Bool.and_eq_false_iff, decide_eq_false_iff_not] at *; omega
theorem not_less_trans {a b c : Nat} (h : less b a = false) (k : less c b = false) : less c a = false := by
  simp only [less, Bool.or_eq_false_iff, Bool.and_eq_false_iff, decide_eq_false_iff_not] at *; omega

/-- the best of the sums from a start on: after k sums -/
def bestTo (Q : List Nat) (s : Nat) : Nat → Nat
  | 0 => s
  | k + 1 => if less (s ^^^ eff Q k) (bestTo Q s k) then s ^^^ eff Q k else bestTo Q s k

theorem bestTo_form (Q : List Nat) (s : Nat) : ∀ k, ∃ c, bestTo Q s k = s ^^^ eff Q c
  | 0 => ⟨0, by simp [bestTo, eff_zero]⟩
  | k + 1 => by
    simp only [bestTo]; split
    · exact ⟨k, rfl⟩
    · exact bestTo_form Q s k

theorem bestTo_least (Q : List Nat) (s : Nat) : ∀ k c, c < k → less (s ^^^ eff Q c) (bestTo Q s k) = false
  | 0, _, h => by omega
  | k + 1, c, h => by
    simp only [bestTo]
    split
    · rename_i hl
      by_cases e : c = k
      · subst e; exact less_irrefl _
      · have := bestTo_least Q s k c (by omega)
        cases hc : less (s ^^^ eff Q c) (s ^^^ eff Q k) with
        | false => rfl
        | true => rw [less_trans hc hl] at this; exact absurd this (by decide)
    · rename_i hl
      by_cases e : c = k
      · subst e; simpa using hl
      · exact bestTo_least Q s k c (by omega)

/-- the best set with an effect -/
def fewOf (l : List Nat) (t : Nat) : Nat := bestTo (quietOf l) (solveOf l t).1 (2 ^ (quietOf l).length)

structure IsBest (l : List Nat) (t s : Nat) : Prop where
  lt : s < 2 ^ l.length
  eff : eff l s = t
  least : ∀ s', s' < 2 ^ l.length → Lt.eff l s' = t → less s' s = false

theorem IsBest.eq {l : List Nat} {t a b : Nat} (ha : IsBest l t a) (hb : IsBest l t b) : a = b :=
  less_total (hb.least a ha.lt ha.eff) (ha.least b hb.lt hb.eff)

theorem fewOf_best {l : List Nat} {t : Nat} (h : (solveOf l t).2 = 0) : IsBest l t (fewOf l t) := by
  have hs := solve_sound l t h
  have hlt := solve_lt l t
  obtain ⟨c, hc⟩ := bestTo_form (quietOf l) (solveOf l t).1 (2 ^ (quietOf l).length)
  refine ⟨?_, ?_, ?_⟩
  · unfold fewOf; rw [hc]; exact Nat.xor_lt_two_pow hlt (eff_lt (inv_of l).ltQ c)
  · unfold fewOf; rw [hc, eff_xor, hs, quiet_eff l ⟨c, rfl⟩, Nat.xor_zero]
  · intro s' hs' he
    have hq : Sp (quietOf l) ((solveOf l t).1 ^^^ s') := quiet_span l (Nat.xor_lt_two_pow hlt hs') (by rw [eff_xor, hs, he, Nat.xor_self])
    obtain ⟨d, hd⟩ := hq
    have h2 := bestTo_least (quietOf l) (solveOf l t).1 (2 ^ (quietOf l).length) (d % 2 ^ (quietOf l).length) (Nat.mod_lt _ (Nat.two_pow_pos _))
    rw [eff_mod, ← hd, ← Nat.xor_assoc, Nat.xor_self, Nat.zero_xor] at h2
    exact h2

/-! ### the reference: over all sets, one after the other -/
/-- the best of the sets below k with the effect t, and -1 before there is one -/
def refTo (l : List Nat) (t : Nat) : Nat → Int
  | 0 => -1
  | k + 1 => if eff l k = t ∧ (refTo l t k < 0 ∨ pop k < pop (refTo l t k).toNat) then (k : Int) else refTo l t k

theorem refTo_spec (l : List Nat) (t : Nat) : ∀ k, (refTo l t k = -1 ∧ ∀ s, s < k → eff l s ≠ t) ∨
    (∃ s, s < k ∧ refTo l t k = (s : Int) ∧ eff l s = t ∧ ∀ s', s' < k → eff l s' = t → less s' s = false)
  | 0 => .inl ⟨rfl, fun s h => by omega⟩
  | k + 1 => by
    simp only [refTo]
    rcases refTo_spec l t k with ⟨h1, h2⟩ | ⟨s, hs, h1, h2, h3⟩
    · rw [h1]
      by_cases he : eff l k = t
      · rw [if_pos ⟨he, .inl (by decide)⟩]
        refine .inr ⟨k, by omega, rfl, he, fun s' hs' he' => ?_⟩
        by_cases e : s' = k
        · subst e; exact less_irrefl _
        · exact absurd he' (h2 s' (by omega))
      · rw [if_neg (fun h => he h.1)]
        refine .inl ⟨rfl, fun s hs => ?_⟩
        by_cases e : s = k
        · subst e; exact he
        · exact h2 s (by omega)
    · rw [h1]
      by_cases hc : eff l k = t ∧ (((s : Int) < 0) ∨ pop k < pop ((s : Int)).toNat)
      · rw [if_pos hc]
        obtain ⟨he, hc⟩ := hc
        have hp : pop k < pop s := by
          rcases hc with hc | hc
          · omega
          · simpa using hc
        refine .inr ⟨k, by omega, rfl, he, fun s' hs' he' => ?_⟩
        by_cases e : s' = k
        · subst e; exact less_irrefl _
        · refine not_less_trans (b := s) ?_ (h3 s' (by omega) he')
          simp only [less, Bool.or_eq_false_iff, Bool.and_eq_false_iff, decide_eq_false_iff_not]; omega
      · rw [if_neg hc]
        refine .inr ⟨s, by omega, rfl, h2, fun s' hs' he' => ?_⟩
        by_cases e : s' = k
        · subst e
          simp only [less, Bool.or_eq_false_iff, Bool.and_eq_false_iff, decide_eq_false_iff_not]
          simp only [he', true_and, Int.toNat_natCast] at hc
          omega
        · exact h3 s' (by omega) he'

/-- the reference's answer is the program's -/
theorem refTo_best {l : List Nat} {t : Nat} : (refTo l t (2 ^ l.length) = -1 ∧ (solveOf l t).2 ≠ 0) ∨ (refTo l t (2 ^ l.length) = (fewOf l t : Int) ∧ (solveOf l t).2 = 0) := by
  rcases refTo_spec l t (2 ^ l.length) with ⟨h1, h2⟩ | ⟨s, hs, h1, h2, h3⟩
  · refine .inl ⟨h1, fun h => ?_⟩
    exact h2 _ (solve_lt l t) (solve_sound l t h)
  · have hz : (solveOf l t).2 = 0 := (solve_iff l t).2 ⟨s, h2⟩
    refine .inr ⟨?_, hz⟩
    rw [h1, (fewOf_best hz).eq ⟨hs, h2, h3⟩]

/-! ### how many -/
theorem eff_inj {l : List Nat} (h : Ech l) {a b : Nat} (ha : a < 2 ^ l.length) (hb : b < 2 ^ l.length) (he : eff l a = eff l b) : a = b := by
  have : eff l (a ^^^ b) = 0 := by rw [eff_xor, he, Nat.xor_self]
  have hf := h.free this
  apply Nat.eq_of_testBit_eq; intro i
  by_cases hi : i < l.length
  · have := hf i hi
    rw [Nat.testBit_xor] at this
    revert this; cases a.testBit i <;> cases b.testBit i <;> simp
  · rw [testBit_of_lt (Nat.lt_of_lt_of_le ha (pow_le (by omega))), testBit_of_lt (Nat.lt_of_lt_of_le hb (pow_le (by omega)))]

/-- how many of the numbers below k are told by p -/
def count (p : Nat → Bool) : Nat → Nat
  | 0 => 0
  | k + 1 => count p k + if p k then 1 else 0

theorem count_filter (p : Nat → Bool) (k : Nat) : count p k = ((List.range k).filter p).length := by
  induction k with
  | zero => rfl
  | succ k ih => rw [count, ih, List.range_succ, List.filter_append]; cases h : p k <;> simp [h]

theorem count_congr {p q : Nat → Bool} {k : Nat} (h : ∀ i, i < k → p i = q i) : count p k = count q k := by
  induction k with
  | zero => rfl
  | succ k ih => rw [count, count, ih (fun i hi => h i (by omega)), h k (by omega)]

/-- as many targets are effects as the basis has sums -/
theorem count_reach {l : List Nat} (hl : Small l) : count (fun t => decide ((solveOf l t).2 = 0)) (2 ^ l.length) = 2 ^ (basisOf l).length := by
  have hE := (inv_of l).ech
  rw [count_filter]
  have hlen : ((basisOf l).map (·.2)).length = (basisOf l).length := by simp
  have hn1 : ((List.range (2 ^ (basisOf l).length)).map (eff ((basisOf l).map (·.2)))).Nodup := by
    rw [List.nodup_iff_pairwise_ne, List.pairwise_map]
    refine List.Pairwise.imp_of_mem ?_ (List.nodup_iff_pairwise_ne.1 List.nodup_range)
    intro a b ha hb hne he
    exact hne (eff_inj hE (by rw [hlen]; simpa using ha) (by rw [hlen]; simpa using hb) he)
  have hn2 : ((List.range (2 ^ l.length)).filter (fun t => decide ((solveOf l t).2 = 0))).Nodup := List.nodup_range.filter _
  have hp : ((List.range (2 ^ (basisOf l).length)).map (eff ((basisOf l).map (·.2)))).Perm ((List.range (2 ^ l.length)).filter (fun t => decide ((solveOf l t).2 = 0))) := by
    refine (List.perm_ext_iff_of_nodup hn1 hn2).2 fun x => ?_
    simp only [List.mem_map, List.mem_range, List.mem_filter, decide_eq_true_eq]
    constructor
    · rintro ⟨c, hc, rfl⟩
      refine ⟨eff_lt (basis_small hl) c, (solve_iff l _).2 ⟨_, effB_map l c⟩⟩
    · rintro ⟨hx, hz⟩
      obtain ⟨s, rfl⟩ := (solve_iff l x).1 hz
      obtain ⟨c, hc⟩ := eff_span l s
      exact ⟨c % 2 ^ (basisOf l).length, Nat.mod_lt _ (Nat.two_pow_pos _), by rw [hc, ← hlen, eff_mod]⟩
  rw [← hp.length_eq]; simp

end Lt

namespace Lt

/-! ### the list made tidy -/
def desc (l : List Nat) : List Nat := l.mergeSort (fun x y => decide (y ≤ x))
def asc (l : List Nat) : List Nat := l.mergeSort (fun x y => decide (x ≤ y))
def minRed (out : List Nat) (s : Nat) : Nat := out.foldl (fun a t => min a (a ^^^ t)) s
def clearTop (r t : Nat) : Nat := if t &&& 2 ^ r.log2 = 0 then t else t ^^^ r
def tidyStep (out : List Nat) (s : Nat) : List Nat := if minRed out s = 0 then out else desc (out.map (clearTop (minRed out s)) ++ [minRed out s])
def tidyTo (l : List Nat) : List Nat := l.foldl tidyStep []
def tidy (l : List Nat) : List Nat := asc (tidyTo l)

theorem desc_length (l : List Nat) : (desc l).length = l.length := by simp [desc]
theorem asc_length (l : List Nat) : (asc l).length = l.length := by simp [asc]
theorem mem_desc {l : List Nat} {x : Nat} : x ∈ desc l ↔ x ∈ l := by simp [desc]
theorem mem_asc {l : List Nat} {x : Nat} : x ∈ asc l ↔ x ∈ l := by simp [asc]

theorem minRed_lt {m : Nat} : ∀ (out : List Nat) (s : Nat), s < 2 ^ m → minRed out s < 2 ^ m
  | [], s, hs => hs
  | t :: out, s, hs => minRed_lt out _ (Nat.lt_of_le_of_lt (Nat.min_le_left _ _) hs)

theorem minRed_snoc (out : List Nat) (s t : Nat) : minRed (out ++ [t]) s = min (minRed out s) (minRed out s ^^^ t) := by simp [minRed, List.foldl_append]

theorem clearTop_lt {m r t : Nat} (hr : r < 2 ^ m) (ht : t < 2 ^ m) : clearTop r t < 2 ^ m := by
  unfold clearTop; split
  · exact ht
  · exact Nat.xor_lt_two_pow ht hr

theorem tidyStep_lt {m : Nat} {out : List Nat} {s : Nat} (ho : ∀ x ∈ out, x < 2 ^ m) (hs : s < 2 ^ m) : ∀ x ∈ tidyStep out s, x < 2 ^ m := by
  unfold tidyStep
  split
  · exact ho
  · intro x hx
    rw [mem_desc, List.mem_append, List.mem_map] at hx
    rcases hx with ⟨t, ht, rfl⟩ | hx
    · exact clearTop_lt (minRed_lt _ _ hs) (ho t ht)
    · rw [List.mem_singleton] at hx; subst hx; exact minRed_lt _ _ hs

theorem tidyStep_length (out : List Nat) (s : Nat) : (tidyStep out s).length ≤ out.length + 1 := by
  unfold tidyStep
  split
  · omega
  · rw [desc_length]; simp

theorem tidyTo_snoc (l : List Nat) (s : Nat) : tidyTo (l ++ [s]) = tidyStep (tidyTo l) s := by simp [tidyTo, List.foldl_append]

theorem tidyTo_facts {m : Nat} (l : List Nat) (hl : ∀ x ∈ l, x < 2 ^ m) : (∀ x ∈ tidyTo l, x < 2 ^ m) ∧ (tidyTo l).length ≤ l.length := by
  suffices h : ∀ (l out : List Nat), (∀ x ∈ out, x < 2 ^ m) → (∀ x ∈ l, x < 2 ^ m) → (∀ x ∈ l.foldl tidyStep out, x < 2 ^ m) ∧ (l.foldl tidyStep out).length ≤ out.length + l.length by
    have := h l [] (by simp) hl
    simpa [tidyTo] using this
  intro l
  induction l with
  | nil => intro out ho _; exact ⟨ho, by simp⟩
  | cons s l ih =>
    intro out ho hl
    have h1 := ih (tidyStep out s) (tidyStep_lt ho (hl s List.mem_cons_self)) (fun x hx => hl x (List.mem_cons_of_mem _ hx))
    refine ⟨h1.1, ?_⟩
    have := tidyStep_length out s
    have h2 := h1.2
    simp only [List.foldl_cons, List.length_cons] at *
    omega

end Lt

namespace Lt

/-! ### polynomials modulo 2, their coefficients as bits -/
def plen (p : Nat) : Nat := if p = 0 then 0 else p.log2 + 1

theorem plen_zero : plen 0 = 0 := rfl
theorem lt_plen (p : Nat) : p < 2 ^ plen p := by
  unfold plen; split
  · subst_vars; decide
  · exact Nat.lt_log2_self
theorem plen_le {p k : Nat} (h : p < 2 ^ k) : plen p ≤ k := by
  unfold plen; split
  · omega
  · exact log2_lt (by assumption) h
theorem plen_top {p : Nat} (h : p ≠ 0) : p.testBit (plen p - 1) = true := by
  unfold plen; rw [if_neg h]; simpa using testBit_log2 h
theorem bit_plen {p j : Nat} (h : plen p ≤ j) : p.testBit j = false :=
  testBit_of_lt (Nat.lt_of_lt_of_le (lt_plen p) (Nat.pow_le_pow_right (by decide) h))
theorem plen_of {p n : Nat} (hlow : ∀ j, n ≤ j → p.testBit j = false) (htop : n = 0 ∨ p.testBit (n - 1) = true) : plen p = n := by
  have h1 : p < 2 ^ n := Nat.lt_pow_two_of_testBit _ (fun j hj => hlow j hj)
  have h2 := plen_le h1
  rcases htop with rfl | ht
  · omega
  · by_cases hn : n = 0
    · omega
    · have : ¬ plen p ≤ n - 1 := fun h => by rw [bit_plen h] at ht; cases ht
      omega
theorem plen_pos {p : Nat} (h : 0 < plen p) : p ≠ 0 := by rintro rfl; simp [plen] at h
theorem plen_eq_zero {p : Nat} (h : plen p = 0) : p = 0 := by
  have := lt_plen p; rw [h] at this; omega

/-- the sum of a polynomial and another one, so much higher -/
def psum (p q h : Nat) : Nat := p ^^^ (q <<< h)
theorem psum_bit (p q h j : Nat) : (psum p q h).testBit j = (p.testBit j ^^ (decide (h ≤ j) && q.testBit (j - h))) := by
  unfold psum; rw [Nat.testBit_xor, Nat.testBit_shiftLeft]
theorem psum_plen (p q h : Nat) : plen (psum p q h) ≤ max (plen p) (plen q + h) := by
  apply plen_le
  apply Nat.lt_pow_two_of_testBit
  intro j hj
  rw [psum_bit, bit_plen (by omega), bit_plen (p := q) (by omega)]; simp

/-- the first k coefficients of the second polynomial added -/
def sumTo (p q h k : Nat) (j : Nat) : Bool := p.testBit j ^^ (decide (h ≤ j) && decide (j < h + k) && q.testBit (j - h))

/-- f(k) of x, or of x + 1 -/
def pathTo (more : Bool) : Nat → Nat × Nat
  | 0 => (0, 1)
  | k + 1 => ((pathTo more k).2, if more then psum (psum (pathTo more k).1 (pathTo more k).2 1) (pathTo more k).2 0 else psum (pathTo more k).1 (pathTo more k).2 1)
def pathOf (more : Bool) (k : Nat) : Nat := if k = 0 then 0 else (pathTo more (k - 1)).2

/-- the rest of a division; the greatest common divisor -/
def remTo (b : Nat) : Nat → Nat → Nat
  | 0, a => a
  | f + 1, a => if plen b ≤ plen a then remTo b f (psum a b (plen a - plen b)) else a
def rem (a b : Nat) : Nat := remTo b (plen a) a
def gcdTo : Nat → Nat → Nat → Nat
  | 0, a, _ => a
  | f + 1, a, b => if b = 0 then a else gcdTo f b (rem a b)
def gcdP (a b : Nat) : Nat := gcdTo (plen b) a b

theorem psum_less {a b : Nat} (hb : b ≠ 0) (h : plen b ≤ plen a) : plen (psum a b (plen a - plen b)) < plen a := by
  have hbp : 0 < plen b := by unfold plen; rw [if_neg hb]; omega
  have ha : a ≠ 0 := plen_pos (by omega)
  have h1 : psum a b (plen a - plen b) < 2 ^ (plen a - 1) := by
    apply Nat.lt_pow_two_of_testBit
    intro j hj
    rw [psum_bit]
    by_cases e : j = plen a - 1
    · subst e
      rw [plen_top ha, show plen a - 1 - (plen a - plen b) = plen b - 1 by omega, plen_top hb]
      have : plen a - plen b ≤ plen a - 1 := by omega
      simp [this]
    · rw [bit_plen (by omega), bit_plen (p := b) (by omega)]; simp
  have := plen_le h1
  omega

theorem remTo_step {a b f : Nat} (hb : b ≠ 0) (hf : plen a ≤ f) (h : plen b ≤ plen a) : remTo b f a = remTo b (plen (psum a b (plen a - plen b))) (psum a b (plen a - plen b)) := by
  -- any fuel that is at least the length will do
  suffices hs : ∀ (n f g a : Nat), plen a ≤ n → plen a ≤ f → plen a ≤ g → remTo b f a = remTo b g a by
    have hlt := psum_less hb h
    cases f with
    | zero => omega
    | succ f =>
      rw [remTo, if_pos h]
      exact hs _ _ _ _ (Nat.le_refl _) (by omega) (Nat.le_refl _)
  intro n
  induction n with
  | zero =>
    intro f g a hn hf hg
    have h0 : plen a = 0 := by omega
    have : ¬ plen b ≤ plen a := by
      have : 0 < plen b := by unfold plen; rw [if_neg hb]; omega
      omega
    cases f <;> cases g <;> simp [remTo, this]
  | succ n ih =>
    intro f g a hn hf hg
    have hbp : 0 < plen b := by unfold plen; rw [if_neg hb]; omega
    by_cases hle : plen b ≤ plen a
    · have hlt := psum_less hb hle
      cases f with
      | zero => omega
      | succ f =>
        cases g with
        | zero => omega
        | succ g =>
          rw [remTo, remTo, if_pos hle, if_pos hle]
          exact ih _ _ _ (by omega) (by omega) (by omega)
    · cases f <;> cases g <;> simp [remTo, hle]

theorem rem_step {a b : Nat} (hb : b ≠ 0) (h : plen b ≤ plen a) : rem a b = rem (psum a b (plen a - plen b)) b := remTo_step hb (Nat.le_refl _) h
theorem rem_end {a b : Nat} (h : plen a < plen b) : rem a b = a := by
  unfold rem
  have : ¬ plen b ≤ plen a := by omega
  cases plen a <;> simp [remTo] <;> omega

theorem rem_less {b : Nat} (hb : b ≠ 0) : ∀ (n a : Nat), plen a ≤ n → plen (rem a b) < plen b
  | 0, a, hn => by
    have hbp : 0 < plen b := by unfold plen; rw [if_neg hb]; omega
    rw [rem_end (by omega)]; omega
  | n + 1, a, hn => by
    by_cases h : plen b ≤ plen a
    · rw [rem_step hb h]
      exact rem_less hb n _ (by have := psum_less hb h; omega)
    · rw [rem_end (by omega)]; omega

theorem gcdTo_fuel : ∀ (n f g a b : Nat), plen b ≤ n → plen b ≤ f → plen b ≤ g → gcdTo f a b = gcdTo g a b
  | n, f, g, a, b, hn, hf, hg => by
    by_cases hb : b = 0
    · subst hb
      cases f <;> cases g <;> simp [gcdTo]
    · have hbp : 0 < plen b := by unfold plen; rw [if_neg hb]; omega
      have hl := rem_less hb _ a (Nat.le_refl _)
      cases n with
      | zero => omega
      | succ n =>
        cases f with
        | zero => omega
        | succ f =>
          cases g with
          | zero => omega
          | succ g =>
            rw [gcdTo, gcdTo, if_neg hb, if_neg hb]
            exact gcdTo_fuel n f g b (rem a b) (by omega) (by omega) (by omega)

theorem gcdP_zero (a : Nat) : gcdP a 0 = a := rfl
theorem gcdP_step {a b : Nat} (hb : b ≠ 0) : gcdP a b = gcdP b (rem a b) := by
  have hl := rem_less hb _ a (Nat.le_refl _)
  unfold gcdP
  have hbp : 0 < plen b := by unfold plen; rw [if_neg hb]; omega
  obtain ⟨n, hn⟩ : ∃ n, plen b = n + 1 := ⟨plen b - 1, by omega⟩
  rw [hn, gcdTo, if_neg hb]
  exact gcdTo_fuel n _ _ _ _ (by omega) (by omega) (Nat.le_refl _)

end Lt

namespace Lt
theorem pathTo_plen (more : Bool) : ∀ k, plen (pathTo more k).1 ≤ k ∧ plen (pathTo more k).2 ≤ k + 1
  | 0 => by
    have h1 : plen (pathTo more 0).1 = 0 := rfl
    have h2 : plen (pathTo more 0).2 = 1 := by show plen 1 = 1; decide
    omega
  | k + 1 => by
    obtain ⟨h1, h2⟩ := pathTo_plen more k
    have h3 := psum_plen (pathTo more k).1 (pathTo more k).2 1
    have h4 := psum_plen (psum (pathTo more k).1 (pathTo more k).2 1) (pathTo more k).2 0
    refine ⟨by simpa [pathTo] using h2, ?_⟩
    simp only [pathTo]
    split <;> omega
theorem pathOf_plen (more : Bool) (k : Nat) : plen (pathOf more k) ≤ k := by
  unfold pathOf
  split
  · simp [plen]
  · have := (pathTo_plen more (k - 1)).2; omega
theorem rem_plen {a b : Nat} (hb : b ≠ 0) : plen (rem a b) < plen b := rem_less hb _ a (Nat.le_refl _)
end Lt

namespace Lt
theorem gcdP_plen' : ∀ (n a b : Nat), plen b ≤ n → plen (gcdP a b) ≤ max (plen a) (plen b)
  | n, a, b, hn => by
    by_cases hb : b = 0
    · subst hb; rw [gcdP_zero]; omega
    · have hl := rem_plen (a := a) hb
      rw [gcdP_step hb]
      cases n with
      | zero => omega
      | succ n =>
        have := gcdP_plen' n b (rem a b) (by omega)
        omega
theorem gcdP_plen (a b : Nat) : plen (gcdP a b) ≤ max (plen a) (plen b) := gcdP_plen' _ a b (Nat.le_refl _)
end Lt

namespace Lt

/-! ### what the tidied list is: the reduced echelon of the span -/
theorem min_xor (a t : Nat) : min a (a ^^^ t) = if a ^^^ t < a then a ^^^ t else a := by
  by_cases h : a ^^^ t < a
  · rw [if_pos h]; exact Nat.min_eq_right (Nat.le_of_lt h)
  · rw [if_neg h]; exact Nat.min_eq_left (Nat.le_of_not_lt h)

theorem minRed_red1 (out : List Nat) (s : Nat) : minRed out s = (red1 (out.map fun t => (0, t)) (0, s)).2 := by
  induction out generalizing s with
  | nil => rfl
  | cons t out ih =>
    have h : minRed (t :: out) s = minRed out (min s (s ^^^ t)) := rfl
    rw [h, ih, min_xor]
    simp only [List.map_cons, red1]
    split <;> simp

theorem snd_pairs (out : List Nat) : (out.map fun t => ((0, t) : Press)).map (·.2) = out := by
  rw [List.map_map]; exact List.map_id' out

theorem minRed_comb (out : List Nat) (s : Nat) : ∃ c, minRed out s = s ^^^ eff out c := by
  obtain ⟨c, -, h⟩ := red1_comb (out.map fun t => (0, t)) (0, s)
  rw [snd_pairs] at h
  exact ⟨c, by rw [minRed_red1, h]⟩

theorem minRed_none {out : List Nat} (h : Ech out) (s : Nat) : ∀ b ∈ out, (minRed out s).testBit b.log2 = false := by
  intro b hb
  rw [minRed_red1]
  exact red1_none (B := out.map fun t => (0, t)) (by rw [snd_pairs]; exact h) (0, s) (0, b) (List.mem_map_of_mem hb)

/-- none has another one's greatest bit -/
def Red (l : List Nat) : Prop := ∀ a ∈ l, ∀ b ∈ l, a ≠ b → a.testBit b.log2 = false
structure Tidy (l : List Nat) : Prop where
  ech : Ech l
  red : Red l

theorem log2_le_of_le {a b : Nat} (h : a ≤ b) : a.log2 ≤ b.log2 := by
  by_cases ha : a = 0
  · subst ha; simp
  · have h1 := Nat.log2_self_le ha
    have hb : b ≠ 0 := by omega
    have h2 := @Nat.lt_log2_self b
    have : a.log2 < b.log2 + 1 := (Nat.pow_lt_pow_iff_right (by decide : 1 < 2)).1 (by omega)
    omega

/-- a list of sets with different greatest lamps, put in order, is an echelon -/
theorem desc_ech {l : List Nat} (h0 : ∀ x ∈ l, x ≠ 0) (hp : l.Pairwise (fun a b => a.log2 ≠ b.log2)) : Ech (desc l) := by
  refine ⟨fun x hx => h0 x (mem_desc.1 hx), ?_⟩
  have hs : (desc l).Pairwise (fun a b => decide (b ≤ a) = true) := by
    unfold desc
    apply List.pairwise_mergeSort
    · intro a b c hab hbc; simp only [decide_eq_true_eq] at *; omega
    · intro a b; simp only [Bool.or_eq_true, decide_eq_true_eq]; omega
  have hperm : (desc l).Perm l := List.mergeSort_perm _ _
  have hp' : (desc l).Pairwise (fun a b => a.log2 ≠ b.log2) := (List.Perm.pairwise_iff (fun h => Ne.symm h) hperm).2 hp
  have hboth := List.pairwise_and_iff.2 ⟨hs, hp'⟩
  refine List.Pairwise.imp ?_ hboth
  rintro a b ⟨h1, h2⟩
  have h3 : b ≤ a := by simpa using h1
  have h4 := log2_le_of_le h3
  exact lt_of_log2 (by omega)

theorem clearTop_eq (r t : Nat) : clearTop r t = if t.testBit r.log2 = true then t ^^^ r else t := by
  unfold clearTop
  by_cases h : t &&& 2 ^ r.log2 = 0
  · rw [if_pos h]
    have := congrArg (fun z => z.testBit r.log2) h
    simp only [Nat.testBit_and, Nat.testBit_two_pow_self, Bool.and_true, Nat.zero_testBit] at this
    rw [if_neg (by rw [this]; decide)]
  · rw [if_neg h]
    have : t.testBit r.log2 = true := by
      cases hc : t.testBit r.log2 with
      | true => rfl
      | false =>
        exfalso; apply h
        apply Nat.eq_of_testBit_eq; intro j
        rw [Nat.testBit_and, Nat.zero_testBit, Nat.testBit_two_pow]
        by_cases e : r.log2 = j
        · subst e; rw [hc]; rfl
        · simp [e]
    rw [if_pos this]

theorem log2_of_bit {x k : Nat} (h : x.testBit k = true) (hl : x < 2 ^ (k + 1)) : x.log2 = k := by
  have h0 : x ≠ 0 := by rintro rfl; simp at h
  have a := log2_lt h0 hl
  have b := Nat.ge_two_pow_of_testBit h
  have c := @Nat.lt_log2_self x
  have : k < x.log2 + 1 := (Nat.pow_lt_pow_iff_right (by decide : 1 < 2)).1 (by omega)
  omega

/-- clearing keeps the greatest bit -/
theorem clearTop_log2 {r t : Nat} (ht : t ≠ 0) (hr : r.testBit t.log2 = false) : (clearTop r t).log2 = t.log2 ∧ clearTop r t ≠ 0 := by
  rw [clearTop_eq]
  by_cases h : t.testBit r.log2 = true
  · rw [if_pos h]
    have hr0 : r ≠ 0 ∨ r = 0 := by omega
    have hlt : r < 2 ^ (t.log2 + 1) := by
      apply lt_of_log2
      have h1 := Nat.ge_two_pow_of_testBit h
      have h2 := @Nat.lt_log2_self t
      have : r.log2 < t.log2 + 1 := (Nat.pow_lt_pow_iff_right (by decide : 1 < 2)).1 (by omega)
      omega
    have hb : (t ^^^ r).testBit t.log2 = true := by rw [Nat.testBit_xor, testBit_log2 ht, hr]; rfl
    refine ⟨log2_of_bit hb (Nat.xor_lt_two_pow Nat.lt_log2_self hlt), ?_⟩
    rintro e; rw [e] at hb; simp at hb
  · rw [if_neg h]; exact ⟨rfl, ht⟩

theorem clearTop_bit {r t j : Nat} (ht : t.testBit j = false) (hr : r.testBit j = false) : (clearTop r t).testBit j = false := by
  rw [clearTop_eq]; split
  · rw [Nat.testBit_xor, ht, hr]; rfl
  · exact ht
theorem clearTop_top {r t : Nat} (hr : r ≠ 0) : (clearTop r t).testBit r.log2 = false := by
  rw [clearTop_eq]; split
  · rename_i h; rw [Nat.testBit_xor, h, testBit_log2 hr]; rfl
  · rename_i h; simpa using h

theorem Ech.logs {l : List Nat} (h : Ech l) : l.Pairwise (fun a b => a.log2 ≠ b.log2) := by
  refine List.Pairwise.imp_of_mem ?_ h.2
  intro a b ha hb hlt
  have := log2_lt (h.1 b hb) hlt
  omega

theorem Tidy.step {out : List Nat} {s : Nat} (h : Tidy out) : Tidy (tidyStep out s) ∧ (∀ x, Sp (tidyStep out s) x ↔ Sp (s :: out) x) ∧ (minRed out s ≠ 0 → (tidyStep out s).length = out.length + 1) := by
  obtain ⟨c, hc⟩ := minRed_comb out s
  have hn := minRed_none h.ech s
  unfold tidyStep
  by_cases h0 : minRed out s = 0
  · rw [if_pos h0]
    refine ⟨h, fun x => ⟨fun hx => hx.sub fun y hy => List.mem_cons_of_mem _ hy, fun hx => hx.trans fun y hy => ?_⟩, fun hne => absurd h0 hne⟩
    rcases List.mem_cons.1 hy with rfl | hy
    · refine ⟨c, ?_⟩
      rw [h0] at hc
      have := congrArg (fun z => z ^^^ eff out c) hc
      simp only [Nat.xor_assoc, Nat.xor_self, Nat.xor_zero, Nat.zero_xor] at this
      exact this.symm
    · exact Sp.mem hy
  · rw [if_neg h0]
    generalize hr : minRed out s = r at *
    have hclr : ∀ t ∈ out, (clearTop r t).log2 = t.log2 ∧ clearTop r t ≠ 0 := fun t ht => clearTop_log2 (h.ech.1 t ht) (hn t ht)
    have hspr : Sp (s :: out) r := by
      rw [hc]; exact Sp.xor (Sp.mem List.mem_cons_self) (Sp.sub ⟨c, rfl⟩ fun y hy => List.mem_cons_of_mem _ hy)
    refine ⟨⟨desc_ech ?_ ?_, ?_⟩, fun x => ⟨fun hx => hx.trans fun y hy => ?_, fun hx => hx.trans fun y hy => ?_⟩, fun _ => by rw [desc_length]; simp⟩
    · intro x hx
      rcases List.mem_append.1 hx with hx | hx
      · obtain ⟨t, ht, rfl⟩ := List.mem_map.1 hx
        exact (hclr t ht).2
      · rw [List.mem_singleton] at hx; subst hx; exact h0
    · rw [List.pairwise_append]
      refine ⟨?_, by simp, ?_⟩
      · rw [List.pairwise_map]
        refine List.Pairwise.imp_of_mem ?_ h.ech.logs
        intro a b ha hb hne
        rw [(hclr a ha).1, (hclr b hb).1]; exact hne
      · intro a ha b hb
        rw [List.mem_singleton] at hb; subst hb
        obtain ⟨t, ht, rfl⟩ := List.mem_map.1 ha
        rw [(hclr t ht).1]
        intro e
        have := hn t ht
        rw [e, testBit_log2 h0] at this; cases this
    · intro a ha b hb hne
      rw [mem_desc, List.mem_append] at ha hb
      rcases hb with hb | hb
      · obtain ⟨t, ht, rfl⟩ := List.mem_map.1 hb
        rw [(hclr t ht).1]
        rcases ha with ha | ha
        · obtain ⟨u, hu, rfl⟩ := List.mem_map.1 ha
          refine clearTop_bit (h.red u hu t ht ?_) (hn t ht)
          rintro rfl; exact hne rfl
        · rw [List.mem_singleton] at ha; subst ha; exact hn t ht
      · rw [List.mem_singleton] at hb; subst hb
        rcases ha with ha | ha
        · obtain ⟨u, hu, rfl⟩ := List.mem_map.1 ha
          exact clearTop_top h0
        · rw [List.mem_singleton] at ha; subst ha; exact absurd rfl hne
    · rw [mem_desc, List.mem_append] at hy
      rcases hy with hy | hy
      · obtain ⟨t, ht, rfl⟩ := List.mem_map.1 hy
        rw [clearTop_eq]; split
        · exact Sp.xor (Sp.mem (List.mem_cons_of_mem _ ht)) hspr
        · exact Sp.mem (List.mem_cons_of_mem _ ht)
      · rw [List.mem_singleton] at hy; subst hy; exact hspr
    · have hmr : Sp (desc (out.map (clearTop r) ++ [r])) r := Sp.mem (by rw [mem_desc]; simp)
      have hmt : ∀ t ∈ out, Sp (desc (out.map (clearTop r) ++ [r])) t := by
        intro t ht
        have hct : Sp (desc (out.map (clearTop r) ++ [r])) (clearTop r t) := Sp.mem (by rw [mem_desc]; exact List.mem_append.2 (.inl (List.mem_map_of_mem ht)))
        rw [clearTop_eq] at hct
        split at hct
        · have := Sp.xor hct hmr
          rwa [xor_self_right] at this
        · exact hct
      rcases List.mem_cons.1 hy with rfl | hy
      · have : y = r ^^^ eff out c := by rw [hc, xor_self_right]
        rw [this]
        exact Sp.xor hmr (Sp.trans ⟨c, rfl⟩ hmt)
      · exact hmt y hy

theorem tidyTo_spec (l : List Nat) : Tidy (tidyTo l) ∧ ∀ x, Sp (tidyTo l) x ↔ Sp l x := by
  suffices h : ∀ (l out : List Nat), Tidy out → Tidy (l.foldl tidyStep out) ∧ ∀ x, Sp (l.foldl tidyStep out) x ↔ Sp (out ++ l) x by
    have := h l [] ⟨⟨by simp, by simp⟩, fun a ha => by simp at ha⟩
    simpa [tidyTo] using this
  intro l
  induction l with
  | nil => intro out ho; exact ⟨ho, by simp⟩
  | cons s l ih =>
    intro out ho
    obtain ⟨h1, h2, -⟩ := ho.step (s := s)
    obtain ⟨h3, h4⟩ := ih _ h1
    refine ⟨h3, fun x => ?_⟩
    rw [List.foldl_cons, h4]
    constructor
    · intro hx
      refine hx.trans fun y hy => ?_
      rcases List.mem_append.1 hy with hy | hy
      · exact ((h2 y).1 (Sp.mem hy)).sub (by intro z hz; simp at hz ⊢; rcases hz with h | h <;> simp [h])
      · exact Sp.mem (by simp [hy])
    · intro hx
      refine hx.trans fun y hy => ?_
      rcases List.mem_append.1 hy with hy | hy
      · exact ((h2 y).2 (Sp.mem (List.mem_cons_of_mem _ hy))).sub (by intro z hz; simp [hz])
      · rcases List.mem_cons.1 hy with rfl | hy
        · exact ((h2 y).2 (Sp.mem List.mem_cons_self)).sub (by intro z hz; simp [hz])
        · exact Sp.mem (by simp [hy])

/-- of a rising list none is lost -/
theorem tidyTo_rise_length (l : List Nat) (h : Rise l) : (tidyTo l).length = l.length := by
  suffices hs : ∀ (l m : List Nat), Rise (m ++ l) → (l.foldl tidyStep (tidyTo m)).length = (tidyTo m).length + l.length by
    have := hs l [] (by simpa using h)
    simpa [tidyTo] using this
  intro l
  induction l with
  | nil => intro m _; simp
  | cons s l ih =>
    intro m hm
    have e : tidyStep (tidyTo m) s = tidyTo (m ++ [s]) := (tidyTo_snoc m s).symm
    have hl : (tidyStep (tidyTo m) s).length = (tidyTo m).length + 1 := by
      refine ((tidyTo_spec m).1.step (s := s)).2.2 ?_
      obtain ⟨c, hc⟩ := minRed_comb (tidyTo m) s
      have hsm : s ≠ 0 := hm.1 s (by simp)
      have hlt : eff (tidyTo m) c < 2 ^ s.log2 := by
        have h1 : Sp m (eff (tidyTo m) c) := ((tidyTo_spec m).2 _).1 ⟨c, rfl⟩
        refine h1.lt fun y hy => ?_
        have := (List.pairwise_append.1 hm.2).2.2 y hy s (by simp)
        exact this
      intro e0
      have := congrArg (fun z => z.testBit s.log2) hc
      rw [e0] at this
      simp only [Nat.testBit_xor, testBit_log2 hsm, testBit_of_lt hlt, Nat.zero_testBit] at this
      cases this
    rw [List.foldl_cons]
    have := ih (m ++ [s]) (by simpa using hm)
    rw [← e] at this
    rw [this, hl]; simp; omega

theorem tidy_length {l : List Nat} (h : Rise l) : (tidy l).length = l.length := by
  unfold tidy; rw [asc_length]; exact tidyTo_rise_length l h
theorem tidy_span (l : List Nat) (x : Nat) : Sp (tidy l) x ↔ Sp l x := by
  rw [← (tidyTo_spec l).2 x]
  unfold tidy
  exact ⟨fun h => h.sub fun y hy => mem_asc.1 hy, fun h => h.sub fun y hy => mem_asc.2 hy⟩

/-! ### there is only one -/
theorem Ech.top {l : List Nat} (h : Ech l) {x : Nat} (hx : Sp l x) (h0 : x ≠ 0) : ∃ b ∈ l, b.log2 = x.log2 := by
  obtain ⟨c, rfl⟩ := hx
  induction l generalizing c with
  | nil => exact absurd rfl h0
  | cons a l ih =>
    have hlow : eff l (c / 2) < 2 ^ a.log2 := eff_lt h.low _
    have hane := h.1 a (by simp)
    by_cases hb : c.testBit 0 = true
    · refine ⟨a, by simp, ?_⟩
      have e : eff (a :: l) c = a ^^^ eff l (c / 2) := by simp [eff, hb]
      rw [e]
      refine (log2_of_bit ?_ (Nat.xor_lt_two_pow Nat.lt_log2_self (Nat.lt_of_lt_of_le hlow (pow_le (by omega))))).symm
      rw [Nat.testBit_xor, testBit_log2 hane, testBit_of_lt hlow]; rfl
    · have e : eff (a :: l) c = eff l (c / 2) := by simp [eff, hb]
      rw [e] at h0 ⊢
      obtain ⟨b, hb, hbl⟩ := ih h.tail _ h0
      exact ⟨b, by simp [hb], hbl⟩

theorem tidy_sub {l m : List Nat} (hl : Tidy l) (hm : Tidy m) (h : ∀ x, Sp l x ↔ Sp m x) : ∀ x ∈ l, x ∈ m := by
  intro x hx
  obtain ⟨y, hy, hyl⟩ := hm.ech.top ((h x).1 (Sp.mem hx)) (hl.ech.1 x hx)
  have hz : x ^^^ y = 0 := by
    refine hl.ech.none (Sp.xor (Sp.mem hx) ((h y).2 (Sp.mem hy))) fun b hb => ?_
    rw [Nat.testBit_xor]
    by_cases e : b = x
    · subst e
      rw [testBit_log2 (hl.ech.1 b hb), ← hyl, testBit_log2 (hm.ech.1 y hy)]; rfl
    · rw [hl.red x hx b hb (fun e' => e e'.symm)]
      obtain ⟨z, hz, hzl⟩ := hm.ech.top ((h b).1 (Sp.mem hb)) (hl.ech.1 b hb)
      have hne : y ≠ z := by
        rintro rfl
        have hbx : b.testBit x.log2 = false := hl.red b hb x hx e
        rw [← hyl, hzl, testBit_log2 (hl.ech.1 b hb)] at hbx; cases hbx
      rw [← hzl, hm.red y hy z hz hne]; rfl
  have : x = y := by
    have := congrArg (fun z => z ^^^ y) hz
    simpa [Nat.xor_assoc] using this
  rw [this]; exact hy

theorem rising_ext : ∀ {l m : List Nat}, l.Pairwise (· < ·) → m.Pairwise (· < ·) → (∀ x, x ∈ l ↔ x ∈ m) → l = m
  | [], [], _, _, _ => rfl
  | [], b :: m, _, _, h => by have := (h b).2 List.mem_cons_self; simp at this
  | a :: l, [], _, _, h => by have := (h a).1 List.mem_cons_self; simp at this
  | a :: l, b :: m, hl, hm, h => by
    have hl1 := List.pairwise_cons.1 hl
    have hm1 := List.pairwise_cons.1 hm
    have hab : a = b := by
      rcases List.mem_cons.1 ((h a).1 List.mem_cons_self) with e | e
      · exact e
      · rcases List.mem_cons.1 ((h b).2 List.mem_cons_self) with e' | e'
        · exact e'.symm
        · have := hl1.1 b e'; have := hm1.1 a e; omega
    subst hab
    congr 1
    refine rising_ext hl1.2 hm1.2 fun x => ⟨fun hx => ?_, fun hx => ?_⟩
    · rcases List.mem_cons.1 ((h x).1 (List.mem_cons_of_mem _ hx)) with e | e
      · have := hl1.1 x hx; omega
      · exact e
    · rcases List.mem_cons.1 ((h x).2 (List.mem_cons_of_mem _ hx)) with e | e
      · have := hm1.1 x hx; omega
      · exact e

theorem asc_rising {l : List Nat} (hn : l.Nodup) : (asc l).Pairwise (· < ·) := by
  have hs : (asc l).Pairwise (fun a b => decide (a ≤ b) = true) := by
    unfold asc
    apply List.pairwise_mergeSort
    · intro a b c hab hbc; simp only [decide_eq_true_eq] at *; omega
    · intro a b; simp only [Bool.or_eq_true, decide_eq_true_eq]; omega
  have hn' : (asc l).Nodup := (List.Perm.nodup_iff (List.mergeSort_perm _ _)).2 hn
  have := List.pairwise_and_iff.2 ⟨hs, List.nodup_iff_pairwise_ne.1 hn'⟩
  refine List.Pairwise.imp ?_ this
  rintro a b ⟨h1, h2⟩
  have h3 : a ≤ b := by simpa using h1
  omega

/-! ### the reference's quiet basis -/
def refQTo (l : List Nat) : Nat → List Nat × Nat
  | 0 => ([], 0)
  | k + 1 => if k ≠ 0 ∧ k &&& (refQTo l k).2 = 0 ∧ eff l k = 0 then ((refQTo l k).1 ++ [k], (refQTo l k).2 ||| 2 ^ k.log2) else refQTo l k

structure RefQ (l : List Nat) (k : Nat) (out : List Nat) (tops : Nat) : Prop where
  rise : Rise out
  red : Red out
  lt : ∀ x ∈ out, x < k
  quiet : ∀ x ∈ out, eff l x = 0
  tops : ∀ j, tops.testBit j = true ↔ ∃ b ∈ out, b.log2 = j
  all : ∀ x, x < k → eff l x = 0 → Sp out x

theorem refQ_step {l : List Nat} {k : Nat} {out : List Nat} {tops : Nat} (h : RefQ l k out tops) :
    RefQ l (k + 1) (if k ≠ 0 ∧ k &&& tops = 0 ∧ eff l k = 0 then (out ++ [k], tops ||| 2 ^ k.log2) else (out, tops)).1 (if k ≠ 0 ∧ k &&& tops = 0 ∧ eff l k = 0 then (out ++ [k], tops ||| 2 ^ k.log2) else (out, tops)).2 := by
  by_cases hc : k ≠ 0 ∧ k &&& tops = 0 ∧ eff l k = 0
  · rw [if_pos hc]
    obtain ⟨h0, ht, he⟩ := hc
    have hno : ∀ b ∈ out, k.testBit b.log2 = false := fun b hb => by
      have h1 := (h.tops b.log2).2 ⟨b, hb, rfl⟩
      have := congrArg (fun z => z.testBit b.log2) ht
      simpa [Nat.testBit_and, h1] using this
    have hlow : ∀ b ∈ out, b < 2 ^ k.log2 := fun b hb => by
      apply lt_of_log2
      have h1 := log2_le_of_le (Nat.le_of_lt (h.lt b hb))
      have : b.log2 ≠ k.log2 := fun e => by have := hno b hb; rw [e, testBit_log2 h0] at this; cases this
      omega
    refine ⟨⟨fun x hx => ?_, ?_⟩, ?_, fun x hx => ?_, fun x hx => ?_, fun j => ?_, fun x hx he' => ?_⟩
    · rcases List.mem_append.1 hx with hx | hx
      · exact h.rise.1 x hx
      · rw [List.mem_singleton] at hx; subst hx; exact h0
    · rw [List.pairwise_append]
      exact ⟨h.rise.2, by simp, fun a ha b hb => by rw [List.mem_singleton] at hb; subst hb; exact hlow a ha⟩
    · intro a ha b hb hne
      rcases List.mem_append.1 ha with ha' | ha' <;> rcases List.mem_append.1 hb with hb' | hb'
      · exact h.red a ha' b hb' hne
      · rw [List.mem_singleton] at hb'; rw [hb']; exact testBit_of_lt (hlow a ha')
      · rw [List.mem_singleton] at ha'; rw [ha']; exact hno b hb'
      · rw [List.mem_singleton] at ha' hb'; exact absurd (ha'.trans hb'.symm) hne
    · rcases List.mem_append.1 hx with hx | hx
      · have := h.lt x hx; omega
      · rw [List.mem_singleton] at hx; omega
    · rcases List.mem_append.1 hx with hx | hx
      · exact h.quiet x hx
      · rw [List.mem_singleton] at hx; subst hx; exact he
    · rw [Nat.testBit_or, Bool.or_eq_true, h.tops, Nat.testBit_two_pow, decide_eq_true_eq]
      constructor
      · rintro (⟨b, hb, hj⟩ | hj)
        · exact ⟨b, by simp [hb], hj⟩
        · exact ⟨k, by simp, hj⟩
      · rintro ⟨b, hb, hj⟩
        rcases List.mem_append.1 hb with hb | hb
        · exact .inl ⟨b, hb, hj⟩
        · rw [List.mem_singleton] at hb; subst hb; exact .inr hj
    · by_cases e : x = k
      · subst e; exact Sp.mem (by simp)
      · exact (h.all x (by omega) he').sub fun y hy => by simp [hy]
  · rw [if_neg hc]
    refine ⟨h.rise, h.red, fun x hx => Nat.lt_succ_of_lt (h.lt x hx), h.quiet, h.tops, fun x hx he => ?_⟩
    by_cases e : x = k
    · subst e
      by_cases h0 : x = 0
      · subst h0; exact Sp.zero _
      · have ht : x &&& tops ≠ 0 := fun ht => hc ⟨h0, ht, he⟩
        obtain ⟨j, hj⟩ := Nat.exists_testBit_of_ne_zero ht
        rw [Nat.testBit_and, Bool.and_eq_true] at hj
        obtain ⟨b, hb, rfl⟩ := (h.tops j).1 hj.2
        have hlt : x ^^^ b < x := (xor_lt_iff (h.rise.1 b hb)).2 hj.1
        have := Sp.xor (h.all (x ^^^ b) hlt (by rw [eff_xor, he, h.quiet b hb]; rfl)) (Sp.mem hb)
        rwa [xor_self_right] at this
    · exact h.all x (by omega) he

theorem refQ_spec (l : List Nat) : ∀ k, RefQ l k (refQTo l k).1 (refQTo l k).2
  | 0 => ⟨⟨by simp [refQTo], by simp [refQTo]⟩, fun a ha => by simp [refQTo] at ha, fun x hx => by simp [refQTo] at hx, fun x hx => by simp [refQTo] at hx, fun j => by simp [refQTo], fun x hx => by omega⟩
  | k + 1 => by
    have := refQ_step (refQ_spec l k)
    rw [refQTo]
    exact this

theorem Rise.rising {l : List Nat} (h : Rise l) : l.Pairwise (· < ·) := by
  refine List.Pairwise.imp_of_mem ?_ h.2
  intro a b ha hb hlt
  have := Nat.log2_self_le (h.1 b hb)
  omega

theorem Tidy.of_mem {l m : List Nat} (h : Tidy l) (he : Ech m) (hm : ∀ x, x ∈ m → x ∈ l) : Tidy m :=
  ⟨he, fun a ha b hb hne => h.red a (hm a ha) b (hm b hb) hne⟩

/-- the program's quiet basis is the reference's -/
theorem tidy_ref (l : List Nat) : tidy (quietOf l) = (refQTo l (2 ^ l.length)).1 := by
  have hr := refQ_spec l (2 ^ l.length)
  generalize (refQTo l (2 ^ l.length)).1 = R at *
  generalize (refQTo l (2 ^ l.length)).2 = tops at *
  obtain ⟨hT, hTs⟩ := tidyTo_spec (quietOf l)
  have hRt : Tidy R.reverse := ⟨hr.rise.ech, fun a ha b hb hne => hr.red a (by simpa using ha) b (by simpa using hb) hne⟩
  have hsp : ∀ x, Sp (tidyTo (quietOf l)) x ↔ Sp R.reverse x := by
    intro x
    rw [hTs, eff_reverse_span]
    constructor
    · intro hx
      exact hr.all x (hx.lt fun y hy => (inv_of l).ltQ y hy) (quiet_eff l hx)
    · intro hx
      refine quiet_span l (hx.lt fun y hy => hr.lt y hy) ?_
      obtain ⟨c, rfl⟩ := hx
      rw [eff_map (eff l) (eff_zero l) (eff_xor l), List.map_congr_left (g := fun _ => 0) (fun q hq => hr.quiet q hq)]
      generalize R = Q
      induction Q generalizing c with
      | nil => rfl
      | cons y Q ih => simp [eff, ih]
  refine rising_ext (asc_rising hT.ech.nodup) hr.rise.rising fun x => ?_
  show x ∈ asc (tidyTo (quietOf l)) ↔ x ∈ R
  rw [mem_asc]
  constructor
  · intro hx; simpa using tidy_sub hT hRt hsp x hx
  · intro hx; exact tidy_sub hRt hT (fun x => (hsp x).symm) x (by simpa using hx)

end Lt

namespace Lt

/-! ### what two polynomials make: sums of their multiples -/
def Idl (a b z : Nat) : Prop := ∀ C : Nat → Prop, C 0 → C a → C b → (∀ x y, C x → C y → C (x ^^^ y)) → (∀ x, C x → C (2 * x)) → C z

theorem Idl.zero (a b : Nat) : Idl a b 0 := fun _ h _ _ _ _ => h
theorem Idl.left (a b : Nat) : Idl a b a := fun _ _ h _ _ _ => h
theorem Idl.right (a b : Nat) : Idl a b b := fun _ _ _ h _ _ => h
theorem Idl.xor {a b x y : Nat} (hx : Idl a b x) (hy : Idl a b y) : Idl a b (x ^^^ y) := fun C h0 ha hb hs hd => hs _ _ (hx C h0 ha hb hs hd) (hy C h0 ha hb hs hd)
theorem Idl.dbl {a b x : Nat} (hx : Idl a b x) : Idl a b (2 * x) := fun C h0 ha hb hs hd => hd _ (hx C h0 ha hb hs hd)
theorem Idl.shl {a b x : Nat} (hx : Idl a b x) : ∀ h, Idl a b (x <<< h)
  | 0 => by simpa using hx
  | h + 1 => by
    have := (Idl.shl hx h).dbl
    rw [Nat.shiftLeft_succ]; exact this
theorem Idl.trans {a b c d z : Nat} (hz : Idl a b z) (ha : Idl c d a) (hb : Idl c d b) : Idl c d z :=
  hz (Idl c d) (Idl.zero c d) ha hb (fun _ _ => Idl.xor) (fun _ => Idl.dbl)
theorem Idl.psum {a b x y : Nat} (hx : Idl a b x) (hy : Idl a b y) (h : Nat) : Idl a b (psum x y h) := hx.xor (hy.shl h)
theorem Idl.swap {a b z : Nat} (h : Idl a b z) : Idl b a z := h.trans (Idl.right _ _) (Idl.left _ _)

theorem psum_psum (a b h : Nat) : psum (psum a b h) b h = a := by unfold psum; exact xor_self_right _ _

/-- what every step keeps, the rest has -/
theorem rem_keep {C : Nat → Prop} {b : Nat} (hb : b ≠ 0) (hs : ∀ a h, C a → C (psum a b h)) : ∀ (n a : Nat), plen a ≤ n → C a → C (rem a b)
  | 0, a, hn, ha => by
    have hbp : 0 < plen b := by unfold plen; rw [if_neg hb]; omega
    rw [rem_end (by omega)]; exact ha
  | n + 1, a, hn, ha => by
    by_cases h : plen b ≤ plen a
    · rw [rem_step hb h]
      exact rem_keep hb hs n _ (by have := psum_less hb h; omega) (hs _ _ ha)
    · rw [rem_end (by omega)]; exact ha

theorem rem_idl (a : Nat) {b : Nat} (hb : b ≠ 0) : Idl a b (rem a b) ∧ Idl (rem a b) b a := by
  refine rem_keep (C := fun r => Idl a b r ∧ Idl r b a) hb ?_ _ a (Nat.le_refl _) ⟨Idl.left _ _, Idl.left _ _⟩
  rintro r h ⟨h1, h2⟩
  refine ⟨h1.psum (Idl.right _ _) h, h2.trans ?_ (Idl.right _ _)⟩
  have := (Idl.left (psum r b h) b).psum (Idl.right (psum r b h) b) h
  rwa [psum_psum] at this

theorem gcd_idl' : ∀ (n a b : Nat), plen b ≤ n → Idl a b (gcdP a b) ∧ Idl (gcdP a b) 0 a ∧ Idl (gcdP a b) 0 b
  | n, a, b, hn => by
    by_cases hb : b = 0
    · subst hb; rw [gcdP_zero]; exact ⟨Idl.left _ _, Idl.left _ _, Idl.zero _ _⟩
    · have hl := rem_plen (a := a) hb
      rw [gcdP_step hb]
      cases n with
      | zero => omega
      | succ n =>
        obtain ⟨h1, h2, h3⟩ := gcd_idl' n b (rem a b) (by omega)
        obtain ⟨h4, h5⟩ := rem_idl a hb
        exact ⟨h1.trans (Idl.right _ _) h4, h5.trans h3 h2, h2⟩
theorem gcd_idl (a b : Nat) : Idl a b (gcdP a b) ∧ Idl (gcdP a b) 0 a ∧ Idl (gcdP a b) 0 b := gcd_idl' _ a b (Nat.le_refl _)
/-- the greatest common divisor makes the same -/
theorem gcd_same (a b z : Nat) : Idl a b z ↔ Idl (gcdP a b) 0 z := by
  obtain ⟨h1, h2, h3⟩ := gcd_idl a b
  exact ⟨fun h => h.trans h2 h3, fun h => h.trans h1 (Idl.zero _ _)⟩

/-! ### the multiples of one -/
def shifts (g : Nat) : Nat → List Nat
  | 0 => []
  | n + 1 => (g <<< n) :: shifts g n
theorem shifts_length (g : Nat) : ∀ n, (shifts g n).length = n
  | 0 => rfl
  | n + 1 => by simp [shifts, shifts_length g n]
theorem mem_shifts {g x : Nat} : ∀ {n}, x ∈ shifts g n ↔ ∃ i, i < n ∧ x = g <<< i
  | 0 => by simp [shifts]
  | n + 1 => by
    simp only [shifts, List.mem_cons, mem_shifts (n := n)]
    constructor
    · rintro (h | ⟨i, hi, h⟩)
      · exact ⟨n, by omega, h⟩
      · exact ⟨i, by omega, h⟩
    · rintro ⟨i, hi, h⟩
      by_cases e : i = n
      · subst e; exact .inl h
      · exact .inr ⟨i, by omega, h⟩

theorem log2_of_bit' {x k : Nat} (h : x.testBit k = true) (hl : x < 2 ^ (k + 1)) : x.log2 = k := by
  have h0 : x ≠ 0 := by rintro rfl; simp at h
  have a := log2_lt h0 hl
  have b := Nat.ge_two_pow_of_testBit h
  have c := @Nat.lt_log2_self x
  have : k < x.log2 + 1 := (Nat.pow_lt_pow_iff_right (by decide : 1 < 2)).1 (by omega)
  omega

theorem shl_ne {g : Nat} (hg : g ≠ 0) (i : Nat) : g <<< i ≠ 0 := by
  rw [Nat.shiftLeft_eq]
  exact Nat.mul_ne_zero hg (Nat.ne_of_gt (Nat.two_pow_pos i))
theorem log2_shl {g : Nat} (hg : g ≠ 0) (i : Nat) : (g <<< i).log2 = g.log2 + i := by
  apply log2_of_bit'
  · rw [Nat.testBit_shiftLeft]
    simp only [ge_iff_le, Nat.le_add_left, decide_true, Nat.add_sub_cancel, Bool.true_and]
    exact testBit_log2 hg
  · rw [Nat.shiftLeft_eq, show g.log2 + i + 1 = (g.log2 + 1) + i by omega, Nat.pow_add]
    exact Nat.mul_lt_mul_of_pos_right Nat.lt_log2_self (Nat.two_pow_pos i)

theorem shifts_ech {g : Nat} (hg : g ≠ 0) : ∀ n, Ech (shifts g n)
  | 0 => ⟨by simp [shifts], by simp [shifts]⟩
  | n + 1 => by
    have ih := shifts_ech hg n
    refine ⟨fun x hx => ?_, List.pairwise_cons.2 ⟨fun x hx => ?_, ih.2⟩⟩
    · obtain ⟨i, _, rfl⟩ := mem_shifts.1 hx
      exact shl_ne hg i
    · obtain ⟨i, hi, rfl⟩ := mem_shifts.1 hx
      apply lt_of_log2
      rw [log2_shl hg, log2_shl hg]; omega

theorem eff_append (l m : List Nat) (c : Nat) : eff (l ++ m) c = eff l c ^^^ eff m (c >>> l.length) := by
  induction l generalizing c with
  | nil => simp [eff]
  | cons a l ih =>
    simp only [List.cons_append, eff, ih, Nat.xor_assoc, List.length_cons]
    congr 3
    rw [Nat.shiftRight_eq_div_pow, Nat.shiftRight_eq_div_pow, Nat.pow_succ, Nat.mul_comm, Nat.div_div_eq_div_mul]

theorem Sp.map {f : Nat → Nat} (h0 : f 0 = 0) (hx : ∀ a b, f (a ^^^ b) = f a ^^^ f b) {l : List Nat} {x : Nat} (h : Sp l x) : Sp (l.map f) (f x) := by
  obtain ⟨c, rfl⟩ := h
  exact ⟨c, eff_map f h0 hx l c⟩

theorem dbl_xor (a b : Nat) : 2 * (a ^^^ b) = 2 * a ^^^ 2 * b := by
  apply Nat.eq_of_testBit_eq; intro j
  rw [Nat.testBit_xor]
  cases j with
  | zero => simp [Nat.testBit_zero]
  | succ j => simp [Nat.testBit_succ, Nat.testBit_xor]

/-- a multiple of g is a sum of its shifts -/
theorem idl_shifts {g z : Nat} (h : Idl g 0 z) : ∃ n, Sp (shifts g n) z := by
  have hup : ∀ {n m x}, n ≤ m → Sp (shifts g n) x → Sp (shifts g m) x := fun hnm hx => hx.sub fun y hy => by
    obtain ⟨i, hi, e⟩ := mem_shifts.1 hy
    exact mem_shifts.2 ⟨i, by omega, e⟩
  refine h (fun z => ∃ n, Sp (shifts g n) z) ⟨0, Sp.zero _⟩ ⟨1, Sp.mem (mem_shifts.2 ⟨0, by omega, by simp⟩)⟩ ⟨0, Sp.zero _⟩ ?_ ?_
  · rintro x y ⟨n, hx⟩ ⟨m, hy⟩
    exact ⟨max n m, Sp.xor (hup (by omega) hx) (hup (by omega) hy)⟩
  · rintro x ⟨n, hx⟩
    refine ⟨n + 1, ?_⟩
    have := hx.map (f := fun x => 2 * x) rfl dbl_xor
    refine this.sub fun y hy => ?_
    obtain ⟨u, hu, rfl⟩ := List.mem_map.1 hy
    obtain ⟨i, hi, rfl⟩ := mem_shifts.1 hu
    exact mem_shifts.2 ⟨i + 1, by omega, by rw [Nat.shiftLeft_succ]⟩

theorem ech_top {l : List Nat} (h : Ech l) {x : Nat} (hx : Sp l x) (h0 : x ≠ 0) : ∃ b ∈ l, b.log2 = x.log2 := by
  obtain ⟨c, rfl⟩ := hx
  induction l generalizing c with
  | nil => exact absurd rfl h0
  | cons a l ih =>
    have hlow : eff l (c / 2) < 2 ^ a.log2 := eff_lt h.low _
    have hane := h.1 a (by simp)
    by_cases hb : c.testBit 0 = true
    · refine ⟨a, by simp, ?_⟩
      have e : eff (a :: l) c = a ^^^ eff l (c / 2) := by simp [eff, hb]
      rw [e]
      refine (log2_of_bit' ?_ (Nat.xor_lt_two_pow Nat.lt_log2_self (Nat.lt_of_lt_of_le hlow (Nat.pow_le_pow_right (by decide) (by omega))))).symm
      rw [Nat.testBit_xor, testBit_log2 hane, testBit_of_lt hlow]; rfl
    · have e : eff (a :: l) c = eff l (c / 2) := by simp [eff, hb]
      rw [e] at h0 ⊢
      obtain ⟨b, hb, hbl⟩ := ih h.tail _ h0
      exact ⟨b, by simp [hb], hbl⟩

/-- a multiple that is not 0 has at least the degree -/
theorem mul_top {g z : Nat} (hg : g ≠ 0) (h : Idl g 0 z) (hz : z ≠ 0) : g.log2 ≤ z.log2 := by
  obtain ⟨n, hn⟩ := idl_shifts h
  obtain ⟨b, hb, e⟩ := ech_top (shifts_ech hg n) hn hz
  obtain ⟨i, _, rfl⟩ := mem_shifts.1 hb
  rw [log2_shl hg] at e; omega

/-- the multiples with a degree below c -/
theorem mul_below {g c : Nat} (hg : g ≠ 0) (hc : g.log2 ≤ c) (z : Nat) : Sp (shifts g (c - g.log2)) z ↔ Idl g 0 z ∧ z < 2 ^ c := by
  constructor
  · intro h
    refine ⟨?_, h.lt fun y hy => ?_⟩
    · obtain ⟨x, rfl⟩ := h
      generalize c - g.log2 = n
      induction n generalizing x with
      | zero => exact Idl.zero _ _
      | succ n ih =>
        simp only [shifts, eff]
        refine Idl.xor ?_ (ih _)
        split
        · exact (Idl.left g 0).shl n
        · exact Idl.zero _ _
    · obtain ⟨i, hi, rfl⟩ := mem_shifts.1 hy
      apply lt_of_log2; rw [log2_shl hg]; omega
  · rintro ⟨h1, h2⟩
    -- by induction on the number itself
    suffices hs : ∀ n z, z ≤ n → Idl g 0 z → z < 2 ^ c → Sp (shifts g (c - g.log2)) z from hs z z (Nat.le_refl _) h1 h2
    intro n
    induction n with
    | zero =>
      intro z hz _ _
      obtain rfl : z = 0 := by omega
      exact Sp.zero _
    | succ n ih =>
      intro z hz h1 h2
      by_cases h0 : z = 0
      · subst h0; exact Sp.zero _
      · have ht := mul_top hg h1 h0
        have hlc := log2_lt h0 h2
        have hgl : Sp (shifts g (c - g.log2)) (g <<< (z.log2 - g.log2)) := Sp.mem (mem_shifts.2 ⟨_, by omega, rfl⟩)
        have hlog : (g <<< (z.log2 - g.log2)).log2 = z.log2 := by rw [log2_shl hg]; omega
        have hlt : z ^^^ g <<< (z.log2 - g.log2) < z := (xor_lt_iff (shl_ne hg _)).2 (by rw [hlog]; exact testBit_log2 h0)
        have h3 := ih (z ^^^ g <<< (z.log2 - g.log2)) (by omega) (h1.xor ((Idl.left g 0).shl _)) (by omega)
        have := Sp.xor h3 hgl
        rwa [xor_self_right] at this

/-- two that make the same have one degree -/
theorem idl_deg {g h : Nat} (hg : g ≠ 0) (hh : h ≠ 0) (e : ∀ z, Idl g 0 z ↔ Idl h 0 z) : plen g = plen h := by
  have h1 := mul_top hg ((e h).2 (Idl.left _ _)) hh
  have h2 := mul_top hh ((e g).1 (Idl.left _ _)) hg
  unfold plen; rw [if_neg hg, if_neg hh]; omega

end Lt

namespace Lt

/-! ### polynomials of a map -/
structure Lin (M : Nat → Nat) : Prop where
  zero : M 0 = 0
  xor : ∀ a b, M (a ^^^ b) = M a ^^^ M b
/-- a vector and what a map makes of it, again and again -/
def pows (M : Nat → Nat) (v : Nat) : Nat → List Nat
  | 0 => []
  | n + 1 => v :: pows M (M v) n
/-- a polynomial of a map, at a vector -/
def phi (M : Nat → Nat) (v q : Nat) : Nat := eff (pows M v (plen q)) q

theorem pows_ext (M : Nat → Nat) : ∀ (n v q : Nat), q < 2 ^ n → eff (pows M v (n + 1)) q = eff (pows M v n) q
  | 0, v, q, h => by
    obtain rfl : q = 0 := by simpa using h
    rw [eff_zero, eff_zero]
  | n + 1, v, q, h => by
    have h2 : q / 2 < 2 ^ n := by rw [Nat.pow_succ] at h; omega
    have := pows_ext M n (M v) (q / 2) h2
    rw [pows, eff, this]; rfl
theorem pows_more (M : Nat → Nat) (v q m : Nat) (h : q < 2 ^ m) : ∀ d, eff (pows M v (m + d)) q = eff (pows M v m) q
  | 0 => rfl
  | d + 1 => by
    rw [← pows_more M v q m h d]
    exact pows_ext M (m + d) v q (Nat.lt_of_lt_of_le h (Nat.pow_le_pow_right (by decide) (by omega)))
theorem phi_of (M : Nat → Nat) (v : Nat) {q n : Nat} (h : q < 2 ^ n) : eff (pows M v n) q = phi M v q := by
  have h1 := plen_le h
  have := pows_more M v q (plen q) (lt_plen q) (n - plen q)
  rw [show plen q + (n - plen q) = n by omega] at this
  exact this

theorem phi_zero (M : Nat → Nat) (v : Nat) : phi M v 0 = 0 := eff_zero _
theorem phi_one (M : Nat → Nat) (v : Nat) : phi M v 1 = v := by
  rw [← phi_of M v (q := 1) (n := 1) (by decide)]
  simp [pows, eff]
theorem phi_xor (M : Nat → Nat) (v a b : Nat) : phi M v (a ^^^ b) = phi M v a ^^^ phi M v b := by
  have ha : a < 2 ^ max (plen a) (plen b) := Nat.lt_of_lt_of_le (lt_plen a) (Nat.pow_le_pow_right (by decide) (by omega))
  have hb : b < 2 ^ max (plen a) (plen b) := Nat.lt_of_lt_of_le (lt_plen b) (Nat.pow_le_pow_right (by decide) (by omega))
  rw [← phi_of M v ha, ← phi_of M v hb, ← phi_of M v (Nat.xor_lt_two_pow ha hb), eff_xor]
theorem map_pows (M : Nat → Nat) : ∀ (n v : Nat), (pows M v n).map M = pows M (M v) n
  | 0, _ => rfl
  | n + 1, v => by rw [pows, List.map_cons, map_pows M n (M v)]; rfl
theorem phi_vecM {M : Nat → Nat} (hM : Lin M) (v q : Nat) : phi M (M v) q = M (phi M v q) := by
  unfold phi
  rw [eff_map M hM.zero hM.xor, map_pows]
theorem phi_dbl {M : Nat → Nat} (hM : Lin M) (v q : Nat) : phi M v (2 * q) = M (phi M v q) := by
  have h : 2 * q < 2 ^ (plen q + 1) := by have := lt_plen q; rw [Nat.pow_succ]; omega
  rw [← phi_of M v h, pows, eff, ← phi_vecM hM]
  have e1 : (2 * q).testBit 0 = false := by simp [Nat.testBit_zero]
  have e2 : 2 * q / 2 = q := by omega
  rw [e1, e2]; simp [phi]
theorem phi_vec {M : Nat → Nat} (hM : Lin M) (u v q : Nat) : phi M (u ^^^ v) q = phi M u q ^^^ phi M v q := by
  unfold phi
  generalize plen q = n
  induction n generalizing u v q with
  | zero => simp [pows, eff]
  | succ n ih =>
    simp only [pows, eff, hM.xor, ih]
    rw [xor4]
    congr 1
    split <;> simp
theorem phi_vec0 {M : Nat → Nat} (hM : Lin M) (q : Nat) : phi M 0 q = 0 := by
  have := phi_vec hM 0 0 q
  rw [Nat.xor_self, Nat.xor_self] at this; exact this
theorem phi_shl0 {M : Nat → Nat} (hM : Lin M) {v q : Nat} (h : phi M v q = 0) : ∀ i, phi M v (q <<< i) = 0
  | 0 => by simpa using h
  | i + 1 => by rw [Nat.shiftLeft_succ, phi_dbl hM, phi_shl0 hM h i, hM.zero]
theorem phi_psum1 {M : Nat → Nat} (hM : Lin M) (v a b : Nat) : phi M v (psum a b 1) = phi M v a ^^^ M (phi M v b) := by
  unfold psum
  rw [phi_xor, ← phi_dbl hM, show b <<< 1 = 2 * b by rw [Nat.shiftLeft_eq]; omega]
theorem phi_psum0 (M : Nat → Nat) (v a b : Nat) : phi M v (psum a b 0) = phi M v a ^^^ phi M v b := by
  unfold psum; rw [phi_xor]; simp

/-! ### the path's polynomials -/
theorem pathTo_eq (more : Bool) : ∀ k, pathTo more k = (pathOf more k, pathOf more (k + 1))
  | 0 => rfl
  | k + 1 => by
    have h := pathTo_eq more k
    have e : pathOf more (k + 1 + 1) = (pathTo more (k + 1)).2 := rfl
    rw [e]
    have e2 : (pathTo more (k + 1)).1 = (pathTo more k).2 := rfl
    have e3 : pathOf more (k + 1) = (pathTo more k).2 := rfl
    rw [e3, ← e2]
theorem pathOf_zero (more : Bool) : pathOf more 0 = 0 := rfl
theorem pathOf_one (more : Bool) : pathOf more 1 = 1 := rfl
theorem pathOf_step (more : Bool) (k : Nat) : pathOf more (k + 2) = if more then psum (psum (pathOf more k) (pathOf more (k + 1)) 1) (pathOf more (k + 1)) 0 else psum (pathOf more k) (pathOf more (k + 1)) 1 := by
  have e : pathOf more (k + 2) = (pathTo more (k + 1)).2 := rfl
  rw [e, pathTo, pathTo_eq]
theorem pathOf_top (more : Bool) (k : Nat) : plen (pathOf more (k + 1)) = k + 1 := by
  have h1 := pathOf_plen more (k + 1)
  suffices h : (pathOf more (k + 1)).testBit k = true by
    exact plen_of (fun j hj => bit_plen (by omega)) (.inr (by simpa using h))
  induction k with
  | zero => rw [pathOf_one]; decide
  | succ k ih =>
    have ih := ih (pathOf_plen more (k + 1))
    have h2 := pathOf_plen more k
    have h3 := pathOf_plen more (k + 1)
    rw [pathOf_step]
    cases more with
    | false =>
      simp only [Bool.false_eq_true, if_false]
      rw [psum_bit, bit_plen (by omega), show k + 1 - 1 = k by omega, ih]; simp
    | true =>
      simp only [if_true]
      rw [psum_bit, psum_bit, bit_plen (p := pathOf true k) (by omega), show k + 1 - 1 = k by omega, ih, bit_plen (p := pathOf true (k + 1)) (by omega)]; simp

/-! ### a row of lamps, each switching its neighbours -/
def nb (c v : Nat) : Nat := (2 * v ^^^ v / 2) % 2 ^ c
theorem nb_lin (c : Nat) : Lin (nb c) := ⟨by simp [nb], fun a b => by
  unfold nb
  rw [dbl_xor, xor_div2, xor4]
  apply Nat.eq_of_testBit_eq; intro j
  simp only [Nat.testBit_mod_two_pow, Nat.testBit_xor]
  cases decide (j < c) <;> simp⟩
theorem nb_lt (c v : Nat) : nb c v < 2 ^ c := Nat.mod_lt _ (Nat.two_pow_pos c)
theorem testBit_dbl (v j : Nat) : (2 * v).testBit (j + 1) = v.testBit j := by rw [Nat.testBit_succ]; congr 1; omega
theorem testBit_dbl0 (v : Nat) : (2 * v).testBit 0 = false := by simp [Nat.testBit_zero]
theorem nb_bit (c v j : Nat) : (nb c v).testBit j = (decide (j < c) && ((2 * v).testBit j ^^ v.testBit (j + 1))) := by
  unfold nb; rw [Nat.testBit_mod_two_pow, Nat.testBit_xor, testBit_div2]

theorem nb_pow {c k : Nat} (h : k + 1 < c) : nb c (2 ^ k) = 2 ^ (k + 1) ^^^ 2 ^ k / 2 := by
  unfold nb
  have e : 2 * 2 ^ k = 2 ^ (k + 1) := by rw [Nat.pow_succ]; omega
  rw [e]
  apply Nat.mod_eq_of_lt
  have h1 : 2 ^ (k + 1) < 2 ^ c := Nat.pow_lt_pow_right (by decide) h
  exact Nat.xor_lt_two_pow h1 (by have : 2 ^ k ≤ 2 ^ (k + 1) := Nat.pow_le_pow_right (by decide) (by omega); omega)
theorem nb_last (k : Nat) : nb (k + 1) (2 ^ k) = 2 ^ k / 2 := by
  apply Nat.eq_of_testBit_eq; intro j
  rw [nb_bit, testBit_div2]
  by_cases hj : j < k + 1
  · have : (2 * 2 ^ k).testBit j = false := by
      rw [show 2 * 2 ^ k = 2 ^ (k + 1) by rw [Nat.pow_succ]; omega, Nat.testBit_two_pow]
      simp; omega
    rw [this]; simp [hj]
  · have : (2 ^ k).testBit (j + 1) = false := by rw [Nat.testBit_two_pow]; simp; omega
    rw [this]; simp [hj]

theorem pow_half (k : Nat) : 2 ^ (k + 1) / 2 = 2 ^ k := by rw [Nat.pow_succ]; omega

/-- the path's polynomials of the row, at its first lamp: one lamp after the other -/
theorem phi_path {c : Nat} (hc : 1 ≤ c) : ∀ k, k + 1 ≤ c → phi (nb c) 1 (pathOf false k) = 2 ^ k / 2 ∧ phi (nb c) 1 (pathOf false (k + 1)) = 2 ^ k
  | 0, _ => ⟨by rw [pathOf_zero, phi_zero], by rw [pathOf_one, phi_one]⟩
  | k + 1, h => by
    obtain ⟨h1, h2⟩ := phi_path hc k (by omega)
    refine ⟨by rw [h2, pow_half], ?_⟩
    rw [pathOf_step]
    simp only [Bool.false_eq_true, if_false]
    rw [phi_psum1 (nb_lin c), h1, h2, nb_pow (by omega), Nat.xor_comm (2 ^ (k + 1)), ← Nat.xor_assoc, Nat.xor_self, Nat.zero_xor]
theorem phi_path_end {c : Nat} (hc : 1 ≤ c) : phi (nb c) 1 (pathOf false (c + 1)) = 0 := by
  obtain ⟨k, rfl⟩ : ∃ k, c = k + 1 := ⟨c - 1, by omega⟩
  obtain ⟨h1, h2⟩ := phi_path hc k (by omega)
  rw [pathOf_step]
  simp only [Bool.false_eq_true, if_false]
  rw [phi_psum1 (nb_lin _), h1, h2, nb_last, Nat.xor_self]

/-! ### its degree is kept -/
theorem pows_lt {c : Nat} : ∀ (n m v r : Nat), v < 2 ^ (m + 1) → r ∈ pows (nb c) v n → r < 2 ^ (m + n)
  | 0, _, _, _, _, hr => by simp [pows] at hr
  | n + 1, m, v, r, hv, hr => by
    rcases List.mem_cons.1 hr with rfl | hr
    · exact Nat.lt_of_lt_of_le hv (Nat.pow_le_pow_right (by decide) (by omega))
    · have h1 : nb c v < 2 ^ (m + 1 + 1) := by
        refine Nat.lt_of_le_of_lt (Nat.mod_le _ _) (Nat.xor_lt_two_pow ?_ ?_)
        · rw [Nat.pow_succ]; omega
        · have : 2 ^ (m + 1) ≤ 2 ^ (m + 1 + 1) := Nat.pow_le_pow_right (by decide) (by omega)
          omega
      have := pows_lt n (m + 1) (nb c v) r h1 hr
      rw [show m + (n + 1) = m + 1 + n by omega]; exact this
theorem phi_lt (c : Nat) {z j : Nat} (h : z < 2 ^ j) : phi (nb c) 1 z < 2 ^ j := by
  rw [← phi_of _ 1 h]
  exact eff_lt (fun r hr => by have := pows_lt j 0 1 r (by decide) hr; simpa using this) z
theorem phi_pow_bit (c : Nat) : ∀ j, j < c → (phi (nb c) 1 (2 ^ j)).testBit j = true
  | 0, _ => by rw [Nat.pow_zero, phi_one]; decide
  | j + 1, h => by
    have h1 := phi_pow_bit c j (by omega)
    have h2 : phi (nb c) 1 (2 ^ j) < 2 ^ (j + 1) := phi_lt c (Nat.pow_lt_pow_right (by decide) (by omega))
    rw [show 2 ^ (j + 1) = 2 * 2 ^ j by rw [Nat.pow_succ]; omega, phi_dbl (nb_lin c), nb_bit, testBit_dbl, h1, testBit_of_lt (Nat.lt_of_lt_of_le h2 (Nat.pow_le_pow_right (by decide) (by omega)))]
    simp [h]
theorem phi_log {c z : Nat} (h0 : z ≠ 0) (h : z < 2 ^ c) : phi (nb c) 1 z ≠ 0 ∧ (phi (nb c) 1 z).log2 = z.log2 := by
  have hl := log2_lt h0 h
  have hlow : z ^^^ 2 ^ z.log2 < 2 ^ z.log2 := by
    apply Nat.lt_pow_two_of_testBit
    intro j hj
    rw [Nat.testBit_xor, Nat.testBit_two_pow]
    by_cases e : z.log2 = j
    · subst e; rw [testBit_log2 h0]; simp
    · rw [testBit_of_lt (Nat.lt_of_lt_of_le Nat.lt_log2_self (Nat.pow_le_pow_right (by decide) (by omega : z.log2 + 1 ≤ j)))]; simp [e]
  have hb : (phi (nb c) 1 z).testBit z.log2 = true := by
    have e : z = (z ^^^ 2 ^ z.log2) ^^^ 2 ^ z.log2 := (xor_self_right _ _).symm
    rw [congrArg (phi (nb c) 1) e, phi_xor, Nat.testBit_xor, testBit_of_lt (phi_lt c hlow), phi_pow_bit c _ hl]; rfl
  exact ⟨fun e => by rw [e] at hb; simp at hb, log2_of_bit' hb (phi_lt c Nat.lt_log2_self)⟩

/-! ### the rows after a first row -/
def wayTo (own : Bool) (c v : Nat) : Nat → Nat × Nat
  | 0 => (0, v)
  | i + 1 => ((wayTo own c v i).2, ((wayTo own c v i).1 ^^^ 2 * (wayTo own c v i).2 ^^^ (wayTo own c v i).2 / 2 ^^^ (if own then (wayTo own c v i).2 else 0)) % 2 ^ c)
def wayOf (own : Bool) (r c k : Nat) : Nat := (wayTo own c (2 ^ k) r).2
def waysOf (own : Bool) (r c : Nat) : List Nat := (List.range c).map (wayOf own r c)

theorem phi_below {c v : Nat} (hv : v < 2 ^ c) (q : Nat) : phi (nb c) v q < 2 ^ c := by
  refine eff_lt (fun r hr => ?_) q
  generalize plen q = n at hr
  induction n generalizing v with
  | zero => simp [pows] at hr
  | succ n ih =>
    rcases List.mem_cons.1 hr with rfl | hr
    · exact hv
    · exact ih (nb_lt c v) hr

theorem next_eq {c b n o : Nat} (hb : b < 2 ^ c) (ho : o < 2 ^ c) : (b ^^^ 2 * n ^^^ n / 2 ^^^ o) % 2 ^ c = b ^^^ nb c n ^^^ o := by
  unfold nb
  apply Nat.eq_of_testBit_eq; intro j
  simp only [Nat.testBit_mod_two_pow, Nat.testBit_xor]
  by_cases hj : j < c
  · simp only [hj, decide_true, Bool.true_and, Bool.xor_assoc]
  · rw [testBit_of_lt (Nat.lt_of_lt_of_le hb (Nat.pow_le_pow_right (by decide) (by omega : c ≤ j))), testBit_of_lt (Nat.lt_of_lt_of_le ho (Nat.pow_le_pow_right (by decide) (by omega : c ≤ j)))]
    simp [hj]

theorem wayTo_phi (own : Bool) {c v : Nat} (hv : v < 2 ^ c) : ∀ i, wayTo own c v i = (phi (nb c) v (pathOf own i), phi (nb c) v (pathOf own (i + 1)))
  | 0 => by rw [wayTo, pathOf_zero, pathOf_one, phi_zero, phi_one]
  | i + 1 => by
    rw [wayTo, wayTo_phi own hv i]
    congr 1
    have hb := phi_below hv (pathOf own i)
    have hn := phi_below hv (pathOf own (i + 1))
    simp only
    rw [next_eq hb (by split <;> omega), pathOf_step]
    cases own with
    | false =>
      simp only [Bool.false_eq_true, if_false]
      rw [phi_psum1 (nb_lin c), Nat.xor_zero]
    | true =>
      simp only [if_true]
      rw [phi_psum0, phi_psum1 (nb_lin c)]

theorem way_phi (own : Bool) {r c k : Nat} (hk : k < c) : wayOf own r c k = phi (nb c) (2 ^ k) (pathOf own (r + 1)) := by
  unfold wayOf; rw [wayTo_phi own (Nat.pow_lt_pow_right (by decide) hk)]

theorem mem_ways {own : Bool} {r c x : Nat} : x ∈ waysOf own r c ↔ ∃ k, k < c ∧ x = phi (nb c) (2 ^ k) (pathOf own (r + 1)) := by
  unfold waysOf
  rw [List.mem_map]
  constructor
  · rintro ⟨k, hk, rfl⟩
    have hk : k < c := by simpa using hk
    exact ⟨k, hk, way_phi own hk⟩
  · rintro ⟨k, hk, rfl⟩
    exact ⟨k, by simpa using hk, way_phi own hk⟩

/-- what the rows make is what the two polynomials make -/
theorem ways_span (own : Bool) (r : Nat) {c : Nat} (hc : 1 ≤ c) (x : Nat) :
    Sp (waysOf own r c) x ↔ ∃ z, Idl (pathOf own (r + 1)) (pathOf false (c + 1)) z ∧ phi (nb c) 1 z = x := by
  generalize hp : pathOf own (r + 1) = p
  have hmem : ∀ y, y ∈ waysOf own r c ↔ ∃ k, k < c ∧ y = phi (nb c) (2 ^ k) p := fun y => by rw [mem_ways, hp]
  generalize waysOf own r c = W at *
  have hL := nb_lin c
  have hhalf : ∀ k, k ≤ c → Sp W (phi (nb c) (2 ^ k / 2) p) := by
    intro k hk
    cases k with
    | zero => rw [show 2 ^ 0 / 2 = 0 from rfl, phi_vec0 hL]; exact Sp.zero _
    | succ k => rw [pow_half]; exact Sp.mem ((hmem _).2 ⟨k, by omega, rfl⟩)
  constructor
  · intro h
    have hall : ∀ k, k < c → (∃ z, Idl p (pathOf false (c + 1)) z ∧ phi (nb c) 1 z = phi (nb c) (2 ^ k / 2) p) ∧ (∃ z, Idl p (pathOf false (c + 1)) z ∧ phi (nb c) 1 z = phi (nb c) (2 ^ k) p) := by
      intro k
      induction k with
      | zero =>
        intro _
        exact ⟨⟨0, Idl.zero _ _, by rw [phi_zero, show 2 ^ 0 / 2 = 0 from rfl, phi_vec0 hL]⟩, ⟨p, Idl.left _ _, rfl⟩⟩
      | succ k ih =>
        intro hk
        obtain ⟨⟨y, hy, ey⟩, ⟨z, hz, ez⟩⟩ := ih (by omega)
        refine ⟨⟨z, hz, by rw [ez, pow_half]⟩, ⟨2 * z ^^^ y, hz.dbl.xor hy, ?_⟩⟩
        rw [phi_xor, phi_dbl hL, ez, ey, ← phi_vecM hL, nb_pow hk, phi_vec hL, xor_self_right]
    obtain ⟨cc, rfl⟩ := h
    have hW : ∀ y ∈ W, ∃ z, Idl p (pathOf false (c + 1)) z ∧ phi (nb c) 1 z = y := by
      intro y hy
      obtain ⟨k, hk, rfl⟩ := (hmem y).1 hy
      exact (hall k hk).2
    clear hmem hhalf
    induction W generalizing cc with
    | nil => exact ⟨0, Idl.zero _ _, phi_zero _ _⟩
    | cons a W ih =>
      obtain ⟨z, hz, ez⟩ := ih (cc / 2) (fun y hy => hW y (List.mem_cons_of_mem _ hy))
      obtain ⟨y, hy, ey⟩ := hW a List.mem_cons_self
      by_cases hb : cc.testBit 0 = true
      · exact ⟨y ^^^ z, hy.xor hz, by rw [phi_xor, ey, ez]; simp [eff, hb]⟩
      · exact ⟨z, hz, by rw [ez]; simp [eff, hb]⟩
  · rintro ⟨z, hz, rfl⟩
    have hA : ∀ y, Sp W y → Sp W (nb c y) := by
      intro y hy
      refine (hy.map hL.zero hL.xor).trans fun u hu => ?_
      obtain ⟨t, ht, rfl⟩ := List.mem_map.1 hu
      obtain ⟨k, hk, rfl⟩ := (hmem t).1 ht
      rw [← phi_vecM hL]
      by_cases hkc : k + 1 < c
      · rw [nb_pow hkc, phi_vec hL]
        exact Sp.xor (Sp.mem ((hmem _).2 ⟨k + 1, hkc, rfl⟩)) (hhalf k (by omega))
      · obtain rfl : c = k + 1 := by omega
        rw [nb_last]; exact hhalf k (by omega)
    refine hz (fun z => Sp W (phi (nb c) 1 z)) ?_ ?_ ?_ ?_ ?_
    · rw [phi_zero]; exact Sp.zero _
    · exact Sp.mem ((hmem _).2 ⟨0, by omega, rfl⟩)
    · rw [phi_path_end hc]; exact Sp.zero _
    · intro x y hx hy; rw [phi_xor]; exact Sp.xor hx hy
    · intro x hx; rw [phi_dbl hL]; exact hA _ hx

/-- a basis with as many rows as c is greater than the divisor's degree -/
theorem ways_basis (own : Bool) (r : Nat) {c : Nat} (hc : 1 ≤ c) : ∃ B, Ech B ∧ B.length + (plen (gcdP (pathOf own (r + 1)) (pathOf false (c + 1))) - 1) = c ∧
    plen (gcdP (pathOf own (r + 1)) (pathOf false (c + 1))) ≠ 0 ∧ ∀ x, Sp (waysOf own r c) x ↔ Sp B x := by
  have hsp := ways_span own r hc
  have hsame := gcd_same (pathOf own (r + 1)) (pathOf false (c + 1))
  have hf := pathOf_top false c
  have hf0 : pathOf false (c + 1) ≠ 0 := fun e => by rw [e, plen_zero] at hf; omega
  have hfl : (pathOf false (c + 1)).log2 = c := by unfold plen at hf; rw [if_neg hf0] at hf; omega
  have hfg : Idl (gcdP (pathOf own (r + 1)) (pathOf false (c + 1))) 0 (pathOf false (c + 1)) := (gcd_idl _ _).2.2
  generalize gcdP (pathOf own (r + 1)) (pathOf false (c + 1)) = g at *
  have hg0 : g ≠ 0 := by
    rintro rfl
    obtain ⟨n, hn⟩ := idl_shifts hfg
    refine hf0 ?_
    have := hn.lt (m := 0) (fun y hy => by obtain ⟨i, _, rfl⟩ := mem_shifts.1 hy; simp)
    simpa using this
  have hgl : g.log2 ≤ c := by have := mul_top hg0 hfg hf0; omega
  have hpg : plen g = g.log2 + 1 := by unfold plen; rw [if_neg hg0]
  refine ⟨(shifts g (c - g.log2)).map (phi (nb c) 1), ?_, by rw [List.length_map, shifts_length]; omega, by omega, fun x => ?_⟩
  · have hE := shifts_ech hg0 (c - g.log2)
    have hlt : ∀ y ∈ shifts g (c - g.log2), y < 2 ^ c := fun y hy => by
      obtain ⟨i, hi, rfl⟩ := mem_shifts.1 hy
      apply lt_of_log2; rw [log2_shl hg0]; omega
    refine ⟨fun x hx => ?_, ?_⟩
    · obtain ⟨y, hy, rfl⟩ := List.mem_map.1 hx
      exact (phi_log (hE.1 y hy) (hlt y hy)).1
    · rw [List.pairwise_map]
      refine List.Pairwise.imp_of_mem ?_ hE.2
      intro a b ha hb hab
      rw [(phi_log (hE.1 a ha) (hlt a ha)).2]
      exact phi_lt c hab
  · rw [hsp]
    constructor
    · rintro ⟨z, hz, rfl⟩
      have hz' := (hsame z).1 hz
      -- the rest of z
      have hkeep : Idl g 0 (rem z (pathOf false (c + 1))) ∧ phi (nb c) 1 (rem z (pathOf false (c + 1))) = phi (nb c) 1 z := by
        refine rem_keep (C := fun y => Idl g 0 y ∧ phi (nb c) 1 y = phi (nb c) 1 z) hf0 ?_ _ z (Nat.le_refl _) ⟨hz', rfl⟩
        rintro a h ⟨h1, h2⟩
        refine ⟨h1.psum hfg h, ?_⟩
        unfold psum
        rw [phi_xor, h2, phi_shl0 (nb_lin c) (phi_path_end hc), Nat.xor_zero]
      have hl := rem_plen (a := z) hf0
      generalize rem z (pathOf false (c + 1)) = y at *
      rw [← hkeep.2]
      refine Sp.map (phi_zero _ _) (phi_xor _ _) ((mul_below hg0 hgl y).2 ⟨hkeep.1, ?_⟩)
      exact Nat.lt_of_lt_of_le (lt_plen y) (Nat.pow_le_pow_right (by decide) (by omega))
    · rintro ⟨cc, rfl⟩
      refine ⟨eff (shifts g (c - g.log2)) cc, (hsame _).2 ((mul_below hg0 hgl _).1 ⟨cc, rfl⟩).1, ?_⟩
      exact eff_map (phi (nb c) 1) (phi_zero _ _) (phi_xor _ _) _ _

end Lt

namespace Lt

/-! ### how many rows are apart -/
def Free (l : List Nat) : Prop := ∀ c, eff l c = 0 → ∀ i, i < l.length → c.testBit i = false

theorem free_inj {l : List Nat} (h : Free l) {a b : Nat} (ha : a < 2 ^ l.length) (hb : b < 2 ^ l.length) (he : eff l a = eff l b) : a = b := by
  have : eff l (a ^^^ b) = 0 := by rw [eff_xor, he, Nat.xor_self]
  have hf := h _ this
  apply Nat.eq_of_testBit_eq; intro i
  by_cases hi : i < l.length
  · have := hf i hi
    rw [Nat.testBit_xor] at this
    revert this; cases a.testBit i <;> cases b.testBit i <;> simp
  · have hp : 2 ^ l.length ≤ 2 ^ i := Nat.pow_le_pow_right (by decide) (by omega)
    rw [testBit_of_lt (Nat.lt_of_lt_of_le ha hp), testBit_of_lt (Nat.lt_of_lt_of_le hb hp)]

/-- two that make the same, both without a sum that is 0, are as long -/
theorem free_length {l m : List Nat} (hl : Free l) (hm : Free m) (h : ∀ x, Sp l x ↔ Sp m x) : l.length = m.length := by
  have hnod : ∀ {l : List Nat}, Free l → ((List.range (2 ^ l.length)).map (eff l)).Nodup := by
    intro l hl
    rw [List.nodup_iff_pairwise_ne, List.pairwise_map]
    refine List.Pairwise.imp_of_mem ?_ (List.nodup_iff_pairwise_ne.1 List.nodup_range)
    intro a b ha hb hne he
    exact hne (free_inj hl (by simpa using ha) (by simpa using hb) he)
  have hmem : ∀ (l : List Nat) x, x ∈ (List.range (2 ^ l.length)).map (eff l) ↔ Sp l x := by
    intro l x
    simp only [List.mem_map, List.mem_range]
    constructor
    · rintro ⟨c, _, rfl⟩; exact ⟨c, rfl⟩
    · rintro ⟨c, rfl⟩; exact ⟨c % 2 ^ l.length, Nat.mod_lt _ (Nat.two_pow_pos _), eff_mod l c⟩
  have hp := (List.perm_ext_iff_of_nodup (hnod hl) (hnod hm)).2 (fun x => by rw [hmem, hmem, h])
  have := hp.length_eq
  simp only [List.length_map, List.length_range] at this
  exact (Nat.pow_right_inj (by decide : 1 < 2)).1 this

theorem ech_free {l : List Nat} (h : Ech l) : Free l := fun _ hc => h.free hc

/-- the first j rows cleared of a bit by a row -/
def clrTo (L : List Nat) (rank bit w : Nat) : Nat → List Nat
  | 0 => L
  | j + 1 => if j ≠ rank ∧ (L[j]?.getD 0).testBit bit = true then (clrTo L rank bit w j).set j ((L[j]?.getD 0) ^^^ w) else clrTo L rank bit w j
theorem clrTo_length (L : List Nat) (rank bit w : Nat) : ∀ j, (clrTo L rank bit w j).length = L.length
  | 0 => rfl
  | j + 1 => by rw [clrTo]; split <;> simp [clrTo_length L rank bit w j]

theorem getD_set (l : List Nat) (i j v : Nat) (hi : i < l.length) : (l.set i v)[j]?.getD 0 = if i = j then v else l[j]?.getD 0 := by
  by_cases h : i = j
  · subst h; simp [hi]
  · rw [List.getElem?_set_ne h, if_neg h]

theorem clrTo_at (L : List Nat) (rank bit w : Nat) : ∀ j, j ≤ L.length → ∀ i, (clrTo L rank bit w j)[i]?.getD 0 =
    if i < j ∧ i ≠ rank ∧ (L[i]?.getD 0).testBit bit = true then (L[i]?.getD 0) ^^^ w else L[i]?.getD 0
  | 0, _, i => by rw [clrTo, if_neg (by omega)]
  | j + 1, hj, i => by
    have ih := clrTo_at L rank bit w j (by omega)
    rw [clrTo]
    by_cases h : j ≠ rank ∧ (L[j]?.getD 0).testBit bit = true
    · rw [if_pos h, getD_set _ _ _ _ (by rw [clrTo_length]; omega), ih]
      by_cases e : j = i
      · subst e; rw [if_pos rfl, if_pos ⟨by omega, h.1, h.2⟩]
      · rw [if_neg e]
        by_cases hij : i < j
        · have : (i < j ∧ i ≠ rank ∧ (L[i]?.getD 0).testBit bit = true) ↔ (i < j + 1 ∧ i ≠ rank ∧ (L[i]?.getD 0).testBit bit = true) := by
            constructor <;> rintro ⟨_, h2, h3⟩ <;> exact ⟨by omega, h2, h3⟩
          simp only [this]
        · rw [if_neg (by omega), if_neg (by omega)]
    · rw [if_neg h, ih]
      by_cases e : j = i
      · subst e
        rw [if_neg (by omega), if_neg (by rintro ⟨_, h2, h3⟩; exact h ⟨h2, h3⟩)]
      · have : (i < j ∧ i ≠ rank ∧ (L[i]?.getD 0).testBit bit = true) ↔ (i < j + 1 ∧ i ≠ rank ∧ (L[i]?.getD 0).testBit bit = true) := by
          constructor <;> rintro ⟨_, h2, h3⟩ <;> exact ⟨by omega, h2, h3⟩
        simp only [this]

structure Gs (W : List Nat) (c bit : Nat) (L : List Nat) (rank : Nat) : Prop where
  len : L.length = c
  rk : rank ≤ c
  span : ∀ x, Sp L x ↔ Sp W x
  low : ∀ j, rank ≤ j → j < c → ∀ i, i < bit → (L[j]?.getD 0).testBit i = false
  piv : ∃ π : Nat → Nat, ∀ i, i < rank → (L[i]?.getD 0).testBit (π i) = true ∧ ∀ j, j < c → j ≠ i → (L[j]?.getD 0).testBit (π i) = false
  lt : ∀ j, j < c → (L[j]?.getD 0) < 2 ^ c

theorem Gs.start {W : List Nat} {c : Nat} (hl : W.length = c) (hlt : ∀ j, j < c → (W[j]?.getD 0) < 2 ^ c) : Gs W c 0 W 0 :=
  ⟨hl, Nat.zero_le _, fun _ => Iff.rfl, fun _ _ _ i hi => by omega, ⟨fun _ => 0, fun i hi => by omega⟩, hlt⟩

theorem Gs.skip {W : List Nat} {c bit : Nat} {L : List Nat} {rank : Nat} (h : Gs W c bit L rank) (hno : ∀ i, rank ≤ i → i < c → (L[i]?.getD 0).testBit bit = false) : Gs W c (bit + 1) L rank :=
  ⟨h.len, h.rk, h.span, fun j hj hjc i hi => by
    by_cases e : i = bit
    · subst e; exact hno j hj hjc
    · exact h.low j hj hjc i (by omega), h.piv, h.lt⟩

theorem mem_getD {L : List Nat} {i : Nat} (h : i < L.length) : (L[i]?.getD 0) ∈ L := by
  rw [List.getElem?_eq_getElem h]; exact List.getElem_mem h
theorem sp_of_getD {L : List Nat} {P : Nat → Prop} (h : ∀ i, i < L.length → P (L[i]?.getD 0)) : ∀ y ∈ L, P y := by
  intro y hy
  obtain ⟨i, hi, rfl⟩ := List.getElem_of_mem hy
  have := h i hi
  rwa [List.getElem?_eq_getElem hi] at this

/-- two rows exchanged -/
def swp (L : List Nat) (k rank : Nat) : List Nat := (L.set k (L[rank]?.getD 0)).set rank (L[k]?.getD 0)
theorem swp_length (L : List Nat) (k rank : Nat) : (swp L k rank).length = L.length := by simp [swp]
theorem swp_at {L : List Nat} {k rank : Nat} (hk : k < L.length) (hr : rank < L.length) (i : Nat) :
    (swp L k rank)[i]?.getD 0 = if rank = i then L[k]?.getD 0 else if k = i then L[rank]?.getD 0 else L[i]?.getD 0 := by
  unfold swp
  rw [getD_set _ _ _ _ (by simpa using hr), getD_set _ _ _ _ hk]

theorem Gs.pivot {W : List Nat} {c bit : Nat} {L : List Nat} {rank k : Nat} (h : Gs W c bit L rank) (hrk : rank ≤ k) (hk : k < c) (hb : (L[k]?.getD 0).testBit bit = true) :
    Gs W c (bit + 1) (clrTo (swp L k rank) rank bit (L[k]?.getD 0) c) (rank + 1) := by
  have hlen := h.len
  have hL1 : (swp L k rank).length = c := by rw [swp_length, hlen]
  have h1 := swp_at (L := L) (k := k) (rank := rank) (by omega) (by omega)
  have h2 := clrTo_at (swp L k rank) rank bit (L[k]?.getD 0) c (by omega)
  have hlen2 : (clrTo (swp L k rank) rank bit (L[k]?.getD 0) c).length = c := by rw [clrTo_length, hL1]
  generalize clrTo (swp L k rank) rank bit (L[k]?.getD 0) c = L2 at *
  generalize swp L k rank = L1 at *
  have hw : L2[rank]?.getD 0 = L[k]?.getD 0 := by rw [h2, if_neg (by omega), h1, if_pos rfl]
  -- each row of the second list is a row of the first
  have h1old : ∀ i, i < c → ∃ j, j < c ∧ L1[i]?.getD 0 = L[j]?.getD 0 ∧ (i ≠ rank → rank < i → rank ≤ j) ∧ (i < rank → j = i) ∧ (i ≠ rank → j ≠ k) := by
    intro i hi
    rw [h1]
    by_cases e1 : rank = i
    · exact ⟨k, hk, by rw [if_pos e1], fun h => absurd e1.symm h, fun h => by omega, fun h => absurd e1.symm h⟩
    · rw [if_neg e1]
      by_cases e2 : k = i
      · exact ⟨rank, by omega, by rw [if_pos e2], fun _ _ => Nat.le_refl _, fun h => by omega, fun _ => by omega⟩
      · exact ⟨i, hi, by rw [if_neg e2], fun _ h => by omega, fun _ => rfl, fun _ => fun e => e2 e.symm⟩
  have hlow : ∀ j, rank ≤ j → j < c → ∀ i, i < bit → (L1[j]?.getD 0).testBit i = false := by
    intro j hj hjc i hi
    obtain ⟨j', hj', e, hr, _, _⟩ := h1old j hjc
    rw [e]
    by_cases ej : j = rank
    · subst ej
      rw [h1, if_pos rfl] at e
      rw [← e]; exact h.low k hrk hk i hi
    · exact h.low j' (hr ej (by omega)) hj' i hi
  refine ⟨hlen2, by omega, fun x => ?_, ?_, ?_, ?_⟩
  · rw [← h.span]
    constructor
    · intro hx
      refine hx.trans (sp_of_getD fun i hi => ?_)
      have hi : i < c := by omega
      obtain ⟨j, hj, e, -⟩ := h1old i hi
      rw [h2, e]
      split
      · exact Sp.xor (Sp.mem (mem_getD (by omega))) (Sp.mem (mem_getD (by omega)))
      · exact Sp.mem (mem_getD (by omega))
    · intro hx
      have hmw : Sp L2 (L[k]?.getD 0) := by rw [← hw]; exact Sp.mem (mem_getD (by omega))
      have hm1 : ∀ i, i < c → Sp L2 (L1[i]?.getD 0) := by
        intro i hi
        have hm : Sp L2 (L2[i]?.getD 0) := Sp.mem (mem_getD (by omega))
        rw [h2] at hm
        split at hm
        · have := Sp.xor hm hmw
          rwa [xor_self_right] at this
        · exact hm
      refine hx.trans (sp_of_getD fun i hi => ?_)
      have hi : i < c := by omega
      by_cases e1 : i = k
      · subst e1; exact hmw
      · by_cases e2 : i = rank
        · subst e2
          have := hm1 k hk
          rw [h1, if_neg (fun e => e1 e), if_pos rfl] at this
          exact this
        · have := hm1 i hi
          rw [h1, if_neg (fun e => e2 e.symm), if_neg (fun e => e1 e.symm)] at this
          exact this
  · intro j hj hjc i hi
    rw [h2]
    by_cases e : i = bit
    · subst e
      by_cases hbt : (L1[j]?.getD 0).testBit i = true
      · rw [if_pos ⟨hjc, by omega, hbt⟩, Nat.testBit_xor, hbt, hb]; rfl
      · rw [if_neg (by rintro ⟨_, _, h⟩; exact hbt h)]; simpa using hbt
    · have hl := hlow j (by omega) hjc i (by omega)
      have hkl := h.low k hrk hk i (by omega)
      split
      · rw [Nat.testBit_xor, hl, hkl]; rfl
      · exact hl
  · obtain ⟨π, hπ⟩ := h.piv
    refine ⟨fun i => if i = rank then bit else π i, fun i hi => ?_⟩
    by_cases e : i = rank
    · subst e
      simp only [if_true]
      refine ⟨by rw [hw]; exact hb, fun j hj hne => ?_⟩
      rw [h2]
      by_cases hbt : (L1[j]?.getD 0).testBit bit = true
      · rw [if_pos ⟨hj, hne, hbt⟩, Nat.testBit_xor, hbt, hb]; rfl
      · rw [if_neg (by rintro ⟨_, _, h⟩; exact hbt h)]; simpa using hbt
    · simp only [if_neg e]
      have hlt : i < rank := by omega
      obtain ⟨p1, p2⟩ := hπ i hlt
      have hkπ : (L[k]?.getD 0).testBit (π i) = false := p2 k hk (by omega)
      have key : ∀ j, j < c → (L2[j]?.getD 0).testBit (π i) = (L1[j]?.getD 0).testBit (π i) := by
        intro j hj
        rw [h2]; split
        · rw [Nat.testBit_xor, hkπ]; simp
        · rfl
      refine ⟨?_, fun j hj hne => ?_⟩
      · rw [key i (by omega), h1, if_neg (by omega), if_neg (by omega)]; exact p1
      · rw [key j hj]
        obtain ⟨j', hj', e', _, hb', _⟩ := h1old j hj
        rw [e']
        refine p2 j' hj' ?_
        rintro rfl
        -- only row i itself lies at i
        rw [h1] at e'
        by_cases e1 : rank = j
        · rw [if_pos e1] at e'
          have := congrArg (fun z => z.testBit (π j')) e'
          simp only [hkπ, p1] at this; cases this
        · rw [if_neg e1] at e'
          by_cases e2 : k = j
          · rw [if_pos e2] at e'
            have := congrArg (fun z => z.testBit (π j')) e'
            simp only [p1, p2 rank (by omega) (by omega)] at this; cases this
          · rw [if_neg e2] at e'
            have := congrArg (fun z => z.testBit (π j')) e'
            simp only [p1, p2 j hj hne] at this; cases this
  · intro j hj
    rw [h2]
    obtain ⟨j', hj', e', -⟩ := h1old j hj
    rw [e']
    split
    · exact Nat.xor_lt_two_pow (h.lt j' hj') (h.lt k hk)
    · exact h.lt j' hj'

/-- at the end the rank is the length of any basis -/
theorem Gs.rank {W : List Nat} {c : Nat} {L : List Nat} {rank : Nat} (h : Gs W c c L rank) {B : List Nat} (hB : Free B) (hs : ∀ x, Sp W x ↔ Sp B x) : rank = B.length := by
  have hlen := h.len
  have hrk := h.rk
  have htl : (L.take rank).length = rank := by simp; omega
  have hat : ∀ i, i < rank → (L.take rank)[i]?.getD 0 = L[i]?.getD 0 := fun i hi => by rw [List.getElem?_take, if_pos hi]
  have hspan : ∀ x, Sp (L.take rank) x ↔ Sp B x := by
    intro x
    rw [← hs, ← h.span]
    constructor
    · intro hx; exact hx.sub fun y hy => List.mem_of_mem_take hy
    · intro hx
      refine hx.trans (sp_of_getD fun i hi => ?_)
      by_cases hir : i < rank
      · rw [← hat i hir]; exact Sp.mem (mem_getD (by omega))
      · have hz : L[i]?.getD 0 = 0 := by
          apply Nat.eq_of_testBit_eq; intro j
          rw [Nat.zero_testBit]
          by_cases hj : j < c
          · exact h.low i (by omega) (by omega) j hj
          · exact testBit_of_lt (Nat.lt_of_lt_of_le (h.lt i (by omega)) (Nat.pow_le_pow_right (by decide) (by omega)))
        rw [hz]; exact Sp.zero _
  have hfree : Free (L.take rank) := by
    obtain ⟨π, hπ⟩ := h.piv
    intro c' hc' i hi
    rw [htl] at hi
    obtain ⟨p1, p2⟩ := hπ i hi
    have hx := eff_testBit (L.take rank) c' (π i)
    rw [hc', Nat.zero_testBit, htl] at hx
    rw [xsum_congr (g := fun j => decide (j = i) && c'.testBit j) (fun j hj => by
      rw [hat j hj]
      by_cases e : j = i
      · subst e; rw [p1]; simp
      · rw [p2 j (by omega) e]; simp [e]), xsum_one rank i hi] at hx
    exact hx.symm
  rw [← htl]
  exact free_length hfree hB hspan

/-- the reference's number is the divisor's degree -/
theorem gs_grid (own : Bool) (r : Nat) {c : Nat} (hc : 1 ≤ c) {L : List Nat} {rank : Nat} (h : Gs (waysOf own r c) c c L rank) :
    c - rank = plen (gcdP (pathOf own (r + 1)) (pathOf false (c + 1))) - 1 ∧ rank ≤ c ∧ plen (gcdP (pathOf own (r + 1)) (pathOf false (c + 1))) ≠ 0 := by
  obtain ⟨B, hB, hl, hne, hs⟩ := ways_basis own r hc
  have := h.rank (ech_free hB) hs
  have := h.rk
  exact ⟨by omega, this, hne⟩

end Lt

namespace Lt

/-! ### x + 1 in the place of x -/
def xp1 (v : Nat) : Nat := v ^^^ 2 * v
theorem xp1_lin : Lin xp1 := ⟨rfl, fun a b => by unfold xp1; rw [dbl_xor, xor4]⟩
theorem xp1_bit (v j : Nat) : (xp1 v).testBit (j + 1) = (v.testBit (j + 1) ^^ v.testBit j) := by unfold xp1; rw [Nat.testBit_xor, testBit_dbl]
theorem xp1_bit0 (v : Nat) : (xp1 v).testBit 0 = v.testBit 0 := by unfold xp1; rw [Nat.testBit_xor, testBit_dbl0]; simp
def sub1 (q : Nat) : Nat := phi xp1 1 q

theorem sub1_zero : sub1 0 = 0 := phi_zero _ _
theorem sub1_one : sub1 1 = 1 := phi_one _ _
theorem sub1_xor (a b : Nat) : sub1 (a ^^^ b) = sub1 a ^^^ sub1 b := phi_xor _ _ a b
theorem sub1_dbl (q : Nat) : sub1 (2 * q) = xp1 (sub1 q) := phi_dbl xp1_lin 1 q

theorem halves (q : Nat) : 2 * (q / 2) ^^^ q % 2 = q := by
  apply Nat.eq_of_testBit_eq; intro j
  rw [Nat.testBit_xor]
  cases j with
  | zero => rw [testBit_dbl0]; rcases Nat.mod_two_eq_zero_or_one q with h | h <;> simp [h, Nat.testBit_zero]
  | succ j =>
    rw [testBit_dbl, testBit_div2]
    have : (q % 2).testBit (j + 1) = false := testBit_of_lt (Nat.lt_of_lt_of_le (Nat.mod_lt q (by decide)) (by have := Nat.two_pow_pos j; rw [Nat.pow_succ]; omega))
    rw [this]; simp
theorem sub1_horner (q : Nat) : sub1 q = xp1 (sub1 (q / 2)) ^^^ q % 2 := by
  have h := congrArg sub1 (halves q)
  rw [sub1_xor, sub1_dbl] at h
  have : sub1 (q % 2) = q % 2 := by
    rcases Nat.mod_two_eq_zero_or_one q with h | h <;> rw [h]
    · exact sub1_zero
    · exact sub1_one
  rw [this] at h; exact h.symm
theorem sub1_xp1 (y : Nat) : sub1 (xp1 y) = 2 * sub1 y := by
  unfold xp1
  rw [sub1_xor, sub1_dbl]
  unfold xp1
  rw [← Nat.xor_assoc, Nat.xor_self, Nat.zero_xor]
theorem sub1_sub1 (q : Nat) : sub1 (sub1 q) = q := by
  induction q using Nat.strongRecOn with
  | ind q ih =>
    by_cases h0 : q = 0
    · subst h0; rw [sub1_zero, sub1_zero]
    · rw [sub1_horner q, sub1_xor, sub1_xp1, ih (q / 2) (by omega)]
      have : sub1 (q % 2) = q % 2 := by
        rcases Nat.mod_two_eq_zero_or_one q with h | h <;> rw [h]
        · exact sub1_zero
        · exact sub1_one
      rw [this]; exact halves q
theorem sub1_path : ∀ k, sub1 (pathOf false k) = pathOf true k ∧ sub1 (pathOf false (k + 1)) = pathOf true (k + 1)
  | 0 => ⟨by rw [pathOf_zero, pathOf_zero, sub1_zero], by rw [pathOf_one, pathOf_one, sub1_one]⟩
  | k + 1 => by
    obtain ⟨h1, h2⟩ := sub1_path k
    refine ⟨h2, ?_⟩
    rw [pathOf_step, pathOf_step]
    simp only [Bool.false_eq_true, if_false, if_true]
    have e := phi_psum1 xp1_lin 1 (pathOf false k) (pathOf false (k + 1))
    have e2 : sub1 (psum (pathOf false k) (pathOf false (k + 1)) 1) = sub1 (pathOf false k) ^^^ xp1 (sub1 (pathOf false (k + 1))) := e
    rw [e2, h1, h2]
    unfold psum xp1
    rw [Nat.xor_assoc, show pathOf true (k + 1) <<< 1 = 2 * pathOf true (k + 1) by rw [Nat.shiftLeft_eq]; omega, Nat.shiftLeft_zero, Nat.xor_comm (2 * pathOf true (k + 1))]
theorem sub1_path' (k : Nat) : sub1 (pathOf true k) = pathOf false k := by rw [← (sub1_path k).1, sub1_sub1]

theorem pows_lt1 : ∀ (n m v r : Nat), v < 2 ^ (m + 1) → r ∈ pows xp1 v n → r < 2 ^ (m + n)
  | 0, _, _, _, _, hr => by simp [pows] at hr
  | n + 1, m, v, r, hv, hr => by
    rcases List.mem_cons.1 hr with rfl | hr
    · exact Nat.lt_of_lt_of_le hv (Nat.pow_le_pow_right (by decide) (by omega))
    · have h1 : xp1 v < 2 ^ (m + 1 + 1) := by
        have h2 : 2 ^ (m + 1) ≤ 2 ^ (m + 1 + 1) := Nat.pow_le_pow_right (by decide) (by omega)
        exact Nat.xor_lt_two_pow (by omega) (by rw [Nat.pow_succ]; omega)
      have := pows_lt1 n (m + 1) (xp1 v) r h1 hr
      rw [show m + (n + 1) = m + 1 + n by omega]; exact this
theorem sub1_lt {z j : Nat} (h : z < 2 ^ j) : sub1 z < 2 ^ j := by
  unfold sub1
  rw [← phi_of _ 1 h]
  exact eff_lt (fun r hr => by have := pows_lt1 j 0 1 r (by decide) hr; simpa using this) z
theorem sub1_plen (z : Nat) : plen (sub1 z) = plen z := by
  have h1 := plen_le (sub1_lt (lt_plen z))
  have h2 := plen_le (sub1_lt (lt_plen (sub1 z)))
  rw [sub1_sub1] at h2
  omega
theorem sub1_idl {a b z : Nat} (h : Idl a b z) : Idl (sub1 a) (sub1 b) (sub1 z) := by
  refine h (fun z => Idl (sub1 a) (sub1 b) (sub1 z)) ?_ (Idl.left _ _) (Idl.right _ _) ?_ ?_
  · rw [sub1_zero]; exact Idl.zero _ _
  · intro x y hx hy; rw [sub1_xor]; exact hx.xor hy
  · intro x hx; rw [sub1_dbl]; exact hx.xor hx.dbl

/-! ### the degree of the divisor -/
theorem idl_zero {z : Nat} (h : Idl 0 0 z) : z = 0 := h (fun z => z = 0) rfl rfl rfl (fun x y hx hy => by rw [hx, hy]; rfl) (fun x hx => by rw [hx])
theorem gcd_ne {a b : Nat} (hb : b ≠ 0) : gcdP a b ≠ 0 := by
  intro e
  have := (gcd_idl a b).2.2
  rw [e] at this
  exact hb (idl_zero this)
/-- whatever makes the same has the divisor's degree -/
theorem common_deg {a b A : Nat} (hb : b ≠ 0) (h : ∀ z, Idl A 0 z ↔ Idl a b z) : plen A = plen (gcdP a b) := by
  have hA : A ≠ 0 := by
    rintro rfl
    exact hb (idl_zero ((h b).2 (Idl.right _ _)))
  exact idl_deg hA (gcd_ne hb) (fun z => (h z).trans (gcd_same a b z))
theorem path_ne (more : Bool) (k : Nat) : pathOf more (k + 1) ≠ 0 := fun e => by
  have := pathOf_top more k
  rw [e, plen_zero] at this; omega

/-- rows and columns exchanged -/
theorem deg_swap (own : Bool) (r c : Nat) : plen (gcdP (pathOf own (r + 1)) (pathOf false (c + 1))) = plen (gcdP (pathOf own (c + 1)) (pathOf false (r + 1))) := by
  cases own with
  | false =>
    refine common_deg (path_ne _ _) fun z => ?_
    rw [← gcd_same]
    exact ⟨Idl.swap, Idl.swap⟩
  | true =>
    rw [← sub1_plen (gcdP (pathOf true (r + 1)) (pathOf false (c + 1)))]
    refine common_deg (path_ne _ _) fun z => ?_
    obtain ⟨h1, h2, h3⟩ := gcd_idl (pathOf true (r + 1)) (pathOf false (c + 1))
    generalize gcdP (pathOf true (r + 1)) (pathOf false (c + 1)) = g at *
    have k1 := sub1_idl h1
    have k2 := sub1_idl h2
    have k3 := sub1_idl h3
    rw [sub1_path', (sub1_path (c + 1)).1] at k1
    rw [sub1_path', sub1_zero] at k2
    rw [(sub1_path (c + 1)).1, sub1_zero] at k3
    exact ⟨fun h => h.trans k1.swap (Idl.zero _ _), fun h => h.trans k3 k2⟩

end Lt
