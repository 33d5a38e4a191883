/- Plain facts on the lamps (no program): part P2 of the proof. -/
import Derived.Test.YtdlogklhekopgaaDoorP1
set_option linter.unusedVariables false
set_option linter.unusedSimpArgs false
namespace Lt

def xsum : Nat → (Nat → Bool) → Bool
  | 0, _ => false
  | n + 1, f => xsum n f ^^ f n

theorem xsum_congr {n : Nat} {f g : Nat → Bool} (h : ∀ i, i < n → f i = g i) : xsum n f = xsum n g := by
  induction n with
  | zero => rfl
  | succ n ih => simp only [xsum]; rw [ih (fun i hi => h i (by omega)), h n (by omega)]

theorem xsum_false (n : Nat) : xsum n (fun _ => false) = false := by
  induction n with
  | zero => rfl
  | succ n ih => simp [xsum, ih]

theorem xsum_xor (n : Nat) (f g : Nat → Bool) : xsum n (fun i => f i ^^ g i) = (xsum n f ^^ xsum n g) := by
  induction n with
  | zero => rfl
  | succ n ih =>
    simp only [xsum, ih]
    cases xsum n f <;> cases xsum n g <;> cases f n <;> cases g n <;> rfl

theorem xsum_and (n : Nat) (b : Bool) (f : Nat → Bool) : (b && xsum n f) = xsum n (fun i => b && f i) := by
  cases b
  · simp [xsum_false]
  · simp

theorem xsum_swap (n m : Nat) (f : Nat → Nat → Bool) : xsum n (fun i => xsum m (fun j => f i j)) = xsum m (fun j => xsum n (fun i => f i j)) := by
  induction n with
  | zero => simp [xsum, xsum_false]
  | succ n ih => simp only [xsum]; rw [xsum_xor, ih]

theorem xsum_one (n i : Nat) (hi : i < n) (f : Nat → Bool) : xsum n (fun j => decide (j = i) && f j) = f i := by
  induction n with
  | zero => omega
  | succ n ih =>
    simp only [xsum]
    by_cases h : i = n
    · subst h
      rw [xsum_congr (g := fun _ => false) (fun j hj => by have : j ≠ i := by omega
                                                           simp [this]), xsum_false]
      simp
    · rw [ih (by omega)]
      have : n ≠ i := fun e => h e.symm
      simp [this]

/-- the first one apart -/
theorem xsum_succ (n : Nat) (f : Nat → Bool) : xsum (n + 1) f = (f 0 ^^ xsum n (fun i => f (i + 1))) := by
  induction n with
  | zero => simp [xsum]
  | succ n ih => rw [xsum, ih, xsum]; cases f 0 <;> simp

/-- the parity of what q and x have in common among the first k bits -/
def dot (k q x : Nat) : Bool := xsum k (fun i => q.testBit i && x.testBit i)

theorem dot_comm (k q x : Nat) : dot k q x = dot k x q := by
  unfold dot; exact xsum_congr fun i _ => Bool.and_comm _ _

theorem dot_xor (k q a b : Nat) : dot k q (a ^^^ b) = (dot k q a ^^ dot k q b) := by
  unfold dot; rw [← xsum_xor]
  exact xsum_congr fun i _ => by rw [Nat.testBit_xor]; cases q.testBit i <;> simp

theorem dot_xor_left (k a b x : Nat) : dot k (a ^^^ b) x = (dot k a x ^^ dot k b x) := by
  rw [dot_comm, dot_xor, dot_comm k x a, dot_comm k x b]

theorem dot_zero (k q : Nat) : dot k q 0 = false := by
  unfold dot; simp [xsum_false]

theorem dot_bit (k i x : Nat) (hi : i < k) : dot k (2 ^ i) x = x.testBit i := by
  unfold dot
  rw [xsum_congr (g := fun j => decide (j = i) && x.testBit j) (fun j _ => by
    rw [Nat.testBit_two_pow]
    by_cases h : i = j
    · simp [h]
    · have : ¬ j = i := fun e => h e.symm
      simp [h, this])]
  exact xsum_one k i hi _

theorem eff_testBit (l : List Nat) (s j : Nat) : (eff l s).testBit j = xsum l.length (fun i => s.testBit i && (l[i]?.getD 0).testBit j) := by
  induction l generalizing s with
  | nil => simp [eff, xsum]
  | cons r rs ih =>
    rw [eff_testBit_cons, ih, List.length_cons, xsum_succ]
    simp [testBit_div2]

/-- symmetric: i switches j just if j switches i -/
def Sym (l : List Nat) : Prop := ∀ i j, i < l.length → j < l.length → (l[i]?.getD 0).testBit j = (l[j]?.getD 0).testBit i

theorem dot_eff_sym {l : List Nat} (h : Sym l) (q s : Nat) : dot l.length q (eff l s) = dot l.length s (eff l q) := by
  unfold dot
  rw [xsum_congr (g := fun i => xsum l.length (fun j => q.testBit i && (s.testBit j && (l[j]?.getD 0).testBit i))) (fun i _ => by rw [eff_testBit, xsum_and])]
  rw [xsum_swap]
  refine xsum_congr fun j hj => ?_
  rw [eff_testBit, xsum_and]
  refine xsum_congr fun i hi => ?_
  rw [h j i hj hi]
  cases q.testBit i <;> cases s.testBit j <;> simp

/-- all lamps: dot with q is the parity of q -/
def popN : Nat → Nat → Nat
  | 0, _ => 0
  | k + 1, x => x % 2 + popN k (x / 2)

theorem popN_odd (k x : Nat) : (popN k x % 2 == 1) = xsum k (fun i => x.testBit i) := by
  induction k generalizing x with
  | zero => rfl
  | succ k ih =>
    rw [xsum_succ, xsum_congr (g := fun i => (x / 2).testBit i) (fun i _ => (testBit_div2 x i).symm), ← ih]
    simp only [popN, Nat.testBit_zero]
    rcases Nat.mod_two_eq_zero_or_one x with h | h <;> rcases Nat.mod_two_eq_zero_or_one (popN k (x / 2)) with h' | h' <;> simp [h, h', Nat.add_mod]

theorem popN_dot (k q x : Nat) : (popN k (q &&& x) % 2 == 1) = dot k q x := by
  rw [popN_odd]; unfold dot; exact xsum_congr fun i _ => Nat.testBit_and _ _ _

/-- with own, the lamps that q has in common with its own effect are as odd as q itself -/
theorem xsum_pairs (n : Nat) (f : Nat → Nat → Bool) (h : ∀ i j, i < n → j < n → f i j = f j i) : xsum n (fun i => xsum n (fun j => f i j)) = xsum n (fun i => f i i) := by
  induction n with
  | zero => rfl
  | succ n ih =>
    simp only [xsum]
    rw [xsum_xor, ih (fun i j hi hj => h i j (by omega) (by omega)), xsum_congr (g := fun i => f n i) (fun i hi => h i n (by omega) (by omega))]
    cases xsum n (fun i => f i i) <;> cases xsum n (fun i => f n i) <;> simp

theorem dot_self {l : List Nat} (h : Sym l) (ho : ∀ i, i < l.length → (l[i]?.getD 0).testBit i = true) (q : Nat) : dot l.length q (eff l q) = xsum l.length (fun i => q.testBit i) := by
  unfold dot
  rw [xsum_congr (g := fun i => xsum l.length (fun j => q.testBit i && (q.testBit j && (l[j]?.getD 0).testBit i))) (fun i _ => by rw [eff_testBit, xsum_and])]
  rw [xsum_pairs]
  · exact xsum_congr fun i hi => by rw [ho i hi]; simp
  · intro i j hi hj
    rw [h j i hj hi]; cases q.testBit i <;> cases q.testBit j <;> simp

end Lt
