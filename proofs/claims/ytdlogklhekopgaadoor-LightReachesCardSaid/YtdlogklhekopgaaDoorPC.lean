/- Plain facts on the lamps (no program): a part of the proof. -/
import Derived.Test.YtdlogklhekopgaaDoorPB
import Derived.Test.YtdlogklhekopgaaDoorPA
set_option linter.unusedVariables false
set_option linter.unusedSimpArgs false

namespace Lt

/-! ### the reference's rows -/
def ref0 (n : Nat) (own : Bool) : List Nat := if own then ownTo (List.replicate n 0) n else List.replicate n 0
def nearOf (n : Nat) (es : List (Int × Int)) (own : Bool) : List Nat := es.foldl addEdge (ref0 n own)
theorem ref0_length (n : Nat) (own : Bool) : (ref0 n own).length = n := by
  unfold ref0; split
  · rw [ownTo_length]; simp
  · simp
theorem foldl_addEdge_length (es : List (Int × Int)) : ∀ l : List Nat, (es.foldl addEdge l).length = l.length := by
  induction es with
  | nil => intro l; rfl
  | cons e es ih => intro l; rw [List.foldl_cons, ih, addEdge_length]
theorem nearOf_length (n : Nat) (es : List (Int × Int)) (own : Bool) : (nearOf n es own).length = n := by
  unfold nearOf; rw [foldl_addEdge_length, ref0_length]
theorem fold_bit {n : Nat} (i j : Nat) : ∀ (es : List (Int × Int)) (l : List Nat), (∀ e ∈ es, 0 ≤ e.1 ∧ e.1 < e.2 ∧ e.2 < (n : Int)) → l.length = n →
    ((es.foldl addEdge l)[i]?.getD 0).testBit j = ((l[i]?.getD 0).testBit j || es.any (fun e => (decide (e.1 = i) && decide (e.2 = j)) || (decide (e.2 = i) && decide (e.1 = j))))
  | [], l, _, _ => by simp
  | e :: es, l, h, hl => by
    rw [List.foldl_cons, fold_bit i j es _ (fun x hx => h x (by simp [hx])) (by rw [addEdge_length, hl]), addEdge_bit (by rw [hl]; exact h e (by simp)), List.any_cons]
    simp only [Bool.or_assoc]
theorem zeros_bit (n i j : Nat) : ((List.replicate n 0)[i]?.getD 0).testBit j = false := by
  have : (List.replicate n 0)[i]?.getD 0 = 0 := by rw [List.getElem?_replicate]; split <;> rfl
  rw [this]; simp
theorem list_of_bits {l m : List Nat} (hl : l.length = m.length) (h : ∀ i j : Nat, (l[i]?.getD 0).testBit j = (m[i]?.getD 0).testBit j) : l = m := by
  apply List.ext_getElem?
  intro i
  have : l[i]?.getD 0 = m[i]?.getD 0 := Nat.eq_of_testBit_eq (h i)
  by_cases hi : i < l.length
  · rw [List.getElem?_eq_getElem hi, List.getElem?_eq_getElem (by omega)] at this ⊢
    simpa using this
  · rw [List.getElem?_eq_none (by omega), List.getElem?_eq_none (by omega)]
/-- the reference's rows are the program's -/
theorem near_graph {n : Nat} {es : List (Int × Int)} (h : ∀ e ∈ es, 0 ≤ e.1 ∧ e.1 < e.2 ∧ e.2 < (n : Int)) (own : Bool) : nearOf n es own = graph n es own := by
  refine list_of_bits (by rw [nearOf_length, graph_length]) fun i j => ?_
  rw [graph_bit h, nearOf, fold_bit (n := n) i j es _ h (ref0_length n own)]
  unfold ref0
  cases own with
  | true => rw [if_pos rfl, ownTo_bit i j n (by simp), zeros_bit]; simp [Bool.or_comm]
  | false => rw [if_neg (by simp), zeros_bit]; simp

/-- an edge, as two stores -/
theorem modify_set (l : List Nat) (i : Nat) (f : Nat → Nat) (hi : i < l.length) : l.modify i f = l.set i (f (l[i]?.getD 0)) := by
  apply List.ext_getElem?
  intro j
  rw [List.getElem?_modify, List.getElem?_set]
  by_cases e : i = j
  · subst e; simp [hi]
  · simp [e]
theorem addEdge_set (l : List Nat) (A B : Nat) (hA : A < l.length) (hB : B < l.length) (hne : A ≠ B) :
    addEdge l ((A : Int), (B : Int)) = (l.set A (l[A]?.getD 0 ||| 2 ^ B)).set B (l[B]?.getD 0 ||| 2 ^ A) := by
  unfold addEdge
  simp only [Int.toNat_natCast]
  rw [modify_set _ B _ (by simp; exact hB), modify_set _ A _ hA]
  congr 2
  rw [List.getElem?_set_ne hne]
theorem own_set (n k : Nat) (hk : k < n) : ownTo (List.replicate n 0) (k + 1) = (ownTo (List.replicate n 0) k).set k (2 ^ k) := by
  rw [ownTo, modify_set _ _ _ (by rw [ownTo_length]; simpa using hk)]
  congr 1
  have h0 : (ownTo (List.replicate n 0) k)[k]?.getD 0 = 0 := by
    apply Nat.eq_of_testBit_eq; intro j
    rw [ownTo_bit k j k (by simp; omega), zeros_bit]; simp
  rw [h0]; simp

theorem set_lt {l : List Nat} {m i x : Nat} (h : ∀ y ∈ l, y < m) (hx : x < m) : ∀ y ∈ l.set i x, y < m := by
  intro y hy
  rcases List.mem_or_eq_of_mem_set hy with h1 | h1
  · exact h y h1
  · rw [h1]; exact hx
end Lt

namespace Lt
theorem dot_ext {k q x : Nat} (hq : q < 2 ^ k) : ∀ d, dot (k + d) q x = dot k q x
  | 0 => rfl
  | d + 1 => by
    have ih := dot_ext (x := x) hq d
    have e : dot (k + (d + 1)) q x = (dot (k + d) q x ^^ (q.testBit (k + d) && x.testBit (k + d))) := rfl
    rw [e, ih, testBit_of_lt (Nat.lt_of_lt_of_le hq (pow_le (by omega)))]
    simp
/-- an odd number in common -/
theorem pop_dot {k q x : Nat} (hq : q < 2 ^ k) (hk : k ≤ 64) : (pop (q &&& x) % 2 == 1) = dot k q x := by
  unfold pop
  rw [popN_dot, ← dot_ext hq (64 - k), show k + (64 - k) = 64 by omega]
end Lt
