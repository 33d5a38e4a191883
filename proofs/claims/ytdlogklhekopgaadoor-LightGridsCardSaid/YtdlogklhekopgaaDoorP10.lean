/- Plain facts on the lamps (no program): part P10 of the proof. -/
import Derived.Test.YtdlogklhekopgaaDoorP9
set_option linter.unusedVariables false
set_option linter.unusedSimpArgs false
namespace Lt

/-! ### graphs -/
def cmpI (a b : Int) : Int := if a < b then -1 else if b < a then 1 else 0
def cmp2 (a0 a1 b0 b1 : Int) : Int := if cmpI a0 b0 ≠ 0 then cmpI a0 b0 else cmpI a1 b1

def edgeOk (n : Int) (last e : Int × Int) : Bool := !decide (cmp2 e.1 e.2 last.1 last.2 ≤ 0) && !decide (e.1 < 0) && !decide (e.2 ≤ e.1) && !decide (n ≤ e.2)
def edgesOk (n : Int) : Int × Int → List (Int × Int) → Bool
  | _, [] => true
  | last, e :: es => edgeOk n last e && edgesOk n e es
def lastOf (last : Int × Int) (es : List (Int × Int)) : Int × Int := es.foldl (fun _ e => e) last
def addEdge (l : List Nat) (e : Int × Int) : List Nat := (l.modify e.1.toNat (· ||| 2 ^ e.2.toNat)).modify e.2.toNat (· ||| 2 ^ e.1.toNat)
def rowsOf (n : Nat) (es : List (Int × Int)) : List Nat := es.foldl addEdge (List.replicate n 0)
def ownTo (l : List Nat) : Nat → List Nat
  | 0 => l
  | k + 1 => (ownTo l k).modify k (· ||| 2 ^ k)
/-- what each lamp switches -/
def graph (n : Nat) (es : List (Int × Int)) (own : Bool) : List Nat := if own then ownTo (rowsOf n es) n else rowsOf n es

theorem edgesOk_append (n : Int) (last : Int × Int) (a b : List (Int × Int)) : edgesOk n last (a ++ b) = (edgesOk n last a && edgesOk n (lastOf last a) b) := by
  induction a generalizing last with
  | nil => simp [edgesOk, lastOf]
  | cons e a ih => simp only [List.cons_append, edgesOk, ih, lastOf, List.foldl_cons, Bool.and_assoc]

theorem getD_modify (l : List Nat) (i j : Nat) (f : Nat → Nat) (hi : i < l.length) : ((l.modify i f)[j]?).getD 0 = if i = j then f (l[j]?.getD 0) else l[j]?.getD 0 := by
  rw [List.getElem?_modify]
  by_cases h : i = j
  · subst h; simp [hi]
  · simp [h]

theorem addEdge_length (l : List Nat) (e : Int × Int) : (addEdge l e).length = l.length := by simp [addEdge]
theorem rowsOf_length (n : Nat) (es : List (Int × Int)) : (rowsOf n es).length = n := by
  unfold rowsOf
  suffices h : ∀ l : List Nat, (es.foldl addEdge l).length = l.length by rw [h]; simp
  induction es with
  | nil => intro l; rfl
  | cons e es ih => intro l; rw [List.foldl_cons, ih, addEdge_length]
theorem ownTo_length (l : List Nat) : ∀ k, (ownTo l k).length = l.length
  | 0 => rfl
  | k + 1 => by simp [ownTo, ownTo_length l k]
theorem graph_length (n : Nat) (es : List (Int × Int)) (own : Bool) : (graph n es own).length = n := by
  unfold graph; split
  · rw [ownTo_length, rowsOf_length]
  · exact rowsOf_length n es

theorem rowsOf_snoc (n : Nat) (es : List (Int × Int)) (e : Int × Int) : rowsOf n (es ++ [e]) = addEdge (rowsOf n es) e := by simp [rowsOf, List.foldl_append]
theorem lastOf_snoc (last : Int × Int) (es : List (Int × Int)) (e : Int × Int) : lastOf last (es ++ [e]) = e := by simp [lastOf, List.foldl_append]

/-- an edge that is in order: two lamps below n -/
theorem edgeOk_parts {n : Int} {last e : Int × Int} (h : edgeOk n last e = true) : 0 < cmp2 e.1 e.2 last.1 last.2 ∧ 0 ≤ e.1 ∧ e.1 < e.2 ∧ e.2 < n := by
  simp only [edgeOk, Bool.and_eq_true, Bool.not_eq_true', decide_eq_false_iff_not] at h; omega

theorem edgesOk_mem {n : Int} {last : Int × Int} {es : List (Int × Int)} (h : edgesOk n last es = true) : ∀ e ∈ es, 0 ≤ e.1 ∧ e.1 < e.2 ∧ e.2 < n := by
  induction es generalizing last with
  | nil => simp
  | cons e es ih =>
    simp only [edgesOk, Bool.and_eq_true] at h
    intro x hx
    rcases List.mem_cons.1 hx with rfl | hx
    · have := edgeOk_parts h.1; omega
    · exact ih h.2 x hx

/-- the bits of a row -/
theorem addEdge_bit {l : List Nat} {e : Int × Int} (h : 0 ≤ e.1 ∧ e.1 < e.2 ∧ e.2 < l.length) (i j : Nat) :
    ((addEdge l e)[i]?.getD 0).testBit j = ((l[i]?.getD 0).testBit j || (decide (e.1 = i) && decide (e.2 = j)) || (decide (e.2 = i) && decide (e.1 = j))) := by
  obtain ⟨h0, h1, h2⟩ := h
  unfold addEdge
  rw [getD_modify _ _ _ _ (by simp; omega), getD_modify _ _ _ _ (by omega)]
  have d1 : decide (e.1 = (i : Int)) = decide (e.1.toNat = i) := by rw [decide_eq_decide]; omega
  have d2 : decide (e.2 = (j : Int)) = decide (e.2.toNat = j) := by rw [decide_eq_decide]; omega
  have d3 : decide (e.2 = (i : Int)) = decide (e.2.toNat = i) := by rw [decide_eq_decide]; omega
  have d4 : decide (e.1 = (j : Int)) = decide (e.1.toNat = j) := by rw [decide_eq_decide]; omega
  rw [d1, d2, d3, d4]
  have hne : e.1.toNat ≠ e.2.toNat := by omega
  generalize e.1.toNat = a at *
  generalize e.2.toNat = b at *
  by_cases ha : a = i
  · by_cases hb : b = i
    · omega
    · simp [ha, hb, Nat.testBit_or, Nat.testBit_two_pow]
  · by_cases hb : b = i
    · simp [ha, hb, Nat.testBit_or, Nat.testBit_two_pow]
    · simp [ha, hb]

theorem rows_bit {n : Nat} {es : List (Int × Int)} (h : ∀ e ∈ es, 0 ≤ e.1 ∧ e.1 < e.2 ∧ e.2 < (n : Int)) (i j : Nat) :
    ((rowsOf n es)[i]?.getD 0).testBit j = es.any (fun e => (decide (e.1 = i) && decide (e.2 = j)) || (decide (e.2 = i) && decide (e.1 = j))) := by
  unfold rowsOf
  suffices hs : ∀ l : List Nat, l.length = n → ((es.foldl addEdge l)[i]?.getD 0).testBit j = ((l[i]?.getD 0).testBit j || es.any (fun e => (decide (e.1 = i) && decide (e.2 = j)) || (decide (e.2 = i) && decide (e.1 = j)))) by
    rw [hs _ (by simp)]
    have : (List.replicate n 0)[i]?.getD 0 = 0 := by
      rw [List.getElem?_replicate]; split <;> rfl
    rw [this]; simp
  induction es with
  | nil => intro l _; simp
  | cons e es ih =>
    intro l hl
    rw [List.foldl_cons, ih (fun x hx => h x (by simp [hx])) _ (by rw [addEdge_length, hl]), addEdge_bit (by rw [hl]; exact h e (by simp)), List.any_cons]
    simp only [Bool.or_assoc]

theorem ownTo_bit {l : List Nat} (i j : Nat) : ∀ k, k ≤ l.length → ((ownTo l k)[i]?.getD 0).testBit j = ((l[i]?.getD 0).testBit j || (decide (i < k) && decide (i = j)))
  | 0, _ => by simp [ownTo]
  | k + 1, hk => by
    rw [ownTo, getD_modify _ _ _ _ (by rw [ownTo_length]; omega)]
    by_cases e : k = i
    · subst e
      rw [if_pos rfl, Nat.testBit_or, ownTo_bit k j k (by omega), Nat.testBit_two_pow]
      simp
    · rw [if_neg e, ownTo_bit i j k (by omega)]
      have : decide (i < k) = decide (i < k + 1) := by rw [decide_eq_decide]; omega
      rw [this]

theorem any_swap (es : List (Int × Int)) (i j : Nat) : es.any (fun e => (decide (e.1 = i) && decide (e.2 = j)) || (decide (e.2 = i) && decide (e.1 = j))) = es.any (fun e => (decide (e.1 = j) && decide (e.2 = i)) || (decide (e.2 = j) && decide (e.1 = i))) := by
  congr 1; funext e
  cases decide (e.1 = (i : Int)) <;> cases decide (e.2 = (j : Int)) <;> cases decide (e.2 = (i : Int)) <;> cases decide (e.1 = (j : Int)) <;> rfl

theorem graph_bit {n : Nat} {es : List (Int × Int)} (h : ∀ e ∈ es, 0 ≤ e.1 ∧ e.1 < e.2 ∧ e.2 < (n : Int)) (own : Bool) (i j : Nat) :
    ((graph n es own)[i]?.getD 0).testBit j = (es.any (fun e => (decide (e.1 = i) && decide (e.2 = j)) || (decide (e.2 = i) && decide (e.1 = j))) || (own && decide (i < n) && decide (i = j))) := by
  unfold graph
  cases own with
  | true => rw [if_pos rfl, ownTo_bit i j n (by rw [rowsOf_length]; exact Nat.le_refl _), rows_bit h]; simp
  | false => rw [if_neg (by simp), rows_bit h]; simp

theorem graph_sym {n : Nat} {es : List (Int × Int)} (h : ∀ e ∈ es, 0 ≤ e.1 ∧ e.1 < e.2 ∧ e.2 < (n : Int)) (own : Bool) : Sym (graph n es own) := by
  intro i j hi hj
  rw [graph_length] at hi hj
  rw [graph_bit h, graph_bit h, any_swap]
  by_cases e : i = j
  · subst e; rfl
  · have e' : ¬ j = i := fun h => e h.symm
    simp [e, e']

theorem graph_small {n : Nat} {es : List (Int × Int)} (h : ∀ e ∈ es, 0 ≤ e.1 ∧ e.1 < e.2 ∧ e.2 < (n : Int)) (own : Bool) : Small (graph n es own) := by
  intro r hr
  obtain ⟨i, hi, rfl⟩ := List.getElem_of_mem hr
  rw [graph_length] at *
  apply Nat.lt_pow_two_of_testBit
  intro j hj
  have hb := graph_bit h own i j
  have e1 : (graph n es own)[i]?.getD 0 = (graph n es own)[i]'(by rw [graph_length]; exact hi) := by simp [graph_length, hi]
  rw [e1] at hb
  rw [hb]
  have h1 : es.any (fun e => (decide (e.1 = (i : Int)) && decide (e.2 = (j : Int))) || (decide (e.2 = (i : Int)) && decide (e.1 = (j : Int)))) = false := by
    rw [List.any_eq_false]; intro e he
    have := h e he
    have d1 : decide (e.2 = (j : Int)) = false := by rw [decide_eq_false_iff_not]; omega
    have d2 : decide (e.1 = (j : Int)) = false := by rw [decide_eq_false_iff_not]; omega
    simp [d1, d2]
  have h2 : decide (i = j) = false := by rw [decide_eq_false_iff_not]; omega
  rw [h1, h2]; simp

theorem graph_own {n : Nat} {es : List (Int × Int)} (h : ∀ e ∈ es, 0 ≤ e.1 ∧ e.1 < e.2 ∧ e.2 < (n : Int)) (i : Nat) (hi : i < n) : ((graph n es true)[i]?.getD 0).testBit i = true := by
  rw [graph_bit h]; simp [hi]

end Lt
