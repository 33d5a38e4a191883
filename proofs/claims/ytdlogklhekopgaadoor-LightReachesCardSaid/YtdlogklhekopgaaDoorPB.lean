/- Plain facts on the lamps (no program): a part of the proof. -/
import Derived.Test.YtdlogklhekopgaaDoorPA
import Derived.Lib.TrailingZeros
import Derived.Laws.Bits64b
import Derived.WalkArith
set_option linter.unusedVariables false
set_option linter.unusedSimpArgs false

namespace Lt
open Go

/-! ### the members of a set -/
def bitsOf (x : Nat) : List Nat := (List.range 64).filter (fun i => x.testBit i)

theorem ctz_parts {x : Nat} (h0 : x ≠ 0) (h : x < 2 ^ 64) : ∃ m, x = 2 ^ Lib.ctz 64 x * (2 * m + 1) ∧ Lib.ctz 64 x < 64 := by
  have e : Lib.ctz 64 x = Lib.ctzFrom 64 x := by unfold Lib.ctz; simp [h0]
  rw [e]; exact Lib.ctzFrom_spec 64 x (by omega) h

theorem clear_low {x k m : Nat} (hx : x = 2 ^ k * (2 * m + 1)) (i : Nat) : (x &&& (x - 1)).testBit i = (x.testBit i && decide (i ≠ k)) := by
  have hp := Nat.two_pow_pos k
  have e1 : x = 2 ^ k * (2 * m + 1) + 0 := by omega
  have e2 : x - 1 = 2 ^ k * (2 * m) + (2 ^ k - 1) := by rw [hx, Nat.mul_add, Nat.mul_one]; omega
  rw [Nat.testBit_and, e2, Nat.testBit_two_pow_mul_add (2 * m) (by omega : 2 ^ k - 1 < 2 ^ k) i]
  have e3 : x.testBit i = if i < k then false else (2 * m + 1).testBit (i - k) := by
    rw [e1, Nat.testBit_two_pow_mul_add (2 * m + 1) hp i]; simp
  rw [e3]
  by_cases h : i < k
  · simp [h]
  · by_cases e : i = k
    · subst e; simp [Nat.testBit_zero]
    · obtain ⟨j, rfl⟩ : ∃ j, i = k + (j + 1) := ⟨i - k - 1, by omega⟩
      have e4 : k + (j + 1) - k = j + 1 := by omega
      have d1 : (2 * m + 1) / 2 = m := by omega
      have d2 : (2 * m) / 2 = m := by omega
      simp [h, e4, Nat.testBit_succ, d1, d2]

theorem low_bit {x k m : Nat} (hx : x = 2 ^ k * (2 * m + 1)) : x.testBit k = true ∧ ∀ i, i < k → x.testBit i = false := by
  have e1 : x = 2 ^ k * (2 * m + 1) + 0 := by omega
  constructor
  · rw [e1, Nat.testBit_two_pow_mul_add (2 * m + 1) (Nat.two_pow_pos k) k]; simp [Nat.testBit_zero]
  · intro i hi; rw [e1, Nat.testBit_two_pow_mul_add (2 * m + 1) (Nat.two_pow_pos k) i]; simp [hi]

theorem filter_range_head {p q : Nat → Bool} {n k : Nat} (hk : k < n) (hp : p k = true) (hlow : ∀ i, i < k → p i = false) (hq : ∀ i, q i = (p i && decide (i ≠ k))) :
    (List.range n).filter p = k :: (List.range n).filter q := by
  obtain ⟨d, rfl⟩ : ∃ d, n = k + 1 + d := ⟨n - k - 1, by omega⟩
  rw [List.range_add, List.range_succ]
  simp only [List.filter_append]
  have h1 : (List.range k).filter p = [] := by
    rw [List.filter_eq_nil_iff]; intro i hi; simp [hlow i (by simpa using hi)]
  have h2 : (List.range k).filter q = [] := by
    rw [List.filter_eq_nil_iff]; intro i hi; simp [hq, hlow i (by simpa using hi)]
  have h3 : [k].filter q = [] := by simp [hq]
  have h4 : ((List.range d).map (fun x => k + 1 + x)).filter p = ((List.range d).map (fun x => k + 1 + x)).filter q := by
    apply List.filter_congr
    intro i hi
    obtain ⟨j, _, rfl⟩ := List.mem_map.1 hi
    rw [hq]; have : k + 1 + j ≠ k := by omega
    simp [this]
  rw [h1, h2, h3, h4]; simp [hp]

theorem bitsOf_step {x : Nat} (h0 : x ≠ 0) (h : x < 2 ^ 64) : bitsOf x = Lib.ctz 64 x :: bitsOf (x &&& (x - 1)) := by
  obtain ⟨m, hm, hk⟩ := ctz_parts h0 h
  obtain ⟨h1, h2⟩ := low_bit hm
  exact filter_range_head hk h1 h2 (fun i => clear_low hm i)

theorem bitsOf_zero : bitsOf 0 = [] := by
  unfold bitsOf; rw [List.filter_eq_nil_iff]; simp

theorem clear_lt {x : Nat} (h0 : x ≠ 0) (h : x < 2 ^ 64) : (x &&& (x - 1)) < x := by
  have := Nat.and_le_right (n := x) (m := x - 1); omega

/-- the sum of the rows of the members, one after the other -/
def effList (l : List Nat) (is : List Nat) : Nat := is.foldl (fun a i => a ^^^ l[i]?.getD 0) 0
theorem effList_snoc (l is : List Nat) (i : Nat) : effList l (is ++ [i]) = effList l is ^^^ l[i]?.getD 0 := by simp [effList, List.foldl_append]

theorem eff_take (l : List Nat) (s n : Nat) : eff (l.take (n + 1)) s = eff (l.take n) s ^^^ (if s.testBit n then l[n]?.getD 0 else 0) := by
  by_cases h : n < l.length
  · rw [List.take_succ_eq_append_getElem h, eff_snoc]
    simp [Nat.min_eq_left (Nat.le_of_lt h), h]
  · have e1 : l.take (n + 1) = l := List.take_of_length_le (by omega)
    have e2 : l.take n = l := List.take_of_length_le (by omega)
    have e3 : l[n]? = none := List.getElem?_eq_none_iff.2 (by omega)
    rw [e1, e2, e3]; simp

theorem effList_filter (l : List Nat) (s : Nat) : ∀ n, effList l ((List.range n).filter (fun i => s.testBit i)) = eff (l.take n) s
  | 0 => by simp [effList, eff]
  | n + 1 => by
    rw [eff_take, ← effList_filter l s n, List.range_succ, List.filter_append]
    cases h : s.testBit n with
    | true =>
      have e : [n].filter (fun i => s.testBit i) = [n] := by simp [h]
      rw [e, effList_snoc]; simp
    | false =>
      have e : [n].filter (fun i => s.testBit i) = [] := by simp [h]
      rw [e]; simp

theorem effList_bitsOf {l : List Nat} (hl : l.length ≤ 64) (s : Nat) : effList l (bitsOf s) = eff l s := by
  unfold bitsOf; rw [effList_filter, List.take_of_length_le hl]

end Lt

namespace Lt
open Go

theorem ofInt64 (a : Nat) (ha : a < 9223372036854775808) : (BitVec.ofInt 64 (a : Int)).toNat = a := by
  rw [BitVec.ofInt_natCast, BitVec.toNat_ofNat]; exact Nat.mod_eq_of_lt (by omega)

theorem wrap_i64_nat (x : Nat) (h : x < 9223372036854775808) : IntKind.i64.wrap (x : Int) = x := by
  simp only [IntKind.wrap, IntKind.signed, IntKind.bits]
  simp
  omega

theorem xor_i64 (a b : Nat) (ha : a < 9223372036854775808) (hb : b < 9223372036854775808) : bits .xor .i64 (a : Int) (b : Int) = ((a ^^^ b : Nat) : Int) := by
  have hx : a ^^^ b < 2 ^ 63 := Nat.xor_lt_two_pow (by omega) (by omega)
  show IntKind.i64.wrap ((BitVec.ofInt 64 (a : Int) ^^^ BitVec.ofInt 64 (b : Int)).toNat : Int) = _
  rw [BitVec.toNat_xor, ofInt64 a ha, ofInt64 b hb, wrap_i64_nat _ (by omega)]

theorem or_i64 (a b : Nat) (ha : a < 9223372036854775808) (hb : b < 9223372036854775808) : bits .or .i64 (a : Int) (b : Int) = ((a ||| b : Nat) : Int) := by
  have hx : a ||| b < 2 ^ 63 := Nat.or_lt_two_pow (by omega) (by omega)
  show IntKind.i64.wrap ((BitVec.ofInt 64 (a : Int) ||| BitVec.ofInt 64 (b : Int)).toNat : Int) = _
  rw [BitVec.toNat_or, ofInt64 a ha, ofInt64 b hb, wrap_i64_nat _ (by omega)]

theorem and_i64 (a b : Nat) (ha : a < 9223372036854775808) (hb : b < 9223372036854775808) : bits .and .i64 (a : Int) (b : Int) = ((a &&& b : Nat) : Int) := by
  have hx : a &&& b < 2 ^ 63 := Nat.and_lt_two_pow _ (by omega)
  show IntKind.i64.wrap ((BitVec.ofInt 64 (a : Int) &&& BitVec.ofInt 64 (b : Int)).toNat : Int) = _
  rw [BitVec.toNat_and, ofInt64 a ha, ofInt64 b hb, wrap_i64_nat _ (by omega)]

theorem wrap_u64_nat (x : Nat) (h : x < 18446744073709551616) : IntKind.u64.wrap (x : Int) = x := by
  rw [IntKind.wrap_u64]; omega

end Lt

namespace Lt
open Go

def swar (x : Nat) : Nat :=
  let a1 := (x / 2 &&& 6148914691236517205) + (x &&& 6148914691236517205)
  let a2 := (a1 / 4 &&& 3689348814741910323) + (a1 &&& 3689348814741910323)
  let a3 := (a2 / 16 + a2) &&& 1085102592571150095
  let a4 := a3 + a3 / 256
  let a5 := a4 + a4 / 65536
  let a6 := a5 + a5 / 4294967296
  a6 &&& 127

theorem popN_small : ∀ (k x : Nat), x < 2 ^ k → ∀ d, popN (k + d) x = popN k x
  | 0, x, h, d => by
    have : x = 0 := by simpa using h
    subst this
    induction d with
    | zero => rfl
    | succ d ih => simp [popN] at *; exact ih
  | k + 1, x, h, d => by
    have e : k + 1 + d = (k + d) + 1 := by omega
    rw [e, popN, popN, popN_small k (x / 2) (by rw [Nat.pow_succ] at h; omega) d]

/-- all numbers below n meet p -/
def allBelow (p : Nat → Bool) : Nat → Bool
  | 0 => true
  | n + 1 => p n && allBelow p n
theorem allBelow_at {p : Nat → Bool} : ∀ {n : Nat}, allBelow p n = true → ∀ i, i < n → p i = true
  | n + 1, h, i, hi => by
    simp only [allBelow, Bool.and_eq_true] at h
    by_cases e : i = n
    · subst e; exact h.1
    · exact allBelow_at h.2 i (by omega)

set_option maxRecDepth 1000000 in
theorem swar_row : allBelow (fun h => allBelow (fun l => Nat.beq (swar (256 * h + l)) (popN 8 h + popN 8 l)) 256) 256 = true := by decide +kernel

theorem popN_split : ∀ (j k x : Nat), popN (j + k) x = popN j (x % 2 ^ j) + popN k (x / 2 ^ j)
  | 0, k, x => by simp [popN]
  | j + 1, k, x => by
    have e : j + 1 + k = (j + k) + 1 := by omega
    have h1 : x % 2 ^ (j + 1) % 2 = x % 2 := by
      rw [Nat.pow_succ, Nat.mul_comm]; exact Nat.mod_mul_right_mod x 2 (2 ^ j)
    have h2 : x % 2 ^ (j + 1) / 2 = x / 2 % 2 ^ j := by
      rw [Nat.pow_succ, Nat.mul_comm, Nat.mod_mul_right_div_self]
    have h3 : x / 2 / 2 ^ j = x / 2 ^ (j + 1) := by rw [Nat.div_div_eq_div_mul, Nat.pow_succ, Nat.mul_comm]
    rw [e, popN, popN_split j k (x / 2), popN, h1, h2, h3]; omega

theorem swar_pop {x : Nat} (h : x < 65536) : swar x = pop x := by
  have h1 := allBelow_at (allBelow_at swar_row (x / 256) (by omega)) (x % 256) (by omega)
  rw [Nat.div_add_mod] at h1
  rw [Nat.eq_of_beq_eq_true h1]
  unfold pop
  have e : (64 : Nat) = 8 + 56 := rfl
  have h2 : popN 56 (x / 2 ^ 8) = popN 8 (x / 256) := popN_small 8 (x / 2 ^ 8) (by omega) 48
  rw [e, popN_split 8 56 x, h2]
  have : x % 2 ^ 8 = x % 256 := rfl
  rw [this]; omega

theorem and_u64 (a b : Nat) (ha : a < 18446744073709551616) (hb : b < 18446744073709551616) : bits .and .u64 (a : Int) (b : Int) = ((a &&& b : Nat) : Int) := bits_and_u64_nat a b ha hb

theorem swar_bounds {x : Nat} (h : x < 65536) : ∃ a1 a2 a3 a4 a5 a6 : Nat, a1 < 131072 ∧ a2 < 262144 ∧ a3 < 524288 ∧ a4 < 1048576 ∧ a5 < 2097152 ∧ a6 < 4194304 ∧
    (x / 2 &&& 6148914691236517205) + (x &&& 6148914691236517205) = a1 ∧ (a1 / 4 &&& 3689348814741910323) + (a1 &&& 3689348814741910323) = a2 ∧ (a2 / 16 + a2) &&& 1085102592571150095 = a3 ∧
    a3 + a3 / 256 = a4 ∧ a4 + a4 / 65536 = a5 ∧ a5 + a5 / 4294967296 = a6 ∧ a6 &&& 127 = pop x := by
  have hp := swar_pop h
  unfold swar at hp
  dsimp only at hp
  have b1 : (x / 2 &&& 6148914691236517205) + (x &&& 6148914691236517205) < 131072 := by
    have h1 : (x / 2 &&& 6148914691236517205) ≤ x / 2 := Nat.and_le_left
    have h2 : (x &&& 6148914691236517205) ≤ x := Nat.and_le_left
    omega
  generalize e1 : (x / 2 &&& 6148914691236517205) + (x &&& 6148914691236517205) = a1 at *
  have b2 : (a1 / 4 &&& 3689348814741910323) + (a1 &&& 3689348814741910323) < 262144 := by
    have h1 : (a1 / 4 &&& 3689348814741910323) ≤ a1 / 4 := Nat.and_le_left
    have h2 : (a1 &&& 3689348814741910323) ≤ a1 := Nat.and_le_left
    omega
  generalize e2 : (a1 / 4 &&& 3689348814741910323) + (a1 &&& 3689348814741910323) = a2 at *
  have b3 : (a2 / 16 + a2) &&& 1085102592571150095 < 524288 := by
    have h1 : (a2 / 16 + a2) &&& 1085102592571150095 ≤ a2 / 16 + a2 := Nat.and_le_left
    omega
  generalize e3 : (a2 / 16 + a2) &&& 1085102592571150095 = a3 at *
  exact ⟨a1, a2, a3, _, _, _, b1, b2, b3, by omega, by omega, by omega, rfl, e2, e3, rfl, rfl, rfl, hp⟩

end Lt

namespace Lt

/-! ### graphs -/
def cmpI (a b : Int) : Int := if a < b then -1 else if b < a then 1 else 0
def cmp2 (a0 a1 b0 b1 : Int) : Int := if cmpI a0 b0 ≠ 0 then cmpI a0 b0 else cmpI a1 b1

def edgeOk (n : Int) (last e : Int × Int) : Bool := !decide (cmp2 e.1 e.2 last.1 last.2 ≤ 0) && !decide (e.1 < 0) && !decide (e.2 ≤ e.1) && !decide (n ≤ e.2)
def edgesOk (n : Int) : Int × Int → List (Int × Int) → Bool
  | _, [] => true
  | last, e :: es => edgeOk n last e && edgesOk n e es
def lastOf (last : Int × Int) (es : List (Int × Int)) : Int × Int := es.foldl (fun _ e => e) last
def addEdge (l : List Nat) (e : Int × Int) : List Nat := (l.modify e.1.toNat (· ||| 2 ^ e.2.toNat)).modify e.2.toNat (· ||| 2 ^ e.1.toNat)
def rowsOf (n : Nat) (es : List (Int × Int)) : List Nat := es.foldl addEdge (List.replicate n 0)
def ownTo (l : List Nat) : Nat → List Nat
  | 0 => l
  | k + 1 => (ownTo l k).modify k (· ||| 2 ^ k)
/-- what each lamp switches -/
def graph (n : Nat) (es : List (Int × Int)) (own : Bool) : List Nat := if own then ownTo (rowsOf n es) n else rowsOf n es

theorem edgesOk_append (n : Int) (last : Int × Int) (a b : List (Int × Int)) : edgesOk n last (a ++ b) = (edgesOk n last a && edgesOk n (lastOf last a) b) := by
  induction a generalizing last with
  | nil => simp [edgesOk, lastOf]
  | cons e a ih => simp only [List.cons_append, edgesOk, ih, lastOf, List.foldl_cons, Bool.and_assoc]

theorem getD_modify (l : List Nat) (i j : Nat) (f : Nat → Nat) (hi : i < l.length) : ((l.modify i f)[j]?).getD 0 = if i = j then f (l[j]?.getD 0) else l[j]?.getD 0 := by
  rw [List.getElem?_modify]
  by_cases h : i = j
  · subst h; simp [hi]
  · simp [h]

theorem addEdge_length (l : List Nat) (e : Int × Int) : (addEdge l e).length = l.length := by simp [addEdge]
theorem rowsOf_length (n : Nat) (es : List (Int × Int)) : (rowsOf n es).length = n := by
  unfold rowsOf
  suffices h : ∀ l : List Nat, (es.foldl addEdge l).length = l.length by rw [h]; simp
  induction es with
  | nil => intro l; rfl
  | cons e es ih => intro l; rw [List.foldl_cons, ih, addEdge_length]
theorem ownTo_length (l : List Nat) : ∀ k, (ownTo l k).length = l.length
  | 0 => rfl
  | k + 1 => by simp [ownTo, ownTo_length l k]
theorem graph_length (n : Nat) (es : List (Int × Int)) (own : Bool) : (graph n es own).length = n := by
  unfold graph; split
  · rw [ownTo_length, rowsOf_length]
  · exact rowsOf_length n es

theorem rowsOf_snoc (n : Nat) (es : List (Int × Int)) (e : Int × Int) : rowsOf n (es ++ [e]) = addEdge (rowsOf n es) e := by simp [rowsOf, List.foldl_append]
theorem lastOf_snoc (last : Int × Int) (es : List (Int × Int)) (e : Int × Int) : lastOf last (es ++ [e]) = e := by simp [lastOf, List.foldl_append]

/-- an edge that is in order: two lamps below n -/
theorem edgeOk_parts {n : Int} {last e : Int × Int} (h : edgeOk n last e = true) : 0 < cmp2 e.1 e.2 last.1 last.2 ∧ 0 ≤ e.1 ∧ e.1 < e.2 ∧ e.2 < n := by
  simp only [edgeOk, Bool.and_eq_true, Bool.not_eq_true', decide_eq_false_iff_not] at h; omega

theorem edgesOk_mem {n : Int} {last : Int × Int} {es : List (Int × Int)} (h : edgesOk n last es = true) : ∀ e ∈ es, 0 ≤ e.1 ∧ e.1 < e.2 ∧ e.2 < n := by
  induction es generalizing last with
  | nil => simp
  | cons e es ih =>
    simp only [edgesOk, Bool.and_eq_true] at h
    intro x hx
    rcases List.mem_cons.1 hx with rfl | hx
    · have := edgeOk_parts h.1; omega
    · exact ih h.2 x hx

/-- the bits of a row -/
theorem addEdge_bit {l : List Nat} {e : Int × Int} (h : 0 ≤ e.1 ∧ e.1 < e.2 ∧ e.2 < l.length) (i j : Nat) :
    ((addEdge l e)[i]?.getD 0).testBit j = ((l[i]?.getD 0).testBit j || (decide (e.1 = i) && decide (e.2 = j)) || (decide (e.2 = i) && decide (e.1 = j))) := by
  obtain ⟨h0, h1, h2⟩ := h
  unfold addEdge
  rw [getD_modify _ _ _ _ (by simp; omega), getD_modify _ _ _ _ (by omega)]
  have d1 : decide (e.1 = (i : Int)) = decide (e.1.toNat = i) := by rw [decide_eq_decide]; omega
  have d2 : decide (e.2 = (j : Int)) = decide (e.2.toNat = j) := by rw [decide_eq_decide]; omega
  have d3 : decide (e.2 = (i : Int)) = decide (e.2.toNat = i) := by rw [decide_eq_decide]; omega
  have d4 : decide (e.1 = (j : Int)) = decide (e.1.toNat = j) := by rw [decide_eq_decide]; omega
  rw [d1, d2, d3, d4]
  have hne : e.1.toNat ≠ e.2.toNat := by omega
  generalize e.1.toNat = a at *
  generalize e.2.toNat = b at *
  by_cases ha : a = i
  · by_cases hb : b = i
    · omega
    · simp [ha, hb, Nat.testBit_or, Nat.testBit_two_pow]
  · by_cases hb : b = i
    · simp [ha, hb, Nat.testBit_or, Nat.testBit_two_pow]
    · simp [ha, hb]

theorem rows_bit {n : Nat} {es : List (Int × Int)} (h : ∀ e ∈ es, 0 ≤ e.1 ∧ e.1 < e.2 ∧ e.2 < (n : Int)) (i j : Nat) :
    ((rowsOf n es)[i]?.getD 0).testBit j = es.any (fun e => (decide (e.1 = i) && decide (e.2 = j)) || (decide (e.2 = i) && decide (e.1 = j))) := by
  unfold rowsOf
  suffices hs : ∀ l : List Nat, l.length = n → ((es.foldl addEdge l)[i]?.getD 0).testBit j = ((l[i]?.getD 0).testBit j || es.any (fun e => (decide (e.1 = i) && decide (e.2 = j)) || (decide (e.2 = i) && decide (e.1 = j)))) by
    rw [hs _ (by simp)]
    have : (List.replicate n 0)[i]?.getD 0 = 0 := by
      rw [List.getElem?_replicate]; split <;> rfl
    rw [this]; simp
  induction es with
  | nil => intro l _; simp
  | cons e es ih =>
    intro l hl
    rw [List.foldl_cons, ih (fun x hx => h x (by simp [hx])) _ (by rw [addEdge_length, hl]), addEdge_bit (by rw [hl]; exact h e (by simp)), List.any_cons]
    simp only [Bool.or_assoc]

theorem ownTo_bit {l : List Nat} (i j : Nat) : ∀ k, k ≤ l.length → ((ownTo l k)[i]?.getD 0).testBit j = ((l[i]?.getD 0).testBit j || (decide (i < k) && decide (i = j)))
  | 0, _ => by simp [ownTo]
  | k + 1, hk => by
    rw [ownTo, getD_modify _ _ _ _ (by rw [ownTo_length]; omega)]
    by_cases e : k = i
    · subst e
      rw [if_pos rfl, Nat.testBit_or, ownTo_bit k j k (by omega), Nat.testBit_two_pow]
      simp
    · rw [if_neg e, ownTo_bit i j k (by omega)]
      have : decide (i < k) = decide (i < k + 1) := by rw [decide_eq_decide]; omega
      rw [this]

theorem any_swap (es : List (Int × Int)) (i j : Nat) : es.any (fun e => (decide (e.1 = i) && decide (e.2 = j)) || (decide (e.2 = i) && decide (e.1 = j))) = es.any (fun e => (decide (e.1 = j) && decide (e.2 = i)) || (decide (e.2 = j) && decide (e.1 = i))) := by
  congr 1; funext e
  cases decide (e.1 = (i : Int)) <;> cases decide (e.2 = (j : Int)) <;> cases decide (e.2 = (i : Int)) <;> cases decide (e.1 = (j : Int)) <;> rfl

theorem graph_bit {n : Nat} {es : List (Int × Int)} (h : ∀ e ∈ es, 0 ≤ e.1 ∧ e.1 < e.2 ∧ e.2 < (n : Int)) (own : Bool) (i j : Nat) :
    ((graph n es own)[i]?.getD 0).testBit j = (es.any (fun e => (decide (e.1 = i) && decide (e.2 = j)) || (decide (e.2 = i) && decide (e.1 = j))) || (own && decide (i < n) && decide (i = j))) := by
  unfold graph
  cases own with
  | true => rw [if_pos rfl, ownTo_bit i j n (by rw [rowsOf_length]; exact Nat.le_refl _), rows_bit h]; simp
  | false => rw [if_neg (by simp), rows_bit h]; simp

theorem graph_sym {n : Nat} {es : List (Int × Int)} (h : ∀ e ∈ es, 0 ≤ e.1 ∧ e.1 < e.2 ∧ e.2 < (n : Int)) (own : Bool) : Sym (graph n es own) := by
  intro i j hi hj
  rw [graph_length] at hi hj
  rw [graph_bit h, graph_bit h, any_swap]
  by_cases e : i = j
  · subst e; rfl
  · have e' : ¬ j = i := fun h => e h.symm
    simp [e, e']

theorem graph_small {n : Nat} {es : List (Int × Int)} (h : ∀ e ∈ es, 0 ≤ e.1 ∧ e.1 < e.2 ∧ e.2 < (n : Int)) (own : Bool) : Small (graph n es own) := by
  intro r hr
  obtain ⟨i, hi, rfl⟩ := List.getElem_of_mem hr
  rw [graph_length] at *
  apply Nat.lt_pow_two_of_testBit
  intro j hj
  have hb := graph_bit h own i j
  have e1 : (graph n es own)[i]?.getD 0 = (graph n es own)[i]'(by rw [graph_length]; exact hi) := by simp [graph_length, hi]
  rw [e1] at hb
  rw [hb]
  have h1 : es.any (fun e => (decide (e.1 = (i : Int)) && decide (e.2 = (j : Int))) || (decide (e.2 = (i : Int)) && decide (e.1 = (j : Int)))) = false := by
    rw [List.any_eq_false]; intro e he
    have := h e he
    have d1 : decide (e.2 = (j : Int)) = false := by rw [decide_eq_false_iff_not]; omega
    have d2 : decide (e.1 = (j : Int)) = false := by rw [decide_eq_false_iff_not]; omega
    simp [d1, d2]
  have h2 : decide (i = j) = false := by rw [decide_eq_false_iff_not]; omega
  rw [h1, h2]; simp

theorem graph_own {n : Nat} {es : List (Int × Int)} (h : ∀ e ∈ es, 0 ≤ e.1 ∧ e.1 < e.2 ∧ e.2 < (n : Int)) (i : Nat) (hi : i < n) : ((graph n es true)[i]?.getD 0).testBit i = true := by
  rw [graph_bit h]; simp [hi]

end Lt

namespace Lt

/-- the two edges that a grid's place may have -/
def cellEdges (r c i : Nat) : List (Nat × Nat) := (if i % c + 1 < c then [(i, i + 1)] else []) ++ (if i + c < r * c then [(i, i + c)] else [])
def gridTo (r c k : Nat) : List (Nat × Nat) := (List.range k).flatMap (cellEdges r c)
def gridOf (r c : Nat) : List (Nat × Nat) := gridTo r c (r * c)
def toI (p : Nat × Nat) : Int × Int := (p.1, p.2)
def gridE (r c : Nat) : List (Int × Int) := (gridOf r c).map toI

theorem gridTo_succ (r c k : Nat) : gridTo r c (k + 1) = gridTo r c k ++ cellEdges r c k := by simp [gridTo, List.range_succ]
theorem cellEdges_length (r c i : Nat) : (cellEdges r c i).length ≤ 2 := by
  unfold cellEdges; split <;> split <;> simp
theorem gridTo_length (r c : Nat) : ∀ k, (gridTo r c k).length ≤ 2 * k
  | 0 => by simp [gridTo]
  | k + 1 => by
    have := gridTo_length r c k
    have := cellEdges_length r c k
    rw [gridTo_succ, List.length_append]; omega

set_option maxRecDepth 1000000 in
theorem grid_ok : ∀ r : Fin 17, ∀ c : Fin 17, r.val * c.val ≤ 16 → edgesOk ((r.val * c.val : Nat) : Int) (-1, -1) (gridE r.val c.val) = true := by decide +kernel

end Lt

namespace Lt

/-! ### paths and rings -/
def pathTo' (k : Nat) : List (Nat × Nat) := (List.range k).map fun i => (i, i + 1)
def ringTo (n k : Nat) : List (Nat × Nat) := (0, 1) :: (0, n - 1) :: (List.range k).map fun i => (i + 1, i + 2)
theorem pathTo'_succ (k : Nat) : pathTo' (k + 1) = pathTo' k ++ [(k, k + 1)] := by simp [pathTo', List.range_succ]
theorem ringTo_succ (n k : Nat) : ringTo n (k + 1) = ringTo n k ++ [(k + 1, k + 2)] := by simp [ringTo, List.range_succ]
theorem pathTo'_length (k : Nat) : (pathTo' k).length = k := by simp [pathTo']
theorem ringTo_length (n k : Nat) : (ringTo n k).length = k + 2 := by simp [ringTo]

set_option maxRecDepth 1000000 in
theorem path_facts : ∀ n : Fin 17, 1 ≤ n.val → edgesOk (n.val : Int) (-1, -1) ((pathTo' (n.val - 1)).map toI) = true ∧
    (quietOf (graph n.val ((pathTo' (n.val - 1)).map toI) true)).length = (if n.val % 3 = 2 then 1 else 0) ∧
    (quietOf (graph n.val ((pathTo' (n.val - 1)).map toI) false)).length = n.val % 2 := by decide +kernel
set_option maxRecDepth 1000000 in
theorem ring_facts : ∀ n : Fin 17, 3 ≤ n.val → edgesOk (n.val : Int) (-1, -1) ((ringTo n.val (n.val - 2)).map toI) = true ∧
    (quietOf (graph n.val ((ringTo n.val (n.val - 2)).map toI) true)).length = (if n.val % 3 = 0 then 2 else 0) ∧
    (quietOf (graph n.val ((ringTo n.val (n.val - 2)).map toI) false)).length = 2 - n.val % 2 := by decide +kernel
end Lt

namespace Lt
set_option maxRecDepth 1000000 in
/-- the quiet sets of small grids -/
theorem grid_quiet_small : ∀ r : Fin 5, ∀ c : Fin 5, ∀ own : Bool, 1 ≤ r.val → 1 ≤ c.val →
    (quietOf (graph (r.val * c.val) (gridE r.val c.val) own)).length + 1 = plen (gcdP (pathOf own (r.val + 1)) (pathOf false (c.val + 1))) := by decide +kernel
end Lt

namespace Lt

/-! ### the edges that tame lays down -/
def pairsTo (f : Nat → Bool) (i : Nat) : List (Nat × Nat) := ((List.range i).filter f).map fun j => (j / 16, j % 16)
theorem pairsTo_succ (f : Nat → Bool) (i : Nat) : pairsTo f (i + 1) = pairsTo f i ++ (if f i then [(i / 16, i % 16)] else []) := by
  unfold pairsTo
  rw [List.range_succ, List.filter_append, List.map_append]
  cases h : f i <;> simp [h]
theorem pairsTo_length (f : Nat → Bool) (i : Nat) : (pairsTo f i).length ≤ i := by
  unfold pairsTo
  have := List.length_filter_le f (List.range i)
  simpa using this

theorem lastOf_append (last : Int × Int) (a b : List (Int × Int)) : lastOf last (a ++ b) = lastOf (lastOf last a) b := by simp [lastOf, List.foldl_append]

theorem cmp2_pos {a0 a1 b0 b1 : Int} (h : b0 < a0 ∨ (a0 = b0 ∧ b1 < a1)) : ¬ cmp2 a0 a1 b0 b1 ≤ 0 := by
  have hgt : ∀ {a b : Int}, b < a → cmpI a b = 1 := fun {a b} h => by
    unfold cmpI; rw [if_neg (by omega), if_pos h]
  unfold cmp2
  rcases h with h | ⟨rfl, h⟩
  · rw [hgt h, if_pos (by decide)]; decide
  · have e : cmpI a0 a0 = 0 := by unfold cmpI; rw [if_neg (by omega), if_neg (by omega)]
    rw [e, if_neg (by decide), hgt h]; decide

theorem pairs_ok {f : Nat → Bool} {n : Nat} (hf : ∀ j, f j = true → j / 16 < j % 16 ∧ j % 16 < n) : ∀ i, edgesOk (n : Int) (-1, -1) ((pairsTo f i).map toI) = true ∧
    (lastOf (-1, -1) ((pairsTo f i).map toI) = (-1, -1) ∨ ∃ j, j < i ∧ lastOf (-1, -1) ((pairsTo f i).map toI) = toI (j / 16, j % 16))
  | 0 => ⟨rfl, .inl rfl⟩
  | i + 1 => by
    obtain ⟨h1, h2⟩ := pairs_ok hf i
    rw [pairsTo_succ]
    cases hi : f i with
    | false =>
      simp only [Bool.false_eq_true, if_false, List.append_nil]
      refine ⟨h1, h2.imp id ?_⟩
      rintro ⟨j, hj, e⟩
      exact ⟨j, by omega, e⟩
    | true =>
      simp only [if_true, List.map_append, List.map_cons, List.map_nil]
      obtain ⟨ha, hb⟩ := hf i hi
      rw [edgesOk_append, lastOf_append, h1, Bool.true_and]
      refine ⟨?_, .inr ⟨i, by omega, rfl⟩⟩
      simp only [edgesOk, Bool.and_true]
      have d := Nat.div_add_mod i 16
      unfold edgeOk
      simp only [Bool.and_eq_true, Bool.not_eq_true', decide_eq_false_iff_not]
      refine ⟨⟨⟨?_, by simp only [toI]; omega⟩, by simp only [toI]; omega⟩, by simp only [toI]; omega⟩
      rcases h2 with e | ⟨j, hj, e⟩
      · rw [e]; exact cmp2_pos (.inl (by simp only [toI]; omega))
      · rw [e]
        have d2 := Nat.div_add_mod j 16
        have m1 : i % 16 < 16 := Nat.mod_lt _ (by decide)
        have m2 : j % 16 < 16 := Nat.mod_lt _ (by decide)
        refine cmp2_pos ?_
        simp only [toI]
        by_cases hq : j / 16 < i / 16
        · exact .inl (by omega)
        · exact .inr ⟨by omega, by omega⟩
end Lt
