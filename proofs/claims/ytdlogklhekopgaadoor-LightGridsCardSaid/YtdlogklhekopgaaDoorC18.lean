/- Contracts of the program's functions: part C18 of the proof. -/
import Derived.Test.YtdlogklhekopgaaDoorC17
set_option linter.unusedVariables false
set_option linter.unusedSimpArgs false
namespace Go.Proofs.YtdlogklhekopgaaDoor
open Go.RowKit Go.Shelf Go.Proofs
attribute [local go_sem] Oper.semAt_some

/-- what is wrong with a graph and some sets -/
def code (n : Int) (es : List (Int × Int)) (xs : List Int) : Nat :=
  if n < 1 ∨ 16 < n then 1 else if Lt.edgesOk n (-1, -1) es = false then 40 else if xs.any (badSet (2 ^ n.toNat)) then 1 else 0
def gr (n : Int) (es : List (Int × Int)) (own : Bool) : List Nat := Lt.graph n.toNat es own

theorem code_zero {n : Int} {es : List (Int × Int)} {xs : List Int} (h : code n es xs = 0) : 1 ≤ n ∧ n ≤ 16 ∧ Lt.edgesOk n (-1, -1) es = true ∧ ∀ x ∈ xs, 0 ≤ x ∧ x < 2 ^ n.toNat := by
  unfold code at h
  by_cases h1 : n < 1 ∨ 16 < n
  · rw [if_pos h1] at h; cases h
  · rw [if_neg h1] at h
    by_cases h2 : Lt.edgesOk n (-1, -1) es = false
    · rw [if_pos h2] at h; cases h
    · rw [if_neg h2] at h
      by_cases h3 : xs.any (badSet (2 ^ n.toNat)) = true
      · rw [if_pos h3] at h; cases h
      · refine ⟨by omega, by omega, by simpa using h2, fun x hx => ?_⟩
        have h4 : badSet (2 ^ n.toNat) x = false := by
          cases hb : badSet (2 ^ n.toNat) x with
          | false => rfl
          | true => exact absurd (List.any_eq_true.2 ⟨x, hx, hb⟩) h3
        unfold badSet at h4
        simp only [Bool.or_eq_false_iff, decide_eq_false_iff_not] at h4
        refine ⟨by omega, ?_⟩
        have h5 := h4.2
        have e : ((2 ^ n.toNat : Nat) : Int) = 2 ^ n.toNat := by simp
        omega

theorem code_le (n : Int) (es : List (Int × Int)) (xs : List Int) : code n es xs = 0 ∨ code n es xs = 1 ∨ code n es xs = 40 := by
  unfold code; split
  · simp
  · split
    · simp
    · split <;> simp

def OpenRes (n : Int) (es : List (Int × Int)) (own : Bool) (xs : List Int) (w : World) (e : Ending) (w' : World) : Prop :=
  Below w.heap.size w w' ∧ ((code n es xs ≠ 0 ∧ e = .returned (.tuple #[.pointer none, .int .i64 (code n es xs : Nat)])) ∨
    (code n es xs = 0 ∧ ∃ b, e = .returned (.tuple #[.pointer (some ⟨b, 0, none⟩), .int .i64 0]) ∧ w.heap.size ≤ b ∧ Lamps w' b (gr n es own)))

/-- open, whatever comes -/
theorem open_all (n : Int) (ev sv : Value) (es : List (Int × Int)) (xs : List Int) (own : Bool) (w : World) (hlen : es.length ≤ 1000) (hxs : xs.length ≤ 1000)
    (hes : ReadsP w ev es) (hsv : Reads w sv xs) : Calls Tryd.prog 49 #[.int .i64 n, ev, .bool own, sv] w (OpenRes n es own xs w) := by
  by_cases h : n < 1 ∨ 16 < n
  · refine (open_arg n h ev sv own w).mono ?_
    rintro e w' ⟨rfl, hb⟩
    have hc : code n es xs = 1 := by unfold code; rw [if_pos h]
    exact ⟨hb, .inl ⟨by rw [hc]; decide, by rw [hc]; rfl⟩⟩
  · obtain ⟨N, rfl⟩ : ∃ N : Nat, n = N := ⟨n.toNat, by omega⟩
    refine (open_any N (by omega) (by omega) ev sv es xs own w hlen hxs hes hsv).mono ?_
    rintro e w' ⟨hb, ⟨h1, rfl⟩ | ⟨h1, h2, rfl⟩ | ⟨h1, h2, b, rfl, h3, h4⟩⟩
    · have hc : code N es xs = 40 := by unfold code; rw [if_neg h, if_pos h1]
      exact ⟨hb, .inl ⟨by rw [hc]; decide, by rw [hc]; rfl⟩⟩
    · have hc : code N es xs = 1 := by unfold code; rw [if_neg h, if_neg (by rw [h1]; decide), if_pos (by simpa using h2)]
      exact ⟨hb, .inl ⟨by rw [hc]; decide, by rw [hc]; rfl⟩⟩
    · have hc : code N es xs = 0 := by unfold code; rw [if_neg h, if_neg (by rw [h1]; decide), if_neg (by simpa using h2)]
      exact ⟨hb, .inr ⟨hc, b, rfl, h3, by unfold gr; simpa using h4⟩⟩

theorem open_bad {n : Int} {es : List (Int × Int)} {xs : List Int} (hc : code n es xs ≠ 0) (ev sv : Value) (own : Bool) (w : World) (hlen : es.length ≤ 1000) (hxs : xs.length ≤ 1000)
    (hes : ReadsP w ev es) (hsv : Reads w sv xs) : Calls Tryd.prog 49 #[.int .i64 n, ev, .bool own, sv] w fun e w' => e = .returned (.tuple #[.pointer none, .int .i64 (code n es xs : Nat)]) ∧ Below w.heap.size w w' := by
  refine (open_all n ev sv es xs own w hlen hxs hes hsv).mono ?_
  rintro e w' ⟨hb, ⟨_, rfl⟩ | ⟨h, _⟩⟩
  · exact ⟨rfl, hb⟩
  · exact absurd h hc
theorem open_good {n : Int} {es : List (Int × Int)} {xs : List Int} (hc : code n es xs = 0) (ev sv : Value) (own : Bool) (w : World) (hlen : es.length ≤ 1000) (hxs : xs.length ≤ 1000)
    (hes : ReadsP w ev es) (hsv : Reads w sv xs) : Calls Tryd.prog 49 #[.int .i64 n, ev, .bool own, sv] w fun e w' => ∃ b, e = .returned (.tuple #[.pointer (some ⟨b, 0, none⟩), .int .i64 0]) ∧ Lamps w' b (gr n es own) ∧ Below w.heap.size w w' := by
  refine (open_all n ev sv es xs own w hlen hxs hes hsv).mono ?_
  rintro e w' ⟨hb, ⟨h, _⟩ | ⟨_, b, rfl, _, hL⟩⟩
  · exact absurd hc h
  · exact ⟨b, rfl, hL, hb⟩

theorem reads_nil (w : World) : Reads w (.slice none 0 0) [] := .inl ⟨rfl, rfl⟩
theorem reads_one (w : World) (x : Int) : Reads (w.alloc (.cells #[.int .i64 x] 3)) (.slice (some ⟨w.heap.size, 0, none⟩) 1 1) [x] :=
  .inr ⟨w.heap.size, 0, 1, rfl, by simp, fun j hj => by
    obtain rfl : j = 0 := by simpa using hj
    exact cell_one_new _ _ _ 0 _ rfl⟩
theorem reads_two (w : World) (x y : Int) : Reads (w.alloc (.cells #[.int .i64 x, .int .i64 y] 3)) (.slice (some ⟨w.heap.size, 0, none⟩) 2 2) [x, y] :=
  .inr ⟨w.heap.size, 0, 2, rfl, by simp, fun j hj => by
    have hh : (w.alloc (.cells #[.int .i64 x, .int .i64 y] 3)).heap[w.heap.size]? = some (.cells #[.int .i64 x, .int .i64 y] 3 (0, 0)) := World.alloc_heap_new w _
    have : j = 0 ∨ j = 1 := by simp at hj; omega
    unfold World.cell?
    rcases this with rfl | rfl
    · show (match (w.alloc (.cells #[.int .i64 x, .int .i64 y] 3)).heap[w.heap.size]? with | some (.cells c elem frozen) => _ | _ => _) = _
      rw [hh]; rfl
    · show (match (w.alloc (.cells #[.int .i64 x, .int .i64 y] 3)).heap[w.heap.size]? with | some (.cells c elem frozen) => _ | _ => _) = _
      rw [hh]; rfl⟩

set_option maxHeartbeats 1000000 in
theorem check_api (n : Int) (ev : Value) (es : List (Int × Int)) (w : World) (hlen : es.length ≤ 1000) (hes : ReadsP w ev es) :
    Calls Tryd.prog 18 #[.int .i64 n, ev] w fun e w' => e = .returned (.int .i64 (code n es [] : Nat)) ∧ Below w.heap.size w w' := by
  by_cases hc : code n es [] = 0
  · have ho := Lib.hid (open_good hc ev _ false w hlen (by simp) hes (reads_nil w))
    clear hes
    rw [hc]
    go_enter Tryd.func18, Tryd.ntmps18
    go_wp2_with fail
    refine ho.out.mono ?_
    rintro e w1 ⟨b, rfl, -, hb⟩
    go_wp2
    go_ret
    exact ⟨rfl, hb⟩
  · have ho := Lib.hid (open_bad hc ev _ false w hlen (by simp) hes (reads_nil w))
    clear hes
    generalize code n es [] = c at *
    go_enter Tryd.func18, Tryd.ntmps18
    go_wp2_with fail
    refine ho.out.mono ?_
    rintro e w1 ⟨rfl, hb⟩
    go_wp2
    go_ret
    exact ⟨rfl, hb⟩

theorem set_of_code {n s : Int} {es : List (Int × Int)} (hc : code n es [s] = 0) : ∃ S : Nat, s = S ∧ S < 65536 ∧ S < 2 ^ n.toNat := by
  obtain ⟨h1, h2, h3, h4⟩ := code_zero hc
  have h5 := h4 s (by simp)
  have h6 : (2 : Nat) ^ n.toNat ≤ 2 ^ 16 := Nat.pow_le_pow_right (by decide) (by omega)
  have e : ((2 ^ n.toNat : Nat) : Int) = 2 ^ n.toNat := by simp
  exact ⟨s.toNat, by omega, by omega, by omega⟩

theorem below_one {w : World} (o : Obj) : Below w.heap.size w (w.alloc o) := (Below.refl _ w).alloc (Nat.le_refl _) o

set_option maxHeartbeats 1000000 in
theorem effect_api (n s : Int) (ev : Value) (es : List (Int × Int)) (own : Bool) (w : World) (hlen : es.length ≤ 1000) (hes : ReadsP w ev es) (hT : Tab w) (hw : 1 < w.heap.size) :
    Calls Tryd.prog 32 #[.int .i64 n, ev, .bool own, .int .i64 s] w fun e w' =>
      e = .returned (.tuple #[.int .i64 ((if code n es [s] = 0 then Lt.eff (gr n es own) s.toNat else 0 : Nat) : Int), .int .i64 (code n es [s] : Nat)]) ∧ Below w.heap.size w w' := by
  have hB0 : Below w.heap.size w (w.alloc (.cells #[.int .i64 s] 3)) := below_one _
  by_cases hc : code n es [s] = 0
  · have ho := Lib.hid (open_good hc ev _ own _ hlen (by simp) (hes.below hB0) (reads_one w s))
    rw [if_pos hc, hc]
    obtain ⟨S, rfl, hS, -⟩ := set_of_code hc
    clear hc hes
    simp only [Int.toNat_natCast]
    generalize gr n es own = G at *
    have HEF := Lib.hid (fun b W hL hT hw => effect_any b G S hS W hL hT hw)
    generalize Lt.eff G S = r at *
    go_enter Tryd.func32, Tryd.ntmps32
    go_wp2_with fail
    refine ho.out.mono ?_
    rintro e w1 ⟨b, rfl, hL, hb⟩
    replace hb := hB0.trans (hb.mono hB0.size)
    have hef := Lib.hid (HEF.out b w1 hL (hT.below hb hw) (by have := hb.size; omega))
    clear ho hL hB0 HEF
    go_wp2_with fail
    refine hef.out.mono ?_
    rintro e w2 ⟨rfl, hb2⟩
    go_wp2
    go_ret2
    exact ⟨rfl, hb.trans (hb2.mono hb.size)⟩
  · have ho := Lib.hid (open_bad hc ev _ own _ hlen (by simp) (hes.below hB0) (reads_one w s))
    rw [if_neg hc]
    clear hes
    generalize code n es [s] = c at *
    have hct : (((c : Nat) : Int) == 0) = false := by simpa using hc
    clear hc
    go_enter Tryd.func32, Tryd.ntmps32
    go_wp2_with fail
    refine ho.out.mono ?_
    rintro e w1 ⟨rfl, hb⟩
    replace hb := hB0.trans (hb.mono hB0.size)
    clear ho hB0
    go_wp2
    go_ret2
    exact ⟨rfl, hb⟩

end Go.Proofs.YtdlogklhekopgaaDoor
