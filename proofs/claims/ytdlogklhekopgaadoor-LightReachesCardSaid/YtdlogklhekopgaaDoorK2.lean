/- What the rows' condition gives the walks: the library's table of 64 bytes. -/
import Derived.Test.YtdlogklhekopgaaDoorK1
import Derived.Deep.Slices
import Derived.WideKeyArr2
set_option linter.unusedVariables false
set_option linter.unusedSimpArgs false

namespace Go.Proofs.YtdlogklhekopgaaDoor
open Go.ChangeShapes Go.WideShapes Go.ChangeAt Go.RowKit Go.Deep

theorem len2 {α : Type} {l : List α} (h : l.length = 2) : ∃ a b, l = [a, b] := by
  match l, h with
  | [a, b], _ => exact ⟨a, b, rfl⟩

theorem Tryd.laidOut : laidOutB Tryd.prog = true := by kernel_rfl
theorem Tryd.cellsOf29 : Tryd.prog.cellsOf 29 = 2 := by kernel_rfl
theorem Tryd.cellsOf3 : Tryd.prog.cellsOf 3 = 1 := by kernel_rfl
theorem Tryd.under29 : Tryd.prog.underlying 29 = some (.array 2 3) := by kernel_rfl

set_option maxRecDepth 100000 in
/-- the two numbers of a pair's cells -/
theorem pair_cells {H : Type} {enc : TypeId × Value → H} {W : World} {sp : Nat → Bool} {held : Bool} {fuel : Nat} {cs : List Value} {x : DataW H × List MemPlace}
    (h : DataW.trod enc Tryd.prog W 0 sp held fuel 29 cs = some x) : ∃ a b : Int, cs = [.int .i64 a, .int .i64 b] ∧ x = (.agg [.lit (.int .i64 a), .lit (.int .i64 b)], []) := by
  obtain ⟨xs, m, -, hx, hl, hxs, hf⟩ := DataW.trod_array Tryd.under29 h
  rw [Tryd.cellsOf29] at hl
  obtain ⟨c0, c1, rfl⟩ := len2 hl
  obtain ⟨x0, x1, rfl⟩ := len2 hxs
  have h0 := hf 0 (by decide)
  have h1 := hf 1 (by decide)
  rw [Tryd.cellsOf3] at h0 h1
  simp only [Nat.zero_mul, List.drop_zero, List.take_succ_cons, List.take_zero, List.getElem?_cons_zero, Nat.one_mul, List.drop_succ_cons, List.getElem?_cons_succ] at h0 h1
  obtain ⟨a, ha, hxa, -⟩ := DataW.trod_int Tryd.underlying3 h0
  obtain ⟨b, hb, hxb, -⟩ := DataW.trod_int Tryd.underlying3 h1
  refine ⟨a, b, ?_, ?_⟩
  · have e1 : c0 = .int .i64 a := by simpa using ha
    have e2 : c1 = .int .i64 b := by simpa using hb
    rw [e1, e2]
  · rw [hx, hxa, hxb]; rfl

set_option maxRecDepth 100000 in
/-- a slice of pairs, as an argument -/
theorem open_pairsArg {H : Type} {enc : TypeId × Value → H} {W : World} {base : Nat} {v : Value} {d : DataW H} {p : List MemPlace} (hval : Value.okWide Tryd.prog W .any base 22 v)
    (h : DataW.Trod enc Tryd.prog W 0 (fun _ => true) true 22 v d p) : ∃ es, ReadsP W v es := by
  obtain ⟨ao, len, cap, rfl⟩ := okWide_slice Tryd.underlying22 hval
  have hc : Cell.ok Tryd.prog W .any base 22 (.slice ao len cap) := by
    have := hval
    unfold Value.okWide at this
    rw [Tryd.underlying22] at this
    simp only at this
    unfold Cell.okWide at this
    rw [Tryd.underlying22] at this
    simpa using this
  unfold Cell.ok at hc
  rw [Tryd.underlying22] at hc
  cases ao with
  | none =>
    obtain ⟨rfl, rfl⟩ : len = 0 ∧ cap = 0 := by
      rcases len with _ | len <;> rcases cap with _ | cap <;> simp_all
    exact ⟨[], .inl ⟨rfl, rfl⟩⟩
  | some a =>
    obtain ⟨b, off, spot⟩ := a
    simp only at hc
    obtain ⟨hlc, -, -, hsp, row, cells, hshape, -⟩ := hc
    simp only at hsp hshape
    subst hsp
    have hb : b < W.heap.size := by
      unfold World.shape? at hshape
      cases hh : W.heap[b]? with
      | none => rw [hh] at hshape; simp at hshape
      | some o => exact (Array.getElem?_eq_some_iff.1 hh).1
    obtain ⟨fuel, hf⟩ := h
    rcases open_slice Tryd.underlying22 hf with ⟨h0, _⟩ | ⟨a', len', cap', m, n, D, Pl, he, hb0, hl, hm, hmm, hx, hcells⟩
    · simp [Value.cells] at h0
    · obtain ⟨rfl, rfl, rfl⟩ : (⟨b, off, none⟩ : Addr) = a' ∧ len = len' ∧ cap = cap' := by
        simp [Value.cells] at he
        exact ⟨he.1, he.2.1, he.2.2⟩
      have hlm : len ≤ m := by rw [hmm]; split <;> omega
      obtain ⟨f, hfn⟩ := choose_lt (α := Int × Int) (n := len) (p := fun i q => W.cell? ⟨b, off + i * 2, none⟩ = some (.int .i64 q.1) ∧ W.cell? ⟨b, off + i * 2 + 1, none⟩ = some (.int .i64 q.2)) (fun i hi => by
        obtain ⟨cs', h1, h2⟩ := hcells i (by omega)
        rw [Tryd.cellsOf29] at h1
        obtain ⟨x, y, hcs, -⟩ := pair_cells h2
        subst hcs
        obtain ⟨_, _, hat⟩ := World.cells?_some h1
        have c0 := hat 0 (by decide)
        have c1 := hat 1 (by decide)
        refine ⟨(x, y), ?_, ?_⟩
        · rcases i with _ | i <;> simpa [Addr.add] using c0
        · rcases i with _ | i <;> simpa [Addr.add] using c1)
      refine ⟨(List.range len).map f, .inr ⟨b, off, cap, by simp, hb, fun j hj => ?_⟩⟩
      have hj' : j < len := by simpa using hj
      have e : ((List.range len).map f)[j]?.getD (0, 0) = f j := by simp [hj']
      rw [e]
      exact hfn j hj'

set_option maxRecDepth 100000 in
/-- a pair, as an argument -/
theorem open_pairArg {H : Type} {enc : TypeId × Value → H} {W : World} {base : Nat} {v : Value} {d : DataW H} {p : List MemPlace} (hval : Value.okWide Tryd.prog W .any base 29 v)
    (h : DataW.Trod enc Tryd.prog W 0 (fun _ => true) true 29 v d p) : ∃ a b : Int, v = .agg #[.int .i64 a, .int .i64 b] := by
  obtain ⟨xs, rfl, -⟩ : ∃ cs, v = .agg cs ∧ cs.size = Tryd.prog.cellsOf 29 := by
    have := hval
    unfold Value.okWide at this
    rw [Tryd.under29] at this
    simp only at this
    obtain ⟨cs, e, hs, -⟩ := this
    exact ⟨cs, e, hs⟩
  obtain ⟨fuel, hf⟩ := h
  obtain ⟨a, b, hcs, -⟩ := pair_cells hf
  refine ⟨a, b, ?_⟩
  have h2 : xs.toList = [.int .i64 a, .int .i64 b] := by simpa [Value.cells] using hcs
  have h3 : xs = #[.int .i64 a, .int .i64 b] := Array.ext' (by simpa using h2)
  rw [h3]

end Go.Proofs.YtdlogklhekopgaaDoor
