/- What the rows' condition gives the walks: the library's table of 64 bytes. -/
import Derived.Test.YtdlogklhekopgaaDoorK2
set_option linter.unusedVariables false
set_option linter.unusedSimpArgs false

namespace Go.Proofs.YtdlogklhekopgaaDoor
open Go.ChangeShapes Go.WideShapes Go.ChangeAt Go.RowKit Go.Deep

set_option maxRecDepth 100000 in
/-- a slice's length and capacity, as an argument -/
theorem slice_caps {W : World} {base : Nat} {v : Value} (hval : Value.okWide Tryd.prog W .any base 22 v) : ∀ ad n c, v = .slice ad n c → n ≤ c ∧ n ≤ 9223372036854775807 := by
  rintro ao len cap rfl
  have hc : Cell.ok Tryd.prog W .any base 22 (.slice ao len cap) := by
    have := hval
    unfold Value.okWide at this
    rw [Tryd.underlying22] at this
    simp only at this
    unfold Cell.okWide at this
    rw [Tryd.underlying22] at this
    simpa using this
  unfold Cell.ok at hc
  rw [Tryd.underlying22] at hc
  cases ao with
  | none =>
    obtain ⟨rfl, rfl⟩ : len = 0 ∧ cap = 0 := by
      rcases len with _ | len <;> rcases cap with _ | cap <;> simp_all
    exact ⟨Nat.le_refl _, by decide⟩
  | some a =>
    simp only at hc
    obtain ⟨h1, h2, -⟩ := hc
    have e : IntKind.i64.max = 9223372036854775807 := by decide
    rw [e] at h2
    exact ⟨h1, by omega⟩

end Go.Proofs.YtdlogklhekopgaaDoor
