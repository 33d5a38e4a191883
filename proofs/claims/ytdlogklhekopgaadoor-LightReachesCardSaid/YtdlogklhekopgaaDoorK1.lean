/- What the rows' condition gives the walks: the library's table of 64 bytes. -/
import Derived.Test.YtdlogklhekopgaaDoorGK
import Derived.Test.YtdlogklhekopgaaDoorRows
import Derived.Test.YtdlogklhekopgaaDoorCards
import Derived.Test.YtdlogklhekopgaaDoorTie
import Derived.JoinedOf
import Derived.RowKit
import Derived.ProofKit
import Derived.OpenShut
import Derived.RowKitTokens
import Derived.LaidLaws
import Derived.LaidHandle
import Derived.Stop.Joined
import Derived.Lib.LaidTab
import Derived.Stop.LaidErr
import Derived.SevenTiedAt
set_option linter.unusedVariables false
set_option linter.unusedSimpArgs false

namespace Go.Proofs.YtdlogklhekopgaaDoor
open Go.ChangeShapes Go.WideShapes Go.ChangeAt Go.RowKit

theorem ownKnobNone : ownKnob Tryd.prog.godebug = none := by kernel_rfl
theorem g32 : Tryd.prog.globalNamed "math/bits.deBruijn32tab" = some 0 := by kernel_rfl
theorem g64 : Tryd.prog.globalNamed "math/bits.deBruijn64tab" = some 1 := by kernel_rfl
theorem g64Type : (Tryd.prog.globals[1]?).map (·.type) = some 133 := by kernel_rfl
theorem u133 : Tryd.prog.underlying 133 = some (.array 64 5) := by kernel_rfl
theorem u5 : Tryd.prog.underlying 5 = some (.int .u8) := by kernel_rfl
theorem c5 : Tryd.prog.cellsOf 5 = 1 := by kernel_rfl
theorem c133 : Tryd.prog.cellsOf 133 = 64 := by kernel_rfl

/-- both tables, as the rows list them -/
noncomputable def laidBoth : List (String × DataW Unit) := [("math/bits.deBruijn32tab", Rows.laid_math_bits_deBruijn32tab), ("math/bits.deBruijn64tab", Rows.laid_math_bits_deBruijn64tab)]

/-- what the condition gives the walks: the table of 64 -/
theorem tab_of_laid {W : World} (h : laidMetH Tryd.prog laidBoth W) : Tab W := by
  have h' : laidMet Tryd.prog laidBoth W := h
  have h2 : laidMet Tryd.prog [("math/bits.deBruijn64tab", Lib.tabData .u8 (Lib.deBruijn64tab.map fun x : Nat => (x : Int)))] W := laidMet.tail h'
  have ht := Lib.tabIs_of_head g64 g64Type u133 u5 c5 c133 h2
  intro j hj
  have := ht.cell g64 j (by rw [List.length_map]; exact hj)
  rw [this]
  simp [List.getD, List.getElem?_map]
  cases Lib.deBruijn64tab[j]? <;> simp

theorem size_of_laid {W : World} (h : laidMetH Tryd.prog laidBoth W) : 1 < W.heap.size := by
  have := tab_of_laid h 0 (by decide)
  unfold World.cell? at this
  split at this
  · rename_i hb
    exact (Array.getElem?_eq_some_iff.1 hb).1
  · simp at this

def tab32 : List Int := [0, 1, 28, 2, 29, 14, 24, 3, 30, 22, 20, 15, 25, 17, 4, 8, 31, 27, 13, 23, 21, 19, 16, 7, 26, 12, 18, 6, 11, 5, 10, 9]

def setCells (cs : Array Value) : Obj → Obj
  | .cells _ t frozen => .cells cs t frozen
  | o => o
/-- a world that meets the condition: the settled one, both tables' cells laid -/
noncomputable def laidWorld (os : Os) : World :=
  { World.holding Tryd.prog os ⟨#[], #[], []⟩ with
    heap := ((World.holding Tryd.prog os ⟨#[], #[], []⟩).heap.modify 0 (setCells (tab32.map fun z => Value.int .u8 z).toArray)).modify 1 (setCells (Lib.deBruijn64tab.map fun x : Nat => Value.int .u8 (x : Int)).toArray) }
theorem laid_met (os : Os) (args : Array Value) : laidMetH Tryd.prog laidBoth ((laidWorld os).forCall (fun _ _ => 0) ⟨#[], args, []⟩).memory :=
  show laidMet Tryd.prog laidBoth _ from laidMet_of_run' 8 (by kernel_rfl) (by kernel_rfl)

end Go.Proofs.YtdlogklhekopgaaDoor
