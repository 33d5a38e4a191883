/- Plain facts on the lamps (no program): part P12 of the proof. -/
import Derived.Test.YtdlogklhekopgaaDoorP10
set_option linter.unusedVariables false
set_option linter.unusedSimpArgs false
namespace Lt

/-- the two edges that a grid's place may have -/
def cellEdges (r c i : Nat) : List (Nat × Nat) := (if i % c + 1 < c then [(i, i + 1)] else []) ++ (if i + c < r * c then [(i, i + c)] else [])
def gridTo (r c k : Nat) : List (Nat × Nat) := (List.range k).flatMap (cellEdges r c)
def gridOf (r c : Nat) : List (Nat × Nat) := gridTo r c (r * c)
def toI (p : Nat × Nat) : Int × Int := (p.1, p.2)
def gridE (r c : Nat) : List (Int × Int) := (gridOf r c).map toI

theorem gridTo_succ (r c k : Nat) : gridTo r c (k + 1) = gridTo r c k ++ cellEdges r c k := by simp [gridTo, List.range_succ]
theorem cellEdges_length (r c i : Nat) : (cellEdges r c i).length ≤ 2 := by
  unfold cellEdges; split <;> split <;> simp
theorem gridTo_length (r c : Nat) : ∀ k, (gridTo r c k).length ≤ 2 * k
  | 0 => by simp [gridTo]
  | k + 1 => by
    have := gridTo_length r c k
    have := cellEdges_length r c k
    rw [gridTo_succ, List.length_append]; omega

set_option maxRecDepth 1000000 in
theorem grid_ok : ∀ r : Fin 17, ∀ c : Fin 17, r.val * c.val ≤ 16 → edgesOk ((r.val * c.val : Nat) : Int) (-1, -1) (gridE r.val c.val) = true := by decide +kernel

end Lt
