/- Contracts of the program's functions: part C5 of the proof. -/
import Derived.Test.YtdlogklhekopgaaDoorC4
import Derived.Test.YtdlogklhekopgaaDoorC2
import Derived.StillTailTactics
import Derived.Deep.QuietTactic
import Derived.BigQuiet
set_option linter.unusedVariables false
set_option linter.unusedSimpArgs false
namespace Go.Proofs.YtdlogklhekopgaaDoor
open Go.RowKit Go.Shelf Go.Proofs
open Lt (cmpI cmp2)

/-- a slice of pairs as it lies in memory, read alone -/
def ReadsP (w : World) (v : Value) (es : List (Int × Int)) : Prop :=
  (v = .slice none 0 0 ∧ es = []) ∨ ∃ b off cap, v = .slice (some ⟨b, off, none⟩) es.length cap ∧ b < w.heap.size ∧
    ∀ j, j < es.length → w.cell? ⟨b, off + j * 2, none⟩ = some (.int .i64 (es[j]?.getD (0, 0)).1) ∧ w.cell? ⟨b, off + j * 2 + 1, none⟩ = some (.int .i64 (es[j]?.getD (0, 0)).2)
theorem ReadsP.below {w w' : World} (h : Below w.heap.size w w') {v : Value} {es : List (Int × Int)} : ReadsP w v es → ReadsP w' v es
  | .inl e => .inl e
  | .inr ⟨b, off, cap, e, hb, hc⟩ => .inr ⟨b, off, cap, e, Nat.lt_of_lt_of_le hb h.size, fun j hj => ⟨(h.cell (p := ⟨b, off + j * 2, none⟩) hb).trans (hc j hj).1, (h.cell (p := ⟨b, off + j * 2 + 1, none⟩) hb).trans (hc j hj).2⟩⟩

set_option maxRecDepth 100000 in
set_option maxHeartbeats 1000000 in
theorem open_arg (n : Int) (hn : n < 1 ∨ 16 < n) (ev sv : Value) (own : Bool) (w : World) :
    Calls Tryd.prog 49 #[.int .i64 n, ev, .bool own, sv] w fun e w' => e = .returned (.tuple #[.pointer none, .int .i64 1]) ∧ Below w.heap.size w w' := by
  by_cases h : n < 1
  · clear hn
    go_enter Tryd.func49, Tryd.ntmps49
    go_wp2
    go_ret2
    exact ⟨rfl, (Below.refl _ _).alloc (Nat.le_refl _) _⟩
  · have h2 : 16 < n := by omega
    clear hn
    go_enter Tryd.func49, Tryd.ntmps49
    go_wp2
    go_ret2
    exact ⟨rfl, (Below.refl _ _).alloc (Nat.le_refl _) _⟩

/-- where open stands: the number's box, the lamps, the last edge -/
structure OpenAt (w wr : World) (n : Nat) (l : List Nat) (last : Int × Int) : Prop where
  below : Below w.heap.size w wr
  size : w.heap.size + 3 ≤ wr.heap.size
  num : wr.cell? ⟨w.heap.size, 0, none⟩ = some (.int .i64 n)
  cnt : wr.cell? ⟨w.heap.size + 1, 0, none⟩ = some (.int .i64 n)
  row : ∀ i, i < 16 → wr.cell? ⟨w.heap.size + 1, 1 + i, none⟩ = some (.int .i64 ((l[i]?.getD 0 : Nat) : Int))
  free : ∀ i, i < 16 → wr.frozen? ⟨w.heap.size + 1, 1 + i, none⟩ = false
  l0 : wr.cell? ⟨w.heap.size + 2, 0, none⟩ = some (.int .i64 last.1)
  l1 : wr.cell? ⟨w.heap.size + 2, 1, none⟩ = some (.int .i64 last.2)
  f0 : wr.frozen? ⟨w.heap.size + 2, 0, none⟩ = false
  f1 : wr.frozen? ⟨w.heap.size + 2, 1, none⟩ = false

theorem OpenAt.alloc {w wr : World} {n : Nat} {l : List Nat} {last : Int × Int} (h : OpenAt w wr n l last) (o : Obj) : OpenAt w (wr.alloc o) n l last := by
  have hb : Below wr.heap.size wr (wr.alloc o) := (Below.refl _ _).alloc (Nat.le_refl _) o
  have hs := h.size
  exact ⟨h.below.alloc (by omega) o, by simp; omega, (hb.cell (p := ⟨w.heap.size, 0, none⟩) (by simp; omega)).trans h.num, (hb.cell (p := ⟨w.heap.size + 1, 0, none⟩) (by simp; omega)).trans h.cnt,
    fun i hi => (hb.cell (p := ⟨w.heap.size + 1, 1 + i, none⟩) (by simp; omega)).trans (h.row i hi), fun i hi => (hb.frozen (p := ⟨w.heap.size + 1, 1 + i, none⟩) (by simp; omega)).trans (h.free i hi),
    (hb.cell (p := ⟨w.heap.size + 2, 0, none⟩) (by simp; omega)).trans h.l0, (hb.cell (p := ⟨w.heap.size + 2, 1, none⟩) (by simp; omega)).trans h.l1,
    (hb.frozen (p := ⟨w.heap.size + 2, 0, none⟩) (by simp; omega)).trans h.f0, (hb.frozen (p := ⟨w.heap.size + 2, 1, none⟩) (by simp; omega)).trans h.f1⟩
theorem OpenAt.drewN {w wr : World} {n : Nat} {l : List Nat} {last : Int × Int} (h : OpenAt w wr n l last) (m : Nat) : OpenAt w (wr.drewN m) n l last :=
  ⟨h.below.trans ⟨rfl, rfl, rfl, Nat.le_refl _, fun _ _ => rfl⟩, h.size, h.num, h.cnt, h.row, h.free, h.l0, h.l1, h.f0, h.f1⟩
theorem OpenAt.store {w wr : World} {n : Nat} {l : List Nat} {last : Int × Int} (h : OpenAt w wr n l last) (i x : Nat) (hi : i < 16) (hl : i < l.length) :
    OpenAt w (wr.setCell ⟨w.heap.size + 1, 1 + i, none⟩ (.int .i64 (x : Nat))) n (l.set i x) last := by
  have hs := h.size
  refine ⟨h.below.setCell (by simp) _, by simpa using hs, (World.cell?_setCell_other _ _ _ _ (by simp)).trans h.num, (World.cell?_setCell_other _ _ _ _ (by simp)).trans h.cnt, fun j hj => ?_, fun j hj => by rw [World.frozen?_setCell]; exact h.free j hj,
    (World.cell?_setCell_other _ _ _ _ (by simp)).trans h.l0, (World.cell?_setCell_other _ _ _ _ (by simp)).trans h.l1, by rw [World.frozen?_setCell]; exact h.f0, by rw [World.frozen?_setCell]; exact h.f1⟩
  by_cases e : i = j
  · subst e
    rw [World.cell?_setCell_same' _ _ _ (by rw [h.row i hi]; rfl)]; simp [hl]
  · rw [World.cell?_setCell_other _ _ _ _ (by simp [e]), h.row j hj]; simp [e]
theorem OpenAt.last {w wr : World} {n : Nat} {l : List Nat} {last : Int × Int} (h : OpenAt w wr n l last) (a b : Int) :
    OpenAt w ((wr.setCell ⟨w.heap.size + 2, 0, none⟩ (.int .i64 a)).setCell ⟨w.heap.size + 2, 1, none⟩ (.int .i64 b)) n l (a, b) := by
  have hs := h.size
  refine ⟨(h.below.setCell (by simp) _).setCell (by simp) _, by simpa using hs, ?_, ?_, fun j hj => ?_, fun j hj => by rw [World.frozen?_setCell, World.frozen?_setCell]; exact h.free j hj, ?_, ?_, by rw [World.frozen?_setCell, World.frozen?_setCell]; exact h.f0, by rw [World.frozen?_setCell, World.frozen?_setCell]; exact h.f1⟩
  · rw [World.cell?_setCell_other _ _ _ _ (by simp), World.cell?_setCell_other _ _ _ _ (by simp)]; exact h.num
  · rw [World.cell?_setCell_other _ _ _ _ (by simp), World.cell?_setCell_other _ _ _ _ (by simp)]; exact h.cnt
  · rw [World.cell?_setCell_other _ _ _ _ (by simp), World.cell?_setCell_other _ _ _ _ (by simp)]; exact h.row j hj
  · rw [World.cell?_setCell_other _ _ _ _ (by simp)]; exact World.cell?_setCell_same' _ _ _ (by rw [h.l0]; rfl)
  · exact World.cell?_setCell_same' _ _ _ (by rw [World.cell?_setCell_other _ _ _ _ (by simp), h.l1]; rfl)

end Go.Proofs.YtdlogklhekopgaaDoor
