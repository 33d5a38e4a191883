/- Contracts of the program's functions: a part of the proof. -/
import Derived.Test.YtdlogklhekopgaaDoorGA
import Derived.Test.YtdlogklhekopgaaDoorPB
import Derived.RangeFuncFrom
import Derived.RangeFuncWrites
import Derived.RangeFuncBox
set_option linter.unusedVariables false
set_option linter.unusedSimpArgs false

namespace Go.Proofs.YtdlogklhekopgaaDoor
open Go.RowKit Go.Shelf Go.Proofs
attribute [local go_sem] Oper.semAt_some

/-- the lamps of a graph as they lie in memory: how many, and what each switches -/
structure Lamps (w : World) (b : Nat) (l : List Nat) : Prop where
  lt : b < w.heap.size
  len : l.length ≤ 16
  small : ∀ r ∈ l, r < 65536
  num : w.cell? ⟨b, 0, none⟩ = some (.int .i64 l.length)
  row : ∀ i, i < 16 → w.cell? ⟨b, 1 + i, none⟩ = some (.int .i64 ((l[i]?.getD 0 : Nat) : Int))
theorem Lamps.below {B : Nat} {w w' : World} {b : Nat} {l : List Nat} (h : Below B w w') (hB : b < B) (hl : Lamps w b l) : Lamps w' b l :=
  ⟨Nat.lt_of_lt_of_le hl.lt h.size, hl.len, hl.small, (h.cell (p := ⟨b, 0, none⟩) hB).trans hl.num, fun i hi => (h.cell (p := ⟨b, 1 + i, none⟩) hB).trans (hl.row i hi)⟩
theorem Lamps.rowlt {w : World} {b : Nat} {l : List Nat} (hl : Lamps w b l) (i : Nat) : l[i]?.getD 0 < 65536 := by
  cases h : l[i]? with
  | none => simp
  | some x => exact hl.small x (List.mem_of_getElem? h)

theorem effList_lt {l : List Nat} (h : ∀ i : Nat, l[i]?.getD 0 < 65536) (is : List Nat) : Lt.effList l is < 65536 := by
  suffices hs : ∀ (is : List Nat) (a : Nat), a < 65536 → is.foldl (fun a i => a ^^^ l[i]?.getD 0) a < 65536 from hs is 0 (by omega)
  intro is
  induction is with
  | nil => intro a ha; exact ha
  | cons i is ih => intro a ha; exact ih _ (Nat.xor_lt_two_pow (n := 16) (by omega) (by have := h i; omega))

theorem bitsOf_lt {s k : Nat} (hs : s < 2 ^ k) : ∀ x ∈ Lt.bitsOf s, x < k := by
  intro x hx
  have h := (List.mem_filter.1 hx).2
  have := Nat.ge_two_pow_of_testBit h
  exact (Nat.pow_lt_pow_iff_right (by decide : 1 < 2)).1 (Nat.lt_of_le_of_lt this hs)

set_option maxRecDepth 100000 in
set_option maxHeartbeats 2000000 in
/-- (*lamps).effect -/
theorem effect_any (b : Nat) (l : List Nat) (s : Nat) (hs : s < 65536) (w : World) (hL : Lamps w b l) (hT : Tab w) (hw : 1 < w.heap.size) :
    Calls Tryd.prog 55 #[.pointer (some ⟨b, 0, none⟩), .int .i64 s] w fun e w' => e = .returned (.int .i64 (Lt.eff l s : Nat)) ∧ Below w.heap.size w w' := by
  refine (callsIn_wide (n := 5)).1 ?_
  refine callsIn_of_wp_marks Tryd.func55 rfl trivial ?_ rfl
  simp only [Tryd.ntmps55, List.size_toArray, List.length_cons, List.length_nil, Nat.reduceAdd, Nat.reduceSub, Array.replicate_succ, Array.replicate_zero, List.push_toArray, List.append_toArray, List.nil_append, List.cons_append]
  gi_wp2_with (refine ⟨trivial, ?_⟩; gi_at_call 75; refine (callsIn_wide.2 (members_any s _)).mono ?_; rintro e w' ⟨rfl, rfl⟩)
  obtain ⟨w0, hw0⟩ : ∃ w0, ((w.alloc (Obj.cells #[Value.pointer (some ⟨b, 0, none⟩)] 70)).alloc (Obj.cells #[Value.int IntKind.i64 0] 3)).alloc (Obj.cells #[Value.int IntKind.i64 ↑s] 3) = w0 := ⟨_, rfl⟩
  have hB0 : Below w.heap.size w w0 := by rw [← hw0]; exact (((Below.refl _ w).alloc (Nat.le_refl _) _).alloc (by simp) _).alloc (by simp; omega) _
  have hz : w0.heap.size = w.heap.size + 3 := by rw [← hw0]; simp
  have hc0 : w0.cell? ⟨w.heap.size, 0, none⟩ = some (.pointer (some ⟨b, 0, none⟩)) := by rw [← hw0]; simp [go_sem]
  have hc1 : w0.cell? ⟨w.heap.size + 1, 0, none⟩ = some (.int .i64 0) := by rw [← hw0]; simp [go_sem]
  have hf1 : w0.frozen? ⟨w.heap.size + 1, 0, none⟩ = false := by rw [← hw0]; simp [go_sem]
  have hc2 : w0.cell? ⟨w.heap.size + 1 + 1, 0, none⟩ = some (.int .i64 s) := by rw [← hw0]; simp [go_sem]
  rw [hw0]
  have hst := members_stops (· < 16) 4 (by omega) (w.heap.size + 1 + 1) w.heap.size s (by omega) hw (bitsOf_lt (k := 16) (by omega)) w0 (by omega) (by omega) hc2 (hT.below hB0 hw)
  clear hc2
  refine wpIn_rangeFunc_ownF rfl (by omega) (gf := 88) (lb := #[.pointer (some ⟨w.heap.size + 1 + 1, 0, none⟩)]) rfl trivial (enters_of Tryd.func88 (by kernel_rfl) rfl)
    hst belowK_t (belowK_b (by omega)) (Below.refl _ _) (fun _ => rfl)
    (fun pre W => ((W.cell? ⟨w.heap.size, 0, none⟩ = some (.pointer (some ⟨b, 0, none⟩))) ∧ W.cell? ⟨w.heap.size + 1, 0, none⟩ = some (.int .i64 (Lt.effList l (pre.map (·.1)) : Nat)) ∧ W.frozen? ⟨w.heap.size + 1, 0, none⟩ = false) ∧ Below w.heap.size w W)
    (fun _ _ _ => False)
    (OwnFrom.and (Own.from (fun s A B row hs hg hr => ⟨cell_kept hs.1 hg hr, cell_kept hs.2.1 hg hr, (frozen_kept hs.2.1 hg hr).trans hs.2.2⟩) _) (ownFrom_below (Nat.le_refl _) (by omega)))
    (fun _ _ _ _ _ hs _ _ => hs)
    ⟨⟨hc0, hc1, hf1⟩, hB0⟩
    (fun x => { tmps := #[Value.pointer (some ⟨b, 0, none⟩), Value.int IntKind.i64 ↑s, Value.pointer (some ⟨w.heap.size, 0, none⟩), undef, Value.int IntKind.i64 0,
          Value.pointer (some ⟨w.heap.size + 1, 0, none⟩), .int .i64 (x.1 : Nat), Value.int IntKind.i64 ↑s, Value.func (Fn.func 88) #[] #[Value.pointer (some ⟨w.heap.size + 1 + 1, 0, none⟩)], .int .i64 (x.1 : Nat), undef,
          undef, undef, undef, undef, undef, undef, undef, undef], defers := [] }) ?assign ?body ?done ?stop
  case assign =>
    intro l x W K hK
    gi_wp2
    exact hK
  case body =>
    rintro l' pre ⟨x, hx⟩ W ⟨⟨hb, hc, hf⟩, hB⟩ _
    have hLW := hL.below hB hL.lt
    have hr := hLW.row x hx
    have hxo := Lt.xor_i64 (Lt.effList l (pre.map (·.1))) (l[x]?.getD 0) (by have := effList_lt hL.rowlt (pre.map (·.1)); omega) (by have := hL.rowlt x; omega)
    have hsn := Lib.hid (Lt.effList_snoc l (pre.map (·.1)) x)
    generalize hE : Lt.effList l (pre.map (·.1)) = E at hc hxo hsn
    generalize l[x]?.getD 0 = R at hr hxo hsn
    have hE' := Lib.hid hE
    clear hE
    clear hLW hL hT hs hst hw0 hB0 hc0 hc1 hf1
    have hmx : Tryd.prog.follows .mixedOrders = true := by kernel_rfl
    gi_wp2
    gi_region_with_o (fail)
    all_goals gi_wp2
    all_goals exact ⟨(KeepsOthers.setCell _ _ _).trans (KeepsOthers.drew _), ((Below.refl w.heap.size W).setCell (p := ⟨w.heap.size + 1, 0, none⟩) (by simp) _).drew,
      ⟨⟨(World.cell?_setCell_other _ _ _ _ (by simp)).trans hb, by rw [List.map_append, List.map_cons, List.map_nil, hsn.out]; exact World.cell?_setCell_same' _ _ _ (by rw [hc]; rfl), by rw [frozen_drew_own, World.frozen?_setCell]; exact hf⟩,
        (hB.setCell (p := ⟨w.heap.size + 1, 0, none⟩) (by simp) _).drew⟩⟩
  case done =>
    rintro D ys W hD hys ⟨⟨_, hc, _⟩, hB⟩ hK
    rw [hys, Lt.effList_bitsOf (by have := hL.len; omega)] at hc
    gi_wp2
    refine ⟨by simp, .inl ⟨_, _, rfl, run_takeDeferred hK, ?_⟩⟩
    exact ⟨_, results_tmp rfl _ _ _, rfl, hB.trans (belowK_b (w := w) (Nat.le_refl _) W D _ _ (by omega) hK rfl rfl)⟩
  case stop =>
    rintro D c pre W _ _ h _
    exact h.elim

end Go.Proofs.YtdlogklhekopgaaDoor
