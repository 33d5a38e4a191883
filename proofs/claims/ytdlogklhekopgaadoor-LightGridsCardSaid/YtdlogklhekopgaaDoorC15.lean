/- Contracts of the program's functions: part C15 of the proof. -/
import Derived.Test.YtdlogklhekopgaaDoorC14
set_option linter.unusedVariables false
set_option linter.unusedSimpArgs false
namespace Go.Proofs.YtdlogklhekopgaaDoor
open Go.RowKit Go.Shelf Go.Proofs
attribute [local go_sem] Oper.semAt_some

/-- one step to the best set -/
def stepL (s o x : Nat) : Nat := if Lt.less (s ^^^ x) o then s ^^^ x else o
/-- the best set after some sums -/
def bestL (s : Nat) (l : List Nat) : Nat := l.foldl (stepL s) s
theorem bestL_snoc (s : Nat) (l : List Nat) (x : Nat) : bestL s (l ++ [x]) = stepL s (bestL s l) x := by simp [bestL, List.foldl_append]
theorem bestL_sums (Q : List Nat) (s : Nat) : ∀ k, bestL s (sumsTo Q k) = Lt.bestTo Q s k
  | 0 => rfl
  | k + 1 => by rw [sumsTo_succ, bestL_snoc, bestL_sums Q s k]; rfl
theorem stepL_lt {m s o x : Nat} (hs : s < 2 ^ m) (ho : o < 2 ^ m) (hx : x < 2 ^ m) : stepL s o x < 2 ^ m := by
  unfold stepL; split
  · exact Nat.xor_lt_two_pow hs hx
  · exact ho
theorem bestL_lt' {m s : Nat} (hs : s < 2 ^ m) (l : List Nat) (hl : ∀ x ∈ l, x < 2 ^ m) : bestL s l < 2 ^ m := by
  unfold bestL
  suffices h : ∀ (l : List Nat) (o : Nat), o < 2 ^ m → (∀ x ∈ l, x < 2 ^ m) → l.foldl (stepL s) o < 2 ^ m from h l s hs hl
  intro l
  induction l with
  | nil => intro o ho _; exact ho
  | cons x l ih =>
    intro o ho hx
    rw [List.foldl_cons]
    refine ih _ ?_ ?_
    · exact stepL_lt hs ho (hx x List.mem_cons_self)
    · exact fun y hy => hx y (List.mem_cons_of_mem _ hy)
theorem pow16 : (2 : Nat) ^ 16 = 65536 := by decide
theorem bestL_lt {s : Nat} (hs : s < 65536) (l : List Nat) (hl : ∀ x ∈ l, x < 65536) : bestL s l < 65536 := by
  rw [← pow16] at *
  exact bestL_lt' hs l hl

theorem reads_of_rowN {w : World} {base n₀ o : Nat} {v : Value} {L : List Nat} (h : w.ownsRow base 3 1 v L.length (ncells L)) (hn : w.heap.size ≤ n₀) (ho : w.heap.size ≤ o) : ReadsN n₀ o w v L := by
  rcases h.2 with ⟨rfl, h0⟩ | ⟨g, cap, cur, rfl, hg, hh, hnc, hcm, hcs, htk⟩
  · exact .inl ⟨rfl, List.length_eq_zero_iff.1 h0⟩
  · have hgl : g < w.heap.size := (Array.getElem?_eq_some_iff.1 hh).1
    refine .inr ⟨g, 0, cap, rfl, by omega, by omega, fun j hj => ?_⟩
    have h1 : (ncells L)[j]? = some (.int .i64 ((L[j] : Nat) : Int)) := by simp [ncells, hj]
    rw [← htk, List.getElem?_take, if_pos (by omega)] at h1
    simp only [World.cell?, hh, Nat.zero_add]
    have e : L[j]?.getD 0 = L[j] := by simp [hj]
    rw [e]
    simpa using h1

theorem ReadsN.of_below {n₀ o base : Nat} {w w' : World} {v : Value} {L : List Nat} (h : ReadsN n₀ o w v L) (hb : Below w.heap.size w w') (hr : w.ownsRow base 3 1 v L.length (ncells L)) : ReadsN n₀ o w' v L := by
  rcases h with h | ⟨b, off, cap, rfl, h1, h2, h3⟩
  · exact .inl h
  · have hlt := (hr.lt b rfl).2
    exact .inr ⟨b, off, cap, rfl, h1, h2, fun j hj => (hb.cell (p := ⟨b, off + j, none⟩) hlt).trans (h3 j hj)⟩

theorem quiet_small {l : List Nat} (h16 : l.length ≤ 16) : (∀ i : Nat, (Lt.quietOf l)[i]?.getD 0 < 65536) ∧ (Lt.quietOf l).length ≤ 16 := by
  have h := Lt.inv_of l
  have h2 : (2 : Nat) ^ l.length ≤ 2 ^ 16 := Nat.pow_le_pow_right (by decide) h16
  refine ⟨fun i => ?_, by have := h.len; omega⟩
  cases hq : (Lt.quietOf l)[i]? with
  | none => simp
  | some x => exact Nat.lt_of_lt_of_le (h.ltQ x (List.mem_of_getElem? hq)) h2

set_option maxRecDepth 100000 in
set_option maxHeartbeats 4000000 in
/-- (*lamps).fewest -/
theorem fewest_any (b : Nat) (l : List Nat) (t : Nat) (ht : t < 65536) (w : World) (hL : Lamps w b l) (hT : Tab w) (hw : 1 < w.heap.size) :
    Calls Tryd.prog 56 #[.pointer (some ⟨b, 0, none⟩), .int .i64 t] w fun e w' => e = .returned (.tuple #[.int .i64 ((if (Lt.solveOf l t).2 = 0 then Lt.fewOf l t else 0 : Nat) : Int), .bool (decide ((Lt.solveOf l t).2 = 0))]) ∧ Below w.heap.size w w' := by
  have hsol := Lib.hid (solve_any b l t ht w hL)
  have hlt1 : (Lt.solveOf l t).1 < 65536 := Nat.lt_of_lt_of_le (Lt.solve_lt l t) (Nat.pow_le_pow_right (by decide) hL.len : 2 ^ l.length ≤ 2 ^ 16)
  by_cases h0 : (Lt.solveOf l t).2 = 0
  · have hd : decide ((Lt.solveOf l t).2 = 0) = true := by simpa using h0
    rw [hd] at hsol ⊢
    rw [if_pos h0]
    unfold Lt.fewOf
    obtain ⟨hQ, hQ16⟩ := quiet_small hL.len
    have hred := fun (W : World) (hb : Below w.heap.size w W) => reduced_any b l W (hL.below hb hL.lt)
    have HRED := Lib.hid hred
    clear hred hd h0 hL
    generalize (Lt.solveOf l t).1 = s at *
    generalize Lt.quietOf l = Q at *
    generalize Lt.basisOf l = B at *
    refine (callsIn_wide (n := 7)).1 ?_
    refine callsIn_of_wp_marks Tryd.func56 rfl trivial ?_ rfl
    simp only [Tryd.ntmps56, List.size_toArray, List.length_cons, List.length_nil, Nat.reduceAdd, Nat.reduceSub, Array.replicate_succ, Array.replicate_zero, List.push_toArray, List.append_toArray, List.nil_append, List.cons_append]
    gi_wp2_with fail
    refine ⟨trivial, ?_⟩
    refine (callsIn_wide.2 hsol.out).mono ?_
    rintro e w1 ⟨rfl, hb1⟩
    gi_wp2_with fail
    refine ⟨trivial, ?_⟩
    refine (callsIn_wide.2 (HRED.out _ (hb1.alloc hb1.size _))).mono ?_
    rintro e w2 ⟨vB, vQ, rfl, ⟨-, hrQ⟩, hb2⟩
    obtain ⟨aQ, nQ, cQ, rfl⟩ := slice_of_row hrQ
    have hfirst : w2.cell? ⟨w1.heap.size, 0, none⟩ = some (.int .i64 s) := (hb2.cell (p := ⟨w1.heap.size, 0, none⟩) (by simp)).trans (by simp [go_sem])
    have hz2 : w1.heap.size < w2.heap.size := by have := hb2.size; simp at this; omega
    have hb2' : Below w.heap.size w w2 := (hb1.alloc hb1.size _).trans (hb2.mono (by have := hb1.size; simp; omega))
    have hsz1 := hb1.size
    gi_wp2_with (refine ⟨trivial, ?_⟩; gi_at_call 76; refine (callsIn_wide.2 (sums_any _ _ _ _)).mono ?_; rintro e w' ⟨rfl, rfl⟩)
    obtain ⟨w3, hw3⟩ : ∃ w3, (w2.alloc (Obj.cells #[Value.int IntKind.i64 ↑s] 3)).alloc (Obj.cells #[Value.slice aQ nQ cQ] 36) = w3 := ⟨_, rfl⟩
    have hB3 : Below w2.heap.size w2 w3 := by rw [← hw3]; exact ((Below.refl _ w2).alloc (Nat.le_refl _) _).alloc (by simp) _
    have hz3 : w3.heap.size = w2.heap.size + 2 := by rw [← hw3]; simp
    have hc1 : w3.cell? ⟨w2.heap.size, 0, none⟩ = some (.int .i64 s) := by rw [← hw3]; simp [go_sem]
    have hf1 : w3.frozen? ⟨w2.heap.size, 0, none⟩ = false := by rw [← hw3]; simp [go_sem]
    have hc2 : w3.cell? ⟨w2.heap.size + 1, 0, none⟩ = some (.slice aQ nQ cQ) := by rw [← hw3]; simp [go_sem]
    have hfirst3 := (hB3.cell (p := ⟨w1.heap.size, 0, none⟩) hz2).trans hfirst
    have hbW3 : Below w.heap.size w w3 := hb2'.trans (hB3.mono hb2'.size)
    have hw2s := hb2'.size
    rw [hw3]
    have hrd : ReadsN w3.heap.size w2.heap.size w3 (.slice aQ nQ cQ) Q := (reads_of_rowN hrQ (by omega) (Nat.le_refl _)).of_below hB3 hrQ
    have hst := sums_seq (w2.heap.size + 1) w3.heap.size w2.heap.size Q _ hQ hQ16 (by omega) (by omega) (by omega) (by omega) w3 (Nat.le_refl _) hc2 hrd (hT.below hbW3 hw)
    have hsum := Lib.hid (bestL_sums Q s (2 ^ Q.length))
    clear hc2 hw3 hrd hfirst
    refine wpIn_rangeFunc_Z rfl (by omega) (gf := 90) (lb := #[.pointer (some ⟨w2.heap.size + 1, 0, none⟩)]) rfl trivial (enters_of Tryd.func90 (by kernel_rfl) rfl)
        hst (fun h k => h.trans k) (fun X k o hk => Apart.put X k o (by omega)) (Below.refl _ _) (fun _ => rfl)
        (fun pre X => (X.cell? ⟨w1.heap.size, 0, none⟩ = some (.int .i64 s) ∧ X.cell? ⟨w2.heap.size, 0, none⟩ = some (.int .i64 (bestL s (pre.map (·.1)) : Nat)) ∧ X.frozen? ⟨w2.heap.size, 0, none⟩ = false) ∧ Below w.heap.size w X)
        (fun _ _ _ => False) ?cI (fun _ _ _ _ h _ => h) ⟨⟨hfirst3, hc1, hf1⟩, hbW3⟩
        (fun x => { tmps :=
          #[Value.pointer (some ⟨b, 0, none⟩), Value.int IntKind.i64 ↑t, undef, undef,
          Value.int IntKind.i64 0, Value.bool false, Value.pointer (some ⟨w1.heap.size, 0, none⟩),
          Value.bool true, vB, Value.slice aQ nQ cQ, Value.pointer (some ⟨w2.heap.size, 0, none⟩), .int .i64 (x.1 : Nat),
          Value.tuple #[Value.int IntKind.i64 ↑s, Value.bool true], Value.pointer (some ⟨b, 0, none⟩),
          Value.int IntKind.i64 ↑t, Value.tuple #[Value.int IntKind.i64 ↑s, Value.bool true], Value.int IntKind.i64 ↑s,
          Value.bool true, Value.bool true, Value.bool false, Value.tuple #[vB, Value.slice aQ nQ cQ],
          Value.pointer (some ⟨b, 0, none⟩), Value.tuple #[vB, Value.slice aQ nQ cQ], vB, Value.slice aQ nQ cQ, Value.int IntKind.i64 ↑s, Value.slice aQ nQ cQ,
          Value.func (Fn.func 90) #[] #[Value.pointer (some ⟨w2.heap.size + 1, 0, none⟩)], .int .i64 (x.1 : Nat), undef, undef, undef, undef, undef, undef, undef, undef, undef], defers := [] }) ?assign ?body ?done ?stop
    case cI =>
      rintro pre X Y ⟨⟨h1, h2, h3⟩, h4⟩ hb
      exact ⟨⟨(hb.cell (p := ⟨w1.heap.size, 0, none⟩) (by simp; omega)).trans h1, (hb.cell (p := ⟨w2.heap.size, 0, none⟩) (by simp; omega)).trans h2, (hb.frozen (p := ⟨w2.heap.size, 0, none⟩) (by simp; omega)).trans h3⟩, h4.trans (hb.mono (by omega))⟩
    case assign =>
      intro l x W K hK
      gi_wp2
      exact hK
    case body =>
      rintro l' pre ⟨x, hx⟩ X hX ⟨⟨hf, hc, hfz⟩, hb⟩ _
      have hbest : bestL s (pre.map (·.1)) < 65536 := bestL_lt hlt1 _ (fun y hy => by obtain ⟨z, _, rfl⟩ := List.mem_map.1 hy; exact z.2)
      have hxo := Lt.xor_i64 s x (by omega) (by omega)
      have hsx : s ^^^ x < 65536 := by have := Nat.xor_lt_two_pow (n := 16) (show s < 2 ^ 16 from hlt1) (show x < 2 ^ 16 from hx); exact this
      have hsn := Lib.hid (bestL_snoc s (pre.map (·.1)) x)
      have hless := Lib.hid (less_any (s ^^^ x) (bestL s (pre.map (·.1))) hsx hbest X)
      clear hst
      generalize bestL s (pre.map (·.1)) = O at *
      by_cases hl : Lt.less (s ^^^ x) O = true
      · have hstep : stepL s O x = s ^^^ x := by unfold stepL; rw [if_pos hl]
        rw [hstep] at hsn
        rw [hl] at hless
        clear hl hstep
        generalize s ^^^ x = y at *
        gi_wp2_with (refine ⟨trivial, ?_⟩; gi_at_call 77; refine (CallsIn.inRound l' (callsIn_wide.2 hless.out)).mono ?_; rintro e w' ⟨rfl, rfl⟩)
        exact ⟨(KeepsOthers.setCell _ _ _).from _, Apart.set X _, ⟨(World.cell?_setCell_other _ _ _ _ (by first | (simp; done) | (simp; omega))).trans hf, by rw [List.map_append, List.map_cons, List.map_nil, hsn.out]; exact World.cell?_setCell_same' _ _ _ (by rw [hc]; rfl), by rw [World.frozen?_setCell]; exact hfz⟩, hb.setCell (p := ⟨w2.heap.size, 0, none⟩) hw2s _⟩
      · have hl' : Lt.less (s ^^^ x) O = false := by simpa using hl
        have hstep : stepL s O x = O := by unfold stepL; rw [if_neg hl]
        rw [hstep] at hsn
        rw [hl'] at hless
        clear hl hl' hstep
        generalize s ^^^ x = y at *
        gi_wp2_with (refine ⟨trivial, ?_⟩; gi_at_call 77; refine (CallsIn.inRound l' (callsIn_wide.2 hless.out)).mono ?_; rintro e w' ⟨rfl, rfl⟩)
        exact ⟨KeepsFrom.refl _ _, Apart.refl _ _ _, ⟨hf, by rw [List.map_append, List.map_cons, List.map_nil, hsn.out]; exact hc, hfz⟩, hb⟩
    case done =>
      rintro D ys X hD hDX hys ⟨⟨_, hc, _⟩, hb⟩ hK
      rw [hys, hsum.out] at hc
      clear hst hsum
      gi_wp2
      refine ⟨by simp, .inl ⟨_, _, rfl, run_takeDeferred hK, ?_⟩⟩
      exact ⟨_, results_tmp2 rfl _ _ _, rfl, hb.trans (below_put X D _ (by omega))⟩
    case stop =>
      rintro D c pre X _ _ _ h _
      exact h.elim
  · have hd : decide ((Lt.solveOf l t).2 = 0) = false := by simpa using h0
    rw [hd] at hsol ⊢
    rw [if_neg h0]
    clear hd h0 hL
    generalize (Lt.solveOf l t).1 = s at *
    go_enter Tryd.func56, Tryd.ntmps56
    go_wp2_with fail
    refine hsol.out.mono ?_
    rintro e w1 ⟨rfl, hb1⟩
    go_wp2_with fail
    go_ret2
    exact ⟨rfl, hb1.alloc hb1.size _⟩

end Go.Proofs.YtdlogklhekopgaaDoor
