/- Contracts of the program's functions: part C9 of the proof. -/
import Derived.Test.YtdlogklhekopgaaDoorC8
set_option linter.unusedVariables false
set_option linter.unusedSimpArgs false
namespace Go.Proofs.YtdlogklhekopgaaDoor
open Go.RowKit Go.Shelf Go.Proofs

/-- pressings as cells -/
def pcells (B : List (Nat × Nat)) : List Value := B.flatMap fun p => [Value.int .i64 (p.1 : Int), Value.int .i64 (p.2 : Int)]
theorem pcells_length (B : List (Nat × Nat)) : (pcells B).length = B.length * 2 := by
  induction B with
  | nil => rfl
  | cons b B ih => simp only [pcells, List.flatMap_cons, List.length_append] at *; simp [ih]; omega
theorem pcells_append (A B : List (Nat × Nat)) : pcells (A ++ B) = pcells A ++ pcells B := by simp [pcells]
theorem pcells_one (B : List (Nat × Nat)) : ∀ u ∈ pcells B, u.oneCell' = true := by
  intro u hu
  simp only [pcells, List.mem_flatMap] at hu
  obtain ⟨p, _, hp⟩ := hu
  rcases List.mem_cons.1 hp with rfl | hp
  · rfl
  · rcases List.mem_cons.1 hp with rfl | hp
    · rfl
    · cases hp
theorem pcells_at (B : List (Nat × Nat)) (j : Nat) (hj : j < B.length) : (pcells B)[j * 2]? = some (.int .i64 (B[j].1 : Int)) ∧ (pcells B)[j * 2 + 1]? = some (.int .i64 (B[j].2 : Int)) := by
  induction B generalizing j with
  | nil => simp at hj
  | cons b B ih =>
    cases j with
    | zero => simp [pcells]
    | succ j =>
      have := ih j (by simpa using hj)
      have e : (j + 1) * 2 = j * 2 + 2 := by omega
      simp only [pcells, List.flatMap_cons] at *
      rw [e]
      simpa using this
theorem pcells_take (B : List (Nat × Nat)) (i : Nat) : pcells (B.take i) = (pcells B).take (i * 2) := by
  induction B generalizing i with
  | nil => simp [pcells]
  | cons b B ih =>
    cases i with
    | zero => simp [pcells]
    | succ i =>
      have e : (i + 1) * 2 = i * 2 + 2 := by omega
      have h := ih i
      simp only [pcells, List.take_succ_cons, List.flatMap_cons] at *
      rw [h, e]; simp
theorem pcells_drop (B : List (Nat × Nat)) (i : Nat) : pcells (B.drop i) = (pcells B).drop (i * 2) := by
  induction B generalizing i with
  | nil => simp [pcells]
  | cons b B ih =>
    cases i with
    | zero => simp [pcells]
    | succ i =>
      have e : (i + 1) * 2 = i * 2 + 2 := by omega
      have h := ih i
      simp only [pcells, List.drop_succ_cons, List.flatMap_cons] at *
      rw [h, e]; simp
theorem pcells_ins (B : List (Nat × Nat)) (p : Nat × Nat) : pcells (Lt.ins B p) = (pcells B).take (Lt.insAt B p.2 * 2) ++ [Value.int .i64 (p.1 : Int), Value.int .i64 (p.2 : Int)] ++ (pcells B).drop (Lt.insAt B p.2 * 2) := by
  unfold Lt.ins
  rw [pcells_append, pcells_take]
  have : p :: B.drop (Lt.insAt B p.2) = [p] ++ B.drop (Lt.insAt B p.2) := rfl
  rw [this, pcells_append, pcells_drop, ← List.append_assoc]
  rfl

/-- pressings in a slice as they are read -/
def ReadsB (w : World) (v : Value) (B : List (Nat × Nat)) : Prop :=
  (v = .slice none 0 0 ∧ B = []) ∨ ∃ b off cap, v = .slice (some ⟨b, off, none⟩) B.length cap ∧ b < w.heap.size ∧
    ∀ j, j < B.length → w.cell? ⟨b, off + j * 2, none⟩ = some (.int .i64 ((B[j]?.getD (0, 0)).1 : Int)) ∧ w.cell? ⟨b, off + j * 2 + 1, none⟩ = some (.int .i64 ((B[j]?.getD (0, 0)).2 : Int))
theorem ReadsB.below {w w' : World} (h : Below w.heap.size w w') {v : Value} {B : List (Nat × Nat)} : ReadsB w v B → ReadsB w' v B
  | .inl e => .inl e
  | .inr ⟨b, off, cap, e, hb, hc⟩ => .inr ⟨b, off, cap, e, Nat.lt_of_lt_of_le hb h.size, fun j hj => ⟨(h.cell (p := ⟨b, off + j * 2, none⟩) hb).trans (hc j hj).1, (h.cell (p := ⟨b, off + j * 2 + 1, none⟩) hb).trans (hc j hj).2⟩⟩
theorem ReadsB.of_row {w : World} {base : Nat} {v : Value} {B : List (Nat × Nat)} (h : w.ownsRow base 93 2 v B.length (pcells B)) : ReadsB w v B := by
  rcases h.2 with ⟨rfl, h0⟩ | ⟨g, cap, cur, rfl, hg, hh, hnc, hcm, hcs, htk⟩
  · exact .inl ⟨rfl, List.length_eq_zero_iff.1 h0⟩
  · refine .inr ⟨g, 0, cap, rfl, (Array.getElem?_eq_some_iff.1 hh).1, fun j hj => ?_⟩
    obtain ⟨h1, h2⟩ := pcells_at B j hj
    rw [← htk, List.getElem?_take, if_pos (by omega)] at h1
    rw [← htk, List.getElem?_take, if_pos (by omega)] at h2
    simp only [World.cell?, hh, Nat.zero_add]
    have e : B[j]?.getD (0, 0) = B[j] := by simp [hj]
    rw [e]
    exact ⟨by simpa using h1, by simpa using h2⟩

set_option maxHeartbeats 1000000 in
/-- reduced's test: a pressing's effect is less than that of the one in the box -/
theorem effLess_any (s x E : Int) (pb : Nat) (w : World) (hp : w.cell? ⟨pb, 1, none⟩ = some (.int .i64 E)) (hb : pb < w.heap.size) :
    Calls Tryd.prog 69 #[.agg #[.int .i64 s, .int .i64 x], .pointer (some ⟨pb, 0, none⟩)] w fun e w' => e = .returned (.bool (decide (x < E))) ∧ w' = w.alloc (.cells #[.int .i64 s, .int .i64 x] 93) := by
  go_enter Tryd.func69, Tryd.ntmps69
  go_wp2
  go_ret
  exact ⟨rfl, rfl⟩

/-- where a pressing is inserted, as IndexFunc says it -/
def idxLess (B : List (Nat × Nat)) (E : Nat) : Int := if Lt.insAt B E < B.length then (Lt.insAt B E : Int) else -1

theorem insAt_of {B : List (Nat × Nat)} {E k : Nat} (hk : k < B.length) (hno : ∀ j, j < k → ¬ (B[j]?.getD (0, 0)).2 < E) (hy : (B[k]?.getD (0, 0)).2 < E) : Lt.insAt B E = k := by
  unfold Lt.insAt
  refine (List.findIdx_eq hk).2 ⟨by simpa [hk] using hy, fun j hj => ?_⟩
  have := hno j hj
  have hj' : j < B.length := by omega
  simpa [hj'] using this
theorem insAt_none {B : List (Nat × Nat)} {E : Nat} (hno : ∀ j, j < B.length → ¬ (B[j]?.getD (0, 0)).2 < E) : Lt.insAt B E = B.length := by
  unfold Lt.insAt
  rw [List.findIdx_eq_length]
  intro x hx
  obtain ⟨j, hj, rfl⟩ := List.getElem_of_mem hx
  have := hno j hj
  simpa [hj] using this

set_option maxRecDepth 100000 in
set_option maxHeartbeats 2000000 in
theorem indexLess_any (v : Value) (B : List (Nat × Nat)) (E pb : Nat) (w : World) (hv : ReadsB w v B) (hlen : B.length ≤ 1000) (hp : w.cell? ⟨pb, 1, none⟩ = some (.int .i64 (E : Int))) (hb : pb < w.heap.size) :
    Calls Tryd.prog 68 #[v, .func (.func 69) #[] #[.pointer (some ⟨pb, 0, none⟩)]] w fun e w' => e = .returned (.int .i64 (idxLess B E)) ∧ Below w.heap.size w w' := by
  rcases hv with ⟨rfl, rfl⟩ | ⟨b, off, cap, rfl, hbw, hcs⟩
  · go_enter Tryd.func68, Tryd.ntmps68
    go_wp2
    refine wp_loop_rounds 1 ?_
    rw [rounds_succ]
    go_wp2
    go_ret
    exact ⟨by simp [idxLess, Lt.insAt], Below.refl _ _⟩
  · have HC := Lib.hid hcs
    have HP := Lib.hid hp
    clear hcs hp
    go_enter Tryd.func68, Tryd.ntmps68
    go_wp2
    go_loopw [5, 8] (fun _ i wr => ∃ k : Nat, i = .int .i64 k ∧ k ≤ B.length ∧ Hid (∀ j, j < k → ¬ (B[j]?.getD (0, 0)).2 < E) ∧ Below w.heap.size w wr) (fun _ i _ => B.length - (intOf i).toNat)
    case atStart => exact ⟨0, rfl, Nat.zero_le _, Lib.hid (fun j h => by omega), Below.refl _ _⟩
    case round =>
      obtain ⟨k, rfl, hk, hno, hB⟩ := hrel
      by_cases hlt : k < B.length
      · obtain ⟨hc0, hc1⟩ := HC.out k hlt
        replace hc0 := (hB.cell (p := ⟨b, off + k * 2, none⟩) hbw).trans hc0
        replace hc1 := (hB.cell (p := ⟨b, off + k * 2 + 1, none⟩) hbw).trans hc1
        have hpw := (hB.cell (p := ⟨pb, 1, none⟩) hb).trans HP.out
        have hbr : pb < wr.heap.size := Nat.lt_of_lt_of_le hb hB.size
        have hcl := Lib.hid (effLess_any (B[k]?.getD (0, 0)).1 (B[k]?.getD (0, 0)).2 E pb wr hpw hbr)
        clear hpw
        by_cases hy : (B[k]?.getD (0, 0)).2 < E
        · have hfin : Hid (idxLess B E = k) := Lib.hid (by unfold idxLess; rw [insAt_of hlt hno.out hy, if_pos hlt])
          have hd : decide ((((B[k]?.getD (0, 0)).2 : Nat) : Int) < (E : Int)) = true := by simpa using hy
          rw [hd] at hcl
          clear hd hy hno
          generalize (B[k]?.getD (0, 0)).2 = y at *
          generalize (B[k]?.getD (0, 0)).1 = x at *
          go_wp2_with (go_at_call 69; refine hcl.out.mono ?_; rintro e w' ⟨rfl, rfl⟩)
          go_ret
          exact ⟨by rw [hfin.out]; rfl, hB.alloc (by have := hB.size; omega) _⟩
        · have hd : decide ((((B[k]?.getD (0, 0)).2 : Nat) : Int) < (E : Int)) = false := by simpa using hy
          rw [hd] at hcl
          have hno' : Hid (∀ j, j < k + 1 → ¬ (B[j]?.getD (0, 0)).2 < E) := Lib.hid fun j hj => by
            by_cases e : j = k
            · subst e; exact hy
            · exact hno.out j (by omega)
          clear hd hy hno
          generalize (B[k]?.getD (0, 0)).2 = y at *
          generalize (B[k]?.getD (0, 0)).1 = x at *
          go_wp2_with (go_at_call 69; refine hcl.out.mono ?_; rintro e w' ⟨rfl, rfl⟩)
          go_roundw
          case rel => exact ⟨k + 1, by go_num, by omega, hno', hB.alloc hB.size _⟩
          case measure => simp [intOf]; omega
      · have hfin : Hid (idxLess B E = -1) := Lib.hid (by unfold idxLess; rw [insAt_none (fun j hj => hno.out j (by omega)), if_neg (by omega)])
        clear hno
        go_wp2
        go_ret
        exact ⟨by rw [hfin.out]; rfl, hB⟩

end Go.Proofs.YtdlogklhekopgaaDoor
