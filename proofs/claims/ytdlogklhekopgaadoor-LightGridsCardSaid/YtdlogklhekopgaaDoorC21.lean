/- Contracts of the program's functions: part C21 of the proof. -/
import Derived.Test.YtdlogklhekopgaaDoorC20
import Derived.Test.YtdlogklhekopgaaDoorP12
set_option linter.unusedVariables false
set_option linter.unusedSimpArgs false
namespace Go.Proofs.YtdlogklhekopgaaDoor
open Go.RowKit Go.Shelf Go.Proofs
attribute [local go_sem] Oper.semAt_some

theorem Tryd.info29 : (Tryd.prog.info? 29).map (fun i => (i.zero, i.size, i.bytes)) = some (some (.agg #[.int .i64 0, .int .i64 0]), 2, 16) := by kernel_rfl

/-- there is such a grid -/
def gridOk (r c : Int) : Bool := decide (1 ≤ r) && decide (1 ≤ c) && decide (r ≤ 16) && decide (c ≤ 16) && decide (r * c ≤ 16)

set_option maxHeartbeats 1000000 in
theorem grid_bad (r c : Int) (h : gridOk r c = false) (w : World) :
    Calls Tryd.prog 16 #[.int .i64 r, .int .i64 c] w fun e w' => e = .returned (.tuple #[.int .i64 0, .slice none 0 0, .int .i64 1]) ∧ w' = w := by
  by_cases h1 : min r c < 1
  · clear h
    go_enter Tryd.func16, Tryd.ntmps16
    go_wp2
    go_ret3
    exact ⟨rfl, rfl⟩
  · by_cases h2 : 16 < max r c
    · clear h
      go_enter Tryd.func16, Tryd.ntmps16
      go_wp2
      go_ret3
      exact ⟨rfl, rfl⟩
    · have h3 : 16 < r * c := by
        unfold gridOk at h
        have e1 : decide (1 ≤ r) = true := by simp; omega
        have e2 : decide (1 ≤ c) = true := by simp; omega
        have e3 : decide (r ≤ 16) = true := by simp; omega
        have e4 : decide (c ≤ 16) = true := by simp; omega
        rw [e1, e2, e3, e4] at h
        simpa using h
      have h4 : r * c ≤ 16 * 16 := Int.mul_le_mul (by omega) (by omega) (by omega) (by omega)
      clear h
      generalize hm : r * c = m at *
      have hw : wrap64 (r * c) = m := by rw [hm]; unfold wrap64; omega
      clear hm
      go_enter Tryd.func16, Tryd.ntmps16
      go_wp2
      go_ret3
      exact ⟨rfl, rfl⟩

theorem cell_two_new (w : World) (x y : Value) (e : TypeId) : ∀ (j : Nat) (u : Value), [x, y][j]? = some u → (w.alloc (.cells #[x, y] e)).cell? ((⟨w.heap.size, 0, none⟩ : Addr).add j) = some u := by
  intro j u h
  have hh : (w.alloc (.cells #[x, y] e)).heap[w.heap.size]? = some (.cells #[x, y] e (0, 0)) := World.alloc_heap_new w _
  have : j = 0 ∨ j = 1 := by
    rcases j with _ | _ | j
    · exact .inl rfl
    · exact .inr rfl
    · simp at h
  unfold World.cell? Addr.add
  rcases this with rfl | rfl
  · show (match (w.alloc (.cells #[x, y] e)).heap[w.heap.size]? with | some (.cells c elem frozen) => _ | _ => _) = _
    rw [hh]; simpa using h
  · show (match (w.alloc (.cells #[x, y] e)).heap[w.heap.size]? with | some (.cells c elem frozen) => _ | _ => _) = _
    rw [hh]; simpa using h

theorem pcells_snoc (B : List (Nat × Nat)) (a b : Nat) : pcells (B ++ [(a, b)]) = pcells B ++ [.int .i64 (a : Nat), .int .i64 (b : Nat)] := by simp [pcells]

set_option maxRecDepth 100000 in
set_option maxHeartbeats 4000000 in
theorem grid_good (r c : Nat) (hr : 1 ≤ r) (hc : 1 ≤ c) (hrc : r * c ≤ 16) (w : World) :
    Calls Tryd.prog 16 #[.int .i64 r, .int .i64 c] w fun e w' => ∃ v, e = .returned (.tuple #[.int .i64 ((r * c : Nat) : Int), v, .int .i64 0]) ∧ w'.ownsRow w.heap.size 29 2 v (Lt.gridOf r c).length (pcells (Lt.gridOf r c)) ∧ Below w.heap.size w w' := by
  have hr16 : r ≤ 16 := Nat.le_trans (Nat.le_mul_of_pos_right r hc) hrc
  have hc16 : c ≤ 16 := Nat.le_trans (Nat.le_mul_of_pos_left c hr) hrc
  have hstep := Lib.hid (Lt.gridTo_succ r c)
  have hlen := Lib.hid (Lt.gridTo_length r c)
  have hdef : Hid (∀ i, Lt.cellEdges r c i = (if i % c + 1 < c then [(i, i + 1)] else []) ++ (if i + c < r * c then [(i, i + c)] else [])) := Lib.hid (fun i => rfl)
  unfold Lt.gridOf
  have hm : wrap64 ((r : Int) * (c : Int)) = ((r * c : Nat) : Int) := by
    have e : (r : Int) * (c : Int) = ((r * c : Nat) : Int) := by simp
    rw [e]
    generalize r * c = m at *
    unfold wrap64; omega
  generalize r * c = m at *
  have HG0 : Hid (w.ownsRow w.heap.size 29 2 (.slice none 0 0) (Lt.gridTo r c 0).length (pcells (Lt.gridTo r c 0))) := Lib.hid (World.ownsRow_nil _ _ _ _)
  generalize Lt.gridTo r c = G at *
  generalize Lt.cellEdges r c = E at *
  go_enter Tryd.func16, Tryd.ntmps16
  go_wp2
  simp only [hm]
  go_loopw [7, 28] (fun v i wr => ∃ (k : Nat), i = .int .i64 k ∧ k ≤ m ∧ Hid (wr.ownsRow w.heap.size 29 2 v (G k).length (pcells (G k))) ∧ Below w.heap.size w wr)
    (fun _ i _ => m - (intOf i).toNat)
  case atStart => exact ⟨0, rfl, Nat.zero_le _, Lib.hid HG0.out, Below.refl _ _⟩
  case round =>
    obtain ⟨k, rfl, hk, hrow, hB⟩ := hrel
    obtain ⟨a1, n1, c1, rfl⟩ := slice_of_row hrow.out
    by_cases hlt : k < m
    · have hrem : Int.tmod (k : Int) (c : Int) = ((k % c : Nat) : Int) := (Int.ofNat_tmod k c).symm
      have hc0 : ((c : Int) == 0) = false := by simp; omega
      have hl1 := hlen.out k
      have hE := Lib.hid (hdef.out k)
      have hnx := Lib.hid (hstep.out k)
      have hql : k % c < c := Nat.mod_lt _ hc
      generalize k % c = q at *
      obtain ⟨i0, hi0, hz0, hzs, hzb⟩ := info_parts Tryd.info29
      by_cases h1 : q + 1 < c
      · by_cases h2 : k + c < m
        · rw [if_pos h1, if_pos h2] at hE
          have hfl : Hid ((G (k + 1)).length = (G k).length + 1 + 1 ∧ pcells (G (k + 1)) = pcells (G k) ++ [.int .i64 (k : Nat), .int .i64 ((k : Nat) + 1)] ++ [.int .i64 (k : Nat), .int .i64 ((k : Nat) + (c : Nat))]) := Lib.hid (by
            rw [hnx.out, hE.out]; exact ⟨by simp, by simp [pcells]⟩)
          clear hnx hE
          go_wp2_with (first | (at_builtin; refine wpList_append_own _ rfl _ _ 22 rfl w.heap.size 29 i0 _ 2 16 Tryd.underlying22 hi0 hz0 hzs hzb rfl (by decide) (.slice a1 n1 c1) (G k).length (pcells (G k)) rfl (hrow.out.alloc _) ⟨wr.heap.size, 0, none⟩ 1 1 [.int .i64 (k : Nat), .int .i64 ((k : Nat) + 1)] rfl rfl (cell_two_new _ _ _ _) (by simp [Value.oneCell']) (by unfold maxLen; omega) (by omega) (by have := hB.size; simp; omega) ?_; intro v' w1 hown' hgrow _; obtain ⟨g', cap', rfl⟩ := ownsRow_succ hown'; have HOWN := Lib.hid hown'; have HB1 : Below w.heap.size w w1 := (hB.alloc hB.size _).grown hgrow (by have := hB.size; simp; omega) (fun k hk => (hrow.out.lt k hk).1); clear hown' hgrow) | (at_builtin; refine wpList_append_own _ rfl _ _ 22 rfl w.heap.size 29 i0 _ 2 16 Tryd.underlying22 hi0 hz0 hzs hzb rfl (by decide) (.slice (some ⟨g', 0, none⟩) ((G k).length + 1) cap') ((G k).length + 1) (pcells (G k) ++ [.int .i64 (k : Nat), .int .i64 ((k : Nat) + 1)]) rfl (HOWN.out.alloc _) ⟨w1.heap.size, 0, none⟩ 1 1 [.int .i64 (k : Nat), .int .i64 ((k : Nat) + (c : Nat))] rfl rfl (cell_two_new _ _ _ _) (by simp [Value.oneCell']) (by unfold maxLen; omega) (by omega) (by have := HB1.size; simp; omega) ?_; intro v'' w2 hown'' hgrow _; obtain ⟨g'', cap'', rfl⟩ := ownsRow_succ hown''; have HOWN2 := Lib.hid hown''; have HB2 : Below w.heap.size w w2 := (HB1.alloc HB1.size _).grown hgrow (by have := HB1.size; simp; omega) (fun k hk => (HOWN.out.lt k hk).1); clear hown'' hgrow))
          go_roundw
          case rel => exact ⟨k + 1, by go_num, by omega, Lib.hid (by rw [hfl.out.1, hfl.out.2]; exact HOWN2.out), HB2⟩
          case measure => simp [intOf]; omega
        · rw [if_pos h1, if_neg h2] at hE
          have hfl : Hid ((G (k + 1)).length = (G k).length + 1 ∧ pcells (G (k + 1)) = pcells (G k) ++ [.int .i64 (k : Nat), .int .i64 ((k : Nat) + 1)]) := Lib.hid (by
            rw [hnx.out, hE.out]; exact ⟨by simp, by simp [pcells]⟩)
          clear hnx hE
          go_wp2_with (at_builtin; refine wpList_append_own _ rfl _ _ 22 rfl w.heap.size 29 i0 _ 2 16 Tryd.underlying22 hi0 hz0 hzs hzb rfl (by decide) (.slice a1 n1 c1) (G k).length (pcells (G k)) rfl (hrow.out.alloc _) ⟨wr.heap.size, 0, none⟩ 1 1 [.int .i64 (k : Nat), .int .i64 ((k : Nat) + 1)] rfl rfl (cell_two_new _ _ _ _) (by simp [Value.oneCell']) (by unfold maxLen; omega) (by omega) (by have := hB.size; simp; omega) ?_; intro v' w1 hown' hgrow _; obtain ⟨g', cap', rfl⟩ := ownsRow_succ hown'; have HOWN := Lib.hid hown'; have HB1 : Below w.heap.size w w1 := (hB.alloc hB.size _).grown hgrow (by have := hB.size; simp; omega) (fun k hk => (hrow.out.lt k hk).1); clear hown' hgrow)
          go_roundw
          case rel => exact ⟨k + 1, by go_num, by omega, Lib.hid (by rw [hfl.out.1, hfl.out.2]; exact HOWN.out), HB1⟩
          case measure => simp [intOf]; omega
      · by_cases h2 : k + c < m
        · rw [if_neg h1, if_pos h2] at hE
          have hfl : Hid ((G (k + 1)).length = (G k).length + 1 ∧ pcells (G (k + 1)) = pcells (G k) ++ [.int .i64 (k : Nat), .int .i64 ((k : Nat) + (c : Nat))]) := Lib.hid (by
            rw [hnx.out, hE.out]; exact ⟨by simp, by simp [pcells]⟩)
          clear hnx hE
          go_wp2_with (at_builtin; refine wpList_append_own _ rfl _ _ 22 rfl w.heap.size 29 i0 _ 2 16 Tryd.underlying22 hi0 hz0 hzs hzb rfl (by decide) (.slice a1 n1 c1) (G k).length (pcells (G k)) rfl (hrow.out.alloc _) ⟨wr.heap.size, 0, none⟩ 1 1 [.int .i64 (k : Nat), .int .i64 ((k : Nat) + (c : Nat))] rfl rfl (cell_two_new _ _ _ _) (by simp [Value.oneCell']) (by unfold maxLen; omega) (by omega) (by have := hB.size; simp; omega) ?_; intro v' w1 hown' hgrow _; obtain ⟨g', cap', rfl⟩ := ownsRow_succ hown'; have HOWN := Lib.hid hown'; have HB1 : Below w.heap.size w w1 := (hB.alloc hB.size _).grown hgrow (by have := hB.size; simp; omega) (fun k hk => (hrow.out.lt k hk).1); clear hown' hgrow)
          go_roundw
          case rel => exact ⟨k + 1, by go_num, by omega, Lib.hid (by rw [hfl.out.1, hfl.out.2]; exact HOWN.out), HB1⟩
          case measure => simp [intOf]; omega
        · rw [if_neg h1, if_neg h2] at hE
          have hfl : Hid (G (k + 1) = G k) := Lib.hid (by rw [hnx.out, hE.out]; simp)
          clear hnx hE
          go_wp2
          go_roundw
          case rel => exact ⟨k + 1, by go_num, by omega, Lib.hid (by rw [hfl.out]; exact hrow.out), hB⟩
          case measure => simp [intOf]; omega
    · have hkm : k = m := by omega
      subst hkm
      clear hlen hdef hstep
      go_wp2
      go_ret3
      exact ⟨_, by rw [← hm]; rfl, hrow.out, hB⟩

end Go.Proofs.YtdlogklhekopgaaDoor
