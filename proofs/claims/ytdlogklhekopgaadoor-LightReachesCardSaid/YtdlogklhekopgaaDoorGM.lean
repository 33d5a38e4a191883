/- Contracts of the program's functions: a part of the proof. -/
import Derived.Test.YtdlogklhekopgaaDoorGL
import Derived.Test.YtdlogklhekopgaaDoorPB
set_option linter.unusedVariables false
set_option linter.unusedSimpArgs false

namespace Go.Proofs.YtdlogklhekopgaaDoor
open Go.RowKit Go.Shelf Go.Proofs
attribute [local go_sem] Oper.semAt_some

theorem code_of_ok {n : Nat} {es : List (Int × Int)} (h1 : 1 ≤ n) (h16 : n ≤ 16) (h : Lt.edgesOk (n : Int) (-1, -1) es = true) : code (n : Int) es [] = 0 := by
  unfold code
  rw [if_neg (by omega), if_neg (by rw [h]; decide)]
  simp

/-- the quiet basis of a graph, by its length -/
theorem quiet_good (n : Int) (ev : Value) (es : List (Int × Int)) (own : Bool) (w : World) (hlen : es.length ≤ 1000) (hes : ReadsP w ev es) (hc : code n es [] = 0) :
    Calls Tryd.prog 22 #[.int .i64 n, ev, .bool own] w fun e w' => ∃ ad cap, e = .returned (.tuple #[.slice ad (Lt.quietOf (gr n es own)).length cap, .int .i64 0]) ∧
      Elems w' w'.heap.size ad (Lt.tidy (Lt.quietOf (gr n es own))) ∧ Below w.heap.size w w' := by
  refine (quiet_api n ev es own w hlen hes).mono ?_
  rintro e w' ⟨v, rfl, hr, hb⟩
  have hq : quietT n es own = Lt.tidy (Lt.quietOf (gr n es own)) := by unfold quietT; rw [if_pos hc]
  rw [hq] at hr
  obtain ⟨ad, cap, rfl, hE⟩ := elems_of_row hr
  refine ⟨ad, cap, ?_, hE, hb⟩
  rw [hc, Lt.tidy_length (Lt.inv_of _).rise]; rfl

theorem quiet_long {n : Nat} {ev : Value} {L : List (Nat × Nat)} {own : Bool} {m : Nat} (h1 : 1 ≤ n) (h16 : n ≤ 16) (hlen : L.length ≤ 1000) (h : Lt.edgesOk (n : Int) (-1, -1) (L.map Lt.toI) = true)
    (hm : (Lt.quietOf (Lt.graph n (L.map Lt.toI) own)).length = m) (w : World) (hes : ReadsP w ev (L.map Lt.toI)) :
    Calls Tryd.prog 22 #[.int .i64 n, ev, .bool own] w fun e w' => ∃ ad cap, e = .returned (.tuple #[.slice ad m cap, .int .i64 0]) ∧ Below w.heap.size w w' := by
  refine (quiet_good n ev (L.map Lt.toI) own w (by simpa using hlen) hes (code_of_ok h1 h16 h)).mono ?_
  rintro e w' ⟨ad, cap, rfl, -, hb⟩
  subst hm
  exact ⟨ad, cap, rfl, hb⟩

theorem two_pairs (w : World) (base a b c d : Nat) (hb : base ≤ w.heap.size) : (w.alloc (.cells #[.int .i64 (a : Nat), .int .i64 (b : Nat), .int .i64 (c : Nat), .int .i64 (d : Nat)] 29)).ownsRow base 29 2 (.slice (some ⟨w.heap.size, 0, none⟩) 2 2) 2 (pcells [(a, b), (c, d)]) :=
  ⟨by simp [pcells], .inr ⟨w.heap.size, 2, #[.int .i64 (a : Nat), .int .i64 (b : Nat), .int .i64 (c : Nat), .int .i64 (d : Nat)], rfl, hb, World.alloc_heap_new w _, Nat.le_refl _, by unfold maxLen; omega, rfl, rfl⟩⟩

theorem tmod_nat (N m : Nat) : ((N : Nat) : Int).tmod ((m : Nat) : Int) = ((N % m : Nat) : Int) := (Int.ofNat_tmod N m).symm
theorem tmod2 (N : Nat) : ((N : Nat) : Int).tmod 2 = ((N % 2 : Nat) : Int) := tmod_nat N 2
theorem tmod3 (N : Nat) : ((N : Nat) : Int).tmod 3 = ((N % 3 : Nat) : Int) := tmod_nat N 3

set_option maxRecDepth 100000 in
set_option maxHeartbeats 8000000 in
theorem lightPaths_any (n : Int) (w : World) (hT : Tab w) (hw : 1 < w.heap.size) : Calls Tryd.prog 6 #[.int .i64 n] w fun e w' => e = .returned (.bool true) ∧ Below w.heap.size w w' := by
  obtain ⟨z, hz0, hz2⟩ := u64_mod n 16 (by decide) (by decide)
  have hz : (IntKind.u64.wrap n).tmod 16 = (z : Int) := hz0
  clear hz0
  have hN : (1 : Int) + (z : Int) = ((z + 1 : Nat) : Int) := by omega
  have hN1 : 1 ≤ z + 1 := by omega
  have hN16 : z + 1 ≤ 16 := by omega
  clear hz2
  generalize z + 1 = N at *
  have hpf := Lt.path_facts ⟨N, by omega⟩ hN1
  have hrf := Lt.ring_facts ⟨N, by omega⟩
  simp only at hpf hrf
  have ht2 := tmod2 N
  have ht3 := tmod3 N
  have hM2 : N % 2 < 2 := Nat.mod_lt _ (by decide)
  obtain ⟨m4, hm4⟩ : ∃ m4, m4 = 2 - N % 2 := ⟨_, rfl⟩
  have hm4I : (2 : Int) - ((N % 2 : Nat) : Int) = (m4 : Int) := by omega
  rw [← hm4] at hrf
  obtain ⟨m1, m3, hm1, hm3, hcase⟩ : ∃ m1 m3 : Nat, (if N % 3 = 2 then 1 else 0) = m1 ∧ (if N % 3 = 0 then 2 else 0) = m3 ∧
      ((m1 = 0 ∧ m3 = 2 ∧ N % 3 = 0) ∨ (m1 = 0 ∧ m3 = 0 ∧ N % 3 = 1) ∨ (m1 = 1 ∧ m3 = 0 ∧ N % 3 = 2)) := by
    refine ⟨_, _, rfl, rfl, ?_⟩
    have : N % 3 = 0 ∨ N % 3 = 1 ∨ N % 3 = 2 := by omega
    rcases this with h | h | h <;> simp [h]
  rw [hm1] at hpf
  rw [hm3] at hrf
  clear hm1 hm3 hm4
  generalize N % 2 = M2 at *
  generalize N % 3 = M3 at *
  have hpf := Lib.hid hpf
  have hrf := Lib.hid hrf
  have hCase := Lib.hid hcase
  clear hcase
  go_enter Tryd.func6, Tryd.ntmps6
  go_wp2
  go_loopw [3, 4] (fun v i wr => ∃ (k : Nat), i = .int .i64 k ∧ k ≤ N - 1 ∧ Hid (wr.ownsRow w.heap.size 29 2 v (Lt.pathTo' k).length (pcells (Lt.pathTo' k))) ∧ Below w.heap.size w wr)
    (fun _ i _ => N - (intOf i).toNat)
  case atStart => exact ⟨0, rfl, Nat.zero_le _, Lib.hid (World.ownsRow_nil _ _ _ _), Below.refl _ _⟩
  case round =>
    obtain ⟨k, rfl, hk, hrow, hB⟩ := hrel
    by_cases hlt : k + 1 < N
    · have hltI : ((k : Nat) : Int) + 1 < (N : Int) := by omega
      obtain ⟨a1, n1, c1, rfl⟩ := slice_of_row hrow.out
      have hl1 := Lt.pathTo'_length k
      have hfl : Hid ((Lt.pathTo' (k + 1)).length = (Lt.pathTo' k).length + 1 ∧ pcells (Lt.pathTo' (k + 1)) = pcells (Lt.pathTo' k) ++ [.int .i64 (k : Nat), .int .i64 ((k : Nat) + 1)]) := Lib.hid (by
        rw [Lt.pathTo'_succ, pcells_snoc]; exact ⟨by simp, by simp⟩)
      generalize Lt.pathTo' k = P at *
      obtain ⟨i0, hi0, hz0, hzs, hzb⟩ := info_parts Tryd.info29
      go_wp2_with (at_builtin; refine wpList_append_own _ rfl _ _ 22 rfl w.heap.size 29 i0 _ 2 16 Tryd.underlying22 hi0 hz0 hzs hzb rfl (by decide) (.slice a1 n1 c1) P.length (pcells P) rfl (hrow.out.alloc _) ⟨wr.heap.size, 0, none⟩ 1 1 [.int .i64 (k : Nat), .int .i64 ((k : Nat) + 1)] rfl rfl (cell_two_new _ _ _ _) (by simp [Value.oneCell']) (by unfold maxLen; omega) (by omega) (by have := hB.size; simp; omega) ?_; intro v' w1 hown' hgrow _; obtain ⟨g', cap', rfl⟩ := ownsRow_succ hown'; have HOWN := Lib.hid hown'; have HB1 : Below w.heap.size w w1 := (hB.alloc hB.size _).grown hgrow (by have := hB.size; simp; omega) (fun k hk => (hrow.out.lt k hk).1); clear hown' hgrow)
      go_roundw
      case rel => exact ⟨k + 1, by go_num, by omega, Lib.hid (by have h := HOWN.out; rw [hl1] at h; rw [hfl.out.1, hfl.out.2, hl1]; exact h), HB1⟩
      case measure => simp [intOf]; omega
    · have hltI : ¬ ((k : Nat) : Int) + 1 < (N : Int) := by omega
      obtain rfl : k = N - 1 := by omega
      have hRP := readsP_of_row hrow.out
      obtain ⟨a1, n1, c1, rfl⟩ := slice_of_row hrow.out
      have hl1 := Lt.pathTo'_length (N - 1)
      obtain ⟨hok, hq1, hq2⟩ := hpf.out
      have hc1 := Lib.hid (fun W h => quiet_long (own := true) (ev := .slice a1 n1 c1) hN1 hN16 (by omega) hok hq1 W h)
      have hc2 := Lib.hid (fun W h => quiet_long (own := false) (ev := .slice a1 n1 c1) hN1 hN16 (by omega) hok hq2 W h)
      have HRP := Lib.hid hRP
      clear hRP hok hq1 hq2 hrow hl1 hpf
      go_wp2_with fail
      refine (hc1.out _ HRP.out).mono ?_
      rintro e w1 ⟨b1, d1, rfl, hb1⟩
      go_wp2_with fail
      refine (hc2.out _ (HRP.out.below hb1)).mono ?_
      rintro e w2 ⟨b2, d2, rfl, hb2⟩
      have hB2 : Below w.heap.size w w2 := (hB.trans (hb1.mono hB.size)).trans (hb2.mono (by have := hB.size; have := hb1.size; omega))
      clear hc1 hc2 HRP hb1 hb2
      rcases hCase.out with ⟨rfl, rfl, rfl⟩ | ⟨rfl, rfl, rfl⟩ | ⟨rfl, rfl, rfl⟩
      all_goals clear hCase
      all_goals (
        by_cases h3 : N < 3
        · have h3I : ((N : Nat) : Int) < 3 := by omega
          have haw := Lib.hid (awake_any w2 (hT.below hB2 hw) (by have := hB2.size; omega))
          clear hrf
          go_wp2_with (go_at_call 19; refine haw.out.mono ?_; rintro e w7 ⟨rfl, hb7⟩)
          go_ret
          exact ⟨rfl, hB2.trans (hb7.mono hB2.size)⟩
        · have h3I : ¬ ((N : Nat) : Int) < 3 := by omega
          have hwN : ((N : Nat) : Int) - 1 = ((N - 1 : Nat) : Int) := by omega
          have hown2 := Lib.hid (two_pairs w2 w.heap.size 0 1 0 (N - 1) hB2.size)
          have hB3 : Below w.heap.size w (w2.alloc (.cells #[.int .i64 ((0 : Nat) : Int), .int .i64 ((1 : Nat) : Int), .int .i64 ((0 : Nat) : Int), .int .i64 ((N - 1 : Nat) : Int)] 29)) := hB2.alloc hB2.size _
          have hrf' := Lib.hid (hrf.out (by omega))
          clear hrf
          have hr0 : Hid ((w2.alloc (.cells #[.int .i64 ((0 : Nat) : Int), .int .i64 ((1 : Nat) : Int), .int .i64 ((0 : Nat) : Int), .int .i64 ((N - 1 : Nat) : Int)] 29)).ownsRow w.heap.size 29 2 (.slice (some ⟨w2.heap.size, 0, none⟩) 2 2) (Lt.ringTo N 0).length (pcells (Lt.ringTo N 0))) := hown2
          go_wp2
          have HT2 := Lib.hid ht2
          have HT3 := Lib.hid ht3
          clear ht2 ht3 hwN hltI hown2
          go_loopw [11, 12] (fun v i W => ∃ (k : Nat), i = .int .i64 ((k : Nat) + 1) ∧ k ≤ N - 2 ∧ Hid (W.ownsRow w.heap.size 29 2 v (Lt.ringTo N k).length (pcells (Lt.ringTo N k))) ∧ Below w.heap.size w W)
            (fun _ i _ => N - (intOf i).toNat)
          case atStart => exact ⟨0, rfl, Nat.zero_le _, hr0, hB3⟩
          case round =>
            clear hr0 hB3 hB2 hB
            obtain ⟨k, rfl, hk, hrow, hB⟩ := hrel
            have hl1 := Lt.ringTo_length N k
            obtain ⟨a3, n3, c3, rfl⟩ := slice_of_row hrow.out
            by_cases hlt : k + 2 < N
            · have hltI : ((k : Nat) : Int) + 1 + 1 < (N : Int) := by omega
              have hfl : Hid ((Lt.ringTo N (k + 1)).length = (Lt.ringTo N k).length + 1 ∧ pcells (Lt.ringTo N (k + 1)) = pcells (Lt.ringTo N k) ++ [.int .i64 ((k : Nat) + 1), .int .i64 ((k : Nat) + 1 + 1)]) := Lib.hid (by
                rw [Lt.ringTo_succ, pcells_snoc]; refine ⟨by simp, ?_⟩
                rw [show ((k + 1 : Nat) : Int) = (k : Int) + 1 by omega, show ((k + 2 : Nat) : Int) = (k : Int) + 1 + 1 by omega])
              generalize Lt.ringTo N k = P at *
              obtain ⟨i0, hi0, hz0, hzs, hzb⟩ := info_parts Tryd.info29
              go_wp2_with (at_builtin; refine wpList_append_own _ rfl _ _ 22 rfl w.heap.size 29 i0 _ 2 16 Tryd.underlying22 hi0 hz0 hzs hzb rfl (by decide) (.slice a3 n3 c3) P.length (pcells P) rfl (hrow.out.alloc _) ⟨wr.heap.size, 0, none⟩ 1 1 [.int .i64 ((k : Nat) + 1), .int .i64 ((k : Nat) + 1 + 1)] rfl rfl (cell_two_new _ _ _ _) (by simp [Value.oneCell']) (by unfold maxLen; omega) (by omega) (by have := hB.size; simp; omega) ?_; intro v' w5 hown' hgrow _; obtain ⟨g', cap', rfl⟩ := ownsRow_succ hown'; have HOWN := Lib.hid hown'; have HB1 : Below w.heap.size w w5 := (hB.alloc hB.size _).grown hgrow (by have := hB.size; simp; omega) (fun k hk => (hrow.out.lt k hk).1); clear hown' hgrow)
              go_roundw
              case rel => exact ⟨k + 1, by go_num, by omega, Lib.hid (by have h := HOWN.out; rw [hl1] at h; rw [hfl.out.1, hfl.out.2, hl1]; exact h), HB1⟩
              case measure => simp [intOf]; omega
            · have hltI : ¬ ((k : Nat) : Int) + 1 + 1 < (N : Int) := by omega
              obtain rfl : k = N - 2 := by omega
              have hRP := readsP_of_row hrow.out
              obtain ⟨hok, hq1, hq2⟩ := hrf'.out
              have hc1 := Lib.hid (fun W h => quiet_long (own := true) (ev := .slice a3 n3 c3) hN1 hN16 (by omega) hok hq1 W h)
              have hc2 := Lib.hid (fun W h => quiet_long (own := false) (ev := .slice a3 n3 c3) hN1 hN16 (by omega) hok hq2 W h)
              have HRP := Lib.hid hRP
              clear hRP hok hq1 hq2 hrow hl1 hrf'
              go_wp2_with fail
              refine (hc1.out _ HRP.out).mono ?_
              rintro e w3 ⟨b3, d3, rfl, hb3⟩
              go_wp2_with fail
              refine (hc2.out _ (HRP.out.below hb3)).mono ?_
              rintro e w4 ⟨b4, d4, rfl, hb4⟩
              have hB4 : Below w.heap.size w w4 := (hB.trans (hb3.mono hB.size)).trans (hb4.mono (by have := hB.size; have := hb3.size; omega))
              have haw := Lib.hid (awake_any w4 (hT.below hB4 hw) (by have := hB4.size; omega))
              have ht2 := HT2.out
              have ht3 := HT3.out
              clear hc1 hc2 HRP hb3 hb4
              go_wp2_with fail
              refine haw.out.mono ?_
              rintro e w7 ⟨rfl, hb7⟩
              go_wp2
              go_ret
              exact ⟨rfl, hB4.trans (hb7.mono hB4.size)⟩)

end Go.Proofs.YtdlogklhekopgaaDoor
