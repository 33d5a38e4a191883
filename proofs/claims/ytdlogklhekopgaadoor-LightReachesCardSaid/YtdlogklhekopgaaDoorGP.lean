/- Contracts of the program's functions: a part of the proof. -/
import Derived.Test.YtdlogklhekopgaaDoorGO
import Derived.Test.YtdlogklhekopgaaDoorPB
set_option linter.unusedVariables false
set_option linter.unusedSimpArgs false

namespace Go.Proofs.YtdlogklhekopgaaDoor
open Go.RowKit Go.Shelf Go.Proofs
attribute [local go_sem] Oper.semAt_some

theorem inf82 : (Tryd.prog.info? 82).map (fun i => i.zero) = some (some (.agg (Array.replicate 256 (.bool false)))) := by kernel_rfl
theorem zero_of_info {t : TypeId} {z : Value} (h : (Tryd.prog.info? t).map (fun i => i.zero) = some (some z)) (W : World) : Sem.run Tryd.prog (zeroValue t) W = .ok z W := by
  cases hi : Tryd.prog.info? t with
  | none => rw [hi] at h; cases h
  | some i =>
    rw [hi] at h
    have hz : i.zero = some z := by simpa using h
    have h1 : Sem.run Tryd.prog (typeInfo t) W = .ok i W := by
      simp [typeInfo, hi]
    unfold zeroValue
    simp only [Sem.run_bind, h1, Result.andThen_ok, hz, Sem.run_pure]

theorem owns_arr {w : World} {base g n : Nat} {t : TypeId} {cs : List Value} (hb : base ≤ g) (hn : n ≤ maxLen) (hl : cs.length = n) (h : w.heap[g]? = some (.cells cs.toArray t (0, 0))) : w.ownsRow base t 1 (.slice (some ⟨g, 0, none⟩) n n) n cs :=
  ⟨by omega, .inr ⟨g, n, cs.toArray, rfl, hb, h, Nat.le_refl _, hn, by simp [hl], by rw [Nat.mul_one, ← hl]; exact List.take_length⟩⟩

/-- a table of bools, one place written -/
def updB (f : Nat → Bool) (i : Nat) (b : Bool) : Nat → Bool := fun j => if j = i then b else f j
theorem bcells_upd {f : Nat → Bool} {n i : Nat} {b : Bool} (hi : i < n) : (bcells f n).set i (.bool b) = bcells (updB f i b) n := by
  have := bcells_set (f := f) (g := updB f i b) hi (fun j hj => by simp [updB, hj])
  rw [← this]; simp [updB]

theorem bcells_zero (n : Nat) : (Array.replicate n (Value.bool false)) = (bcells (fun _ => false) n).toArray := by
  apply Array.ext'
  simp only [Array.toList_replicate]
  apply List.ext_getElem?
  intro j
  unfold bcells
  rw [List.getElem?_replicate]
  by_cases h : j < n <;> simp [h]

set_option maxRecDepth 100000 in
set_option maxHeartbeats 8000000 in
/-- tame -/
theorem tame_any (n : Int) (lv : Value) (es : List (Int × Int)) (most : Nat) (hm1 : 1 ≤ most) (hm : most ≤ 16) (w : World) (hes : ReadsP w lv es) :
    Calls Tryd.prog 30 #[.int .i64 n, lv, .int .i64 most] w fun e w' => ∃ (N : Nat) (L : List (Nat × Nat)) (v : Value), e = .returned (.tuple #[.int .i64 N, v]) ∧ 1 ≤ N ∧ N ≤ most ∧ L.length ≤ 256 ∧
      Lt.edgesOk (N : Int) (-1, -1) (L.map Lt.toI) = true ∧ w'.ownsRow w.heap.size 29 2 v L.length (pcells L) ∧ Below w.heap.size w w' := by
  obtain ⟨z, hz, hzl⟩ := u64_mod n most (by omega) (by omega)
  have hwm : IntKind.u64.wrap ((most : Nat) : Int) = (most : Int) := Lt.wrap_u64_nat _ (by omega)
  have hN : (1 : Int) + (z : Int) = ((z + 1 : Nat) : Int) := by omega
  have hN1 : 1 ≤ z + 1 := by omega
  have hNm : z + 1 ≤ most := by omega
  generalize z + 1 = N at *
  have hmI : ¬ ((most : Nat) : Int) = 0 := by omega
  have hwN : IntKind.u64.wrap ((N : Nat) : Int) = (N : Int) := Lt.wrap_u64_nat _ (by omega)
  have hNI : ¬ ((N : Nat) : Int) = 0 := by omega
  obtain ⟨ad, cap, rfl, hcells⟩ := hes.general
  have HC := Lib.hid hcells
  clear hes hcells hzl
  obtain ⟨Zc, hZc⟩ : ∃ Zc, Zc = Array.replicate 256 (Value.bool false) := ⟨_, rfl⟩
  have hz82 : ∀ W, Sem.run Tryd.prog (zeroValue 82) W = .ok (.agg Zc) W := fun W => by rw [hZc]; exact zero_of_info inf82 W
  have hrow0 : Hid (∀ W : World, (W.alloc (.cells Zc 82)).ownsRow W.heap.size 82 1 (.slice (some ⟨W.heap.size, 0, none⟩) 256 256) 256 (bcells (fun _ => false) 256)) := Lib.hid (fun W => by
    refine owns_arr (Nat.le_refl _) (by decide) (bcells_length _ _) ?_
    rw [← bcells_zero, ← hZc]; exact World.alloc_heap_new W _)
  clear hZc
  go_enter Tryd.func30, Tryd.ntmps30
  go_wp2
  have hR := Lib.hid (hrow0.out w)
  have hB0 : Below w.heap.size w (w.alloc (.cells Zc 82)) := below_one _
  go_loopw [9] (fun i W => ∃ (j : Nat) (f : Nat → Bool), i = .int .i64 j ∧ j ≤ 60 ∧ Hid (∀ t, f t = true → t / 16 < t % 16 ∧ t % 16 < N) ∧
      Hid (W.ownsRow w.heap.size 82 1 (.slice (some ⟨w.heap.size, 0, none⟩) 256 256) 256 (bcells f 256)) ∧ Below w.heap.size w W)
    (fun i _ => 60 - (intOf i).toNat)
  case atStart => exact ⟨0, fun _ => false, rfl, Nat.zero_le _, Lib.hid (fun t h => by cases h), hR, hB0⟩
  case round =>
    clear hR hB0 hrow0 hz82
    obtain ⟨j, f, rfl, hj, hf, hrow, hB⟩ := hrel
    by_cases hlt : j < es.length ∧ j < 60
    · obtain ⟨hlt1, hlt2⟩ := hlt
      have hl1 : ((j : Nat) : Int) < (es.length : Int) := by omega
      have hl2 : ((j : Nat) : Int) < 60 := by omega
      obtain ⟨g, off, rfl, hgw, hc1, hc2⟩ := HC.out j hlt1
      replace hc1 := (hB.cell (p := ⟨g, off + j * 2, none⟩) hgw).trans hc1
      replace hc2 := (hB.cell (p := ⟨g, off + j * 2 + 1, none⟩) hgw).trans hc2
      obtain ⟨ra, hra, hral⟩ := u64_mod (es[j]?.getD (0, 0)).1 N (by omega) (by omega)
      obtain ⟨rb, hrb, hrbl⟩ := u64_mod (es[j]?.getD (0, 0)).2 N (by omega) (by omega)
      generalize (es[j]?.getD (0, 0)).1 = xa at *
      generalize (es[j]?.getD (0, 0)).2 = xb at *
      obtain ⟨ix, hix⟩ : ∃ ix, ix = 16 * min ra rb + max ra rb := ⟨_, rfl⟩
      have hixI : (16 : Int) * min (ra : Int) (rb : Int) + max (ra : Int) (rb : Int) = (ix : Int) := by omega
      have hixl : ix < 256 := by omega
      obtain ⟨bb, hbb⟩ : ∃ bb, bb = decide (ra ≠ rb) := ⟨_, rfl⟩
      have hbI : (((ra : Nat) : Int) != ((rb : Nat) : Int)) = bb := by
        rw [hbb]
        by_cases e : ra = rb
        · simp [e]
        · have : ¬ ((ra : Nat) : Int) = (rb : Int) := by omega
          simp [e, this]
      have hf' : Hid (∀ t, updB f ix bb t = true → t / 16 < t % 16 ∧ t % 16 < N) := Lib.hid (fun t ht => by
        unfold updB at ht
        by_cases e : t = ix
        · rw [if_pos e, hbb, decide_eq_true_eq] at ht
          omega
        · rw [if_neg e] at ht; exact hf.out t ht)
      have hcell := hrow.out.cellAt ix (by omega)
      rw [bcells_at hixl] at hcell
      have hfz := hrow.out.frozenAt ix
      clear hix hbb hf
      go_wp2
      go_quiet (fail)
      have R1 : Hid ((wr.drewN nq).ownsRow w.heap.size 82 1 (.slice (some ⟨w.heap.size, 0, none⟩) 256 256) 256 (bcells f 256)) := Lib.hid hrow.out
      have hs := (R1.out.stored ix (.bool bb)).1
      rw [bcells_upd hixl] at hs
      have HS := Lib.hid hs
      have hB1 : Below w.heap.size w (wr.drewN nq) := hB.trans ⟨rfl, rfl, rfl, Nat.le_refl _, fun _ _ => rfl⟩
      have hBs := hB1.setCell (p := ⟨w.heap.size, ix, none⟩) (Nat.le_refl _) (.bool bb)
      clear hs R1 hrow
      go_wp2
      go_roundw
      case rel => exact ⟨j + 1, _, by go_num, by omega, hf', HS, hBs⟩
      case measure => simp [intOf]; omega
    · have hok := Lib.hid (Lt.pairs_ok hf.out 256).1
      have hpl := Lib.hid (Lt.pairsTo_length f)
      have hps := Lib.hid (Lt.pairsTo_succ f)
      have HF := hf
      obtain ⟨wo, hwo⟩ : ∃ wo : World, wo = wr := ⟨_, rfl⟩
      subst hwo
      have hgw : w.heap.size < wo.heap.size := (hrow.out.lt w.heap.size rfl).2
      have HROW := hrow
      clear hrow hf
      rcases (show (¬ ((j : Nat) : Int) < (es.length : Int)) ∨ (((j : Nat) : Int) < (es.length : Int) ∧ ¬ ((j : Nat) : Int) < 60) by omega) with h1 | ⟨h1, h2⟩
      all_goals (
        clear hlt
        go_wp2
        go_loopw [12, 13] (fun v i W => ∃ (k : Nat), i = .int .i64 k ∧ k ≤ 256 ∧ Hid (W.ownsRow wo.heap.size 29 2 v (Lt.pairsTo f k).length (pcells (Lt.pairsTo f k))) ∧ Below wo.heap.size wo W)
          (fun _ i _ => 256 - (intOf i).toNat)
        case atStart => exact ⟨0, rfl, Nat.zero_le _, Lib.hid (World.ownsRow_nil _ _ _ _), Below.refl _ _⟩
        case round =>
          obtain ⟨k, rfl, hk, hrow, hBk⟩ := hrel
          obtain ⟨a1, n1, c1, hv⟩ := slice_of_row hrow.out
          subst hv
          by_cases hkl : k < 256
          · have hcell := (hBk.cell (p := ⟨w.heap.size, k, none⟩) hgw).trans (HROW.out.cellAt k (by omega))
            rw [bcells_at hkl] at hcell
            have hst := Lib.hid (hps.out k)
            have hl1 := hpl.out k
            cases hb : f k with
            | false =>
              rw [hb] at hst hcell
              simp only [Bool.false_eq_true, if_false, List.append_nil] at hst
              clear hb
              go_wp2
              go_roundw
              case rel => exact ⟨k + 1, by go_num, by omega, Lib.hid (by rw [hst.out]; exact hrow.out), hBk⟩
              case measure => simp [intOf]; omega
            | true =>
              rw [hb] at hst hcell
              simp only [if_true] at hst
              have hd : ((k : Nat) : Int).tdiv 16 = ((k / 16 : Nat) : Int) := (Int.ofNat_tdiv k 16).symm
              have hm : ((k : Nat) : Int).tmod 16 = ((k % 16 : Nat) : Int) := tmod_nat k 16
              have hd2 : ((k : Nat) : Int) / 16 = ((k / 16 : Nat) : Int) := by omega
              have hfl : Hid ((Lt.pairsTo f (k + 1)).length = (Lt.pairsTo f k).length + 1 ∧ pcells (Lt.pairsTo f (k + 1)) = pcells (Lt.pairsTo f k) ++ [.int .i64 ((k / 16 : Nat) : Int), .int .i64 ((k % 16 : Nat) : Int)]) := Lib.hid (by
                rw [hst.out, pcells_snoc]; exact ⟨by simp, rfl⟩)
              have hq1 : k / 16 < 16 := by omega
              have hq2 : k % 16 < 16 := by omega
              clear hb hst
              generalize k / 16 = x1 at *
              generalize k % 16 = x2 at *
              obtain ⟨i0, hi0, hz0, hzs, hzb⟩ := info_parts Tryd.info29
              go_wp2_with (at_builtin; refine wpList_append_own _ rfl _ _ 22 rfl wo.heap.size 29 i0 _ 2 16 Tryd.underlying22 hi0 hz0 hzs hzb rfl (by decide) (.slice a1 n1 c1) (Lt.pairsTo f k).length (pcells (Lt.pairsTo f k)) rfl (hrow.out.alloc _) ⟨wr.heap.size, 0, none⟩ 1 1 [.int .i64 x1, .int .i64 x2] rfl rfl (cell_two_new _ _ _ _) (by simp [Value.oneCell']) (by unfold maxLen; omega) (by omega) (by have := hBk.size; simp; omega) ?_; intro v' w5 hown' hgrow _; obtain ⟨g', cap', rfl⟩ := ownsRow_succ hown'; have HOWN := Lib.hid hown'; have HB1 : Below wo.heap.size wo w5 := (hBk.alloc hBk.size _).grown hgrow (by have := hBk.size; simp; omega) (fun k hk => (hrow.out.lt k hk).1); clear hown' hgrow)
              go_roundw
              case rel => exact ⟨k + 1, by go_num, by omega, Lib.hid (by rw [hfl.out.1, hfl.out.2]; exact HOWN.out), HB1⟩
              case measure => simp [intOf]; omega
          · obtain rfl : k = 256 := by omega
            have hl1 := hpl.out 256
            have hres := Lib.hid (Go.Joins.ownsRow_le hrow.out (Nat.le_of_lt hgw))
            go_wp2
            go_ret2
            exact ⟨N, Lt.pairsTo f 256, _, rfl, hN1, hNm, hl1, hok.out, hres.out, hB.trans (hBk.mono hB.size)⟩)

end Go.Proofs.YtdlogklhekopgaaDoor
