/- Contracts of the program's functions: a part of the proof. -/
import Derived.Test.YtdlogklhekopgaaDoorGW
import Derived.Test.YtdlogklhekopgaaDoorPE
import Derived.Test.YtdlogklhekopgaaDoorGU
set_option linter.unusedVariables false
set_option linter.unusedSimpArgs false

namespace Go.Proofs.YtdlogklhekopgaaDoor
open Go.RowKit Go.Shelf Go.Proofs
attribute [local go_sem] Oper.semAt_some

set_option maxRecDepth 1000000 in
theorem inf85 : (Tryd.prog.info? 85).map (fun i => i.zero) = some (some (.agg (Array.replicate 65536 (.int .i64 0)))) := by kernel_rfl

/-- what Hardest's table holds after k sets -/
def hardL (l : List Nat) (k : Nat) : List Int := (List.range 65536).map fun x => ((Lt.hardTo l x k : Nat) : Int)
/-- and in the end -/
def needL (l : List Nat) (M : Nat) : List Int := (List.range 65536).map fun x => ((Lt.need l M x : Nat) : Int)
theorem hardL_zero (l : List Nat) : icells (hardL l 0) = List.replicate 65536 (.int .i64 0) := by
  unfold icells hardL
  rw [List.map_map, List.eq_replicate_iff]
  refine ⟨by simp, fun x hx => ?_⟩
  obtain ⟨y, _, rfl⟩ := List.mem_map.1 hx
  rfl
theorem hardL_length (l : List Nat) (k : Nat) : (hardL l k).length = 65536 := by unfold hardL; rw [List.length_map, List.length_range]
theorem needL_length (l : List Nat) (k : Nat) : (needL l k).length = 65536 := by unfold needL; rw [List.length_map, List.length_range]
theorem hardL_at (l : List Nat) (k : Nat) {x : Nat} (hx : x < 65536) : (icells (hardL l k))[x]? = some (.int .i64 ((Lt.hardTo l x k : Nat) : Int)) := icells_at (f := fun x => ((Lt.hardTo l x k : Nat) : Int)) hx
theorem hardTo_other {l : List Nat} {x k : Nat} (h : Lt.eff l k ≠ x) : Lt.hardTo l x (k + 1) = Lt.hardTo l x k := by
  rw [Lt.hardTo, if_neg]
  rintro ⟨_, h1, _⟩
  exact h h1
theorem hardL_same {l : List Nat} {k : Nat} (h : Lt.hardTo l (Lt.eff l k) (k + 1) = Lt.hardTo l (Lt.eff l k) k) : hardL l (k + 1) = hardL l k := by
  unfold hardL
  refine List.map_congr_left fun x _ => ?_
  by_cases e : Lt.eff l k = x
  · subst e; rw [h]
  · rw [hardTo_other e]
theorem hardL_set {l : List Nat} {k p : Nat} (hx : Lt.eff l k < 65536) (h : Lt.hardTo l (Lt.eff l k) (k + 1) = p) : (hardL l k).set (Lt.eff l k) ((p : Nat) : Int) = hardL l (k + 1) := by
  have := fn_set (f := fun x => ((Lt.hardTo l x k : Nat) : Int)) (g := fun x => ((Lt.hardTo l x (k + 1) : Nat) : Int)) hx (fun x hx => by
    show ((Lt.hardTo l x k : Nat) : Int) = ((Lt.hardTo l x (k + 1) : Nat) : Int)
    rw [hardTo_other (fun h => hx h.symm)])
  simp only [h] at this
  exact this
theorem hardL_end {l : List Nat} {M : Nat} (h0 : 0 < M) (hM : M ≤ 65536) : (hardL l M).set 0 0 = needL l M := by
  have := fn_set (f := fun x => ((Lt.hardTo l x M : Nat) : Int)) (g := fun x => ((Lt.need l M x : Nat) : Int)) (show 0 < 65536 by decide) (fun x hx => by
    show ((Lt.hardTo l x M : Nat) : Int) = ((Lt.need l M x : Nat) : Int)
    rw [Lt.hardTo_need hx M (Nat.le_trans hM (by decide))])
  simp only [Lt.need_zero l h0] at this
  exact this

theorem row_cells {w : World} {base g n c : Nat} {t : TypeId} {L : List Int} (h : w.ownsRow base t 1 (.slice (some ⟨g, 0, none⟩) n c) n (icells L)) (hl : L.length = n) :
    ∀ j, j < L.length → w.cell? ⟨g, 0 + j, none⟩ = some (.int .i64 (L.getD j 0)) := by
  intro j hj
  rw [Nat.zero_add]
  have := h.cellAt j (by omega)
  rw [this]
  simp [icells, List.getD, hj]

/-- the greatest need, and where it is met first -/
theorem need_max {N : Nat} {es : List (Int × Int)} (h : Ok N es) (own : Bool) :
    Lib.maxOf ((needL (G N es own) (2 ^ N)).take 65536) = ((Lt.need (G N es own) (2 ^ N) (Lt.hardB (G N es own) (2 ^ N) (2 ^ N)) : Nat) : Int) ∧
    Lib.idxOf ((needL (G N es own) (2 ^ N)).take 65536) ((Lt.need (G N es own) (2 ^ N) (Lt.hardB (G N es own) (2 ^ N) (2 ^ N)) : Nat) : Int) = ((Lt.hardB (G N es own) (2 ^ N) (2 ^ N) : Nat) : Int) := by
  have hp := h.pow
  have h0 := Nat.two_pow_pos N
  obtain ⟨_, h2, h3, h4⟩ := Lt.hardB_spec (G N es own) h0 (2 ^ N)
  have he := fun s => h.eff_lt own s
  generalize 2 ^ N = M at *
  refine Lt.hardest_max (f := Lt.need (G N es own) M) (K := 65536) (by omega) (fun j _ => ?_) h4
  by_cases hj : j < M
  · exact h3 j hj
  · rw [Lt.need_far (fun s hs => by have := he s; omega)]
    exact Nat.zero_le _

set_option maxRecDepth 100000 in
set_option maxHeartbeats 16000000 in
/-- Hardest, of a graph -/
theorem hardest_ok {N : Nat} {es : List (Int × Int)} (h : Ok N es) (v : Value) (own : Bool) (w : World) (hv : ReadsP w v es) (hT : Tab w) (hw : 1 < w.heap.size) :
    Calls Tryd.prog 45 #[.int .i64 N, v, .bool own] w fun e w' => e = .returned (.tuple #[.int .i64 ((Lt.hardB (G N es own) (2 ^ N) (2 ^ N) : Nat) : Int), .int .i64 ((Lt.need (G N es own) (2 ^ N) (Lt.hardB (G N es own) (2 ^ N) (2 ^ N)) : Nat) : Int), .int .i64 0]) ∧ Below w.heap.size w w' := by
  have h16 := h.most
  have hpw := h.pow
  have hp0 := Nat.two_pow_pos N
  have ho := Lib.hid (open_good h.code0 v _ own w h.len (by simp) hv (reads_nil w))
  rw [gr_G] at ho
  have hwN : IntKind.u64.wrap ((N : Nat) : Int) = (N : Int) := Lt.wrap_u64_nat _ (by omega)
  have hwp := wrap_pow N (by omega)
  have hel := Lib.hid (fun s => Nat.lt_of_lt_of_le (h.eff_lt own s) hpw)
  have hmx := Lib.hid (need_max h own)
  have hend := Lib.hid (hardL_end (l := G N es own) hp0 hpw)
  have hHE := Lib.hid (fun b s hs W hL hT hw => effect_any b (G N es own) s hs W hL hT hw)
  have hLam := Lib.hid (fun (B b : Nat) (w w' : World) (h : Below B w w') (hb : b < B) (hL : Lamps w b (G N es own)) => Lamps.below h hb hL)
  have hat := Lib.hid (fun k x (hx : x < 65536) => hardL_at (G N es own) k hx)
  have hsame := Lib.hid (fun k => hardL_same (l := G N es own) (k := k))
  have hset := Lib.hid (fun k p => hardL_set (l := G N es own) (k := k) (p := p))
  have hstep : Hid (∀ x k, Lt.hardTo (G N es own) x (k + 1) = if k ≠ 0 ∧ Lt.eff (G N es own) k = x ∧ (Lt.hardTo (G N es own) x k = 0 ∨ Lt.pop k < Lt.hardTo (G N es own) x k) then Lt.pop k else Lt.hardTo (G N es own) x k) := Lib.hid (fun x k => rfl)
  have hz0 := Lib.hid (hardL_zero (G N es own))
  have hnl := Lib.hid (needL_length (G N es own) (2 ^ N))
  clear hv h
  generalize Lt.need (G N es own) (2 ^ N) (Lt.hardB (G N es own) (2 ^ N) (2 ^ N)) = mx at *
  generalize Lt.hardB (G N es own) (2 ^ N) (2 ^ N) = bx at *
  generalize needL (G N es own) (2 ^ N) = NL at *
  generalize hardL (G N es own) = FL at *
  generalize Lt.hardTo (G N es own) = HTo at *
  generalize Lt.eff (G N es own) = EF at *
  generalize G N es own = l at *
  obtain ⟨Zc, hZc⟩ : ∃ Zc, Zc = Array.replicate 65536 (Value.int .i64 0) := ⟨_, rfl⟩
  have hz85 : ∀ W, Sem.run Tryd.prog (zeroValue 85) W = .ok (.agg Zc) W := fun W => by rw [hZc]; exact zero_of_info inf85 W
  have hrow0 : Hid (∀ W : World, (W.alloc (.cells Zc 85)).ownsRow W.heap.size 85 1 (.slice (some ⟨W.heap.size, 0, none⟩) 65536 65536) 65536 (icells (FL 0))) := Lib.hid (fun W => by
    refine owns_arr (Nat.le_refl _) (by decide) (by rw [hz0.out, List.length_replicate]) ?_
    rw [hz0.out, List.toArray_replicate, ← hZc]; exact World.alloc_heap_new W _)
  clear hZc hz0
  generalize 2 ^ N = M at *
  go_enter Tryd.func45, Tryd.ntmps45
  go_wp2_with fail
  refine ho.out.mono ?_
  rintro e wo ⟨b, rfl, hL, hb⟩
  have HL := Lib.hid hL
  have hbl : b < wo.heap.size := hL.lt
  have HT := Lib.hid (hT.below hb hw)
  have hwo : 1 < wo.heap.size := by have := hb.size; omega
  have hB0 : Below wo.heap.size wo (wo.alloc (.cells Zc 85)) := below_one _
  have hR := Lib.hid (hrow0.out wo)
  clear ho hT hL hrow0
  go_wp2
  simp only [hwp]
  go_loopw [28, 12, 13] (fun i _ _ W => ∃ s : Nat, i = .int .i64 s ∧ s ≤ M ∧ Hid (W.ownsRow wo.heap.size 85 1 (.slice (some ⟨wo.heap.size, 0, none⟩) 65536 65536) 65536 (icells (FL s))) ∧ Below wo.heap.size wo W)
    (fun i _ _ _ => M - (intOf i).toNat)
  case atStart => exact ⟨0, rfl, Nat.zero_le _, hR, hB0⟩
  case round =>
    clear hR hB0 hz85
    obtain ⟨s, rfl, hs, hrow, hB⟩ := hrel
    by_cases hsm : s < M
    · have HL1 := Lib.hid (hLam.out _ _ _ _ hB hbl HL.out)
      have HT1 := Lib.hid (HT.out.below hB hwo)
      have hw1 : 1 < wr.heap.size := Nat.lt_of_lt_of_le hwo hB.size
      have hE := Lib.hid (hHE.out b s (by omega) wr HL1.out HT1.out hw1)
      have hel1 := hel.out s
      have hone := Lib.hid (fun W => ones_any s (by omega) W)
      have hone' := Lib.hid (fun W => (ones_any s (by omega) W).mono fun e w' h => (⟨h.1, h.2.symm⟩ : e = .returned (.int .i64 (Lt.pop s : Nat)) ∧ w' = W))
      have hws : IntKind.u64.wrap ((s : Nat) : Int) = (s : Int) := Lt.wrap_u64_nat _ (by omega)
      have hst := Lib.hid (hstep.out (EF s) s)
      have hsm1 := Lib.hid (hsame.out s)
      have hset1 := Lib.hid (fun p => hset.out s p hel1)
      have hat1 := Lib.hid (hat.out s (EF s) hel1)
      clear hHE hLam hel hstep hsame hset hat hend HL HT HL1 HT1 hmx
      generalize EF s = x at *
      generalize Lt.pop s = ps at *
      go_wp2_with fail
      refine hE.out.mono ?_
      rintro e w3 ⟨rfl, hb3⟩
      have hrow3 := Lib.hid (ownsRow_below hrow.out hb3 (fun k hk => (hrow.out.lt k hk).2))
      have hB3 := hB.trans (hb3.mono hB.size)
      clear hE hrow hB hb3 hw1
      have hcell := hrow3.out.cellAt x (by omega)
      rw [hat1.out] at hcell
      have hfz := hrow3.out.frozenAt x
      rcases (show s = 0 ∨ (s ≠ 0 ∧ HTo x s = 0) ∨ (s ≠ 0 ∧ HTo x s ≠ 0 ∧ ps < HTo x s) ∨ (s ≠ 0 ∧ HTo x s ≠ 0 ∧ ¬ ps < HTo x s) by omega) with h1 | ⟨h1, h2⟩ | ⟨h1, h2, h3⟩ | ⟨h1, h2, h3⟩
      · have hns := Lib.hid (hsm1.out (by rw [hst.out, if_neg (by rintro ⟨h, _⟩; exact h h1)]))
        have g1 : (((s : Nat) : Int) != 0) = false := by simp [h1]
        clear hst hsm1 hset1 hat1 h1
        generalize HTo x s = hx at *
        go_wp2
        go_quiet (fail)
        have HS1 : Hid ((w3.drewN nq).ownsRow wo.heap.size 85 1 (.slice (some ⟨wo.heap.size, 0, none⟩) 65536 65536) 65536 (icells (FL (s + 1)))) := Lib.hid (by rw [hns.out]; exact hrow3.out)
        have hB1 : Below wo.heap.size wo (w3.drewN nq) := hB3.trans ⟨rfl, rfl, rfl, Nat.le_refl _, fun _ _ => rfl⟩
        clear hrow3 hns hB3
        go_wp2
        go_roundw
        case rel => exact ⟨s + 1, by go_num, by omega, HS1, hB1⟩
        case measure => simp [intOf]; omega
      · have hns := Lib.hid (hset1.out ps (by rw [hst.out, if_pos ⟨h1, by trivial, .inl h2⟩]))
        have g1 : (((s : Nat) : Int) != 0) = true := by simp [h1]
        have g2 : (((HTo x s : Nat) : Int) == 0) = true := by simp [h2]
        clear hst hsm1 hset1 hat1 h1 h2
        generalize HTo x s = hx at *
        go_wp2
        go_quiet (fail)
        have HR : Hid ((w3.drewN nq).ownsRow wo.heap.size 85 1 (.slice (some ⟨wo.heap.size, 0, none⟩) 65536 65536) 65536 (icells (FL s))) := Lib.hid hrow3.out
        have HS1 : Hid (((w3.drewN nq).setCell ⟨wo.heap.size, x, none⟩ (.int .i64 ((ps : Nat) : Int))).ownsRow wo.heap.size 85 1 (.slice (some ⟨wo.heap.size, 0, none⟩) 65536 65536) 65536 (icells (FL (s + 1)))) := Lib.hid (by
          have h2 := (HR.out.stored x (.int .i64 ((ps : Nat) : Int))).1
          rw [icells_set, hns.out] at h2
          exact h2)
        have hB1 : Below wo.heap.size wo ((w3.drewN nq).setCell ⟨wo.heap.size, x, none⟩ (.int .i64 ((ps : Nat) : Int))) := (hB3.trans (⟨rfl, rfl, rfl, Nat.le_refl _, fun _ _ => rfl⟩ : Below wo.heap.size w3 (w3.drewN nq))).setCell (p := ⟨wo.heap.size, x, none⟩) (Nat.le_refl _) _
        clear hrow3 hns hB3 HR
        go_wp2_with (go_at_call 60; refine (hone.out _).mono ?_; rintro e w4 ⟨rfl, hww⟩; subst hww)
        go_roundw
        case rel => exact ⟨s + 1, by go_num, by omega, HS1, hB1⟩
        case measure => simp [intOf]; omega
      · have hns := Lib.hid (hset1.out ps (by rw [hst.out, if_pos ⟨h1, by trivial, .inr h3⟩]))
        have g1 : (((s : Nat) : Int) != 0) = true := by simp [h1]
        have g2 : (((HTo x s : Nat) : Int) == 0) = false := by simp [h2]
        have g3 : ((ps : Nat) : Int) < ((HTo x s : Nat) : Int) := by omega
        clear hst hsm1 hset1 hat1 h1 h2 h3
        generalize HTo x s = hx at *
        go_wp2
        go_quiet ((go_at_call 60; exact Calls.quiet_of_same (hone'.out _)))
        have HR : Hid ((w3.drewN nq).ownsRow wo.heap.size 85 1 (.slice (some ⟨wo.heap.size, 0, none⟩) 65536 65536) 65536 (icells (FL s))) := Lib.hid hrow3.out
        have HS1 : Hid (((w3.drewN nq).setCell ⟨wo.heap.size, x, none⟩ (.int .i64 ((ps : Nat) : Int))).ownsRow wo.heap.size 85 1 (.slice (some ⟨wo.heap.size, 0, none⟩) 65536 65536) 65536 (icells (FL (s + 1)))) := Lib.hid (by
          have h2 := (HR.out.stored x (.int .i64 ((ps : Nat) : Int))).1
          rw [icells_set, hns.out] at h2
          exact h2)
        have hB1 : Below wo.heap.size wo ((w3.drewN nq).setCell ⟨wo.heap.size, x, none⟩ (.int .i64 ((ps : Nat) : Int))) := (hB3.trans (⟨rfl, rfl, rfl, Nat.le_refl _, fun _ _ => rfl⟩ : Below wo.heap.size w3 (w3.drewN nq))).setCell (p := ⟨wo.heap.size, x, none⟩) (Nat.le_refl _) _
        clear hrow3 hns hB3 HR
        go_wp2_with (go_at_call 60; refine (hone.out _).mono ?_; rintro e w4 ⟨rfl, hww⟩; subst hww)
        go_roundw
        case rel => exact ⟨s + 1, by go_num, by omega, HS1, hB1⟩
        case measure => simp [intOf]; omega
      · have hns := Lib.hid (hsm1.out (by
          rw [hst.out, if_neg]
          rintro ⟨_, _, h⟩
          rcases h with h | h
          · exact h2 h
          · exact h3 h))
        have g1 : (((s : Nat) : Int) != 0) = true := by simp [h1]
        have g2 : (((HTo x s : Nat) : Int) == 0) = false := by simp [h2]
        have g3 : ¬ ((ps : Nat) : Int) < ((HTo x s : Nat) : Int) := by omega
        clear hst hsm1 hset1 hat1 h1 h2 h3
        generalize HTo x s = hx at *
        go_wp2
        go_quiet ((go_at_call 60; exact Calls.quiet_of_same (hone'.out _)))
        have HS1 : Hid ((w3.drewN nq).ownsRow wo.heap.size 85 1 (.slice (some ⟨wo.heap.size, 0, none⟩) 65536 65536) 65536 (icells (FL (s + 1)))) := Lib.hid (by rw [hns.out]; exact hrow3.out)
        have hB1 : Below wo.heap.size wo (w3.drewN nq) := hB3.trans ⟨rfl, rfl, rfl, Nat.le_refl _, fun _ _ => rfl⟩
        clear hrow3 hns hB3
        go_wp2
        go_roundw
        case rel => exact ⟨s + 1, by go_num, by omega, HS1, hB1⟩
        case measure => simp [intOf]; omega
    · obtain rfl : s = M := by omega
      have hcell := hrow.out.cellAt 0 (by omega)
      rw [hat.out s 0 (by decide)] at hcell
      have hfz := hrow.out.frozenAt 0
      have HS1 : Hid ((wr.setCell ⟨wo.heap.size, 0, none⟩ (.int .i64 0)).ownsRow wo.heap.size 85 1 (.slice (some ⟨wo.heap.size, 0, none⟩) 65536 65536) 65536 (icells NL)) := Lib.hid (by
        have h2 := (hrow.out.stored 0 (.int .i64 0)).1
        rw [icells_set, hend.out] at h2
        exact h2)
      have hB1 : Below wo.heap.size wo (wr.setCell ⟨wo.heap.size, 0, none⟩ (.int .i64 0)) := hB.setCell (p := ⟨wo.heap.size, 0, none⟩) (Nat.le_refl _) _
      have hM := Lib.hid (Tryd.slices_Max_int wo.heap.size 0 65536 65536 NL _ (by decide) (by rw [hnl.out]; decide) (by decide) (row_cells HS1.out hnl.out))
      have hI := Lib.hid (Tryd.slices_Index_int wo.heap.size 0 65536 65536 NL (mx : Int) _ (by rw [hnl.out]; decide) (by decide) (row_cells HS1.out hnl.out))
      rw [hmx.out.1] at hM
      rw [hmx.out.2] at hI
      clear HS1 hmx hnl hend hat hrow hB hset hsame hstep hel hHE hLam HL HT
      go_wp2_with fail
      refine hM.out.mono ?_
      rintro e w4 ⟨rfl, hww⟩
      subst hww
      clear hM
      go_wp2_with fail
      refine hI.out.mono ?_
      rintro e w5 ⟨rfl, hww⟩
      subst hww
      clear hI
      go_wp2
      go_ret3
      exact ⟨rfl, hb.trans (hB1.mono hb.size)⟩
end Go.Proofs.YtdlogklhekopgaaDoor

namespace Go.Proofs.YtdlogklhekopgaaDoor
open Go.RowKit Go.Shelf Go.Proofs
attribute [local go_sem] Oper.semAt_some

set_option maxRecDepth 100000 in
set_option maxHeartbeats 4000000 in
/-- ref.Reachable -/
theorem refReach_any (g M cap : Nat) (f : Nat → Int) (w : World) (hM : M ≤ 65536) (hc : ∀ j, j < M → w.cell? ⟨g, j, none⟩ = some (.int .i64 (f j))) :
    Calls Tryd.prog 47 #[.slice (some ⟨g, 0, none⟩) M cap] w fun e w' => e = .returned (.int .i64 ((Lt.count (fun t => decide (0 ≤ f t)) M : Nat) : Int)) ∧ w' = w := by
  have HC := Lib.hid hc
  have hst : Hid (∀ k, Lt.count (fun t => decide (0 ≤ f t)) (k + 1) = Lt.count (fun t => decide (0 ≤ f t)) k + if decide (0 ≤ f k) then 1 else 0) := Lib.hid (fun k => rfl)
  have h0 : Hid (Lt.count (fun t => decide (0 ≤ f t)) 0 = 0) := Lib.hid rfl
  clear hc
  generalize Lt.count (fun t => decide (0 ≤ f t)) = C at *
  go_enter Tryd.func47, Tryd.ntmps47
  go_wp2
  go_loopw [3, 4] (fun o i W => ∃ (j c : Nat), i = .int .i64 j ∧ o = .int .i64 c ∧ j ≤ M ∧ c ≤ j ∧ Hid (C j = c) ∧ W = w)
    (fun _ i _ => M - (intOf i).toNat)
  case atStart => exact ⟨0, 0, rfl, rfl, Nat.zero_le _, Nat.zero_le _, h0, rfl⟩
  case round =>
    obtain ⟨j, c, rfl, rfl, hj, hcj, hm, rfl⟩ := hrel
    by_cases hlt : j < M
    · have hcell := HC.out j hlt
      have hs := Lib.hid (hst.out j)
      generalize f j = z at *
      by_cases hz : 0 ≤ z
      · have hn : Hid (C (j + 1) = c + 1) := Lib.hid (by rw [hs.out, hm.out, if_pos (by simpa using hz)])
        clear hs hm
        go_wp2
        go_roundw
        case rel => exact ⟨j + 1, c + 1, by go_num, by go_num, by omega, by omega, hn, trivial⟩
        case measure => simp [intOf]; omega
      · have hn : Hid (C (j + 1) = c) := Lib.hid (by rw [hs.out, hm.out, if_neg (by simpa using hz)]; rfl)
        clear hs hm
        go_wp2
        go_roundw
        case rel => exact ⟨j + 1, c, by go_num, by go_num, by omega, by omega, hn, trivial⟩
        case measure => simp [intOf]; omega
    · obtain rfl : j = M := by omega
      clear hst h0
      go_wp2
      go_ret
      exact ⟨by rw [hm.out]; rfl, rfl⟩

set_option maxRecDepth 100000 in
set_option maxHeartbeats 4000000 in
/-- ref.Hardest -/
theorem refHard_any (g M cap : Nat) (f : Nat → Int) (HB : Nat → Nat) (w : World) (hM0 : 0 < M) (hM : M ≤ 65536) (hg : g < w.heap.size) (hc : ∀ j, j < M → w.cell? ⟨g, j, none⟩ = some (.int .i64 (f j)))
    (hf : ∀ j, f j = -1 ∨ ∃ s : Nat, s < 65536 ∧ f j = (s : Int)) (hb0 : HB 0 = 0) (hbs : ∀ t, HB (t + 1) = if 0 ≤ f t ∧ Lt.pop (f (HB t)).toNat < Lt.pop (f t).toNat then t else HB t) (hbp : ∀ t, 0 ≤ f (HB t)) :
    Calls Tryd.prog 46 #[.slice (some ⟨g, 0, none⟩) M cap] w fun e w' => e = .returned (.tuple #[.int .i64 ((HB M : Nat) : Int), .int .i64 ((Lt.pop (f (HB M)).toNat : Nat) : Int)]) ∧ Below w.heap.size w w' := by
  have HC := Lib.hid hc
  have HF := Lib.hid hf
  have HS := Lib.hid hbs
  have HP := Lib.hid hbp
  have H0 := Lib.hid hb0
  have eZ := Lib.hid (fun (s : Nat) (hs : s < 65536) W => refSize_any s W (by omega))
  clear hc hf hbs hbp hb0
  go_enter Tryd.func46, Tryd.ntmps46
  go_wp2
  go_loopw [4, 5] (fun o i W => ∃ (j c : Nat), i = .int .i64 j ∧ o = .int .i64 c ∧ j ≤ M ∧ c < M ∧ Hid (HB j = c) ∧ Below w.heap.size w W)
    (fun _ i _ => M - (intOf i).toNat)
  case atStart => exact ⟨0, 0, rfl, rfl, Nat.zero_le _, hM0, H0, Below.refl _ _⟩
  case round =>
    obtain ⟨j, c, rfl, rfl, hj, hcM, hm, hB⟩ := hrel
    have hcc := (hB.cell (p := ⟨g, c, none⟩) hg).trans (HC.out c hcM)
    obtain ⟨sc, hsc, hfc⟩ : ∃ s : Nat, s < 65536 ∧ f c = (s : Int) := by
      have h1 := HP.out j
      rw [hm.out] at h1
      rcases HF.out c with h | h
      · omega
      · exact h
    have zc := Lib.hid (eZ.out sc hsc)
    rw [hfc] at hcc
    by_cases hlt : j < M
    · have hcell := (hB.cell (p := ⟨g, j, none⟩) hg).trans (HC.out j hlt)
      have hs := Lib.hid (HS.out j)
      rw [hm.out, hfc, Int.toNat_natCast] at hs
      rcases HF.out j with hfj | ⟨sj, hsj, hfj⟩
      · rw [hfj] at hs hcell
        have hn : Hid (HB (j + 1) = c) := Lib.hid (by rw [hs.out, if_neg (by omega)])
        clear hs hm hfc hfj
        go_wp2
        go_quiet (fail)
        have hB1 : Below w.heap.size w (wr.drewN nq) := hB.trans ⟨rfl, rfl, rfl, Nat.le_refl _, fun _ _ => rfl⟩
        go_wp2
        go_roundw
        case rel => exact ⟨j + 1, c, by go_num, by go_num, by omega, hcM, hn, hB1⟩
        case measure => simp [intOf]; omega
      · rw [hfj] at hs hcell
        have zj := Lib.hid (eZ.out sj hsj)
        rw [Int.toNat_natCast] at hs
        generalize Lt.pop sj = pj at *
        generalize Lt.pop sc = pc at *
        by_cases hp : pc < pj
        · have hn : Hid (HB (j + 1) = j) := Lib.hid (by rw [hs.out, if_pos ⟨by omega, hp⟩])
          clear hs hm hfc hfj
          go_wp2
          go_quiet (first | (go_at_call_of 41 sj; exact Calls.quiet_of_same (zj.out _)) | (go_at_call_of 41 sc; exact Calls.quiet_of_same (zc.out _)))
          have hB1 : Below w.heap.size w (wr.drewN nq) := hB.trans ⟨rfl, rfl, rfl, Nat.le_refl _, fun _ _ => rfl⟩
          go_wp2
          go_roundw
          case rel => exact ⟨j + 1, j, by go_num, by go_num, by omega, hlt, hn, hB1⟩
          case measure => simp [intOf]; omega
        · have hn : Hid (HB (j + 1) = c) := Lib.hid (by rw [hs.out, if_neg (fun h => hp h.2)])
          clear hs hm hfc hfj
          go_wp2
          go_quiet (first | (go_at_call_of 41 sj; exact Calls.quiet_of_same (zj.out _)) | (go_at_call_of 41 sc; exact Calls.quiet_of_same (zc.out _)))
          have hB1 : Below w.heap.size w (wr.drewN nq) := hB.trans ⟨rfl, rfl, rfl, Nat.le_refl _, fun _ _ => rfl⟩
          go_wp2
          go_roundw
          case rel => exact ⟨j + 1, c, by go_num, by go_num, by omega, hcM, hn, hB1⟩
          case measure => simp [intOf]; omega
    · obtain rfl : j = M := by omega
      have hv : Hid (Lt.pop (f (HB j)).toNat = Lt.pop sc) := Lib.hid (by rw [hm.out, hfc, Int.toNat_natCast])
      clear HS HP H0 hfc
      go_wp2_with (go_at_call 41; refine (zc.out _).mono ?_; rintro e w4 ⟨rfl, hww⟩; subst hww)
      go_ret2
      exact ⟨by rw [hv.out, hm.out]; rfl, hB⟩
end Go.Proofs.YtdlogklhekopgaaDoor

namespace Go.Proofs.YtdlogklhekopgaaDoor
open Go.RowKit Go.Shelf Go.Proofs
attribute [local go_sem] Oper.semAt_some

theorem refFew_cells {N : Nat} {es : List (Int × Int)} (h : Ok N es) (own : Bool) (ad : Option Addr) (cap : Nat) (w : World) (he : Elems w w.heap.size ad (G N es own)) :
    Calls Tryd.prog 38 #[.slice ad N cap] w fun e w' => ∃ g cap', e = .returned (.slice (some ⟨g, 0, none⟩) (2 ^ N : Nat) cap') ∧ g < w'.heap.size ∧ (∀ j, j < 2 ^ N → w'.cell? ⟨g, j, none⟩ = some (.int .i64 (Lt.refTo (G N es own) j (2 ^ N)))) ∧ Below w.heap.size w w' := by
  refine (refFew_ok h own ad cap w he).mono ?_
  rintro e w' ⟨v, rfl, hr, hb⟩
  obtain ⟨g, cap', rfl⟩ := Go.Joins.ownsRow_form hr (Nat.two_pow_pos N)
  refine ⟨g, cap', rfl, (hr.lt g rfl).2, fun j hj => ?_, hb⟩
  have hc := hr.cellAt j (by omega)
  unfold fewL at hc
  rw [icells_at hj] at hc
  exact hc

theorem reach_count {N : Nat} {es : List (Int × Int)} (h : Ok N es) (own : Bool) : Lt.count (fun t => decide (0 ≤ Lt.refTo (G N es own) t (2 ^ N))) (2 ^ N) = 2 ^ (Lt.basisOf (G N es own)).length := by
  have hc := Lt.count_reach (h.small own)
  rw [G_length] at hc
  rw [← hc]
  refine Lt.count_congr fun t _ => ?_
  have hb := Lt.refTo_best (l := G N es own) (t := t)
  rw [G_length] at hb
  rcases hb with ⟨h1, h2⟩ | ⟨h1, h2⟩
  · rw [h1, decide_eq_false h2]; rfl
  · rw [h1, decide_eq_true h2, decide_eq_true (by omega)]

theorem refReach_ok {N : Nat} {es : List (Int × Int)} (h : Ok N es) (own : Bool) (g cap : Nat) (w : World) (hc : ∀ j, j < 2 ^ N → w.cell? ⟨g, j, none⟩ = some (.int .i64 (Lt.refTo (G N es own) j (2 ^ N)))) :
    Calls Tryd.prog 47 #[.slice (some ⟨g, 0, none⟩) (2 ^ N) cap] w fun e w' => e = .returned (.int .i64 ((2 ^ (Lt.basisOf (G N es own)).length : Nat) : Int)) ∧ w' = w := by
  have := refReach_any g (2 ^ N) cap (fun j => Lt.refTo (G N es own) j (2 ^ N)) w h.pow hc
  rwa [reach_count h own] at this

theorem refHard_ok {N : Nat} {es : List (Int × Int)} (h : Ok N es) (own : Bool) (g cap : Nat) (w : World) (hg : g < w.heap.size) (hc : ∀ j, j < 2 ^ N → w.cell? ⟨g, j, none⟩ = some (.int .i64 (Lt.refTo (G N es own) j (2 ^ N)))) :
    Calls Tryd.prog 46 #[.slice (some ⟨g, 0, none⟩) (2 ^ N) cap] w fun e w' => e = .returned (.tuple #[.int .i64 ((Lt.hardB (G N es own) (2 ^ N) (2 ^ N) : Nat) : Int), .int .i64 ((Lt.need (G N es own) (2 ^ N) (Lt.hardB (G N es own) (2 ^ N) (2 ^ N)) : Nat) : Int)]) ∧ Below w.heap.size w w' := by
  have h0 := Nat.two_pow_pos N
  have hp := h.pow
  have hs := fun t => (Lt.hardB_spec (G N es own) h0 t).1
  have hn : Lt.need (G N es own) (2 ^ N) (Lt.hardB (G N es own) (2 ^ N) (2 ^ N)) = Lt.pop (Lt.refTo (G N es own) (Lt.hardB (G N es own) (2 ^ N) (2 ^ N)) (2 ^ N)).toNat := by
    unfold Lt.need; rw [if_neg (by have := hs (2 ^ N); omega)]
  rw [hn]
  clear hn
  generalize 2 ^ N = M at *
  refine refHard_any g M cap (fun j => Lt.refTo (G N es own) j M) (Lt.hardB (G N es own) M) w h0 hp hg hc (fun j => ?_) rfl (fun t => rfl) hs
  rcases refTo_form (G N es own) j M with h | ⟨s, hs, h⟩
  · exact .inl h
  · exact .inr ⟨s, by omega, h⟩

set_option maxRecDepth 100000 in
set_option maxHeartbeats 16000000 in
theorem lightReaches_any (n : Int) (lv : Value) (es : List (Int × Int)) (w : World) (hes : ReadsP w lv es) (hT : Tab w) (hw : 1 < w.heap.size) :
    Calls Tryd.prog 14 #[.int .i64 n, lv] w fun e w' => e = .returned (.bool true) ∧ Below w.heap.size w w' := by
  have ht := Lib.hid (tame_ok n lv es 11 (by decide) (by decide) w hes)
  clear hes
  go_enter Tryd.func14, Tryd.ntmps14
  go_wp2_with fail
  refine ht.out.mono ?_
  rintro e w1 ⟨N, L, ad, k, cap, rfl, -, hO, hp, hb1⟩
  have HO := Lib.hid hO
  have HP := Lib.hid hp
  have h16 := hO.most
  clear ht hO hp
  have hpw := HO.out.pow
  have eN := Lib.hid (fun own W hv => near_ok HO.out (.slice ad k cap) own W hv)
  have eW := Lib.hid (fun own ad cap W hE => refFew_cells HO.out own ad cap W hE)
  have eR := Lib.hid (fun own W hv => reach_ok HO.out (.slice ad k cap) own W hv)
  have eH := Lib.hid (fun own W hv hT hw => hardest_ok HO.out (.slice ad k cap) own W hv hT hw)
  have eB := Lib.hid (fun own g c W hg hc => refHard_ok HO.out own g c W hg hc)
  have eC := Lib.hid (fun own g c W hc => refReach_ok HO.out own g c W hc)
  have hp0 := Nat.two_pow_pos N
  obtain ⟨wo, hwo⟩ : ∃ wo : World, wo = w1 := ⟨_, rfl⟩
  subst hwo
  go_wp2
  go_loopw [6] (fun i W => ∃ (j : Int), i = .int .i64 j ∧ (j = 0 ∨ j = 1 ∨ j = 2) ∧ Hid (ReadsP W (.slice ad k cap) L) ∧ Below w.heap.size w W)
    (fun i _ => 2 - (intOf i).toNat)
  case atStart => exact ⟨0, rfl, .inl rfl, HP, hb1⟩
  case round =>
    clear HP
    obtain ⟨j, rfl, hj, HP, hB⟩ := hrel
    have hw0 : 1 < wr.heap.size := by have := hB.size; omega
    have HT := Lib.hid (hT.below hB hw)
    rcases hj with rfl | rfl | rfl
    · have gN := Lib.hid (eN.out true wr HP.out)
      have gW := Lib.hid (fun ad cap W hE => eW.out true ad cap W hE)
      have gR := Lib.hid (fun W hv => eR.out true W hv)
      have gH := Lib.hid (fun W hv hT hw => eH.out true W hv hT hw)
      have gB := Lib.hid (fun g c W hg hc => eB.out true g c W hg hc)
      have gC := Lib.hid (fun g c W hc => eC.out true g c W hc)
      clear eN eW eR eH eB eC
      generalize Lt.need (G N L true) (2 ^ N) (Lt.hardB (G N L true) (2 ^ N) (2 ^ N)) = mx at *
      generalize Lt.hardB (G N L true) (2 ^ N) (2 ^ N) = bx at *
      generalize Lt.basisOf (G N L true) = BB at *
      generalize 2 ^ BB.length = rx at *
      generalize 2 ^ N = M at *
      go_wp2_with fail
      refine gN.out.mono ?_
      rintro e w3 ⟨a3, c3, rfl, E3, hb3⟩
      have HP3 := Lib.hid (HP.out.below hb3)
      have HT3 := Lib.hid (HT.out.below hb3 hw0)
      have hw3 : 1 < w3.heap.size := by have := hb3.size; omega
      have hB3 := hB.trans (hb3.mono hB.size)
      have gW' := Lib.hid (gW.out a3 c3 w3 E3)
      clear HP HT hw0 hB hb3 gN E3 gW
      go_wp2_with fail
      refine gW'.out.mono ?_
      rintro e w4 ⟨g4, c4, rfl, hg4, hc4, hb4⟩
      have HC4 := Lib.hid hc4
      have HP4 := Lib.hid (HP3.out.below hb4)
      have HT4 := Lib.hid (HT3.out.below hb4 hw3)
      have hw4 : 1 < w4.heap.size := by have := hb4.size; omega
      have hB4 := hB3.trans (hb4.mono hB3.size)
      have gR' := Lib.hid (gR.out w4 HP4.out)
      clear HP3 HT3 hw3 hB3 hb4 gW' gR hc4
      go_wp2_with fail
      refine gR'.out.mono ?_
      rintro e w5 ⟨rfl, hb5⟩
      have hg5 : g4 < w5.heap.size := Nat.lt_of_lt_of_le hg4 hb5.size
      have HC5 := Lib.hid (fun j hj => (hb5.cell (p := ⟨g4, j, none⟩) hg4).trans (HC4.out j hj))
      have HP5 := Lib.hid (HP4.out.below hb5)
      have HT5 := Lib.hid (HT4.out.below hb5 hw4)
      have hw5 : 1 < w5.heap.size := by have := hb5.size; omega
      have hB5 := hB4.trans (hb5.mono hB4.size)
      have gH' := Lib.hid (gH.out w5 HP5.out HT5.out hw5)
      clear HC4 HP4 HT4 hw4 hB4 hb5 gR' gH hg4
      go_wp2_with fail
      refine gH'.out.mono ?_
      rintro e w6 ⟨rfl, hb6⟩
      have hg6 : g4 < w6.heap.size := Nat.lt_of_lt_of_le hg5 hb6.size
      have HC6 := Lib.hid (fun j hj => (hb6.cell (p := ⟨g4, j, none⟩) hg5).trans (HC5.out j hj))
      have HP6 := Lib.hid (HP5.out.below hb6)
      have hB6 := hB5.trans (hb6.mono hB5.size)
      have gB' := Lib.hid (gB.out g4 c4 w6 hg6 HC6.out)
      clear HC5 HP5 HT5 hw5 hB5 hb6 gH' gB hg5
      go_wp2_with fail
      refine gB'.out.mono ?_
      rintro e w7 ⟨rfl, hb7⟩
      have HC7 := Lib.hid (fun j hj => (hb7.cell (p := ⟨g4, j, none⟩) hg6).trans (HC6.out j hj))
      have HP7 := Lib.hid (HP6.out.below hb7)
      have hB7 := hB6.trans (hb7.mono hB6.size)
      have gC' := Lib.hid (gC.out g4 c4 w7 HC7.out)
      clear HC6 HC7 HP6 hB6 hb7 gB' gC hg6
      go_wp2_with fail
      refine gC'.out.mono ?_
      rintro e w8 ⟨rfl, hww⟩
      have hww2 := hww.symm
      subst hww2
      clear gC' hww
      go_wp2
      go_roundw
      case rel => exact ⟨1, rfl, .inr (.inl rfl), HP7, hB7⟩
      case measure => simp [intOf]
    · have gN := Lib.hid (eN.out false wr HP.out)
      have gW := Lib.hid (fun ad cap W hE => eW.out false ad cap W hE)
      have gR := Lib.hid (fun W hv => eR.out false W hv)
      have gH := Lib.hid (fun W hv hT hw => eH.out false W hv hT hw)
      have gB := Lib.hid (fun g c W hg hc => eB.out false g c W hg hc)
      have gC := Lib.hid (fun g c W hc => eC.out false g c W hc)
      clear eN eW eR eH eB eC
      generalize Lt.need (G N L false) (2 ^ N) (Lt.hardB (G N L false) (2 ^ N) (2 ^ N)) = mx at *
      generalize Lt.hardB (G N L false) (2 ^ N) (2 ^ N) = bx at *
      generalize Lt.basisOf (G N L false) = BB at *
      generalize 2 ^ BB.length = rx at *
      generalize 2 ^ N = M at *
      go_wp2_with fail
      refine gN.out.mono ?_
      rintro e w3 ⟨a3, c3, rfl, E3, hb3⟩
      have HP3 := Lib.hid (HP.out.below hb3)
      have HT3 := Lib.hid (HT.out.below hb3 hw0)
      have hw3 : 1 < w3.heap.size := by have := hb3.size; omega
      have hB3 := hB.trans (hb3.mono hB.size)
      have gW' := Lib.hid (gW.out a3 c3 w3 E3)
      clear HP HT hw0 hB hb3 gN E3 gW
      go_wp2_with fail
      refine gW'.out.mono ?_
      rintro e w4 ⟨g4, c4, rfl, hg4, hc4, hb4⟩
      have HC4 := Lib.hid hc4
      have HP4 := Lib.hid (HP3.out.below hb4)
      have HT4 := Lib.hid (HT3.out.below hb4 hw3)
      have hw4 : 1 < w4.heap.size := by have := hb4.size; omega
      have hB4 := hB3.trans (hb4.mono hB3.size)
      have gR' := Lib.hid (gR.out w4 HP4.out)
      clear HP3 HT3 hw3 hB3 hb4 gW' gR hc4
      go_wp2_with fail
      refine gR'.out.mono ?_
      rintro e w5 ⟨rfl, hb5⟩
      have hg5 : g4 < w5.heap.size := Nat.lt_of_lt_of_le hg4 hb5.size
      have HC5 := Lib.hid (fun j hj => (hb5.cell (p := ⟨g4, j, none⟩) hg4).trans (HC4.out j hj))
      have HP5 := Lib.hid (HP4.out.below hb5)
      have HT5 := Lib.hid (HT4.out.below hb5 hw4)
      have hw5 : 1 < w5.heap.size := by have := hb5.size; omega
      have hB5 := hB4.trans (hb5.mono hB4.size)
      have gH' := Lib.hid (gH.out w5 HP5.out HT5.out hw5)
      clear HC4 HP4 HT4 hw4 hB4 hb5 gR' gH hg4
      go_wp2_with fail
      refine gH'.out.mono ?_
      rintro e w6 ⟨rfl, hb6⟩
      have hg6 : g4 < w6.heap.size := Nat.lt_of_lt_of_le hg5 hb6.size
      have HC6 := Lib.hid (fun j hj => (hb6.cell (p := ⟨g4, j, none⟩) hg5).trans (HC5.out j hj))
      have HP6 := Lib.hid (HP5.out.below hb6)
      have hB6 := hB5.trans (hb6.mono hB5.size)
      have gB' := Lib.hid (gB.out g4 c4 w6 hg6 HC6.out)
      clear HC5 HP5 HT5 hw5 hB5 hb6 gH' gB hg5
      go_wp2_with fail
      refine gB'.out.mono ?_
      rintro e w7 ⟨rfl, hb7⟩
      have HC7 := Lib.hid (fun j hj => (hb7.cell (p := ⟨g4, j, none⟩) hg6).trans (HC6.out j hj))
      have HP7 := Lib.hid (HP6.out.below hb7)
      have hB7 := hB6.trans (hb7.mono hB6.size)
      have gC' := Lib.hid (gC.out g4 c4 w7 HC7.out)
      clear HC6 HC7 HP6 hB6 hb7 gB' gC hg6
      go_wp2_with fail
      refine gC'.out.mono ?_
      rintro e w8 ⟨rfl, hww⟩
      have hww2 := hww.symm
      subst hww2
      clear gC' hww
      go_wp2
      go_roundw
      case rel => exact ⟨2, rfl, .inr (.inr rfl), HP7, hB7⟩
      case measure => simp [intOf]
    · have haw := Lib.hid (awake_any wr HT.out hw0)
      clear eN eW eR eH eB eC
      go_wp2_with (go_at_call 19; refine haw.out.mono ?_; rintro e w7 ⟨rfl, hb7⟩)
      go_ret
      exact ⟨rfl, hB.trans (hb7.mono hB.size)⟩

end Go.Proofs.YtdlogklhekopgaaDoor
