/- Contracts of the program's functions: a part of the proof. -/
import Derived.Test.YtdlogklhekopgaaDoorGH
import Derived.WalkMore
import Derived.Test.YtdlogklhekopgaaDoorPB
set_option linter.unusedVariables false
set_option linter.unusedSimpArgs false

namespace Go.Proofs.YtdlogklhekopgaaDoor
open Go.RowKit Go.Shelf Go.Proofs
attribute [local go_sem] Oper.semAt_some

theorem sets_of_code {n s t : Int} {es : List (Int × Int)} (hc : code n es [s, t] = 0) : (∃ S : Nat, s = S ∧ S < 65536 ∧ S < 2 ^ n.toNat) ∧ (∃ T : Nat, t = T ∧ T < 65536 ∧ T < 2 ^ n.toNat) := by
  obtain ⟨h1, h2, h3, h4⟩ := code_zero hc
  have h5 := h4 s (by simp)
  have h5' := h4 t (by simp)
  have h6 : (2 : Nat) ^ n.toNat ≤ 2 ^ 16 := Nat.pow_le_pow_right (by decide) (by omega)
  have e : ((2 ^ n.toNat : Nat) : Int) = 2 ^ n.toNat := by simp
  exact ⟨⟨s.toNat, by omega, by omega, by omega⟩, ⟨t.toNat, by omega, by omega, by omega⟩⟩

/-- a set is a refutation of a target -/
def isRef (n : Int) (es : List (Int × Int)) (own : Bool) (t q : Int) : Bool :=
  decide (code n es [t, q] = 0) && (decide (Lt.eff (gr n es own) q.toNat = 0) && oddB (q.toNat &&& t.toNat))

set_option maxHeartbeats 1000000 in
theorem isref_api (n t q : Int) (ev : Value) (es : List (Int × Int)) (own : Bool) (w : World) (hlen : es.length ≤ 1000) (hes : ReadsP w ev es) (hT : Tab w) (hw : 1 < w.heap.size) :
    Calls Tryd.prog 43 #[.int .i64 n, ev, .bool own, .int .i64 t, .int .i64 q] w fun e w' =>
      e = .returned (.tuple #[.bool (isRef n es own t q), .int .i64 (code n es [t, q] : Nat)]) ∧ Below w.heap.size w w' := by
  have hB0 : Below w.heap.size w (w.alloc (.cells #[.int .i64 t, .int .i64 q] 3)) := below_one _
  unfold isRef
  by_cases hc : code n es [t, q] = 0
  · have ho := Lib.hid (open_good hc ev _ own _ hlen (by simp) (hes.below hB0) (reads_two w t q))
    rw [hc]
    obtain ⟨⟨T, rfl, hTt, -⟩, ⟨S, rfl, hS, -⟩⟩ := sets_of_code hc
    clear hc hes
    simp only [Int.toNat_natCast, decide_true, Bool.true_and]
    generalize gr n es own = G at *
    have HEF := Lib.hid (fun b W hL hT hw => effect_any b G S hS W hL hT hw)
    have hand := Lt.and_i64 S T (by omega) (by omega)
    have hlt : S &&& T < 65536 := Nat.lt_of_le_of_lt Nat.and_le_left hS
    have hodd := Lib.hid (fun W => odd_any (S &&& T) hlt W)
    generalize S &&& T = u at *
    by_cases h0 : Lt.eff G S = 0
    · have hd : decide (Lt.eff G S = 0) = true := by simpa using h0
      have hrt : ((Lt.eff G S : Nat) : Int) = 0 := by simp [h0]
      rw [hd, Bool.true_and]
      clear hd h0
      rw [hrt] at HEF
      go_enter Tryd.func43, Tryd.ntmps43
      go_wp2_with fail
      refine ho.out.mono ?_
      rintro e w1 ⟨b, rfl, hL, hb⟩
      replace hb := hB0.trans (hb.mono hB0.size)
      have hef := Lib.hid (HEF.out b w1 hL (hT.below hb hw) (by have := hb.size; omega))
      clear ho hL hB0 HEF
      go_wp2_with fail
      refine hef.out.mono ?_
      rintro e w2 ⟨rfl, hb2⟩
      go_wp2_with (go_at_call 59; refine (hodd.out _).mono ?_; rintro e w' ⟨rfl, rfl⟩)
      go_ret2
      exact ⟨rfl, hb.trans (hb2.mono hb.size)⟩
    · have hd : decide (Lt.eff G S = 0) = false := by simpa using h0
      have hrt : (((Lt.eff G S : Nat) : Int) == 0) = false := by simpa using h0
      rw [hd, Bool.false_and]
      clear hd h0
      generalize Lt.eff G S = r at *
      go_enter Tryd.func43, Tryd.ntmps43
      go_wp2_with fail
      refine ho.out.mono ?_
      rintro e w1 ⟨b, rfl, hL, hb⟩
      replace hb := hB0.trans (hb.mono hB0.size)
      have hef := Lib.hid (HEF.out b w1 hL (hT.below hb hw) (by have := hb.size; omega))
      clear ho hL hB0 HEF
      go_wp2_with fail
      refine hef.out.mono ?_
      rintro e w2 ⟨rfl, hb2⟩
      go_wp2_with (go_at_call 59; refine (hodd.out _).mono ?_; rintro e w' ⟨rfl, rfl⟩)
      go_ret2
      exact ⟨rfl, hb.trans (hb2.mono hb.size)⟩
  · have ho := Lib.hid (open_bad hc ev _ own _ hlen (by simp) (hes.below hB0) (reads_two w t q))
    have hd : decide (code n es [t, q] = 0) = false := by simpa using hc
    rw [hd, Bool.false_and]
    clear hes hd
    generalize code n es [t, q] = c at *
    have hct : (((c : Nat) : Int) == 0) = false := by simpa using hc
    clear hc
    go_enter Tryd.func43, Tryd.ntmps43
    go_wp2_with fail
    refine ho.out.mono ?_
    rintro e w1 ⟨rfl, hb⟩
    replace hb := hB0.trans (hb.mono hB0.size)
    clear ho hB0
    go_wp2
    go_ret2
    exact ⟨rfl, hb⟩

/-- the first quiet set that refutes a target -/
def refuter (Q : List Nat) (t : Nat) : Option Nat := Q.find? (fun q => oddB (q &&& t))

theorem refuter_at {Q : List Nat} {t k : Nat} (hk : k < Q.length) (hno : ∀ j, j < k → oddB ((Q[j]?.getD 0) &&& t) = false) (hy : oddB ((Q[k]?.getD 0) &&& t) = true) : refuter Q t = some (Q[k]?.getD 0) := by
  unfold refuter
  induction Q generalizing k with
  | nil => simp at hk
  | cons a Q ih =>
    cases k with
    | zero =>
      simp only [List.getElem?_cons_zero, Option.getD_some] at hy ⊢
      simp [List.find?, hy]
    | succ k =>
      have h0 := hno 0 (by omega)
      simp only [List.getElem?_cons_zero, Option.getD_some] at h0
      simp only [List.find?, h0]
      simp only [List.getElem?_cons_succ] at hy ⊢
      exact ih (by simpa using hk) (fun j hj => by have := hno (j + 1) (by omega); simpa using this) hy
theorem refuter_none {Q : List Nat} {t : Nat} (hno : ∀ j, j < Q.length → oddB ((Q[j]?.getD 0) &&& t) = false) : refuter Q t = none := by
  unfold refuter
  rw [List.find?_eq_none]
  intro x hx
  obtain ⟨i, hi, rfl⟩ := List.getElem_of_mem hx
  have := hno i hi
  simp only [List.getElem?_eq_getElem hi, Option.getD_some] at this
  rw [this]; decide

def refuted (n : Int) (es : List (Int × Int)) (own : Bool) (t : Int) : Option Nat := if code n es [t] = 0 then refuter (Lt.quietOf (gr n es own)) t.toNat else none

set_option maxRecDepth 100000 in
set_option maxHeartbeats 2000000 in
theorem refute_api (n s : Int) (ev : Value) (es : List (Int × Int)) (own : Bool) (w : World) (hlen : es.length ≤ 1000) (hes : ReadsP w ev es) :
    Calls Tryd.prog 42 #[.int .i64 n, ev, .bool own, .int .i64 s] w fun e w' =>
      e = .returned (.tuple #[.int .i64 (((refuted n es own s).getD 0 : Nat) : Int), .bool (refuted n es own s).isSome, .int .i64 (code n es [s] : Nat)]) ∧ Below w.heap.size w w' := by
  have hB0 : Below w.heap.size w (w.alloc (.cells #[.int .i64 s] 3)) := below_one _
  unfold refuted
  by_cases hc : code n es [s] = 0
  · have ho := Lib.hid (open_good hc ev _ own _ hlen (by simp) (hes.below hB0) (reads_one w s))
    have h16 := gr_len (own := own) hc
    rw [if_pos hc, hc]
    obtain ⟨S, rfl, hS, -⟩ := set_of_code hc
    clear hc hes
    simp only [Int.toNat_natCast]
    generalize gr n es own = G at *
    obtain ⟨hQ, hQ16⟩ := quiet_small h16
    have HR := Lib.hid (fun b W hL => reduced_any b G W hL)
    clear h16
    generalize Lt.quietOf G = Q at *
    generalize Lt.basisOf G = B at *
    go_enter Tryd.func42, Tryd.ntmps42
    go_wp2
    go_step3
    go_wp2_with fail
    refine ho.out.mono ?_
    rintro e w1 ⟨b, rfl, hL, hb⟩
    replace hb := hB0.trans (hb.mono hB0.size)
    have hef := Lib.hid (HR.out b w1 hL)
    clear ho hL HR hB0
    go_wp2_with fail
    refine hef.out.mono ?_
    rintro e w2 ⟨vB, vQ, rfl, ⟨hrB, hrQ⟩, hb2⟩
    obtain ⟨aB, nB, cB, rfl⟩ := slice_of_row hrB
    obtain ⟨ad, cap, rfl, hel⟩ := elems_of_row hrQ
    have HEL := Lib.hid hel
    have hbb : Below w.heap.size w w2 := hb.trans (hb2.mono hb.size)
    clear hrB hrQ hef hel hb hb2
    have HQ := Lib.hid hQ
    clear hQ
    go_wp2
    go_step3
    go_wp2
    go_loopw [15, 16, 38] (fun o f i W => ∃ k : Nat, i = .int .i64 k ∧ o = .int .i64 0 ∧ f = .bool false ∧ k ≤ Q.length ∧ Hid (∀ j, j < k → oddB ((Q[j]?.getD 0) &&& S) = false) ∧ W = w2)
      (fun _ _ i _ => Q.length - (intOf i).toNat)
    case atStart => exact ⟨0, rfl, rfl, rfl, Nat.zero_le _, Lib.hid (fun j hj => by omega), rfl⟩
    case round =>
      obtain ⟨k, rfl, rfl, rfl, hk, hno, rfl⟩ := hrel
      by_cases hlt : k < Q.length
      · obtain ⟨g, off, rfl, hgw, hc⟩ := HEL.out k hlt
        have hq := HQ.out k
        have hand := Lt.and_i64 (Q[k]?.getD 0) S (by omega) (by omega)
        have hul : (Q[k]?.getD 0) &&& S < 65536 := Nat.lt_of_le_of_lt Nat.and_le_left hq
        have hodd := Lib.hid (fun W => odd_any ((Q[k]?.getD 0) &&& S) hul W)
        have hnext : Hid (oddB ((Q[k]?.getD 0) &&& S) = false → ∀ j, j < k + 1 → oddB ((Q[j]?.getD 0) &&& S) = false) := Lib.hid (fun h j hj => by
          rcases Nat.lt_succ_iff_lt_or_eq.1 hj with h1 | rfl
          · exact hno.out j h1
          · exact h)
        have hfound : Hid (oddB ((Q[k]?.getD 0) &&& S) = true → refuter Q S = some (Q[k]?.getD 0)) := Lib.hid (fun h => refuter_at hlt hno.out h)
        clear hno
        generalize Q[k]?.getD 0 = x at *
        generalize x &&& S = u at *
        by_cases hod : oddB u = true
        · have hf := Lib.hid (hfound.out hod)
          rw [hod] at hodd
          clear hnext hfound hod
          go_wp2_with (go_at_call 59; refine (hodd.out _).mono ?_; rintro e w' ⟨rfl, rfl⟩)
          simp only [Exit.noGoto_ret]
          go_ret3
          rw [hf.out]
          exact ⟨rfl, hbb⟩
        · have hod' : oddB u = false := by simpa using hod
          have hf := Lib.hid (hnext.out hod')
          rw [hod'] at hodd
          clear hnext hfound hod hod'
          go_wp2_with (go_at_call 59; refine (hodd.out _).mono ?_; rintro e w' ⟨rfl, rfl⟩)
          go_roundw
          case rel => exact ⟨k + 1, by go_num, rfl, rfl, by omega, hf, trivial⟩
          case measure => simp [intOf]; omega
      · have hf : Hid (refuter Q S = none) := Lib.hid (refuter_none (fun j hj => hno.out j (by omega)))
        clear hno
        go_wp2
        simp only [Exit.noGoto_ret]
        go_ret3
        rw [hf.out]
        exact ⟨rfl, hbb⟩
  · have ho := Lib.hid (open_bad hc ev _ own _ hlen (by simp) (hes.below hB0) (reads_one w s))
    rw [if_neg hc]
    clear hes
    generalize code n es [s] = c at *
    have hct : (((c : Nat) : Int) == 0) = false := by simpa using hc
    clear hc
    go_enter Tryd.func42, Tryd.ntmps42
    go_wp2
    go_step3
    go_wp2_with fail
    refine ho.out.mono ?_
    rintro e w1 ⟨rfl, hb⟩
    replace hb := hB0.trans (hb.mono hB0.size)
    clear ho hB0
    go_wp2
    simp only [Exit.noGoto_ret]
    go_ret3
    exact ⟨rfl, hb⟩

end Go.Proofs.YtdlogklhekopgaaDoor

namespace Go.Proofs.YtdlogklhekopgaaDoor
open Go.RowKit Go.Shelf Go.Proofs
attribute [local go_sem] Oper.semAt_some

theorem Tryd.info29 : (Tryd.prog.info? 29).map (fun i => (i.zero, i.size, i.bytes)) = some (some (.agg #[.int .i64 0, .int .i64 0]), 2, 16) := by kernel_rfl

/-- there is such a grid -/
def gridOk (r c : Int) : Bool := decide (1 ≤ r) && decide (1 ≤ c) && decide (r ≤ 16) && decide (c ≤ 16) && decide (r * c ≤ 16)

set_option maxHeartbeats 1000000 in
theorem grid_bad (r c : Int) (h : gridOk r c = false) (w : World) :
    Calls Tryd.prog 16 #[.int .i64 r, .int .i64 c] w fun e w' => e = .returned (.tuple #[.int .i64 0, .slice none 0 0, .int .i64 1]) ∧ w' = w := by
  by_cases h1 : min r c < 1
  · clear h
    go_enter Tryd.func16, Tryd.ntmps16
    go_wp2
    go_ret3
    exact ⟨rfl, rfl⟩
  · by_cases h2 : 16 < max r c
    · clear h
      go_enter Tryd.func16, Tryd.ntmps16
      go_wp2
      go_ret3
      exact ⟨rfl, rfl⟩
    · have h3 : 16 < r * c := by
        unfold gridOk at h
        have e1 : decide (1 ≤ r) = true := by simp; omega
        have e2 : decide (1 ≤ c) = true := by simp; omega
        have e3 : decide (r ≤ 16) = true := by simp; omega
        have e4 : decide (c ≤ 16) = true := by simp; omega
        rw [e1, e2, e3, e4] at h
        simpa using h
      have h4 : r * c ≤ 16 * 16 := Int.mul_le_mul (by omega) (by omega) (by omega) (by omega)
      clear h
      generalize hm : r * c = m at *
      have hw : wrap64 (r * c) = m := by rw [hm]; unfold wrap64; omega
      clear hm
      go_enter Tryd.func16, Tryd.ntmps16
      go_wp2
      go_ret3
      exact ⟨rfl, rfl⟩

theorem cell_two_new (w : World) (x y : Value) (e : TypeId) : ∀ (j : Nat) (u : Value), [x, y][j]? = some u → (w.alloc (.cells #[x, y] e)).cell? ((⟨w.heap.size, 0, none⟩ : Addr).add j) = some u := by
  intro j u h
  have hh : (w.alloc (.cells #[x, y] e)).heap[w.heap.size]? = some (.cells #[x, y] e (0, 0)) := World.alloc_heap_new w _
  have : j = 0 ∨ j = 1 := by
    rcases j with _ | _ | j
    · exact .inl rfl
    · exact .inr rfl
    · simp at h
  unfold World.cell? Addr.add
  rcases this with rfl | rfl
  · show (match (w.alloc (.cells #[x, y] e)).heap[w.heap.size]? with | some (.cells c elem frozen) => _ | _ => _) = _
    rw [hh]; simpa using h
  · show (match (w.alloc (.cells #[x, y] e)).heap[w.heap.size]? with | some (.cells c elem frozen) => _ | _ => _) = _
    rw [hh]; simpa using h

theorem pcells_snoc (B : List (Nat × Nat)) (a b : Nat) : pcells (B ++ [(a, b)]) = pcells B ++ [.int .i64 (a : Nat), .int .i64 (b : Nat)] := by simp [pcells]

set_option maxRecDepth 100000 in
set_option maxHeartbeats 4000000 in
theorem grid_good (r c : Nat) (hr : 1 ≤ r) (hc : 1 ≤ c) (hrc : r * c ≤ 16) (w : World) :
    Calls Tryd.prog 16 #[.int .i64 r, .int .i64 c] w fun e w' => ∃ v, e = .returned (.tuple #[.int .i64 ((r * c : Nat) : Int), v, .int .i64 0]) ∧ w'.ownsRow w.heap.size 29 2 v (Lt.gridOf r c).length (pcells (Lt.gridOf r c)) ∧ Below w.heap.size w w' := by
  have hr16 : r ≤ 16 := Nat.le_trans (Nat.le_mul_of_pos_right r hc) hrc
  have hc16 : c ≤ 16 := Nat.le_trans (Nat.le_mul_of_pos_left c hr) hrc
  have hstep := Lib.hid (Lt.gridTo_succ r c)
  have hlen := Lib.hid (Lt.gridTo_length r c)
  have hdef : Hid (∀ i, Lt.cellEdges r c i = (if i % c + 1 < c then [(i, i + 1)] else []) ++ (if i + c < r * c then [(i, i + c)] else [])) := Lib.hid (fun i => rfl)
  unfold Lt.gridOf
  have hm : wrap64 ((r : Int) * (c : Int)) = ((r * c : Nat) : Int) := by
    have e : (r : Int) * (c : Int) = ((r * c : Nat) : Int) := by simp
    rw [e]
    generalize r * c = m at *
    unfold wrap64; omega
  generalize r * c = m at *
  have HG0 : Hid (w.ownsRow w.heap.size 29 2 (.slice none 0 0) (Lt.gridTo r c 0).length (pcells (Lt.gridTo r c 0))) := Lib.hid (World.ownsRow_nil _ _ _ _)
  generalize Lt.gridTo r c = G at *
  generalize Lt.cellEdges r c = E at *
  go_enter Tryd.func16, Tryd.ntmps16
  go_wp2
  simp only [hm]
  go_loopw [7, 28] (fun v i wr => ∃ (k : Nat), i = .int .i64 k ∧ k ≤ m ∧ Hid (wr.ownsRow w.heap.size 29 2 v (G k).length (pcells (G k))) ∧ Below w.heap.size w wr)
    (fun _ i _ => m - (intOf i).toNat)
  case atStart => exact ⟨0, rfl, Nat.zero_le _, Lib.hid HG0.out, Below.refl _ _⟩
  case round =>
    obtain ⟨k, rfl, hk, hrow, hB⟩ := hrel
    obtain ⟨a1, n1, c1, rfl⟩ := slice_of_row hrow.out
    by_cases hlt : k < m
    · have hrem : Int.tmod (k : Int) (c : Int) = ((k % c : Nat) : Int) := (Int.ofNat_tmod k c).symm
      have hc0 : ((c : Int) == 0) = false := by simp; omega
      have hl1 := hlen.out k
      have hE := Lib.hid (hdef.out k)
      have hnx := Lib.hid (hstep.out k)
      have hql : k % c < c := Nat.mod_lt _ hc
      generalize k % c = q at *
      obtain ⟨i0, hi0, hz0, hzs, hzb⟩ := info_parts Tryd.info29
      by_cases h1 : q + 1 < c
      · by_cases h2 : k + c < m
        · rw [if_pos h1, if_pos h2] at hE
          have hfl : Hid ((G (k + 1)).length = (G k).length + 1 + 1 ∧ pcells (G (k + 1)) = pcells (G k) ++ [.int .i64 (k : Nat), .int .i64 ((k : Nat) + 1)] ++ [.int .i64 (k : Nat), .int .i64 ((k : Nat) + (c : Nat))]) := Lib.hid (by
            rw [hnx.out, hE.out]; exact ⟨by simp, by simp [pcells]⟩)
          clear hnx hE
          go_wp2_with (first | (at_builtin; refine wpList_append_own _ rfl _ _ 22 rfl w.heap.size 29 i0 _ 2 16 Tryd.underlying22 hi0 hz0 hzs hzb rfl (by decide) (.slice a1 n1 c1) (G k).length (pcells (G k)) rfl (hrow.out.alloc _) ⟨wr.heap.size, 0, none⟩ 1 1 [.int .i64 (k : Nat), .int .i64 ((k : Nat) + 1)] rfl rfl (cell_two_new _ _ _ _) (by simp [Value.oneCell']) (by unfold maxLen; omega) (by omega) (by have := hB.size; simp; omega) ?_; intro v' w1 hown' hgrow _; obtain ⟨g', cap', rfl⟩ := ownsRow_succ hown'; have HOWN := Lib.hid hown'; have HB1 : Below w.heap.size w w1 := (hB.alloc hB.size _).grown hgrow (by have := hB.size; simp; omega) (fun k hk => (hrow.out.lt k hk).1); clear hown' hgrow) | (at_builtin; refine wpList_append_own _ rfl _ _ 22 rfl w.heap.size 29 i0 _ 2 16 Tryd.underlying22 hi0 hz0 hzs hzb rfl (by decide) (.slice (some ⟨g', 0, none⟩) ((G k).length + 1) cap') ((G k).length + 1) (pcells (G k) ++ [.int .i64 (k : Nat), .int .i64 ((k : Nat) + 1)]) rfl (HOWN.out.alloc _) ⟨w1.heap.size, 0, none⟩ 1 1 [.int .i64 (k : Nat), .int .i64 ((k : Nat) + (c : Nat))] rfl rfl (cell_two_new _ _ _ _) (by simp [Value.oneCell']) (by unfold maxLen; omega) (by omega) (by have := HB1.size; simp; omega) ?_; intro v'' w2 hown'' hgrow _; obtain ⟨g'', cap'', rfl⟩ := ownsRow_succ hown''; have HOWN2 := Lib.hid hown''; have HB2 : Below w.heap.size w w2 := (HB1.alloc HB1.size _).grown hgrow (by have := HB1.size; simp; omega) (fun k hk => (HOWN.out.lt k hk).1); clear hown'' hgrow))
          go_roundw
          case rel => exact ⟨k + 1, by go_num, by omega, Lib.hid (by rw [hfl.out.1, hfl.out.2]; exact HOWN2.out), HB2⟩
          case measure => simp [intOf]; omega
        · rw [if_pos h1, if_neg h2] at hE
          have hfl : Hid ((G (k + 1)).length = (G k).length + 1 ∧ pcells (G (k + 1)) = pcells (G k) ++ [.int .i64 (k : Nat), .int .i64 ((k : Nat) + 1)]) := Lib.hid (by
            rw [hnx.out, hE.out]; exact ⟨by simp, by simp [pcells]⟩)
          clear hnx hE
          go_wp2_with (at_builtin; refine wpList_append_own _ rfl _ _ 22 rfl w.heap.size 29 i0 _ 2 16 Tryd.underlying22 hi0 hz0 hzs hzb rfl (by decide) (.slice a1 n1 c1) (G k).length (pcells (G k)) rfl (hrow.out.alloc _) ⟨wr.heap.size, 0, none⟩ 1 1 [.int .i64 (k : Nat), .int .i64 ((k : Nat) + 1)] rfl rfl (cell_two_new _ _ _ _) (by simp [Value.oneCell']) (by unfold maxLen; omega) (by omega) (by have := hB.size; simp; omega) ?_; intro v' w1 hown' hgrow _; obtain ⟨g', cap', rfl⟩ := ownsRow_succ hown'; have HOWN := Lib.hid hown'; have HB1 : Below w.heap.size w w1 := (hB.alloc hB.size _).grown hgrow (by have := hB.size; simp; omega) (fun k hk => (hrow.out.lt k hk).1); clear hown' hgrow)
          go_roundw
          case rel => exact ⟨k + 1, by go_num, by omega, Lib.hid (by rw [hfl.out.1, hfl.out.2]; exact HOWN.out), HB1⟩
          case measure => simp [intOf]; omega
      · by_cases h2 : k + c < m
        · rw [if_neg h1, if_pos h2] at hE
          have hfl : Hid ((G (k + 1)).length = (G k).length + 1 ∧ pcells (G (k + 1)) = pcells (G k) ++ [.int .i64 (k : Nat), .int .i64 ((k : Nat) + (c : Nat))]) := Lib.hid (by
            rw [hnx.out, hE.out]; exact ⟨by simp, by simp [pcells]⟩)
          clear hnx hE
          go_wp2_with (at_builtin; refine wpList_append_own _ rfl _ _ 22 rfl w.heap.size 29 i0 _ 2 16 Tryd.underlying22 hi0 hz0 hzs hzb rfl (by decide) (.slice a1 n1 c1) (G k).length (pcells (G k)) rfl (hrow.out.alloc _) ⟨wr.heap.size, 0, none⟩ 1 1 [.int .i64 (k : Nat), .int .i64 ((k : Nat) + (c : Nat))] rfl rfl (cell_two_new _ _ _ _) (by simp [Value.oneCell']) (by unfold maxLen; omega) (by omega) (by have := hB.size; simp; omega) ?_; intro v' w1 hown' hgrow _; obtain ⟨g', cap', rfl⟩ := ownsRow_succ hown'; have HOWN := Lib.hid hown'; have HB1 : Below w.heap.size w w1 := (hB.alloc hB.size _).grown hgrow (by have := hB.size; simp; omega) (fun k hk => (hrow.out.lt k hk).1); clear hown' hgrow)
          go_roundw
          case rel => exact ⟨k + 1, by go_num, by omega, Lib.hid (by rw [hfl.out.1, hfl.out.2]; exact HOWN.out), HB1⟩
          case measure => simp [intOf]; omega
        · rw [if_neg h1, if_neg h2] at hE
          have hfl : Hid (G (k + 1) = G k) := Lib.hid (by rw [hnx.out, hE.out]; simp)
          clear hnx hE
          go_wp2
          go_roundw
          case rel => exact ⟨k + 1, by go_num, by omega, Lib.hid (by rw [hfl.out]; exact hrow.out), hB⟩
          case measure => simp [intOf]; omega
    · have hkm : k = m := by omega
      subst hkm
      clear hlen hdef hstep
      go_wp2
      go_ret3
      exact ⟨_, by rw [← hm]; rfl, hrow.out, hB⟩

end Go.Proofs.YtdlogklhekopgaaDoor
