/- Contracts of the program's functions: a part of the proof. -/
import Derived.Test.YtdlogklhekopgaaDoorGP
import Derived.Test.YtdlogklhekopgaaDoorPC
import Derived.Deep.CutBlock
set_option linter.unusedVariables false
set_option linter.unusedSimpArgs false

namespace Go.Proofs.YtdlogklhekopgaaDoor
open Go.RowKit Go.Shelf Go.Proofs
attribute [local go_sem] Oper.semAt_some

theorem wrapE (x : Int) : IntKind.i64.wrap x = wrap64 x := by rw [IntKind.wrap_i64]; unfold wrap64; omega
theorem ncells_at {L : List Nat} {j : Nat} (h : j < L.length) : (ncells L)[j]? = some (.int .i64 ((L[j]?.getD 0 : Nat) : Int)) := by simp [ncells, h]

set_option maxRecDepth 100000 in
set_option maxHeartbeats 8000000 in
/-- ref.Near -/
theorem refNear_any (n : Nat) (h1 : 1 ≤ n) (h16 : n ≤ 16) (lv : Value) (es : List (Int × Int)) (own : Bool) (w : World) (hlen : es.length ≤ 1000) (hes : ReadsP w lv es) (hok : Lt.edgesOk (n : Int) (-1, -1) es = true) :
    Calls Tryd.prog 34 #[.int .i64 n, lv, .bool own] w fun e w' => ∃ ad cap, e = .returned (.slice ad n cap) ∧ Elems w' w'.heap.size ad (gr n es own) ∧ Below w.heap.size w w' := by
  have hmem := Lt.edgesOk_mem hok
  have hgr : Lt.nearOf n es own = gr n es own := by
    unfold gr; rw [Int.toNat_natCast]; exact Lt.near_graph hmem own
  obtain ⟨ad, cap, rfl, hcells⟩ := hes.general
  have HC := Lib.hid hcells
  have HG := Lib.hid hgr
  have HM := Lib.hid hmem
  clear hes hcells hgr hmem hok
  have hmk := make_ints n (by omega)
  have hown0 := Lib.hid (owns_made w w.heap.size n (Nat.le_refl _) (by unfold maxLen; omega))
  generalize (List.replicate n (Value.int IntKind.i64 0)).toArray = Z at *
  have hB0 : Below w.heap.size w (w.alloc (.cells Z 3)) := below_one _
  have hn16 : (2 : Nat) ^ n ≤ 65536 := Nat.le_trans (Nat.pow_le_pow_right (by decide) h16) (by decide)
  go_enter Tryd.func34, Tryd.ntmps34
  go_upto_block 0 with fail
  go_cut [7] (fun x W => x = .slice (some ⟨w.heap.size, 0, none⟩) n n ∧ Hid (∀ x ∈ Lt.ref0 n own, x < 65536) ∧ Hid (W.ownsRow w.heap.size 3 1 (.slice (some ⟨w.heap.size, 0, none⟩) n n) n (ncells (Lt.ref0 n own))) ∧ Below w.heap.size w W)
  case first =>
    clear HC HG HM
    cases own with
    | true =>
      go_wp2
      go_loopw [8] (fun i W => ∃ (k : Nat), i = .int .i64 k ∧ k ≤ n ∧ Hid (∀ x ∈ Lt.ownTo (List.replicate n 0) k, x < 65536) ∧ Hid (W.ownsRow w.heap.size 3 1 (.slice (some ⟨w.heap.size, 0, none⟩) n n) n (ncells (Lt.ownTo (List.replicate n 0) k))) ∧ Below w.heap.size w W)
        (fun i _ => n - (intOf i).toNat)
      case atStart => exact ⟨0, rfl, Nat.zero_le _, Lib.hid (fun x hx => by simp [Lt.ownTo] at hx; omega), hown0, hB0⟩
      case round =>
        clear hown0 hB0
        obtain ⟨k, rfl, hk, hlt16, hrow, hB⟩ := hrel
        by_cases hkn : k < n
        · have hcell := hrow.out.cellAt k (by omega)
          rw [ncells_at (by rw [Lt.ownTo_length]; simpa using hkn)] at hcell
          have hfz := hrow.out.frozenAt k
          have hpw := wrap_pow k (by omega)
          have hpk : 2 ^ k < 65536 := Nat.lt_of_lt_of_le (Nat.pow_lt_pow_right (by decide) (show k < 16 by omega)) (by decide)
          have hs := (hrow.out.stored k (.int .i64 ((2 ^ k : Nat) : Int))).1
          rw [ncells_set, ← Lt.own_set n k hkn] at hs
          have hlt' : Hid (∀ x ∈ Lt.ownTo (List.replicate n 0) (k + 1), x < 65536) := Lib.hid (by rw [Lt.own_set n k hkn]; exact Lt.set_lt hlt16.out hpk)
          have HS := Lib.hid hs
          have hBs := hB.setCell (p := ⟨w.heap.size, k, none⟩) (Nat.le_refl _) (.int .i64 ((2 ^ k : Nat) : Int))
          clear hs hrow hlt16
          generalize 2 ^ k = m at *
          go_wp2
          go_roundw
          case rel => exact ⟨k + 1, by go_num, by omega, hlt', HS, hBs⟩
          case measure => simp [intOf]; omega
        · obtain rfl : k = n := by omega
          have e : Lt.ref0 k true = Lt.ownTo (List.replicate k 0) k := rfl
          rw [← e] at hlt16 hrow
          go_wp2
          go_meet
          exact ⟨rfl, hlt16, hrow, hB⟩
    | false =>
      have hz : Hid (∀ x ∈ Lt.ref0 n false, x < 65536) := Lib.hid (fun x hx => by simp [Lt.ref0] at hx; omega)
      have e : Lt.ref0 n false = List.replicate n 0 := rfl
      rw [← e] at hown0
      clear e
      have hnI : (0 : Int) < (n : Int) := by omega
      go_wp2
      go_loopw [8] (fun i W => i = .int .i64 0 ∧ W = w.alloc (.cells Z 3))
        (fun i _ => n - (intOf i).toNat)
      case atStart => exact ⟨rfl, rfl⟩
      case round =>
        obtain ⟨rfl, rfl⟩ := hrel
        go_wp2
        go_meet
        exact ⟨rfl, hz, hown0, hB0⟩
  case rest =>
    obtain ⟨rfl, hlt0, hrow0, hB⟩ := hcut
    clear hown0 hB0 hmk
    go_wp2
    go_loopw [9] (fun i W => ∃ (k : Nat), i = .int .i64 k ∧ k ≤ es.length ∧ Hid (∀ x ∈ (es.take k).foldl Lt.addEdge (Lt.ref0 n own), x < 65536) ∧
        Hid (W.ownsRow w.heap.size 3 1 (.slice (some ⟨w.heap.size, 0, none⟩) n n) n (ncells ((es.take k).foldl Lt.addEdge (Lt.ref0 n own)))) ∧ Below w.heap.size w W)
      (fun i _ => es.length - (intOf i).toNat)
    case atStart => exact ⟨0, rfl, Nat.zero_le _, hlt0, hrow0, hB⟩
    case round =>
      clear hlt0 hrow0 hB
      obtain ⟨k, rfl, hk, hlt16, hrow, hB⟩ := hrel
      by_cases hkl : k < es.length
      · obtain ⟨g, off, rfl, hgw, hc1, hc2⟩ := HC.out k hkl
        replace hc1 := (hB.cell (p := ⟨g, off + k * 2, none⟩) hgw).trans hc1
        replace hc2 := (hB.cell (p := ⟨g, off + k * 2 + 1, none⟩) hgw).trans hc2
        have heq : es[k]?.getD (0, 0) = es[k] := by simp [hkl]
        obtain ⟨he1, he2, he3⟩ := HM.out es[k] (List.getElem_mem hkl)
        rw [heq] at hc1 hc2
        have hst : (es.take (k + 1)).foldl Lt.addEdge (Lt.ref0 n own) = Lt.addEdge ((es.take k).foldl Lt.addEdge (Lt.ref0 n own)) es[k] := by
          rw [List.take_succ_eq_append_getElem hkl, List.foldl_append]; rfl
        have hlenL : ((es.take k).foldl Lt.addEdge (Lt.ref0 n own)).length = n := by rw [Lt.foldl_addEdge_length, Lt.ref0_length]
        have HST := Lib.hid hst
        clear hst
        obtain ⟨L1, hL1⟩ : ∃ L1, L1 = (es.take (k + 1)).foldl Lt.addEdge (Lt.ref0 n own) := ⟨_, rfl⟩
        rw [← hL1] at HST
        have HL1 := Lib.hid hL1
        clear hL1
        generalize (es.take k).foldl Lt.addEdge (Lt.ref0 n own) = L at *
        clear heq
        generalize es[k] = ed at *
        obtain ⟨ex, ey⟩ := ed
        simp only at he1 he2 he3 hc1 hc2
        obtain ⟨A, rfl⟩ : ∃ A : Nat, ex = A := ⟨ex.toNat, by omega⟩
        obtain ⟨B, rfl⟩ : ∃ B : Nat, ey = B := ⟨ey.toNat, by omega⟩
        have hA : A < n := by omega
        have hBn : B < n := by omega
        have hAB : A ≠ B := by omega
        have hst := HST.out
        rw [Lt.addEdge_set L A B (by omega) (by omega) hAB] at hst
        have hLA : L[A]?.getD 0 < 65536 := hlt16.out _ (Lt.mem_getD (by omega))
        have hLB : L[B]?.getD 0 < 65536 := hlt16.out _ (Lt.mem_getD (by omega))
        have hpA : 2 ^ A < 65536 := Nat.lt_of_lt_of_le (Nat.pow_lt_pow_right (by decide) (show A < 16 by omega)) (by decide)
        have hpB : 2 ^ B < 65536 := Nat.lt_of_lt_of_le (Nat.pow_lt_pow_right (by decide) (show B < 16 by omega)) (by decide)
        have hx : L[A]?.getD 0 ||| 2 ^ B < 65536 := Nat.or_lt_two_pow (n := 16) hLA hpB
        have hy : L[B]?.getD 0 ||| 2 ^ A < 65536 := Nat.or_lt_two_pow (n := 16) hLB hpA
        have hlt1 : Hid (∀ x ∈ L1, x < 65536) := Lib.hid (by rw [hst]; exact Lt.set_lt (Lt.set_lt hlt16.out hx) hy)
        have hwA' := wrap_pow A (by omega)
        have hwB' := wrap_pow B (by omega)
        have hwA := (wrapE ((2 : Int) ^ A)).trans hwA'
        have hwB := (wrapE ((2 : Int) ^ B)).trans hwB'
        generalize 2 ^ A = pA at *
        generalize 2 ^ B = pB at *
        have ox := Lt.or_i64 (L[A]?.getD 0) pB (Nat.lt_trans hLA (by decide)) (Nat.lt_trans hpB (by decide))
        have oy := Lt.or_i64 (L[B]?.getD 0) pA (Nat.lt_trans hLB (by decide)) (Nat.lt_trans hpA (by decide))
        have cA := hrow.out.cellAt A (by omega)
        rw [ncells_at (by omega)] at cA
        have fA := hrow.out.frozenAt A
        have hABI : ¬ ((A : Nat) : Int) = (B : Int) := by omega
        have hLset : (L.set A (L[A]?.getD 0 ||| pB))[B]?.getD 0 = L[B]?.getD 0 := by rw [List.getElem?_set_ne hAB]
        have hrow1 : Hid (∀ W : World, W.ownsRow w.heap.size 3 1 (.slice (some ⟨w.heap.size, 0, none⟩) n n) n (ncells L) → (W.setCell ⟨w.heap.size, A, none⟩ (.int .i64 ((L[A]?.getD 0 ||| pB : Nat) : Int))).ownsRow w.heap.size 3 1 (.slice (some ⟨w.heap.size, 0, none⟩) n n) n (ncells (L.set A (L[A]?.getD 0 ||| pB)))) := Lib.hid (fun W h => by
          have := (h.stored A (.int .i64 ((L[A]?.getD 0 ||| pB : Nat) : Int))).1
          rwa [ncells_set] at this)
        have hrow2 : Hid (∀ W : World, W.ownsRow w.heap.size 3 1 (.slice (some ⟨w.heap.size, 0, none⟩) n n) n (ncells (L.set A (L[A]?.getD 0 ||| pB))) → (W.setCell ⟨w.heap.size, B, none⟩ (.int .i64 ((L[B]?.getD 0 ||| pA : Nat) : Int))).ownsRow w.heap.size 3 1 (.slice (some ⟨w.heap.size, 0, none⟩) n n) n (ncells L1)) := Lib.hid (fun W h => by
          have := (h.stored B (.int .i64 ((L[B]?.getD 0 ||| pA : Nat) : Int))).1
          rwa [ncells_set, ← hst] at this)
        have hcB : Hid (∀ W : World, W.ownsRow w.heap.size 3 1 (.slice (some ⟨w.heap.size, 0, none⟩) n n) n (ncells (L.set A (L[A]?.getD 0 ||| pB))) → W.cell? ⟨w.heap.size, B, none⟩ = some (.int .i64 ((L[B]?.getD 0 : Nat) : Int)) ∧ W.frozen? ⟨w.heap.size, B, none⟩ = false) := Lib.hid (fun W h => by
          have c := h.cellAt B (by omega)
          rw [ncells_at (by simp; omega), hLset] at c
          exact ⟨c, h.frozenAt B⟩)
        clear hst HST hlt16 hLset hlenL
        generalize ncells (L.set A (L[A]?.getD 0 ||| pB)) = LC1 at *
        generalize L[A]?.getD 0 ||| pB = x at *
        generalize L[B]?.getD 0 ||| pA = y at *
        generalize L[A]?.getD 0 = xa at *
        generalize L[B]?.getD 0 = xb at *
        go_wp2
        go_quiet (fail)
        have R1 : Hid ((wr.drewN nq).ownsRow w.heap.size 3 1 (.slice (some ⟨w.heap.size, 0, none⟩) n n) n (ncells L)) := Lib.hid hrow.out
        have B1 : Below w.heap.size w (wr.drewN nq) := hB.trans ⟨rfl, rfl, rfl, Nat.le_refl _, fun _ _ => rfl⟩
        have cA1 : (wr.drewN nq).cell? ⟨w.heap.size, A, none⟩ = some (.int .i64 (xa : Nat)) := cA
        have fA1 : (wr.drewN nq).frozen? ⟨w.heap.size, A, none⟩ = false := fA
        clear hrow hB cA fA hc1 hc2
        generalize wr.drewN nq = W1 at *
        go_wp2
        go_region
        go_wp2
        have R2 := Lib.hid (hrow1.out W1 R1.out).drew
        have B2 := (B1.setCell (p := ⟨w.heap.size, A, none⟩) (Nat.le_refl _) (.int .i64 (x : Nat))).drew
        obtain ⟨c2, f2⟩ := hcB.out _ R2.out
        clear R1 B1 cA1 fA1
        obtain ⟨W2, hW2⟩ : ∃ W2, W2 = (W1.setCell ⟨w.heap.size, A, none⟩ (.int .i64 (x : Nat))).drew := ⟨_, rfl⟩
        rw [← hW2] at R2 B2 c2 f2 ⊢
        clear hW2
        go_region
        go_wp2
        have R3 := Lib.hid (hrow2.out W2 R2.out).drew
        have B3 := (B2.setCell (p := ⟨w.heap.size, B, none⟩) (Nat.le_refl _) (.int .i64 (y : Nat))).drew
        go_roundw
        case rel => exact ⟨k + 1, by go_num, by omega, Lib.hid (by rw [← HL1.out]; exact hlt1.out), Lib.hid (by rw [← HL1.out]; exact R3.out), B3⟩
        case measure => simp [intOf]; omega
      · obtain rfl : k = es.length := by omega
        have HF : Hid (Elems wr wr.heap.size (some ⟨w.heap.size, 0, none⟩) (gr (n : Int) es own)) := Lib.hid (by
          have h := hrow.out
          rw [List.take_length] at h
          rw [← HG.out]
          exact elems_of_own h (Lt.nearOf_length n es own))
        clear HG
        go_wp2
        go_ret
        exact ⟨_, _, rfl, HF.out, hB⟩

end Go.Proofs.YtdlogklhekopgaaDoor

namespace Go.Proofs.YtdlogklhekopgaaDoor
open Go.RowKit Go.Shelf Go.Proofs
attribute [local go_sem] Oper.semAt_some

/-- a set of any number -/
def setN (x : Int) (n : Nat) : Nat := ((IntKind.u64.wrap x).tmod ((2 ^ n : Nat) : Int)).toNat
theorem setN_lt (x : Int) (n : Nat) (hn : n ≤ 16) : setN x n < 2 ^ n := by
  obtain ⟨r, hr, hl⟩ := u64_mod x (2 ^ n) (Nat.two_pow_pos n) (Nat.le_trans (Nat.pow_le_pow_right (by decide) hn) (by decide))
  unfold setN; rw [hr, Int.toNat_natCast]; exact hl

set_option maxRecDepth 100000 in
set_option maxHeartbeats 4000000 in
theorem set_val (x : Int) (n : Nat) (w : World) (hn : n ≤ 16) :
    Calls Tryd.prog 31 #[.int .i64 x, .int .i64 n] w fun e w' => e = .returned (.int .i64 (setN x n : Nat)) ∧ w' = w := by
  have hp : 2 ^ n ≤ 65536 := Nat.le_trans (Nat.pow_le_pow_right (by decide) hn) (by decide)
  have hp0 := Nat.two_pow_pos n
  have hwp : IntKind.u64.wrap ((2 : Int) ^ n) = ((2 ^ n : Nat) : Int) := by
    have e : ((2 : Int) ^ n) = ((2 ^ n : Nat) : Int) := by simp
    rw [e]; exact Lt.wrap_u64_nat _ (by omega)
  unfold setN
  generalize 2 ^ n = m at *
  obtain ⟨r, hr, hrl⟩ := u64_mod x m hp0 hp
  rw [hr, Int.toNat_natCast]
  clear hp0
  have hm0 : (((m : Nat) : Int) == 0) = false := by simp; omega
  go_enter Tryd.func31, Tryd.ntmps31
  go_wp2
  go_ret
  exact ⟨by go_num, rfl⟩

/-- a graph that is in order -/
structure Ok (N : Nat) (es : List (Int × Int)) : Prop where
  one : 1 ≤ N
  most : N ≤ 16
  ok : Lt.edgesOk (N : Int) (-1, -1) es = true
  len : es.length ≤ 1000
theorem Ok.mem {N : Nat} {es : List (Int × Int)} (h : Ok N es) : ∀ e ∈ es, 0 ≤ e.1 ∧ e.1 < e.2 ∧ e.2 < (N : Int) := Lt.edgesOk_mem h.ok
def G (N : Nat) (es : List (Int × Int)) (own : Bool) : List Nat := Lt.graph N es own
theorem gr_G (N : Nat) (es : List (Int × Int)) (own : Bool) : gr (N : Int) es own = G N es own := rfl
theorem G_length (N : Nat) (es : List (Int × Int)) (own : Bool) : (G N es own).length = N := Lt.graph_length N es own
theorem Ok.small {N : Nat} {es : List (Int × Int)} (h : Ok N es) (own : Bool) : Lt.Small (G N es own) := Lt.graph_small h.mem own
theorem Ok.sym {N : Nat} {es : List (Int × Int)} (h : Ok N es) (own : Bool) : Lt.Sym (G N es own) := Lt.graph_sym h.mem own
theorem Ok.pow {N : Nat} {es : List (Int × Int)} (h : Ok N es) : 2 ^ N ≤ 65536 := Nat.le_trans (Nat.pow_le_pow_right (by decide) h.most) (by decide)
theorem Ok.lt16 {N : Nat} {es : List (Int × Int)} (h : Ok N es) (own : Bool) : ∀ x ∈ G N es own, x < 65536 := fun x hx => by
  have := h.small own x hx
  rw [G_length] at this
  exact Nat.lt_of_lt_of_le this h.pow
theorem Ok.eff_lt {N : Nat} {es : List (Int × Int)} (h : Ok N es) (own : Bool) (s : Nat) : Lt.eff (G N es own) s < 2 ^ N := by
  have := Lt.eff_lt (l := G N es own) (m := N) (fun x hx => by have := h.small own x hx; rwa [G_length] at this) s
  exact this

theorem Ok.code {N : Nat} {es : List (Int × Int)} (h : Ok N es) (xs : List Nat) (hx : ∀ x ∈ xs, x < 2 ^ N) : code (N : Int) es (xs.map fun x : Nat => (x : Int)) = 0 := by
  have h1 := h.one
  have h2 := h.most
  unfold YtdlogklhekopgaaDoor.code
  rw [if_neg (by omega), if_neg (by rw [h.ok]; decide)]
  have : (xs.map fun x : Nat => (x : Int)).any (badSet (2 ^ (N : Int).toNat)) = false := by
    rw [List.any_eq_false]
    intro y hy
    obtain ⟨x, hxm, rfl⟩ := List.mem_map.1 hy
    have := hx x hxm
    unfold badSet
    rw [Int.toNat_natCast]
    simp only [Bool.or_eq_true, decide_eq_true_eq]
    omega
  rw [this]; rfl
theorem Ok.code0 {N : Nat} {es : List (Int × Int)} (h : Ok N es) : YtdlogklhekopgaaDoor.code (N : Int) es [] = 0 := h.code [] (by simp)
theorem Ok.code1 {N : Nat} {es : List (Int × Int)} (h : Ok N es) {S : Nat} (hS : S < 2 ^ N) : YtdlogklhekopgaaDoor.code (N : Int) es [(S : Int)] = 0 := h.code [S] (by simpa using hS)
theorem Ok.code2 {N : Nat} {es : List (Int × Int)} (h : Ok N es) {S T : Nat} (hS : S < 2 ^ N) (hT : T < 2 ^ N) : YtdlogklhekopgaaDoor.code (N : Int) es [(S : Int), (T : Int)] = 0 := h.code [S, T] (by simp; exact ⟨hS, hT⟩)

theorem effect_ok {N : Nat} {es : List (Int × Int)} (h : Ok N es) (v : Value) (own : Bool) {S : Nat} (hS : S < 2 ^ N) (w : World) (hv : ReadsP w v es) (hT : Tab w) (hw : 1 < w.heap.size) :
    Calls Tryd.prog 32 #[.int .i64 N, v, .bool own, .int .i64 S] w fun e w' => e = .returned (.tuple #[.int .i64 ((Lt.eff (G N es own) S : Nat) : Int), .int .i64 0]) ∧ Below w.heap.size w w' := by
  refine (effect_api N S v es own w h.len hv hT hw).mono ?_
  rw [h.code1 hS, if_pos rfl, Int.toNat_natCast, gr_G]
  exact fun e w' h => h
/-- some set has the effect -/
def can (N : Nat) (es : List (Int × Int)) (own : Bool) (S : Nat) : Bool := decide ((Lt.solveOf (G N es own) S).2 = 0)
theorem solved_can {N : Nat} {es : List (Int × Int)} (h : Ok N es) (own : Bool) {S : Nat} (hS : S < 2 ^ N) : solved N es own S = can N es own S := by
  unfold solved can
  rw [h.code1 hS, gr_G, Int.toNat_natCast]; simp
theorem solve_ok {N : Nat} {es : List (Int × Int)} (h : Ok N es) (v : Value) (own : Bool) {S : Nat} (hS : S < 2 ^ N) (w : World) (hv : ReadsP w v es) :
    Calls Tryd.prog 39 #[.int .i64 N, v, .bool own, .int .i64 S] w fun e w' => e = .returned (.tuple #[.int .i64 ((if can N es own S then (Lt.solveOf (G N es own) S).1 else 0 : Nat) : Int), .bool (can N es own S), .int .i64 0]) ∧ Below w.heap.size w w' := by
  refine (solve_api N S v es own w h.len hv).mono ?_
  rw [h.code1 hS, solved_can h own hS, gr_G, Int.toNat_natCast]
  exact fun e w' h => h
theorem fewest_ok {N : Nat} {es : List (Int × Int)} (h : Ok N es) (v : Value) (own : Bool) {S : Nat} (hS : S < 2 ^ N) (w : World) (hv : ReadsP w v es) (hT : Tab w) (hw : 1 < w.heap.size) :
    Calls Tryd.prog 36 #[.int .i64 N, v, .bool own, .int .i64 S] w fun e w' => e = .returned (.tuple #[.int .i64 ((if can N es own S then Lt.fewOf (G N es own) S else 0 : Nat) : Int), .bool (can N es own S), .int .i64 0]) ∧ Below w.heap.size w w' := by
  refine (fewest_api N S v es own w h.len hv hT hw).mono ?_
  rw [h.code1 hS, solved_can h own hS, gr_G, Int.toNat_natCast]
  exact fun e w' h => h
theorem refute_ok {N : Nat} {es : List (Int × Int)} (h : Ok N es) (v : Value) (own : Bool) {S : Nat} (hS : S < 2 ^ N) (w : World) (hv : ReadsP w v es) :
    Calls Tryd.prog 42 #[.int .i64 N, v, .bool own, .int .i64 S] w fun e w' => e = .returned (.tuple #[.int .i64 (((refuter (Lt.quietOf (G N es own)) S).getD 0 : Nat) : Int), .bool (refuter (Lt.quietOf (G N es own)) S).isSome, .int .i64 0]) ∧ Below w.heap.size w w' := by
  have hr : refuted N es own S = refuter (Lt.quietOf (G N es own)) S := by unfold refuted; rw [if_pos (h.code1 hS), gr_G, Int.toNat_natCast]
  refine (refute_api N S v es own w h.len hv).mono ?_
  rw [h.code1 hS, hr]
  exact fun e w' h => h
theorem isref_ok {N : Nat} {es : List (Int × Int)} (h : Ok N es) (v : Value) (own : Bool) {T Q : Nat} (hS : T < 2 ^ N) (hQ : Q < 2 ^ N) (w : World) (hv : ReadsP w v es) (hT : Tab w) (hw : 1 < w.heap.size) :
    Calls Tryd.prog 43 #[.int .i64 N, v, .bool own, .int .i64 T, .int .i64 Q] w fun e w' => e = .returned (.tuple #[.bool (decide (Lt.eff (G N es own) Q = 0) && oddB (Q &&& T)), .int .i64 0]) ∧ Below w.heap.size w w' := by
  refine (isref_api N T Q v es own w h.len hv hT hw).mono ?_
  unfold isRef
  rw [h.code2 hS hQ, gr_G, Int.toNat_natCast, Int.toNat_natCast]
  simp only [decide_true, Bool.true_and]
  exact fun e w' h => h
theorem reach_ok {N : Nat} {es : List (Int × Int)} (h : Ok N es) (v : Value) (own : Bool) (w : World) (hv : ReadsP w v es) :
    Calls Tryd.prog 40 #[.int .i64 N, v, .bool own] w fun e w' => e = .returned (.tuple #[.int .i64 ((2 ^ (Lt.basisOf (G N es own)).length : Nat) : Int), .int .i64 0]) ∧ Below w.heap.size w w' := by
  refine (reachable_api N v es own w h.len hv).mono ?_
  rw [h.code0, if_pos rfl, gr_G]
  exact fun e w' h => h
theorem quiet_ok {N : Nat} {es : List (Int × Int)} (h : Ok N es) (v : Value) (own : Bool) (w : World) (hv : ReadsP w v es) :
    Calls Tryd.prog 22 #[.int .i64 N, v, .bool own] w fun e w' => ∃ g, e = .returned (.tuple #[g, .int .i64 0]) ∧ w'.ownsRow w.heap.size 3 1 g (Lt.tidy (Lt.quietOf (G N es own))).length (ncells (Lt.tidy (Lt.quietOf (G N es own)))) ∧ Below w.heap.size w w' := by
  have hq : quietT N es own = Lt.tidy (Lt.quietOf (G N es own)) := by unfold quietT; rw [if_pos h.code0, gr_G]
  refine (quiet_api N v es own w h.len hv).mono ?_
  rw [h.code0, hq]
  exact fun e w' h => h
theorem near_ok {N : Nat} {es : List (Int × Int)} (h : Ok N es) (v : Value) (own : Bool) (w : World) (hv : ReadsP w v es) :
    Calls Tryd.prog 34 #[.int .i64 N, v, .bool own] w fun e w' => ∃ ad cap, e = .returned (.slice ad N cap) ∧ Elems w' w'.heap.size ad (G N es own) ∧ Below w.heap.size w w' :=
  refNear_any N h.one h.most v es own w h.len hv h.ok
theorem reff_ok {N : Nat} {es : List (Int × Int)} (h : Ok N es) (own : Bool) (ad : Option Addr) (cap : Nat) (s : Nat) (hs : s < 2 ^ N) (w : World) (he : Elems w w.heap.size ad (G N es own)) :
    Calls Tryd.prog 33 #[.slice ad N cap, .int .i64 s] w fun e w' => e = .returned (.int .i64 ((Lt.eff (G N es own) s : Nat) : Int)) ∧ w' = w := by
  have := refEff_any ad cap (G N es own) s w (Nat.lt_of_lt_of_le hs h.pow) (h.lt16 own) (by rw [G_length]; have := h.most; omega) he
  rwa [G_length] at this
theorem tame_ok (n : Int) (lv : Value) (es : List (Int × Int)) (most : Nat) (hm1 : 1 ≤ most) (hm : most ≤ 16) (w : World) (hes : ReadsP w lv es) :
    Calls Tryd.prog 30 #[.int .i64 n, lv, .int .i64 most] w fun e w' => ∃ (N : Nat) (L : List (Int × Int)) (ad : Option Addr) (k cap : Nat), e = .returned (.tuple #[.int .i64 N, .slice ad k cap]) ∧ N ≤ most ∧ Ok N L ∧ ReadsP w' (.slice ad k cap) L ∧ Below w.heap.size w w' := by
  refine (tame_any n lv es most hm1 hm w hes).mono ?_
  rintro e w' ⟨N, L, v, rfl, h1, h2, h3, h4, h5, hb⟩
  have hp := readsP_of_row h5
  obtain ⟨ad, k, cap, rfl⟩ := slice_of_row h5
  exact ⟨N, L.map Lt.toI, ad, k, cap, rfl, h2, ⟨h1, by omega, h4, by simp; omega⟩, hp, hb⟩

end Go.Proofs.YtdlogklhekopgaaDoor

namespace Go.Proofs.YtdlogklhekopgaaDoor
open Go.RowKit Go.Shelf Go.Proofs
attribute [local go_sem] Oper.semAt_some

theorem oddB_dot {N q t : Nat} (hq : q < 2 ^ N) (hN : N ≤ 64) : oddB (q &&& t) = Lt.dot N q t := Lt.pop_dot hq hN
theorem Ok.quiet_lt {N : Nat} {es : List (Int × Int)} (own : Bool) : ∀ q ∈ Lt.quietOf (G N es own), q < 2 ^ N := fun q hq => by
  have := (Lt.inv_of (G N es own)).ltQ q hq
  rwa [G_length] at this

theorem Ok.no_refuter {N : Nat} {es : List (Int × Int)} (h : Ok N es) (own : Bool) {t : Nat} (hc : can N es own t = true) : refuter (Lt.quietOf (G N es own)) t = none := by
  refine refuter_none fun j hj => ?_
  have hm := Lt.mem_getD hj
  have hd := Lt.not_refuted (h.sym own) (Lt.solve_sound (G N es own) t (by simpa [can] using hc)) ((Lt.inv_of (G N es own)).effQ _ hm)
  rw [G_length] at hd
  rw [oddB_dot (Ok.quiet_lt own _ hm) (by have := h.most; omega)]; exact hd

theorem all_facts {N : Nat} {es : List (Int × Int)} (h : Ok N es) : can N es true (2 ^ N - 1) = true ∧ (Lt.solveOf (G N es true) (2 ^ N - 1)).1 < 2 ^ N ∧ Lt.eff (G N es true) (Lt.solveOf (G N es true) (2 ^ N - 1)).1 = 2 ^ N - 1 := by
  have hs := Lt.sutner (h.small true) (h.sym true) (fun i hi => by rw [G_length] at hi; exact Lt.graph_own h.mem i hi)
  rw [G_length] at hs
  have hz := (Lt.solve_iff (G N es true) (2 ^ N - 1)).2 hs
  refine ⟨by unfold can; simpa using hz, ?_, Lt.solve_sound _ _ hz⟩
  have := Lt.solve_lt (G N es true) (2 ^ N - 1)
  rwa [G_length] at this

set_option maxRecDepth 100000 in
set_option maxHeartbeats 8000000 in
theorem lightSutner_any (n : Int) (lv : Value) (es : List (Int × Int)) (w : World) (hes : ReadsP w lv es) (hT : Tab w) (hw : 1 < w.heap.size) :
    Calls Tryd.prog 13 #[.int .i64 n, lv] w fun e w' => e = .returned (.bool true) ∧ Below w.heap.size w w' := by
  have ht := Lib.hid (tame_ok n lv es 16 (by decide) (by decide) w hes)
  clear hes
  go_enter Tryd.func13, Tryd.ntmps13
  go_wp2_with fail
  refine ht.out.mono ?_
  rintro e w1 ⟨N, L, ad, k, cap, rfl, -, hO, hp, hb1⟩
  have HO := Lib.hid hO
  have HP := Lib.hid hp
  have h16 := hO.most
  have hp0 := Nat.two_pow_pos N
  obtain ⟨hcan, hsl, hse⟩ := all_facts hO
  have hso := Lib.hid (fun W hv => solve_ok hO (.slice ad k cap) true (S := 2 ^ N - 1) (by omega) W hv)
  have hre := Lib.hid (fun W hv => refute_ok hO (.slice ad k cap) true (S := 2 ^ N - 1) (by omega) W hv)
  have hef := Lib.hid (fun W hv hT hw => effect_ok hO (.slice ad k cap) true hsl W hv hT hw)
  rw [hcan, if_pos rfl] at hso
  rw [hO.no_refuter true hcan] at hre
  rw [hse] at hef
  simp only [Option.getD_none, Option.isSome_none] at hre
  have hwp := wrap_pow N (by omega)
  have hA : ((2 ^ N : Nat) : Int) - 1 = ((2 ^ N - 1 : Nat) : Int) := by omega
  generalize (Lt.solveOf (G N L true) (2 ^ N - 1)).1 = s at *
  clear hO hp ht hcan hsl hse
  have hpl : 2 ^ N ≤ 65536 := HO.out.pow
  generalize 2 ^ N - 1 = A at *
  generalize 2 ^ N = M at *
  go_wp2_with fail
  refine (hso.out w1 HP.out).mono ?_
  rintro e w2 ⟨rfl, hb2⟩
  have HP2 := Lib.hid (HP.out.below hb2)
  have hB2 := hb1.trans (hb2.mono hb1.size)
  have hef' := Lib.hid (hef.out w2 HP2.out (hT.below hB2 hw) (by have := hB2.size; omega))
  clear hso HP hb2 hb1 hef
  go_wp2_with fail
  refine hef'.out.mono ?_
  rintro e w3 ⟨rfl, hb3⟩
  have HP3 := Lib.hid (HP2.out.below hb3)
  have hB3 := hB2.trans (hb3.mono hB2.size)
  clear HP2 hb3 hB2 hef'
  go_wp2_with fail
  refine (hre.out w3 HP3.out).mono ?_
  rintro e w4 ⟨rfl, hb4⟩
  have hB4 := hB3.trans (hb4.mono hB3.size)
  have haw := Lib.hid (awake_any w4 (hT.below hB4 hw) (by have := hB4.size; omega))
  clear hre HP3 hb4 hB3
  go_wp2_with fail
  refine haw.out.mono ?_
  rintro e w7 ⟨rfl, hb7⟩
  go_wp2
  go_ret
  exact ⟨rfl, hB4.trans (hb7.mono hB4.size)⟩

end Go.Proofs.YtdlogklhekopgaaDoor
