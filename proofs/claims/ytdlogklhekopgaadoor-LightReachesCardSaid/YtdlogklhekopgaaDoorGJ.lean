/- Contracts of the program's functions: a part of the proof. -/
import Derived.Test.YtdlogklhekopgaaDoorGI
import Derived.Test.YtdlogklhekopgaaDoorPA
import Derived.Laws.CopyOwn
set_option linter.unusedVariables false
set_option linter.unusedSimpArgs false

namespace Go.Proofs.YtdlogklhekopgaaDoor
open Go.RowKit Go.Shelf Go.Proofs
attribute [local go_sem] Oper.semAt_some

theorem Tryd.info4 : (Tryd.prog.info? 4).map (fun i => (i.zero, i.size, i.bytes)) = some (some (.bool false), 1, 1) := by kernel_rfl

/-- coefficients as cells -/
def bcells (f : Nat → Bool) (n : Nat) : List Value := (List.range n).map fun j => .bool (f j)
theorem bcells_length (f : Nat → Bool) (n : Nat) : (bcells f n).length = n := by simp [bcells]
theorem bcells_one (f : Nat → Bool) (n : Nat) : ∀ u ∈ bcells f n, u.oneCell' = true := by
  intro u hu; simp only [bcells, List.mem_map] at hu; obtain ⟨x, _, rfl⟩ := hu; rfl
theorem bcells_at {f : Nat → Bool} {n j : Nat} (h : j < n) : (bcells f n)[j]? = some (.bool (f j)) := by simp [bcells, h]
theorem bcells_congr {f g : Nat → Bool} {n : Nat} (h : ∀ j, j < n → f j = g j) : bcells f n = bcells g n := by
  unfold bcells; exact List.map_congr_left fun j hj => by rw [h j (List.mem_range.1 hj)]
theorem bcells_set {f g : Nat → Bool} {n i : Nat} (hi : i < n) (h : ∀ j, j ≠ i → f j = g j) : (bcells f n).set i (.bool (g i)) = bcells g n := by
  apply List.ext_getElem?
  intro j
  rw [List.getElem?_set]
  by_cases e : i = j
  · subst e; rw [if_pos rfl, if_pos (by rw [bcells_length]; exact hi), bcells_at hi]
  · rw [if_neg e]
    by_cases hj : j < n
    · rw [bcells_at hj, bcells_at hj, h j (fun x => e x.symm)]
    · rw [List.getElem?_eq_none (by rw [bcells_length]; omega), List.getElem?_eq_none (by rw [bcells_length]; omega)]

/-- a polynomial as it lies in memory, read alone -/
def Poly (w : World) (n₀ : Nat) (v : Value) (p : Nat) : Prop :=
  ∃ ad cap, v = .slice ad (Lt.plen p) cap ∧ ∀ j, j < Lt.plen p → ∃ g off, ad = some ⟨g, off, none⟩ ∧ g < n₀ ∧ w.cell? ⟨g, off + j, none⟩ = some (.bool (p.testBit j))
theorem Poly.below {w w' : World} {n₀ B : Nat} {v : Value} {p : Nat} (h : Poly w n₀ v p) (hb : Below B w w') (hB : n₀ ≤ B) : Poly w' n₀ v p := by
  obtain ⟨ad, cap, e, hc⟩ := h
  refine ⟨ad, cap, e, fun j hj => ?_⟩
  obtain ⟨g, off, e', hg, hcc⟩ := hc j hj
  exact ⟨g, off, e', hg, (hb.cell (p := ⟨g, off + j, none⟩) (show g < B by omega)).trans hcc⟩
theorem Poly.up {w : World} {n₀ n₁ : Nat} {v : Value} {p : Nat} (h : Poly w n₀ v p) (hn : n₀ ≤ n₁) : Poly w n₁ v p := by
  obtain ⟨ad, cap, e, hc⟩ := h
  refine ⟨ad, cap, e, fun j hj => ?_⟩
  obtain ⟨g, off, e', hg, hcc⟩ := hc j hj
  exact ⟨g, off, e', by omega, hcc⟩
theorem poly_zero (w : World) (n₀ : Nat) : Poly w n₀ (.slice none 0 0) 0 := ⟨none, 0, rfl, fun j hj => by simp [Lt.plen] at hj⟩

theorem full_of_made {w1 : World} {base g n : Nat} (h : w1.ownsRow base 4 1 (.slice (some ⟨g, 0, none⟩) n n) n (madeCells (Value.bool false).cells (n * 1)).toList) : w1.heap[g]? = some (.cells (List.replicate n (.bool false)).toArray 4 (0, 0)) := by
  rcases h.2 with ⟨he, _⟩ | ⟨g', cap, cur, he, _, hh, _, _, hcs, htk⟩
  · simp at he
  · obtain ⟨rfl, rfl⟩ : g = g' ∧ n = cap := by simpa using he
    rw [hh]
    have e : cur.toList = List.replicate n (.bool false) := by
      rw [List.take_of_length_le (by simp [hcs])] at htk
      rw [htk, Nat.mul_one]
      exact toList_madeCells_one (.bool false) n
    rw [← e]

theorem splice_bits {p P n : Nat} (hP : Lt.plen p = P) (hn : P ≤ n) : splice (List.replicate n (Value.bool false)) 0 (bcells p.testBit P) = bcells p.testBit n := by
  unfold splice
  rw [bcells_length]
  apply List.ext_getElem?
  intro j
  simp only [List.take_zero, List.nil_append, Nat.zero_add, List.drop_replicate]
  by_cases h1 : j < P
  · rw [List.getElem?_append_left (by rw [bcells_length]; exact h1), bcells_at h1, bcells_at (by omega)]
  · rw [List.getElem?_append_right (by rw [bcells_length]; omega), bcells_length]
    by_cases h2 : j < n
    · rw [bcells_at h2, Lt.bit_plen (by omega), List.getElem?_replicate, if_pos (by omega)]
    · rw [List.getElem?_eq_none (by simp; omega), List.getElem?_eq_none (by rw [bcells_length]; omega)]

theorem owns_full {w : World} {base g n : Nat} {cs : List Value} (hb : base ≤ g) (hn : n ≤ maxLen) (hl : cs.length = n) (h : w.heap[g]? = some (.cells cs.toArray 4 (0, 0))) : w.ownsRow base 4 1 (.slice (some ⟨g, 0, none⟩) n n) n cs :=
  ⟨by omega, .inr ⟨g, n, cs.toArray, rfl, hb, h, Nat.le_refl _, hn, by simp [hl], by rw [Nat.mul_one, ← hl]; exact List.take_length⟩⟩

set_option maxRecDepth 100000 in
set_option maxHeartbeats 4000000 in
/-- sum -/
theorem sum_any (v1 v2 : Value) (p q h : Nat) (w : World) (hp : Poly w w.heap.size v1 p) (hq : Poly w w.heap.size v2 q) (lp : Lt.plen p ≤ 1000) (lq : Lt.plen q ≤ 1000) (lh : h ≤ 1000) :
    Calls Tryd.prog 66 #[v1, v2, .int .i64 h] w fun e w' => ∃ v, e = .returned v ∧ Poly w' w'.heap.size v (Lt.psum p q h) ∧ Below w.heap.size w w' := by
  obtain ⟨a1, c1, rfl, h1⟩ := hp
  obtain ⟨a2, c2, rfl, h2⟩ := hq
  have H1 := Lib.hid h1
  have H2 := Lib.hid h2
  clear h1 h2
  obtain ⟨n, hn⟩ : ∃ n, n = max (Lt.plen p) (Lt.plen q + h) := ⟨_, rfl⟩
  have hmax : max ((Lt.plen p : Nat) : Int) ((Lt.plen q : Nat) + (h : Nat) : Int) = (n : Int) := by omega
  have hpn : Lt.plen p ≤ n := by omega
  have hqn : Lt.plen q + h ≤ n := by omega
  have hn3 : n ≤ 2000 := by omega
  have hrl := Lt.psum_plen p q h
  rw [← hn] at hrl
  clear hn
  obtain ⟨i0, hi0, hz0, hzs, hzb⟩ := info_parts Tryd.info4
  generalize hP : Lt.plen p = P at *
  generalize hQ : Lt.plen q = Q at *
  have HC1 : Hid (∀ w1, Below w.heap.size w w1 → 0 < P → ∃ ad, a1 = some ad ∧ ∀ (j : Nat) (v : Value), (bcells p.testBit P)[j]? = some v → w1.cell? (ad.add j) = some v) := Lib.hid (fun w1 hb hpos => by
    obtain ⟨g, off, e, hg, hc⟩ := H1.out 0 hpos
    refine ⟨_, e, fun j v hv => ?_⟩
    have hj : j < P := by have := (List.getElem?_eq_some_iff.1 hv).1; rwa [bcells_length] at this
    obtain ⟨g', off', e', hg', hc'⟩ := H1.out j hj
    obtain ⟨rfl, rfl⟩ : g = g' ∧ off = off' := by rw [e] at e'; simpa using e'
    rw [bcells_at hj] at hv
    rw [← hv]
    have := (hb.cell (p := ⟨g, off + j, none⟩) hg).trans hc'
    rcases j with _ | j <;> simpa [Addr.add] using this)
  have HST : Hid (∀ k, k < Q → ∀ j, j ≠ k + h → Lt.sumTo p q h k j = Lt.sumTo p q h (k + 1) j) := Lib.hid (fun k hk j hj => by
    unfold Lt.sumTo
    by_cases e : h ≤ j ∧ j < h + k
    · have e2 : j < h + (k + 1) := by omega
      simp [e.1, e.2, e2]
    · by_cases e1 : h ≤ j
      · have e2 : ¬ j < h + k := by omega
        have e3 : ¬ j < h + (k + 1) := by omega
        simp [e2, e3]
      · simp [e1])
  have HSV : Hid (∀ k, k < Q → Lt.sumTo p q h (k + 1) (k + h) = (Lt.sumTo p q h k (k + h) != q.testBit k)) := Lib.hid (fun k hk => by
    unfold Lt.sumTo
    have e1 : h ≤ k + h := by omega
    have e2 : ¬ k + h < h + k := by omega
    have e3 : k + h < h + (k + 1) := by omega
    have e4 : k + h - h = k := by omega
    simp only [e1, e2, e3, e4, decide_true, decide_false, Bool.true_and, Bool.and_false, Bool.false_and, Bool.xor_false]
    try (cases p.testBit (k + h) <;> cases q.testBit k <;> rfl))
  have HSE : Hid (∀ j, Lt.sumTo p q h Q j = (Lt.psum p q h).testBit j) := Lib.hid (fun j => by
    rw [Lt.psum_bit]; unfold Lt.sumTo
    by_cases e : j < h + Q
    · simp [e]
    · rw [Lt.bit_plen (p := q) (by omega)]; simp)
  have HS00 : Hid (∀ j, j < n → Lt.sumTo p q h 0 j = p.testBit j) := Lib.hid (fun j _ => by
      unfold Lt.sumTo
      by_cases e : h ≤ j
      · have e2 : ¬ j < h := by omega
        simp [e2]
      · simp [e])
  generalize Lt.sumTo p q h = S at *
  generalize Lt.psum p q h = R at *
  go_enter Tryd.func66, Tryd.ntmps66
  go_wp2_with (first
    | (refine wpList_make_full _ rfl _ _ 74 rfl w.heap.size 4 i0 (.bool false) 1 Tryd.underlying74 hi0 hz0 hzs .i64 .i64 _ _ n rfl rfl (by omega) (by omega) (by rw [hzb]; omega) (by unfold maxLen; omega) (Nat.le_refl _) ?_; intro w1 hown hgrow; have HFULL := Lib.hid (full_of_made hown); have HB1 : Below w.heap.size w w1 := (Below.refl _ w).grown hgrow (Nat.le_refl _) (fun k hk => by simp at hk); have hs1 : w.heap.size < w1.heap.size := (Array.getElem?_eq_some_iff.1 HFULL.out).1; clear hown hgrow)
    | (refine wpList_copy_splice rfl _ _ 74 74 rfl 4 Tryd.underlying74 (by kernel_rfl) (some ⟨w.heap.size, 0, none⟩) a1 n n P c1 rfl rfl w.heap.size 0 (List.replicate n (.bool false)) 4 HFULL.out (bcells p.testBit P) (by rw [bcells_length]; exact (Nat.min_eq_left hpn).symm) (fun hpos => ⟨rfl, HC1.out w1 HB1 (by rw [bcells_length] at hpos; exact hpos)⟩) (by rw [bcells_length, List.length_replicate]; omega) (bcells_one _ _) w.heap.size w HB1 (Nat.le_refl _) ?_; intro w2 hrow2 HB2; have HROW : Hid (w2.ownsRow w.heap.size 4 1 (.slice (some ⟨w.heap.size, 0, none⟩) n n) n (bcells p.testBit n)) := Lib.hid (owns_full (Nat.le_refl _) (by unfold maxLen; omega) (bcells_length _ _) (by rw [← splice_bits hP hpn]; exact hrow2.out)); clear hrow2))
  obtain ⟨wo, hwo⟩ : ∃ wo : World, wo = w2 := ⟨_, rfl⟩
  subst hwo
  have HS0 : Hid (wo.ownsRow w.heap.size 4 1 (.slice (some ⟨w.heap.size, 0, none⟩) n n) n (bcells (S 0) n)) := Lib.hid (by
    rw [bcells_congr HS00.out]; exact HROW.out)
  clear HS00
  clear HROW HC1 H1 hP HFULL HB1 hs1
  go_loopw [24] (fun i W => ∃ k : Nat, i = .int .i64 k ∧ k ≤ Q ∧ Hid (W.ownsRow w.heap.size 4 1 (.slice (some ⟨w.heap.size, 0, none⟩) n n) n (bcells (S k) n)) ∧ Below w.heap.size w W)
    (fun i _ => Q - (intOf i).toNat)
  case atStart => exact ⟨0, rfl, Nat.zero_le _, HS0, HB2⟩
  case round =>
    obtain ⟨k, rfl, hk, hrow, hB⟩ := hrel
    by_cases hlt : k < Q
    · obtain ⟨g, off, rfl, hgw, hc⟩ := H2.out k hlt
      replace hc := (hB.cell (p := ⟨g, off + k, none⟩) hgw).trans hc
      have hcell := hrow.out.cellAt (k + h) (by omega)
      rw [bcells_at (by omega)] at hcell
      have hfz := hrow.out.frozenAt (k + h)
      have hsv := Lib.hid (HSV.out k hlt)
      generalize hb1 : S k (k + h) = b1 at *
      generalize q.testBit k = b2 at *
      go_wp2
      go_roundw
      case rel =>
        have hs := hrow.out.stored (k + h) (.bool (b1 != b2))
        rw [← hsv.out, bcells_set (by omega) (fun j hj => HST.out k hlt j hj)] at hs
        rw [hsv.out] at hs
        exact ⟨k + 1, by go_num, by omega, Lib.hid hs.1, hB.setCell (p := ⟨w.heap.size, k + h, none⟩) (Nat.le_refl _) _⟩
      case measure => simp [intOf]; omega
    · obtain rfl : k = Q := by omega
      have HR : Hid (wr.ownsRow w.heap.size 4 1 (.slice (some ⟨w.heap.size, 0, none⟩) n n) n (bcells R.testBit n)) := Lib.hid (by
        have e := bcells_congr (n := n) (fun j _ => HSE.out j)
        rw [← e]; exact hrow.out)
      clear hrow HSE HST HSV HS0 H2 HB2
      go_wp2
      obtain ⟨wo, rfl⟩ : ∃ wo : World, wo = wr := ⟨_, rfl⟩
      go_loopw [10] (fun i W => ∃ m : Nat, i = .int .i64 m ∧ m ≤ n ∧ Hid (∀ j, m ≤ j → R.testBit j = false) ∧ W = wo)
        (fun i _ => (intOf i).toNat)
      case atStart => exact ⟨n, rfl, Nat.le_refl _, Lib.hid (fun j hj => Lt.bit_plen (by omega)), rfl⟩
      case round =>
        obtain ⟨m, rfl, hm, hz, rfl⟩ := hrel
        by_cases hm0 : 0 < m
        · have hcell := HR.out.cellAt (m - 1) (by omega)
          rw [bcells_at (by omega)] at hcell
          by_cases htop : R.testBit (m - 1) = true
          · have hpl : Hid (Lt.plen R = m) := Lib.hid (Lt.plen_of hz.out (.inr htop))
            rw [htop] at hcell
            clear hz
            go_wp2
            go_ret
            refine ⟨_, rfl, ⟨some ⟨w.heap.size, 0, none⟩, m, by rw [hpl.out]; rfl, fun j hj => ⟨_, _, rfl, (HR.out.lt _ rfl).2, ?_⟩⟩, hB⟩
            rw [hpl.out] at hj
            have := HR.out.cellAt j (by omega)
            rw [bcells_at (by omega)] at this
            simpa using this
          · have htf : R.testBit (m - 1) = false := by simpa using htop
            have hnz : Hid (∀ j, m - 1 ≤ j → R.testBit j = false) := Lib.hid (fun j hj => by
              by_cases e : j = m - 1
              · subst e; exact htf
              · exact hz.out j (by omega))
            rw [htf] at hcell
            clear hz htop htf
            go_wp2
            go_roundw
            case rel => exact ⟨m - 1, by go_num, by omega, hnz, trivial⟩
            case measure => simp [intOf]; omega
        · obtain rfl : m = 0 := by omega
          have hpl : Hid (Lt.plen R = 0) := Lib.hid (Lt.plen_of hz.out (.inl rfl))
          go_wp2
          go_ret
          exact ⟨_, rfl, ⟨some ⟨w.heap.size, 0, none⟩, 0, by rw [hpl.out]; rfl, fun j hj => by rw [hpl.out] at hj; omega⟩, hB⟩

end Go.Proofs.YtdlogklhekopgaaDoor

namespace Go.Proofs.YtdlogklhekopgaaDoor
open Go.RowKit Go.Shelf Go.Proofs
attribute [local go_sem] Oper.semAt_some

theorem poly_one (w : World) : Poly (w.alloc (.cells #[.bool true] 4)) (w.alloc (.cells #[.bool true] 4)).heap.size (.slice (some ⟨w.heap.size, 0, none⟩) 1 1) 1 :=
  ⟨_, 1, by rw [show Lt.plen 1 = 1 by decide], fun j hj => by
    have e : Lt.plen 1 = 1 := by decide
    rw [e] at hj
    obtain rfl : j = 0 := by omega
    exact ⟨_, _, rfl, by simp, cell_one_new _ _ _ 0 _ rfl⟩⟩

set_option maxRecDepth 100000 in
set_option maxHeartbeats 4000000 in
/-- path -/
theorem path_any (k : Nat) (more : Bool) (hk : k ≤ 300) (w : World) :
    Calls Tryd.prog 51 #[.int .i64 k, .bool more] w fun e w' => ∃ v, e = .returned v ∧ Poly w' w'.heap.size v (Lt.pathOf more k) ∧ Below w.heap.size w w' := by
  by_cases hk0 : k = 0
  · subst hk0
    go_enter Tryd.func51, Tryd.ntmps51
    go_wp2
    go_ret
    exact ⟨_, rfl, poly_zero _ _, (Below.refl _ w).alloc (Nat.le_refl _) _⟩
  · have hf : Lt.pathOf more k = (Lt.pathTo more (k - 1)).2 := by unfold Lt.pathOf; rw [if_neg hk0]
    rw [hf]
    have hk1 : ((k : Int) == 0) = false := by simpa using hk0
    have hlen := Lib.hid (Lt.pathTo_plen more)
    have hst : Hid (∀ j, (Lt.pathTo more (j + 1)).1 = (Lt.pathTo more j).2 ∧ (Lt.pathTo more (j + 1)).2 = (if more then Lt.psum (Lt.psum (Lt.pathTo more j).1 (Lt.pathTo more j).2 1) (Lt.pathTo more j).2 0 else Lt.psum (Lt.pathTo more j).1 (Lt.pathTo more j).2 1)) := Lib.hid (fun j => ⟨rfl, rfl⟩)
    have h0 : Hid ((Lt.pathTo more 0).1 = 0 ∧ (Lt.pathTo more 0).2 = 1) := Lib.hid ⟨rfl, rfl⟩
    clear hf
    generalize Lt.pathTo more = T at *
    go_enter Tryd.func51, Tryd.ntmps51
    go_wp2
    go_loopw [5, 6, 13] (fun v1 v2 i W => ∃ j : Nat, i = .int .i64 j ∧ j ≤ k - 1 ∧ Hid (Poly W W.heap.size v1 (T j).1) ∧ Hid (Poly W W.heap.size v2 (T j).2) ∧ Below w.heap.size w W)
      (fun _ _ i _ => k - 1 - (intOf i).toNat)
    case atStart => exact ⟨0, rfl, Nat.zero_le _, Lib.hid (by rw [h0.out.1]; exact poly_zero _ _), Lib.hid (by rw [h0.out.2]; exact poly_one w), (Below.refl _ w).alloc (Nat.le_refl _) _⟩
    case round =>
      obtain ⟨j, rfl, hj, hp1, hp2, hB⟩ := hrel
      have hl := hlen.out j
      by_cases hlt : j < k - 1
      · have hs1 := Lib.hid (sum_any _ _ _ _ 1 wr hp1.out hp2.out (by omega) (by omega) (by omega))
        have hpl := Lt.psum_plen (T j).1 (T j).2 1
        have hnx := Lib.hid (hst.out j)
        cases more with
        | false =>
          simp only [Bool.false_eq_true, if_false] at hnx
          go_wp2_with fail
          refine hs1.out.mono ?_
          rintro e w1 ⟨v, rfl, hp3, hb1⟩
          have hp2' := Lib.hid (hp2.out.below hb1 (Nat.le_refl _))
          have hp3' := Lib.hid hp3
          clear hp1 hp2 hp3 hs1
          go_wp2
          go_roundw
          case rel => exact ⟨j + 1, by go_num, by omega, Lib.hid (by rw [hnx.out.1]; exact hp2'.out.up hb1.size), Lib.hid (by rw [hnx.out.2]; exact hp3'.out), hB.trans (hb1.mono hB.size)⟩
          case measure => simp [intOf]; omega
        | true =>
          simp only [if_true] at hnx
          go_wp2_with fail
          refine hs1.out.mono ?_
          rintro e w1 ⟨v, rfl, hp3, hb1⟩
          have hp2' := Lib.hid ((hp2.out.below hb1 (Nat.le_refl _)).up hb1.size)
          have hs2 := Lib.hid (sum_any _ _ _ _ 0 w1 hp3 hp2'.out (by omega) (by omega) (by omega))
          clear hp1 hp2 hp3 hs1
          go_wp2_with fail
          refine hs2.out.mono ?_
          rintro e w2 ⟨v', rfl, hp4, hb2⟩
          have hp2'' := Lib.hid ((hp2'.out.below hb2 (Nat.le_refl _)).up hb2.size)
          have hp4' := Lib.hid hp4
          clear hp2' hp4 hs2
          go_wp2
          go_roundw
          case rel => exact ⟨j + 1, by go_num, by omega, Lib.hid (by rw [hnx.out.1]; exact hp2''.out), Lib.hid (by rw [hnx.out.2]; exact hp4'.out), hB.trans ((hb1.trans (hb2.mono hb1.size)).mono hB.size)⟩
          case measure => simp [intOf]; omega
      · obtain rfl : j = k - 1 := by omega
        go_wp2
        go_ret
        exact ⟨_, rfl, hp2.out, hB⟩

end Go.Proofs.YtdlogklhekopgaaDoor

namespace Go.Proofs.YtdlogklhekopgaaDoor
open Go.RowKit Go.Shelf Go.Proofs
attribute [local go_sem] Oper.semAt_some

def vlen : Value → Nat
  | .slice _ n _ => n
  | _ => 0
theorem Poly.vlen {w : World} {n₀ : Nat} {v : Value} {p : Nat} (h : Poly w n₀ v p) : vlen v = Lt.plen p := by
  obtain ⟨ad, cap, rfl, _⟩ := h; rfl
theorem Poly.form {w : World} {n₀ : Nat} {v : Value} {p : Nat} (h : Poly w n₀ v p) : ∃ ad cap, v = .slice ad (Lt.plen p) cap := by
  obtain ⟨ad, cap, rfl, _⟩ := h; exact ⟨_, _, rfl⟩

set_option maxRecDepth 100000 in
set_option maxHeartbeats 4000000 in
/-- common -/
theorem common_any (v1 v2 : Value) (p q : Nat) (w : World) (hp : Poly w w.heap.size v1 p) (hq : Poly w w.heap.size v2 q) (lp : Lt.plen p ≤ 500) (lq : Lt.plen q ≤ 500) :
    Calls Tryd.prog 50 #[v1, v2] w fun e w' => ∃ v, e = .returned v ∧ Poly w' w'.heap.size v (Lt.gcdP p q) ∧ Below w.heap.size w w' := by
  have HP := Lib.hid hp
  have HQ := Lib.hid hq
  clear hp hq
  go_enter Tryd.func50, Tryd.ntmps50
  go_wp2
  go_loopw [0, 1] (fun v1 v2 W => ∃ (a b : Nat), Hid (Lt.gcdP a b = Lt.gcdP p q) ∧ Lt.plen a ≤ 500 ∧ Lt.plen b ≤ 500 ∧ Hid (Poly W W.heap.size v1 a) ∧ Hid (Poly W W.heap.size v2 b) ∧ Below w.heap.size w W)
    (fun _ v2 _ => vlen v2)
  case atStart => exact ⟨p, q, Lib.hid rfl, lp, lq, HP, HQ, Below.refl _ _⟩
  case round =>
    obtain ⟨a, b, hg, la, lb, hpa, hpb, hB⟩ := hrel
    obtain ⟨ad2, cap2, hv2⟩ := hpb.out.form
    subst hv2
    by_cases hb0 : b = 0
    · subst hb0
      have hl : Lt.plen 0 = 0 := rfl
      rw [hl] at hpb ⊢
      go_wp2
      go_ret
      exact ⟨_, rfl, by rw [← hg.out]; exact hpa.out, hB⟩
    · have hbp : 0 < Lt.plen b := by unfold Lt.plen; rw [if_neg hb0]; omega
      obtain ⟨wo, hwo⟩ : ∃ wo : World, wo = wr := ⟨_, rfl⟩
      subst hwo
      have hrm := Lib.hid (Lt.rem_plen (a := a) hb0)
      have hgs := Lib.hid (Lt.gcdP_step (a := a) hb0)
      go_wp2
      go_loopw [0] (fun v1 W => ∃ (c : Nat), Hid (Lt.rem c b = Lt.rem a b) ∧ Lt.plen c ≤ 500 ∧ Hid (Poly W W.heap.size v1 c) ∧ Below wo.heap.size wo W)
        (fun v1 _ => vlen v1)
      case atStart => exact ⟨a, Lib.hid rfl, la, hpa, Below.refl _ _⟩
      case round =>
        obtain ⟨c, hr, lc, hpc, hBc⟩ := hrel
        obtain ⟨ad1, cap1, hv1⟩ := hpc.out.form
        subst hv1
        by_cases hle : Lt.plen b ≤ Lt.plen c
        · have hs1 := Lib.hid (sum_any _ _ _ _ (Lt.plen c - Lt.plen b) wr hpc.out ((hpb.out.below hBc (Nat.le_refl _)).up hBc.size) (by omega) (by omega) (by omega))
          have hstep := Lib.hid (Lt.rem_step hb0 hle)
          have hless := Lt.psum_less hb0 hle
          have hsub : ((Lt.plen c : Nat) : Int) - ((Lt.plen b : Nat) : Int) = ((Lt.plen c - Lt.plen b : Nat) : Int) := by omega
          generalize Lt.psum c b (Lt.plen c - Lt.plen b) = d at *
          generalize Lt.plen c - Lt.plen b = dd at *
          go_wp2_with fail
          refine hs1.out.mono ?_
          rintro e w1 ⟨v, rfl, hp3, hb1⟩
          obtain ⟨ad3, cap3, hv3⟩ := hp3.form
          subst hv3
          have hp3' := Lib.hid hp3
          clear hp3 hs1
          go_wp2
          go_roundw
          case rel => exact ⟨d, Lib.hid (hstep.out.symm.trans hr.out), by omega, hp3', hBc.trans (hb1.mono hBc.size)⟩
          case measure => simp [vlen]; omega
        · have hrem := Lib.hid (Lt.rem_end (show Lt.plen c < Lt.plen b by omega))
          have hcr : c = Lt.rem a b := by rw [← hr.out, hrem.out]
          have hlc : Lt.plen c < Lt.plen b := by omega
          clear hrem hr hrm
          rw [← hcr] at hgs
          clear hcr
          go_wp2
          go_roundw
          case rel => exact ⟨b, c, Lib.hid (hgs.out.symm.trans hg.out), lb, lc, Lib.hid ((hpb.out.below hBc (Nat.le_refl _)).up hBc.size), hpc, hB.trans (hBc.mono hB.size)⟩
          case measure => simp [vlen]; omega

/-- the number of sets in the quiet basis of a grid -/
def gridQ (r c : Nat) (own : Bool) : Int := ((Lt.plen (Lt.gcdP (Lt.pathOf own (r + 1)) (Lt.pathOf false (c + 1))) : Nat) : Int) - 1

/-- the sides of a grid for GridQuiet -/
def sidesOk (r c : Int) : Bool := decide (1 ≤ r) && decide (1 ≤ c) && decide (r ≤ 60) && decide (c ≤ 60)

set_option maxHeartbeats 1000000 in
theorem gridQuiet_bad (r c : Int) (own : Bool) (h : sidesOk r c = false) (w : World) :
    Calls Tryd.prog 20 #[.int .i64 r, .int .i64 c, .bool own] w fun e w' => e = .returned (.tuple #[.int .i64 0, .int .i64 1]) ∧ w' = w := by
  by_cases h1 : min r c < 1
  · clear h
    go_enter Tryd.func20, Tryd.ntmps20
    go_wp2
    go_ret2
    exact ⟨rfl, rfl⟩
  · have h2 : 60 < max r c := by
      unfold sidesOk at h
      have e1 : decide (1 ≤ r) = true := by simp; omega
      have e2 : decide (1 ≤ c) = true := by simp; omega
      rw [e1, e2] at h
      simp at h
      omega
    clear h
    go_enter Tryd.func20, Tryd.ntmps20
    go_wp2
    go_ret2
    exact ⟨rfl, rfl⟩

set_option maxRecDepth 100000 in
set_option maxHeartbeats 1000000 in
theorem gridQuiet_good (r c : Nat) (own : Bool) (hr : 1 ≤ r) (hc : 1 ≤ c) (hr60 : r ≤ 60) (hc60 : c ≤ 60) (w : World) :
    Calls Tryd.prog 20 #[.int .i64 r, .int .i64 c, .bool own] w fun e w' => e = .returned (.tuple #[.int .i64 (gridQ r c own), .int .i64 0]) ∧ Below w.heap.size w w' := by
  have hp1 := Lib.hid (fun W => path_any (r + 1) own (by omega) W)
  have hp2 := Lib.hid (fun W => path_any (c + 1) false (by omega) W)
  have e1 : ((r + 1 : Nat) : Int) = (r : Int) + 1 := by omega
  have e2 : ((c + 1 : Nat) : Int) = (c : Int) + 1 := by omega
  rw [e1] at hp1
  rw [e2] at hp2
  clear e1 e2
  have l1 := Lt.pathOf_plen own (r + 1)
  have l2 := Lt.pathOf_plen false (c + 1)
  have hcm := Lib.hid (fun v1 v2 W h1 h2 => common_any v1 v2 (Lt.pathOf own (r + 1)) (Lt.pathOf false (c + 1)) W h1 h2 (by omega) (by omega))
  have l3 := Lt.gcdP_plen (Lt.pathOf own (r + 1)) (Lt.pathOf false (c + 1))
  unfold gridQ
  generalize Lt.pathOf own (r + 1) = p at *
  generalize Lt.pathOf false (c + 1) = q at *
  generalize Lt.gcdP p q = g at *
  go_enter Tryd.func20, Tryd.ntmps20
  go_wp2_with fail
  refine (hp1.out _).mono ?_
  rintro e w1 ⟨v1, rfl, hq1, hb1⟩
  have hq1' := Lib.hid hq1
  clear hq1
  go_wp2_with fail
  refine (hp2.out _).mono ?_
  rintro e w2 ⟨v2, rfl, hq2, hb2⟩
  have hc3 := Lib.hid (hcm.out v1 v2 w2 ((hq1'.out.below hb2 (Nat.le_refl _)).up hb2.size) hq2)
  clear hq2 hq1' hp1 hp2 hcm
  go_wp2_with fail
  refine hc3.out.mono ?_
  rintro e w3 ⟨v3, rfl, hq3, hb3⟩
  obtain ⟨ad3, cap3, hv3⟩ := hq3.form
  subst hv3
  clear hq3 hc3
  go_wp2
  go_ret2
  have hs := hb1.size
  have hs2 := hb2.size
  have hwr : wrap64 (((Lt.plen g : Nat) : Int) - 1) = ((Lt.plen g : Nat) : Int) - 1 := by unfold wrap64; omega
  exact ⟨by rw [← hwr]; rfl, (hb1.trans (hb2.mono hs)).trans (hb3.mono (by omega))⟩

/-- the powers of a polynomial whose coefficient is 1, from the first k -/
def powersTo (p k : Nat) : List Nat := (List.range k).filter fun i => p.testBit i
def powersOf (k : Nat) : List Nat := powersTo (Lt.pathOf false k) (Lt.plen (Lt.pathOf false k))
theorem powersTo_succ (p k : Nat) : powersTo p (k + 1) = powersTo p k ++ (if p.testBit k then [k] else []) := by
  unfold powersTo
  rw [List.range_succ, List.filter_append]
  cases h : p.testBit k <;> simp [h]
theorem powersTo_length (p : Nat) : ∀ k, (powersTo p k).length ≤ k := fun k => by
  unfold powersTo
  have := List.length_filter_le (fun i => p.testBit i) (List.range k)
  simpa using this

set_option maxHeartbeats 1000000 in
theorem polynomial_bad (k : Int) (h : k < 0 ∨ 200 < k) (w : World) :
    Calls Tryd.prog 23 #[.int .i64 k] w fun e w' => e = .returned (.tuple #[.slice none 0 0, .int .i64 1]) ∧ w' = w := by
  by_cases h1 : k < 0
  · clear h
    go_enter Tryd.func23, Tryd.ntmps23
    go_wp2
    go_ret2
    exact ⟨rfl, rfl⟩
  · have h2 : 200 < k := by omega
    clear h
    go_enter Tryd.func23, Tryd.ntmps23
    go_wp2
    go_ret2
    exact ⟨rfl, rfl⟩

set_option maxRecDepth 100000 in
set_option maxHeartbeats 4000000 in
theorem polynomial_good (k : Nat) (hk : k ≤ 200) (w : World) :
    Calls Tryd.prog 23 #[.int .i64 k] w fun e w' => ∃ v, e = .returned (.tuple #[v, .int .i64 0]) ∧ w'.ownsRow w.heap.size 3 1 v (powersOf k).length (ncells (powersOf k)) ∧ Below w.heap.size w w' := by
  have hp1 := Lib.hid (fun W => path_any k false (by omega) W)
  have l1 := Lt.pathOf_plen false k
  unfold powersOf
  generalize Lt.pathOf false k = p at *
  obtain ⟨i0, hi0, hz0, hzs, hzb⟩ := info_parts Tryd.info3
  go_enter Tryd.func23, Tryd.ntmps23
  go_wp2_with fail
  refine (hp1.out _).mono ?_
  rintro e w1 ⟨v1, rfl, ⟨ad, cap, rfl, hcs⟩, hb1⟩
  have HC := Lib.hid hcs
  clear hcs hp1
  go_wp2
  obtain ⟨wo, hwo⟩ : ∃ wo : World, wo = w1 := ⟨_, rfl⟩
  subst hwo
  go_loopw [4, 16] (fun v i W => ∃ j : Nat, i = .int .i64 j ∧ j ≤ Lt.plen p ∧ Hid (W.ownsRow wo.heap.size 3 1 v (powersTo p j).length (ncells (powersTo p j))) ∧ Below wo.heap.size wo W)
    (fun _ i _ => Lt.plen p - (intOf i).toNat)
  case atStart => exact ⟨0, rfl, Nat.zero_le _, Lib.hid (World.ownsRow_nil _ _ _ _), Below.refl _ _⟩
  case round =>
    obtain ⟨j, rfl, hj, hrow, hB⟩ := hrel
    obtain ⟨a1, n1, c1, hv⟩ := slice_of_row hrow.out
    subst hv
    have hl1 := powersTo_length p j
    by_cases hlt : j < Lt.plen p
    · obtain ⟨g, off, rfl, hgw, hc⟩ := HC.out j hlt
      replace hc := (hB.cell (p := ⟨g, off + j, none⟩) hgw).trans hc
      have hst := Lib.hid (powersTo_succ p j)
      cases hb : p.testBit j with
      | false =>
        rw [hb] at hc hst
        simp only [Bool.false_eq_true, if_false, List.append_nil] at hst
        clear hb
        go_wp2
        go_roundw
        case rel => exact ⟨j + 1, by go_num, by omega, Lib.hid (by rw [hst.out]; exact hrow.out), hB⟩
        case measure => simp [intOf]; omega
      | true =>
        rw [hb] at hc hst
        simp only [if_true] at hst
        clear hb
        have hfl : Hid ((powersTo p (j + 1)).length = (powersTo p j).length + 1 ∧ ncells (powersTo p (j + 1)) = ncells (powersTo p j) ++ [.int .i64 (j : Nat)]) := Lib.hid (by
          rw [hst.out]; exact ⟨by simp, by simp [ncells]⟩)
        clear hst
        go_wp2_with (at_builtin; refine wpList_append_own _ rfl _ _ 36 rfl wo.heap.size 3 i0 _ 1 8 Tryd.underlying36 hi0 hz0 hzs hzb rfl (by decide) (.slice a1 n1 c1) (powersTo p j).length (ncells (powersTo p j)) rfl (hrow.out.alloc _) ⟨wr.heap.size, 0, none⟩ 1 1 [.int .i64 j] rfl rfl (cell_one_new _ _ _) (by simp [Value.oneCell']) (by unfold maxLen; omega) (by omega) (by have := hB.size; simp; omega) ?_; intro v' w2 hown' hgrow _; obtain ⟨g', cap', rfl⟩ := ownsRow_succ hown'; have HOWN := Lib.hid hown'; have HB1 : Below wo.heap.size wo w2 := (hB.alloc hB.size _).grown hgrow (by have := hB.size; simp; omega) (fun k hk => (hrow.out.lt k hk).1); clear hown' hgrow)
        go_roundw
        case rel => exact ⟨j + 1, by go_num, by omega, Lib.hid (by rw [hfl.out.1, hfl.out.2]; exact HOWN.out), HB1⟩
        case measure => simp [intOf]; omega
    · obtain rfl : j = Lt.plen p := by omega
      go_wp2
      go_ret2
      exact ⟨_, rfl, Go.Joins.ownsRow_le hrow.out hb1.size, hb1.trans (hB.mono hb1.size)⟩

end Go.Proofs.YtdlogklhekopgaaDoor

namespace Go.Proofs.YtdlogklhekopgaaDoor
open Go.RowKit Go.Shelf Go.Proofs
attribute [local go_sem] Oper.semAt_some

def two : List (Int × Int) := [(0, 1)]
theorem two_code : code 2 two [] = 0 := by decide +kernel
theorem two_quiet : quietT 2 two true = [3] := by
  unfold quietT
  rw [if_pos two_code]
  have e : Lt.quietOf (gr 2 two true) = [3] := by decide +kernel
  rw [e]
  unfold Lt.tidy Lt.tidyTo Lt.asc
  have e2 : Lt.tidyStep [] 3 = [3] := by
    unfold Lt.tidyStep Lt.desc
    have e3 : Lt.minRed [] 3 = 3 := rfl
    rw [e3]
    simp
  simp [e2]
theorem two_ref : isRef 2 two true 1 3 = true := by decide +kernel
theorem two_code2 : code 2 two [1, 3] = 0 := by decide +kernel
theorem three_solved : solved 9 (Lt.gridE 3 3) true 511 = true := by decide +kernel
theorem three_code : code 9 (Lt.gridE 3 3) [511] = 0 := by decide +kernel
theorem three_few : Lt.fewOf (gr 9 (Lt.gridE 3 3) true) 511 = 341 := by decide +kernel
theorem p3 : powersOf 3 = [0, 2] := by decide +kernel
theorem q5 : gridQ 5 5 true = 2 := by decide +kernel
theorem c0 : code 0 [] [] = 1 := by decide +kernel
theorem g3 : (Lt.gridOf 3 3).length = 12 := by decide +kernel

theorem readsP_one (w : World) (a b : Int) : ReadsP (w.alloc (.cells #[.int .i64 a, .int .i64 b] 29)) (.slice (some ⟨w.heap.size, 0, none⟩) 1 1) [(a, b)] :=
  .inr ⟨w.heap.size, 0, 1, rfl, by simp, fun j hj => by
    obtain rfl : j = 0 := by simpa using hj
    exact ⟨cell_two_new w _ _ _ 0 _ rfl, cell_two_new w _ _ _ 1 _ rfl⟩⟩

/-- a row of pairs of numbers, read -/
theorem readsP_of_row {w : World} {base : Nat} {e : TypeId} {v : Value} {B : List (Nat × Nat)} (h : w.ownsRow base e 2 v B.length (pcells B)) : ReadsP w v (B.map Lt.toI) := by
  rcases h.2 with ⟨rfl, h0⟩ | ⟨g, cap, cur, rfl, hg, hh, hnc, hcm, hcs, htk⟩
  · exact .inl ⟨rfl, by simp [List.length_eq_zero_iff.1 h0]⟩
  · have hgl : g < w.heap.size := (Array.getElem?_eq_some_iff.1 hh).1
    refine .inr ⟨g, 0, cap, by simp, hgl, fun j hj => ?_⟩
    have hj' : j < B.length := by simpa using hj
    obtain ⟨h1, h2⟩ := pcells_at B j hj'
    have e : (B.map Lt.toI)[j]?.getD (0, 0) = ((B[j].1 : Int), (B[j].2 : Int)) := by simp [hj', Lt.toI]
    rw [e]
    rw [← htk] at h1 h2
    rw [List.getElem?_take, if_pos (by omega)] at h1 h2
    constructor
    · simp only [World.cell?, hh, Nat.zero_add]; simpa using h1
    · simp only [World.cell?, hh, Nat.zero_add]; simpa using h2

theorem aw_quiet (v : Value) (w : World) (hv : ReadsP w v two) : Calls Tryd.prog 22 #[.int .i64 2, v, .bool true] w fun e w' => ∃ g cap, e = .returned (.tuple #[.slice (some ⟨g, 0, none⟩) 1 cap, .int .i64 0]) ∧ g < w'.heap.size ∧ w'.cell? ⟨g, 0, none⟩ = some (.int .i64 3) ∧ Below w.heap.size w w' := by
  refine (quiet_api 2 v two true w (by decide) hv).mono ?_
  rw [two_quiet, two_code]
  rintro e w' ⟨v, rfl, hr, hb⟩
  obtain ⟨g, cap, rfl⟩ := ownsRow_succ hr
  refine ⟨g, cap, rfl, (hr.lt g rfl).2, ?_, hb⟩
  have := hr.cellAt 0 (by decide)
  simpa [ncells] using this
theorem aw_ref (v : Value) (w : World) (hv : ReadsP w v two) (hT : Tab w) (hw : 1 < w.heap.size) : Calls Tryd.prog 43 #[.int .i64 2, v, .bool true, .int .i64 1, .int .i64 3] w fun e w' => e = .returned (.tuple #[.bool true, .int .i64 0]) ∧ Below w.heap.size w w' := by
  refine (isref_api 2 1 3 v two true w (by decide) hv hT hw).mono ?_
  rw [two_code2, two_ref]
  exact fun e w' h => h
theorem aw_grid (w : World) : Calls Tryd.prog 16 #[.int .i64 3, .int .i64 3] w fun e w' => ∃ g cap, e = .returned (.tuple #[.int .i64 9, .slice (some ⟨g, 0, none⟩) 12 cap, .int .i64 0]) ∧ ReadsP w' (.slice (some ⟨g, 0, none⟩) 12 cap) (Lt.gridE 3 3) ∧ Below w.heap.size w w' := by
  refine (grid_good 3 3 (by decide) (by decide) (by decide) w).mono ?_
  rintro e w' ⟨v, rfl, hr, hb⟩
  have hr' := hr
  rw [g3] at hr'
  obtain ⟨g, cap, rfl⟩ := ownsRow_succ hr'
  exact ⟨g, cap, rfl, readsP_of_row hr, hb⟩
theorem aw_few (v : Value) (w : World) (hv : ReadsP w v (Lt.gridE 3 3)) (hT : Tab w) (hw : 1 < w.heap.size) : Calls Tryd.prog 36 #[.int .i64 9, v, .bool true, .int .i64 511] w fun e w' => e = .returned (.tuple #[.int .i64 341, .bool true, .int .i64 0]) ∧ Below w.heap.size w w' := by
  refine (fewest_api 9 511 v (Lt.gridE 3 3) true w (by decide +kernel) hv hT hw).mono ?_
  rw [three_code, three_solved, if_pos rfl, show Int.toNat 511 = 511 from rfl, three_few]
  exact fun e w' h => h
theorem aw_poly (w : World) : Calls Tryd.prog 23 #[.int .i64 3] w fun e w' => ∃ g cap, e = .returned (.tuple #[.slice (some ⟨g, 0, none⟩) 2 cap, .int .i64 0]) ∧ g < w'.heap.size ∧ w'.cell? ⟨g, 0, none⟩ = some (.int .i64 0) ∧ w'.cell? ⟨g, 1, none⟩ = some (.int .i64 2) ∧ Below w.heap.size w w' := by
  refine (polynomial_good 3 (by decide) w).mono ?_
  rw [p3]
  rintro e w' ⟨v, rfl, hr, hb⟩
  obtain ⟨g, cap, rfl⟩ := ownsRow_succ hr
  refine ⟨g, cap, rfl, (hr.lt g rfl).2, ?_, ?_, hb⟩
  · have := hr.cellAt 0 (by decide)
    simpa [ncells] using this
  · have := hr.cellAt 1 (by decide)
    simpa [ncells] using this
theorem aw_gq (w : World) : Calls Tryd.prog 20 #[.int .i64 5, .int .i64 5, .bool true] w fun e w' => e = .returned (.tuple #[.int .i64 2, .int .i64 0]) ∧ Below w.heap.size w w' := by
  refine (gridQuiet_good 5 5 true (by decide) (by decide) (by decide) (by decide) w).mono ?_
  rw [q5]
  exact fun e w' h => h
theorem aw_check (w : World) : Calls Tryd.prog 18 #[.int .i64 0, .slice none 0 0] w fun e w' => e = .returned (.int .i64 1) ∧ Below w.heap.size w w' := by
  refine (check_api 0 (.slice none 0 0) [] w (by decide) (.inl ⟨rfl, rfl⟩)).mono ?_
  rw [c0]
  exact fun e w' h => h

set_option maxRecDepth 100000 in
set_option maxHeartbeats 8000000 in
/-- awake -/
theorem awake_any (w : World) (hT : Tab w) (hw : 1 < w.heap.size) : Calls Tryd.prog 19 #[] w fun e w' => e = .returned (.bool true) ∧ Below w.heap.size w w' := by
  have hB0 : Below w.heap.size w (w.alloc (.cells #[.int .i64 0, .int .i64 1] 29)) := below_one _
  have hR0 := Lib.hid (readsP_one w 0 1)
  have hq := Lib.hid (aw_quiet _ _ (readsP_one w 0 1))
  go_enter Tryd.func19, Tryd.ntmps19
  go_wp2_with fail
  refine hq.out.mono ?_
  rintro e w1 ⟨g1, cap1, rfl, hg1, hc1, hb1⟩
  have hbb1 := hB0.trans (hb1.mono hB0.size)
  have hi := Lib.hid (aw_ref _ w1 (hR0.out.below hb1) (hT.below hbb1 hw) (by have := hbb1.size; omega))
  clear hq hR0 hB0 hb1
  go_wp2_with fail
  refine hi.out.mono ?_
  rintro e w2 ⟨rfl, hb2⟩
  have hs1 := hbb1.size
  replace hc1 := (hb2.cell (p := ⟨g1, 0, none⟩) hg1).trans hc1
  replace hg1 : g1 < w2.heap.size := Nat.lt_of_lt_of_le hg1 hb2.size
  have hbb2 := hbb1.trans (hb2.mono hs1)
  clear hi hb2 hbb1 hs1
  go_wp2_with fail
  refine (aw_grid _).mono ?_
  rintro e w3 ⟨g3, cap3, rfl, hr3, hb3⟩
  have hs1 := hbb2.size
  replace hc1 := (hb3.cell (p := ⟨g1, 0, none⟩) hg1).trans hc1
  replace hg1 : g1 < w3.heap.size := Nat.lt_of_lt_of_le hg1 hb3.size
  have hbb3 := hbb2.trans (hb3.mono hs1)
  have hf := Lib.hid (aw_few _ w3 hr3 (hT.below hbb3 hw) (by have := hbb3.size; omega))
  clear hr3 hb3 hbb2 hs1
  go_wp2_with fail
  refine hf.out.mono ?_
  rintro e w4 ⟨rfl, hb4⟩
  have hs1 := hbb3.size
  replace hc1 := (hb4.cell (p := ⟨g1, 0, none⟩) hg1).trans hc1
  replace hg1 : g1 < w4.heap.size := Nat.lt_of_lt_of_le hg1 hb4.size
  have hbb4 := hbb3.trans (hb4.mono hs1)
  clear hf hb4 hbb3 hs1
  go_wp2_with fail
  refine (aw_poly _).mono ?_
  rintro e w5 ⟨g5, cap5, rfl, hg5, hc5, hc6, hb5⟩
  have hs1 := hbb4.size
  replace hc1 := (hb5.cell (p := ⟨g1, 0, none⟩) hg1).trans hc1
  replace hg1 : g1 < w5.heap.size := Nat.lt_of_lt_of_le hg1 hb5.size
  have hbb5 := hbb4.trans (hb5.mono hs1)
  clear hb5 hbb4 hs1
  go_wp2_with fail
  refine (aw_gq _).mono ?_
  rintro e w6 ⟨rfl, hb6⟩
  have hs1 := hbb5.size
  replace hc1 := (hb6.cell (p := ⟨g1, 0, none⟩) hg1).trans hc1
  replace hc5 := (hb6.cell (p := ⟨g5, 0, none⟩) hg5).trans hc5
  replace hc6 := (hb6.cell (p := ⟨g5, 1, none⟩) hg5).trans hc6
  replace hg1 : g1 < w6.heap.size := Nat.lt_of_lt_of_le hg1 hb6.size
  have hbb6 := hbb5.trans (hb6.mono hs1)
  clear hb6 hbb5 hs1
  go_wp2_with (go_at_call 18; refine (aw_check _).mono ?_; rintro e w7 ⟨rfl, hb7⟩; have hbb7 := hbb6.trans (hb7.mono hbb6.size))
  go_ret
  exact ⟨rfl, hbb7⟩

end Go.Proofs.YtdlogklhekopgaaDoor

namespace Go.Proofs.YtdlogklhekopgaaDoor
open Go.RowKit Go.Shelf Go.Proofs
attribute [local go_sem] Oper.semAt_some

set_option maxRecDepth 100000 in
set_option maxHeartbeats 4000000 in
theorem refGrid_good (r c : Nat) (hr : 1 ≤ r) (hc : 1 ≤ c) (hrc : r * c ≤ 16) (w : World) :
    Calls Tryd.prog 17 #[.int .i64 r, .int .i64 c] w fun e w' => ∃ v, e = .returned (.tuple #[.int .i64 ((r * c : Nat) : Int), v]) ∧ w'.ownsRow w.heap.size 29 2 v (Lt.gridOf r c).length (pcells (Lt.gridOf r c)) ∧ Below w.heap.size w w' := by
  have hr16 : r ≤ 16 := Nat.le_trans (Nat.le_mul_of_pos_right r hc) hrc
  have hc16 : c ≤ 16 := Nat.le_trans (Nat.le_mul_of_pos_left c hr) hrc
  have hstep := Lib.hid (Lt.gridTo_succ r c)
  have hlen := Lib.hid (Lt.gridTo_length r c)
  have hdef : Hid (∀ i, Lt.cellEdges r c i = (if i % c + 1 < c then [(i, i + 1)] else []) ++ (if i + c < r * c then [(i, i + c)] else [])) := Lib.hid (fun i => rfl)
  unfold Lt.gridOf
  have hm : wrap64 ((r : Int) * (c : Int)) = ((r * c : Nat) : Int) := by
    have e : (r : Int) * (c : Int) = ((r * c : Nat) : Int) := by simp
    rw [e]
    generalize r * c = m at *
    unfold wrap64; omega
  generalize r * c = m at *
  have HG0 : Hid (w.ownsRow w.heap.size 29 2 (.slice none 0 0) (Lt.gridTo r c 0).length (pcells (Lt.gridTo r c 0))) := Lib.hid (World.ownsRow_nil _ _ _ _)
  generalize Lt.gridTo r c = G at *
  generalize Lt.cellEdges r c = E at *
  go_enter Tryd.func17, Tryd.ntmps17
  go_wp2
  go_loopw [6, 7] (fun v i wr => ∃ (k : Nat), i = .int .i64 k ∧ k ≤ m ∧ Hid (wr.ownsRow w.heap.size 29 2 v (G k).length (pcells (G k))) ∧ Below w.heap.size w wr)
    (fun _ i _ => m - (intOf i).toNat)
  case atStart => exact ⟨0, rfl, Nat.zero_le _, Lib.hid HG0.out, Below.refl _ _⟩
  case round =>
    obtain ⟨k, rfl, hk, hrow, hB⟩ := hrel
    obtain ⟨a1, n1, c1, rfl⟩ := slice_of_row hrow.out
    by_cases hlt : k < m
    · have hrem : Int.tmod (k : Int) (c : Int) = ((k % c : Nat) : Int) := (Int.ofNat_tmod k c).symm
      have hc0 : ((c : Int) == 0) = false := by simp; omega
      have hl1 := hlen.out k
      have hE := Lib.hid (hdef.out k)
      have hnx := Lib.hid (hstep.out k)
      have hql : k % c < c := Nat.mod_lt _ hc
      generalize k % c = q at *
      obtain ⟨i0, hi0, hz0, hzs, hzb⟩ := info_parts Tryd.info29
      by_cases h1 : q + 1 < c
      · by_cases h2 : k + c < m
        · rw [if_pos h1, if_pos h2] at hE
          have hfl : Hid ((G (k + 1)).length = (G k).length + 1 + 1 ∧ pcells (G (k + 1)) = pcells (G k) ++ [.int .i64 (k : Nat), .int .i64 ((k : Nat) + 1)] ++ [.int .i64 (k : Nat), .int .i64 ((k : Nat) + (c : Nat))]) := Lib.hid (by
            rw [hnx.out, hE.out]; exact ⟨by simp, by simp [pcells]⟩)
          clear hnx hE
          go_wp2_with (first | (at_builtin; refine wpList_append_own _ rfl _ _ 22 rfl w.heap.size 29 i0 _ 2 16 Tryd.underlying22 hi0 hz0 hzs hzb rfl (by decide) (.slice a1 n1 c1) (G k).length (pcells (G k)) rfl (hrow.out.alloc _) ⟨wr.heap.size, 0, none⟩ 1 1 [.int .i64 (k : Nat), .int .i64 ((k : Nat) + 1)] rfl rfl (cell_two_new _ _ _ _) (by simp [Value.oneCell']) (by unfold maxLen; omega) (by omega) (by have := hB.size; simp; omega) ?_; intro v' w1 hown' hgrow _; obtain ⟨g', cap', rfl⟩ := ownsRow_succ hown'; have HOWN := Lib.hid hown'; have HB1 : Below w.heap.size w w1 := (hB.alloc hB.size _).grown hgrow (by have := hB.size; simp; omega) (fun k hk => (hrow.out.lt k hk).1); clear hown' hgrow) | (at_builtin; refine wpList_append_own _ rfl _ _ 22 rfl w.heap.size 29 i0 _ 2 16 Tryd.underlying22 hi0 hz0 hzs hzb rfl (by decide) (.slice (some ⟨g', 0, none⟩) ((G k).length + 1) cap') ((G k).length + 1) (pcells (G k) ++ [.int .i64 (k : Nat), .int .i64 ((k : Nat) + 1)]) rfl (HOWN.out.alloc _) ⟨w1.heap.size, 0, none⟩ 1 1 [.int .i64 (k : Nat), .int .i64 ((k : Nat) + (c : Nat))] rfl rfl (cell_two_new _ _ _ _) (by simp [Value.oneCell']) (by unfold maxLen; omega) (by omega) (by have := HB1.size; simp; omega) ?_; intro v'' w2 hown'' hgrow _; obtain ⟨g'', cap'', rfl⟩ := ownsRow_succ hown''; have HOWN2 := Lib.hid hown''; have HB2 : Below w.heap.size w w2 := (HB1.alloc HB1.size _).grown hgrow (by have := HB1.size; simp; omega) (fun k hk => (HOWN.out.lt k hk).1); clear hown'' hgrow))
          go_roundw
          case rel => exact ⟨k + 1, by go_num, by omega, Lib.hid (by rw [hfl.out.1, hfl.out.2]; exact HOWN2.out), HB2⟩
          case measure => simp [intOf]; omega
        · rw [if_pos h1, if_neg h2] at hE
          have hfl : Hid ((G (k + 1)).length = (G k).length + 1 ∧ pcells (G (k + 1)) = pcells (G k) ++ [.int .i64 (k : Nat), .int .i64 ((k : Nat) + 1)]) := Lib.hid (by
            rw [hnx.out, hE.out]; exact ⟨by simp, by simp [pcells]⟩)
          clear hnx hE
          go_wp2_with (at_builtin; refine wpList_append_own _ rfl _ _ 22 rfl w.heap.size 29 i0 _ 2 16 Tryd.underlying22 hi0 hz0 hzs hzb rfl (by decide) (.slice a1 n1 c1) (G k).length (pcells (G k)) rfl (hrow.out.alloc _) ⟨wr.heap.size, 0, none⟩ 1 1 [.int .i64 (k : Nat), .int .i64 ((k : Nat) + 1)] rfl rfl (cell_two_new _ _ _ _) (by simp [Value.oneCell']) (by unfold maxLen; omega) (by omega) (by have := hB.size; simp; omega) ?_; intro v' w1 hown' hgrow _; obtain ⟨g', cap', rfl⟩ := ownsRow_succ hown'; have HOWN := Lib.hid hown'; have HB1 : Below w.heap.size w w1 := (hB.alloc hB.size _).grown hgrow (by have := hB.size; simp; omega) (fun k hk => (hrow.out.lt k hk).1); clear hown' hgrow)
          go_roundw
          case rel => exact ⟨k + 1, by go_num, by omega, Lib.hid (by rw [hfl.out.1, hfl.out.2]; exact HOWN.out), HB1⟩
          case measure => simp [intOf]; omega
      · by_cases h2 : k + c < m
        · rw [if_neg h1, if_pos h2] at hE
          have hfl : Hid ((G (k + 1)).length = (G k).length + 1 ∧ pcells (G (k + 1)) = pcells (G k) ++ [.int .i64 (k : Nat), .int .i64 ((k : Nat) + (c : Nat))]) := Lib.hid (by
            rw [hnx.out, hE.out]; exact ⟨by simp, by simp [pcells]⟩)
          clear hnx hE
          go_wp2_with (at_builtin; refine wpList_append_own _ rfl _ _ 22 rfl w.heap.size 29 i0 _ 2 16 Tryd.underlying22 hi0 hz0 hzs hzb rfl (by decide) (.slice a1 n1 c1) (G k).length (pcells (G k)) rfl (hrow.out.alloc _) ⟨wr.heap.size, 0, none⟩ 1 1 [.int .i64 (k : Nat), .int .i64 ((k : Nat) + (c : Nat))] rfl rfl (cell_two_new _ _ _ _) (by simp [Value.oneCell']) (by unfold maxLen; omega) (by omega) (by have := hB.size; simp; omega) ?_; intro v' w1 hown' hgrow _; obtain ⟨g', cap', rfl⟩ := ownsRow_succ hown'; have HOWN := Lib.hid hown'; have HB1 : Below w.heap.size w w1 := (hB.alloc hB.size _).grown hgrow (by have := hB.size; simp; omega) (fun k hk => (hrow.out.lt k hk).1); clear hown' hgrow)
          go_roundw
          case rel => exact ⟨k + 1, by go_num, by omega, Lib.hid (by rw [hfl.out.1, hfl.out.2]; exact HOWN.out), HB1⟩
          case measure => simp [intOf]; omega
        · rw [if_neg h1, if_neg h2] at hE
          have hfl : Hid (G (k + 1) = G k) := Lib.hid (by rw [hnx.out, hE.out]; simp)
          clear hnx hE
          go_wp2
          go_roundw
          case rel => exact ⟨k + 1, by go_num, by omega, Lib.hid (by rw [hfl.out]; exact hrow.out), hB⟩
          case measure => simp [intOf]; omega
    · have hkm : k = m := by omega
      subst hkm
      clear hlen hdef hstep
      go_wp2
      go_ret2
      exact ⟨_, by rw [← hm]; rfl, hrow.out, hB⟩


end Go.Proofs.YtdlogklhekopgaaDoor
