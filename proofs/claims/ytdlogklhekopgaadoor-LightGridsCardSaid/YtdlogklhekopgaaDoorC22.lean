/- Contracts of the program's functions: part C22 of the proof. -/
import Derived.Test.YtdlogklhekopgaaDoorC21
import Derived.Test.YtdlogklhekopgaaDoorP13
import Derived.Laws.CopyOwn
set_option linter.unusedVariables false
set_option linter.unusedSimpArgs false
namespace Go.Proofs.YtdlogklhekopgaaDoor
open Go.RowKit Go.Shelf Go.Proofs
attribute [local go_sem] Oper.semAt_some

theorem Tryd.info4 : (Tryd.prog.info? 4).map (fun i => (i.zero, i.size, i.bytes)) = some (some (.bool false), 1, 1) := by kernel_rfl

/-- coefficients as cells -/
def bcells (f : Nat → Bool) (n : Nat) : List Value := (List.range n).map fun j => .bool (f j)
theorem bcells_length (f : Nat → Bool) (n : Nat) : (bcells f n).length = n := by simp [bcells]
theorem bcells_one (f : Nat → Bool) (n : Nat) : ∀ u ∈ bcells f n, u.oneCell' = true := by
  intro u hu; simp only [bcells, List.mem_map] at hu; obtain ⟨x, _, rfl⟩ := hu; rfl
theorem bcells_at {f : Nat → Bool} {n j : Nat} (h : j < n) : (bcells f n)[j]? = some (.bool (f j)) := by simp [bcells, h]
theorem bcells_congr {f g : Nat → Bool} {n : Nat} (h : ∀ j, j < n → f j = g j) : bcells f n = bcells g n := by
  unfold bcells; exact List.map_congr_left fun j hj => by rw [h j (List.mem_range.1 hj)]
theorem bcells_set {f g : Nat → Bool} {n i : Nat} (hi : i < n) (h : ∀ j, j ≠ i → f j = g j) : (bcells f n).set i (.bool (g i)) = bcells g n := by
  apply List.ext_getElem?
  intro j
  rw [List.getElem?_set]
  by_cases e : i = j
  · subst e; rw [if_pos rfl, if_pos (by rw [bcells_length]; exact hi), bcells_at hi]
  · rw [if_neg e]
    by_cases hj : j < n
    · rw [bcells_at hj, bcells_at hj, h j (fun x => e x.symm)]
    · rw [List.getElem?_eq_none (by rw [bcells_length]; omega), List.getElem?_eq_none (by rw [bcells_length]; omega)]

/-- a polynomial as it lies in memory, read alone -/
def Poly (w : World) (n₀ : Nat) (v : Value) (p : Nat) : Prop :=
  ∃ ad cap, v = .slice ad (Lt.plen p) cap ∧ ∀ j, j < Lt.plen p → ∃ g off, ad = some ⟨g, off, none⟩ ∧ g < n₀ ∧ w.cell? ⟨g, off + j, none⟩ = some (.bool (p.testBit j))
theorem Poly.below {w w' : World} {n₀ B : Nat} {v : Value} {p : Nat} (h : Poly w n₀ v p) (hb : Below B w w') (hB : n₀ ≤ B) : Poly w' n₀ v p := by
  obtain ⟨ad, cap, e, hc⟩ := h
  refine ⟨ad, cap, e, fun j hj => ?_⟩
  obtain ⟨g, off, e', hg, hcc⟩ := hc j hj
  exact ⟨g, off, e', hg, (hb.cell (p := ⟨g, off + j, none⟩) (show g < B by omega)).trans hcc⟩
theorem Poly.up {w : World} {n₀ n₁ : Nat} {v : Value} {p : Nat} (h : Poly w n₀ v p) (hn : n₀ ≤ n₁) : Poly w n₁ v p := by
  obtain ⟨ad, cap, e, hc⟩ := h
  refine ⟨ad, cap, e, fun j hj => ?_⟩
  obtain ⟨g, off, e', hg, hcc⟩ := hc j hj
  exact ⟨g, off, e', by omega, hcc⟩
theorem poly_zero (w : World) (n₀ : Nat) : Poly w n₀ (.slice none 0 0) 0 := ⟨none, 0, rfl, fun j hj => by simp [Lt.plen] at hj⟩

theorem full_of_made {w1 : World} {base g n : Nat} (h : w1.ownsRow base 4 1 (.slice (some ⟨g, 0, none⟩) n n) n (madeCells (Value.bool false).cells (n * 1)).toList) : w1.heap[g]? = some (.cells (List.replicate n (.bool false)).toArray 4 (0, 0)) := by
  rcases h.2 with ⟨he, _⟩ | ⟨g', cap, cur, he, _, hh, _, _, hcs, htk⟩
  · simp at he
  · obtain ⟨rfl, rfl⟩ : g = g' ∧ n = cap := by simpa using he
    rw [hh]
    have e : cur.toList = List.replicate n (.bool false) := by
      rw [List.take_of_length_le (by simp [hcs])] at htk
      rw [htk, Nat.mul_one]
      exact toList_madeCells_one (.bool false) n
    rw [← e]

theorem splice_bits {p P n : Nat} (hP : Lt.plen p = P) (hn : P ≤ n) : splice (List.replicate n (Value.bool false)) 0 (bcells p.testBit P) = bcells p.testBit n := by
  unfold splice
  rw [bcells_length]
  apply List.ext_getElem?
  intro j
  simp only [List.take_zero, List.nil_append, Nat.zero_add, List.drop_replicate]
  by_cases h1 : j < P
  · rw [List.getElem?_append_left (by rw [bcells_length]; exact h1), bcells_at h1, bcells_at (by omega)]
  · rw [List.getElem?_append_right (by rw [bcells_length]; omega), bcells_length]
    by_cases h2 : j < n
    · rw [bcells_at h2, Lt.bit_plen (by omega), List.getElem?_replicate, if_pos (by omega)]
    · rw [List.getElem?_eq_none (by simp; omega), List.getElem?_eq_none (by rw [bcells_length]; omega)]

theorem owns_full {w : World} {base g n : Nat} {cs : List Value} (hb : base ≤ g) (hn : n ≤ maxLen) (hl : cs.length = n) (h : w.heap[g]? = some (.cells cs.toArray 4 (0, 0))) : w.ownsRow base 4 1 (.slice (some ⟨g, 0, none⟩) n n) n cs :=
  ⟨by omega, .inr ⟨g, n, cs.toArray, rfl, hb, h, Nat.le_refl _, hn, by simp [hl], by rw [Nat.mul_one, ← hl]; exact List.take_length⟩⟩

set_option maxRecDepth 100000 in
set_option maxHeartbeats 4000000 in
/-- sum -/
theorem sum_any (v1 v2 : Value) (p q h : Nat) (w : World) (hp : Poly w w.heap.size v1 p) (hq : Poly w w.heap.size v2 q) (lp : Lt.plen p ≤ 1000) (lq : Lt.plen q ≤ 1000) (lh : h ≤ 1000) :
    Calls Tryd.prog 66 #[v1, v2, .int .i64 h] w fun e w' => ∃ v, e = .returned v ∧ Poly w' w'.heap.size v (Lt.psum p q h) ∧ Below w.heap.size w w' := by
  obtain ⟨a1, c1, rfl, h1⟩ := hp
  obtain ⟨a2, c2, rfl, h2⟩ := hq
  have H1 := Lib.hid h1
  have H2 := Lib.hid h2
  clear h1 h2
  obtain ⟨n, hn⟩ : ∃ n, n = max (Lt.plen p) (Lt.plen q + h) := ⟨_, rfl⟩
  have hmax : max ((Lt.plen p : Nat) : Int) ((Lt.plen q : Nat) + (h : Nat) : Int) = (n : Int) := by omega
  have hpn : Lt.plen p ≤ n := by omega
  have hqn : Lt.plen q + h ≤ n := by omega
  have hn3 : n ≤ 2000 := by omega
  have hrl := Lt.psum_plen p q h
  rw [← hn] at hrl
  clear hn
  obtain ⟨i0, hi0, hz0, hzs, hzb⟩ := info_parts Tryd.info4
  generalize hP : Lt.plen p = P at *
  generalize hQ : Lt.plen q = Q at *
  have HC1 : Hid (∀ w1, Below w.heap.size w w1 → 0 < P → ∃ ad, a1 = some ad ∧ ∀ (j : Nat) (v : Value), (bcells p.testBit P)[j]? = some v → w1.cell? (ad.add j) = some v) := Lib.hid (fun w1 hb hpos => by
    obtain ⟨g, off, e, hg, hc⟩ := H1.out 0 hpos
    refine ⟨_, e, fun j v hv => ?_⟩
    have hj : j < P := by have := (List.getElem?_eq_some_iff.1 hv).1; rwa [bcells_length] at this
    obtain ⟨g', off', e', hg', hc'⟩ := H1.out j hj
    obtain ⟨rfl, rfl⟩ : g = g' ∧ off = off' := by rw [e] at e'; simpa using e'
    rw [bcells_at hj] at hv
    rw [← hv]
    have := (hb.cell (p := ⟨g, off + j, none⟩) hg).trans hc'
    rcases j with _ | j <;> simpa [Addr.add] using this)
  have HST : Hid (∀ k, k < Q → ∀ j, j ≠ k + h → Lt.sumTo p q h k j = Lt.sumTo p q h (k + 1) j) := Lib.hid (fun k hk j hj => by
    unfold Lt.sumTo
    by_cases e : h ≤ j ∧ j < h + k
    · have e2 : j < h + (k + 1) := by omega
      simp [e.1, e.2, e2]
    · by_cases e1 : h ≤ j
      · have e2 : ¬ j < h + k := by omega
        have e3 : ¬ j < h + (k + 1) := by omega
        simp [e2, e3]
      · simp [e1])
  have HSV : Hid (∀ k, k < Q → Lt.sumTo p q h (k + 1) (k + h) = (Lt.sumTo p q h k (k + h) != q.testBit k)) := Lib.hid (fun k hk => by
    unfold Lt.sumTo
    have e1 : h ≤ k + h := by omega
    have e2 : ¬ k + h < h + k := by omega
    have e3 : k + h < h + (k + 1) := by omega
    have e4 : k + h - h = k := by omega
    simp only [e1, e2, e3, e4, decide_true, decide_false, Bool.true_and, Bool.and_false, Bool.false_and, Bool.xor_false]
    try (cases p.testBit (k + h) <;> cases q.testBit k <;> rfl))
  have HSE : Hid (∀ j, Lt.sumTo p q h Q j = (Lt.psum p q h).testBit j) := Lib.hid (fun j => by
    rw [Lt.psum_bit]; unfold Lt.sumTo
    by_cases e : j < h + Q
    · simp [e]
    · rw [Lt.bit_plen (p := q) (by omega)]; simp)
  have HS00 : Hid (∀ j, j < n → Lt.sumTo p q h 0 j = p.testBit j) := Lib.hid (fun j _ => by
      unfold Lt.sumTo
      by_cases e : h ≤ j
      · have e2 : ¬ j < h := by omega
        simp [e2]
      · simp [e])
  generalize Lt.sumTo p q h = S at *
  generalize Lt.psum p q h = R at *
  go_enter Tryd.func66, Tryd.ntmps66
  go_wp2_with (first
    | (refine wpList_make_full _ rfl _ _ 74 rfl w.heap.size 4 i0 (.bool false) 1 Tryd.underlying74 hi0 hz0 hzs .i64 .i64 _ _ n rfl rfl (by omega) (by omega) (by rw [hzb]; omega) (by unfold maxLen; omega) (Nat.le_refl _) ?_; intro w1 hown hgrow; have HFULL := Lib.hid (full_of_made hown); have HB1 : Below w.heap.size w w1 := (Below.refl _ w).grown hgrow (Nat.le_refl _) (fun k hk => by simp at hk); have hs1 : w.heap.size < w1.heap.size := (Array.getElem?_eq_some_iff.1 HFULL.out).1; clear hown hgrow)
    | (refine wpList_copy_splice rfl _ _ 74 74 rfl 4 Tryd.underlying74 (by kernel_rfl) (some ⟨w.heap.size, 0, none⟩) a1 n n P c1 rfl rfl w.heap.size 0 (List.replicate n (.bool false)) 4 HFULL.out (bcells p.testBit P) (by rw [bcells_length]; exact (Nat.min_eq_left hpn).symm) (fun hpos => ⟨rfl, HC1.out w1 HB1 (by rw [bcells_length] at hpos; exact hpos)⟩) (by rw [bcells_length, List.length_replicate]; omega) (bcells_one _ _) w.heap.size w HB1 (Nat.le_refl _) ?_; intro w2 hrow2 HB2; have HROW : Hid (w2.ownsRow w.heap.size 4 1 (.slice (some ⟨w.heap.size, 0, none⟩) n n) n (bcells p.testBit n)) := Lib.hid (owns_full (Nat.le_refl _) (by unfold maxLen; omega) (bcells_length _ _) (by rw [← splice_bits hP hpn]; exact hrow2.out)); clear hrow2))
  obtain ⟨wo, hwo⟩ : ∃ wo : World, wo = w2 := ⟨_, rfl⟩
  subst hwo
  have HS0 : Hid (wo.ownsRow w.heap.size 4 1 (.slice (some ⟨w.heap.size, 0, none⟩) n n) n (bcells (S 0) n)) := Lib.hid (by
    rw [bcells_congr HS00.out]; exact HROW.out)
  clear HS00
  clear HROW HC1 H1 hP HFULL HB1 hs1
  go_loopw [24] (fun i W => ∃ k : Nat, i = .int .i64 k ∧ k ≤ Q ∧ Hid (W.ownsRow w.heap.size 4 1 (.slice (some ⟨w.heap.size, 0, none⟩) n n) n (bcells (S k) n)) ∧ Below w.heap.size w W)
    (fun i _ => Q - (intOf i).toNat)
  case atStart => exact ⟨0, rfl, Nat.zero_le _, HS0, HB2⟩
  case round =>
    obtain ⟨k, rfl, hk, hrow, hB⟩ := hrel
    by_cases hlt : k < Q
    · obtain ⟨g, off, rfl, hgw, hc⟩ := H2.out k hlt
      replace hc := (hB.cell (p := ⟨g, off + k, none⟩) hgw).trans hc
      have hcell := hrow.out.cellAt (k + h) (by omega)
      rw [bcells_at (by omega)] at hcell
      have hfz := hrow.out.frozenAt (k + h)
      have hsv := Lib.hid (HSV.out k hlt)
      generalize hb1 : S k (k + h) = b1 at *
      generalize q.testBit k = b2 at *
      go_wp2
      go_roundw
      case rel =>
        have hs := hrow.out.stored (k + h) (.bool (b1 != b2))
        rw [← hsv.out, bcells_set (by omega) (fun j hj => HST.out k hlt j hj)] at hs
        rw [hsv.out] at hs
        exact ⟨k + 1, by go_num, by omega, Lib.hid hs.1, hB.setCell (p := ⟨w.heap.size, k + h, none⟩) (Nat.le_refl _) _⟩
      case measure => simp [intOf]; omega
    · obtain rfl : k = Q := by omega
      have HR : Hid (wr.ownsRow w.heap.size 4 1 (.slice (some ⟨w.heap.size, 0, none⟩) n n) n (bcells R.testBit n)) := Lib.hid (by
        have e := bcells_congr (n := n) (fun j _ => HSE.out j)
        rw [← e]; exact hrow.out)
      clear hrow HSE HST HSV HS0 H2 HB2
      go_wp2
      obtain ⟨wo, rfl⟩ : ∃ wo : World, wo = wr := ⟨_, rfl⟩
      go_loopw [10] (fun i W => ∃ m : Nat, i = .int .i64 m ∧ m ≤ n ∧ Hid (∀ j, m ≤ j → R.testBit j = false) ∧ W = wo)
        (fun i _ => (intOf i).toNat)
      case atStart => exact ⟨n, rfl, Nat.le_refl _, Lib.hid (fun j hj => Lt.bit_plen (by omega)), rfl⟩
      case round =>
        obtain ⟨m, rfl, hm, hz, rfl⟩ := hrel
        by_cases hm0 : 0 < m
        · have hcell := HR.out.cellAt (m - 1) (by omega)
          rw [bcells_at (by omega)] at hcell
          by_cases htop : R.testBit (m - 1) = true
          · have hpl : Hid (Lt.plen R = m) := Lib.hid (Lt.plen_of hz.out (.inr htop))
            rw [htop] at hcell
            clear hz
            go_wp2
            go_ret
            refine ⟨_, rfl, ⟨some ⟨w.heap.size, 0, none⟩, m, by rw [hpl.out]; rfl, fun j hj => ⟨_, _, rfl, (HR.out.lt _ rfl).2, ?_⟩⟩, hB⟩
            rw [hpl.out] at hj
            have := HR.out.cellAt j (by omega)
            rw [bcells_at (by omega)] at this
            simpa using this
          · have htf : R.testBit (m - 1) = false := by simpa using htop
            have hnz : Hid (∀ j, m - 1 ≤ j → R.testBit j = false) := Lib.hid (fun j hj => by
              by_cases e : j = m - 1
              · subst e; exact htf
              · exact hz.out j (by omega))
            rw [htf] at hcell
            clear hz htop htf
            go_wp2
            go_roundw
            case rel => exact ⟨m - 1, by go_num, by omega, hnz, trivial⟩
            case measure => simp [intOf]; omega
        · obtain rfl : m = 0 := by omega
          have hpl : Hid (Lt.plen R = 0) := Lib.hid (Lt.plen_of hz.out (.inl rfl))
          go_wp2
          go_ret
          exact ⟨_, rfl, ⟨some ⟨w.heap.size, 0, none⟩, 0, by rw [hpl.out]; rfl, fun j hj => by rw [hpl.out] at hj; omega⟩, hB⟩

end Go.Proofs.YtdlogklhekopgaaDoor
