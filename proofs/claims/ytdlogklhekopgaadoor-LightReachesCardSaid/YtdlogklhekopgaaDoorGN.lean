/- Contracts of the program's functions: a part of the proof. -/
import Derived.Test.YtdlogklhekopgaaDoorGM
import Derived.Test.YtdlogklhekopgaaDoorPA
import Derived.Test.YtdlogklhekopgaaDoorPB
set_option linter.unusedVariables false
set_option linter.unusedSimpArgs false

namespace Go.Proofs.YtdlogklhekopgaaDoor
open Go.RowKit Go.Shelf Go.Proofs
attribute [local go_sem] Oper.semAt_some

theorem Tryd.info78 : (Tryd.prog.info? 78).map (fun i => (i.zero, i.size, i.bytes)) = some (some (.int .u64 0), 1, 8) := by kernel_rfl
def ucells (L : List Nat) : List Value := L.map fun x => .int .u64 (x : Nat)
theorem ucells_length (L : List Nat) : (ucells L).length = L.length := by simp [ucells]
theorem ucells_one (L : List Nat) : ∀ u ∈ ucells L, u.oneCell' = true := by
  intro u hu; simp only [ucells, List.mem_map] at hu; obtain ⟨x, _, rfl⟩ := hu; rfl
theorem ucells_at {L : List Nat} {j : Nat} (h : j < L.length) : (ucells L)[j]? = some (.int .u64 ((L[j]?.getD 0 : Nat) : Int)) := by simp [ucells, h]
theorem ucells_set (L : List Nat) (j x : Nat) : (ucells L).set j (.int .u64 (x : Nat)) = ucells (L.set j x) := by unfold ucells; rw [List.map_set]

theorem ofInt64u (a : Nat) (ha : a < 18446744073709551616) : (BitVec.ofInt 64 (a : Int)).toNat = a := by
  rw [BitVec.ofInt_natCast, BitVec.toNat_ofNat]; exact Nat.mod_eq_of_lt (by omega)
theorem xor_u64 (a b : Nat) (ha : a < 9223372036854775808) (hb : b < 9223372036854775808) : bits .xor .u64 (a : Int) (b : Int) = ((a ^^^ b : Nat) : Int) := by
  have hx : a ^^^ b < 2 ^ 63 := Nat.xor_lt_two_pow (by omega) (by omega)
  show IntKind.u64.wrap ((BitVec.ofInt 64 (a : Int) ^^^ BitVec.ofInt 64 (b : Int)).toNat : Int) = _
  rw [BitVec.toNat_xor, ofInt64u a (by omega), ofInt64u b (by omega), Lt.wrap_u64_nat _ (by omega)]
theorem and_u64 (a b : Nat) (ha : a < 9223372036854775808) (hb : b < 9223372036854775808) : bits .and .u64 (a : Int) (b : Int) = ((a &&& b : Nat) : Int) := by
  have hx : a &&& b < 2 ^ 63 := Nat.and_lt_two_pow _ (by omega)
  show IntKind.u64.wrap ((BitVec.ofInt 64 (a : Int) &&& BitVec.ofInt 64 (b : Int)).toNat : Int) = _
  rw [BitVec.toNat_and, ofInt64u a (by omega), ofInt64u b (by omega), Lt.wrap_u64_nat _ (by omega)]

theorem shr_bit0 (s j : Nat) : ((((s : Nat) : Int) / 2 ^ j).tmod 2 == 0) = !s.testBit j := by
  rw [shr_nat, Nat.testBit_eq_decide_div_mod_eq]
  generalize s / 2 ^ j = q
  rw [tmod2]
  rcases Nat.mod_two_eq_zero_or_one q with e | e <;> rw [e] <;> rfl
theorem ways_start (own : Bool) (r c : Nat) : Lt.Gs (Lt.waysOf own r c) c 0 (Lt.waysOf own r c) 0 := by
  refine Lt.Gs.start (by simp [Lt.waysOf]) fun j hj => ?_
  have e : (Lt.waysOf own r c)[j]?.getD 0 = Lt.wayOf own r c j := by simp [Lt.waysOf, hj]
  rw [e, Lt.way_phi own hj]
  exact Lt.phi_below (Nat.pow_lt_pow_right (by decide) hj) _

set_option maxRecDepth 100000 in
set_option maxHeartbeats 8000000 in
theorem refGridQuiet_any (r c : Nat) (own : Bool) (hr : r ≤ 60) (hc1 : 1 ≤ c) (hc : c ≤ 60) (w : World) :
    Calls Tryd.prog 21 #[.int .i64 r, .int .i64 c, .bool own] w fun e w' => e = .returned (.int .i64 (gridQ r c own)) ∧ Below w.heap.size w w' := by
  go_enter Tryd.func21, Tryd.ntmps21
  go_wp2
  go_loopw [7, 8] (fun v i W => ∃ (k : Nat), i = .int .i64 k ∧ k ≤ c ∧ Hid (W.ownsRow w.heap.size 78 1 v k (ucells ((List.range k).map (Lt.wayOf own r c)))) ∧ Below w.heap.size w W)
    (fun _ i _ => c - (intOf i).toNat)
  case atStart => exact ⟨0, rfl, Nat.zero_le _, Lib.hid (World.ownsRow_nil _ _ _ _), Below.refl _ _⟩
  case round =>
    obtain ⟨k, rfl, hk, hrow, hB⟩ := hrel
    by_cases hlt : k < c
    · obtain ⟨a1, n1, c1, rfl⟩ := slice_of_row hrow.out
      have hwk : IntKind.u64.wrap ((2 : Int) ^ k) = ((2 ^ k : Nat) : Int) := by
        have h : (2 : Nat) ^ k ≤ 2 ^ 60 := Nat.pow_le_pow_right (by decide) (by omega)
        have e : ((2 : Int) ^ k) = ((2 ^ k : Nat) : Int) := by simp
        rw [e]; exact Lt.wrap_u64_nat _ (by omega)
      have hwc : IntKind.u64.wrap ((2 : Int) ^ c) = ((2 ^ c : Nat) : Int) := by
        have h : (2 : Nat) ^ c ≤ 2 ^ 60 := Nat.pow_le_pow_right (by decide) (by omega)
        have e : ((2 : Int) ^ c) = ((2 ^ c : Nat) : Int) := by simp
        rw [e]; exact Lt.wrap_u64_nat _ (by omega)
      have hcp : 2 ^ c ≤ 1152921504606846976 := Nat.le_trans (Nat.pow_le_pow_right (by decide) hc) (by decide)
      have hcp0 := Nat.two_pow_pos c
      have hkp : 2 ^ k < 2 ^ c := Nat.pow_lt_pow_right (by decide) hlt
      have hnext : Hid ((List.range (k + 1)).map (Lt.wayOf own r c) = (List.range k).map (Lt.wayOf own r c) ++ [(Lt.wayTo own c (2 ^ k) r).2]) := Lib.hid (by
        rw [List.range_succ, List.map_append]; rfl)
      have hw0 : Hid (Lt.wayTo own c (2 ^ k) 0 = (0, 2 ^ k)) := Lib.hid rfl
      have hwS : Hid (∀ m, Lt.wayTo own c (2 ^ k) (m + 1) = ((Lt.wayTo own c (2 ^ k) m).2, ((Lt.wayTo own c (2 ^ k) m).1 ^^^ 2 * (Lt.wayTo own c (2 ^ k) m).2 ^^^ (Lt.wayTo own c (2 ^ k) m).2 / 2 ^^^ (if own then (Lt.wayTo own c (2 ^ k) m).2 else 0)) % 2 ^ c)) := Lib.hid (fun m => rfl)
      have hand : Hid (∀ x, x &&& (2 ^ c - 1) = x % 2 ^ c) := Lib.hid (fun x => Nat.and_two_pow_sub_one_eq_mod x c)
      generalize Lt.wayTo own c (2 ^ k) = WT at *
      generalize 2 ^ k = K at *
      generalize 2 ^ c = C at *
      go_wp2
      go_quiet (fail)
      go_wp2
      go_loopw [9, 10, 11] (fun x y i W => ∃ (m b n : Nat), i = .int .i64 m ∧ x = .int .u64 b ∧ y = .int .u64 n ∧ m ≤ r ∧ b < C ∧ n < C ∧ Hid (WT m = (b, n)) ∧
          Hid (W.ownsRow w.heap.size 78 1 (.slice a1 n1 c1) k (ucells ((List.range k).map (Lt.wayOf own r c)))) ∧ Below w.heap.size w W)
        (fun _ _ i _ => r - (intOf i).toNat)
      case atStart => exact ⟨0, 0, K, rfl, rfl, rfl, Nat.zero_le _, hcp0, hkp, hw0, Lib.hid hrow.out, hB.trans ⟨rfl, rfl, rfl, Nat.le_refl _, fun _ _ => rfl⟩⟩
      case round =>
        clear hrow hB
        obtain ⟨m, b, n, rfl, rfl, rfl, hm, hb, hn, hWT, hrow, hB⟩ := hrel
        by_cases hmr : m < r
        · have hst := Lib.hid (hwS.out m)
          rw [hWT.out] at hst
          have hd2 : ((n : Nat) : Int) * 2 = ((2 * n : Nat) : Int) := by omega
          have hh2 : ((n : Nat) : Int) / 2 = ((n / 2 : Nat) : Int) := by omega
          have hC1 : ((C : Nat) : Int) - 1 = ((C - 1 : Nat) : Int) := by omega
          have l1 : b ^^^ 2 * n < 2 ^ 62 := Nat.xor_lt_two_pow (by omega) (by omega)
          have l2 : b ^^^ 2 * n ^^^ n / 2 < 2 ^ 62 := Nat.xor_lt_two_pow l1 (by omega)
          have l3 : b ^^^ 2 * n ^^^ n / 2 ^^^ n < 2 ^ 62 := Nat.xor_lt_two_pow l2 (by omega)
          have x1 := xor_u64 b (2 * n) (by omega) (by omega)
          have x2 := xor_u64 (b ^^^ 2 * n) (n / 2) (by omega) (by omega)
          have x3 := xor_u64 (b ^^^ 2 * n ^^^ n / 2) n (by omega) (by omega)
          have a2 := and_u64 (b ^^^ 2 * n ^^^ n / 2) (C - 1) (by omega) (by omega)
          have a3 := and_u64 (b ^^^ 2 * n ^^^ n / 2 ^^^ n) (C - 1) (by omega) (by omega)
          rw [hand.out] at a2 a3
          have m2 : (b ^^^ 2 * n ^^^ n / 2) % C < C := Nat.mod_lt _ hcp0
          have m3 : (b ^^^ 2 * n ^^^ n / 2 ^^^ n) % C < C := Nat.mod_lt _ hcp0
          clear l1 l2 l3
          cases own with
          | false =>
            simp only [Bool.false_eq_true, if_false, Nat.xor_zero] at hst
            have hfin : Hid (∀ y, y = (b ^^^ 2 * n ^^^ n / 2) % C → WT (m + 1) = (n, y)) := Lib.hid (by rintro y rfl; exact hst.out)
            have HF := Lib.hid (hfin.out _ rfl)
            clear x3 a3 m3 hfin hst hwS
            generalize (b ^^^ 2 * n ^^^ n / 2) % C = y at *
            generalize b ^^^ 2 * n ^^^ n / 2 = t2 at *
            generalize b ^^^ 2 * n = t1 at *
            generalize 2 * n = n2 at *
            generalize n / 2 = nh at *
            go_wp2
            go_roundw
            case rel => exact ⟨m + 1, n, y, by go_num, rfl, rfl, by omega, hn, m2, HF, hrow, hB⟩
            case measure => simp [intOf]; omega
          | true =>
            simp only [if_true] at hst
            have HF := Lib.hid hst.out
            clear a2 m2 hst hwS
            generalize (b ^^^ 2 * n ^^^ n / 2 ^^^ n) % C = y at *
            generalize b ^^^ 2 * n ^^^ n / 2 ^^^ n = t3 at *
            generalize b ^^^ 2 * n ^^^ n / 2 = t2 at *
            generalize b ^^^ 2 * n = t1 at *
            generalize 2 * n = n2 at *
            generalize n / 2 = nh at *
            go_wp2
            go_roundw
            case rel => exact ⟨m + 1, n, y, by go_num, rfl, rfl, by omega, hn, m3, HF, hrow, hB⟩
            case measure => simp [intOf]; omega
        · obtain rfl : m = r := by omega
          rw [hWT.out] at hnext
          have hfl : Hid (ucells ((List.range (k + 1)).map (Lt.wayOf own m c)) = ucells ((List.range k).map (Lt.wayOf own m c)) ++ [.int .u64 (n : Nat)]) := Lib.hid (by
            rw [hnext.out]; simp [ucells])
          clear hnext hw0 hwS hWT hand
          generalize ucells ((List.range k).map (Lt.wayOf own m c)) = U at *
          obtain ⟨i0, hi0, hz0, hzs, hzb⟩ := info_parts Tryd.info78
          go_wp2_with (at_builtin; refine wpList_append_own _ rfl _ _ 77 rfl w.heap.size 78 i0 _ 1 8 Tryd.underlying77 hi0 hz0 hzs hzb rfl (by decide) (.slice a1 n1 c1) k U rfl (hrow.out.alloc _) ⟨wr.heap.size, 0, none⟩ 1 1 [.int .u64 n] rfl rfl (cell_one_new _ _ _) (by simp [Value.oneCell']) (by unfold maxLen; omega) (by omega) (by have := hB.size; simp; omega) ?_; intro v' w1 hown' hgrow _; obtain ⟨g', cap', rfl⟩ := ownsRow_succ hown'; have HOWN := Lib.hid hown'; have HB1 : Below w.heap.size w w1 := (hB.alloc hB.size _).grown hgrow (by have := hB.size; simp; omega) (fun k hk => (hrow.out.lt k hk).1); clear hown' hgrow)
          go_roundw
          case rel => exact ⟨k + 1, by go_num, by omega, Lib.hid (by rw [hfl.out]; exact HOWN.out), HB1⟩
          case measure => simp [intOf]; omega
    · obtain rfl : k = c := by omega
      have hform := hrow.out
      obtain ⟨g, cap, hv⟩ := Go.Joins.ownsRow_form hrow.out (by omega)
      subst hv
      have HROW : Hid (wr.ownsRow w.heap.size 78 1 (.slice (some ⟨g, 0, none⟩) k cap) k (ucells (Lt.waysOf own r k))) := Lib.hid hrow.out
      have hg0 := Lib.hid (ways_start own r k)
      have hgq : Hid (∀ L rank, Lt.Gs (Lt.waysOf own r k) k k L rank → rank ≤ k ∧ ((k : Nat) : Int) - ((rank : Nat) : Int) = gridQ r k own) := Lib.hid (fun L rank h => by
        obtain ⟨h1, h2, h3⟩ := Lt.gs_grid own r hc1 h
        refine ⟨h2, ?_⟩
        unfold gridQ; omega)
      generalize Lt.waysOf own r k = W0 at *
      clear hrow hform
      go_wp2
      go_loopw [13, 14] (fun x i W => ∃ (bit rank : Nat) (L : List Nat), i = .int .i64 bit ∧ x = .int .i64 rank ∧ bit ≤ k ∧ rank ≤ k ∧ Hid (Lt.Gs W0 k bit L rank) ∧ Hid (W.ownsRow w.heap.size 78 1 (.slice (some ⟨g, 0, none⟩) k cap) k (ucells L)) ∧ Below w.heap.size w W)
        (fun _ i _ => k - (intOf i).toNat)
      case atStart => exact ⟨0, 0, W0, rfl, rfl, Nat.zero_le _, Nat.zero_le _, hg0, HROW, hB⟩
      case round =>
        clear hB HROW hg0
        obtain ⟨bit, rank, L, rfl, rfl, hbit, hrk, hG, hrow, hB⟩ := hrel
        by_cases hbk : bit < k
        · have hlen := hG.out.len
          clear hgq
          go_wp2
          go_loopw [15] (fun x W => ∃ (p : Nat), x = .int .i64 p ∧ rank ≤ p ∧ p ≤ k ∧ Hid (∀ i, rank ≤ i → i < p → (L[i]?.getD 0).testBit bit = false) ∧ Hid (W.ownsRow w.heap.size 78 1 (.slice (some ⟨g, 0, none⟩) k cap) k (ucells L)) ∧ Below w.heap.size w W)
            (fun x _ => k - (intOf x).toNat)
          case atStart => exact ⟨rank, rfl, Nat.le_refl _, hrk, Lib.hid (fun i h1 h2 => by omega), hrow, hB⟩
          case round =>
            clear hrow hB
            obtain ⟨p, rfl, hrp, hpk, hno, hrow, hB⟩ := hrel
            by_cases hplt : p < k
            · have hcell := hrow.out.cellAt p (by omega)
              rw [ucells_at (by omega)] at hcell
              have hsb := shr_bit0 (L[p]?.getD 0) bit
              cases hb : (L[p]?.getD 0).testBit bit with
              | false =>
                have hno' : Hid (∀ i, rank ≤ i → i < p + 1 → (L[i]?.getD 0).testBit bit = false) := Lib.hid (fun i h1 h2 => by
                  by_cases e : i = p
                  · subst e; exact hb
                  · exact hno.out i h1 (by omega))
                rw [hb] at hsb
                clear hb hno
                generalize L[p]?.getD 0 = x at *
                go_wp2
                go_roundw
                case rel => exact ⟨p + 1, by go_num, by omega, by omega, hno', hrow, hB⟩
                case measure => simp [intOf]; omega
              | true =>
                have hG' := Lib.hid (hG.out.pivot hrp hplt hb)
                have hrc := hrow.out.cellAt rank (by omega)
                rw [ucells_at (by omega)] at hrc
                have hfz := hrow.out.frozenAt p
                have hs1 := (hrow.out.stored p (.int .u64 ((L[rank]?.getD 0 : Nat) : Int))).1
                rw [ucells_set] at hs1
                have hf1 := hs1.frozenAt rank
                have hc1 := hs1.cellAt rank (by omega)
                rw [ucells_at (by simp; omega)] at hc1
                have hs2 := (hs1.stored rank (.int .u64 ((L[p]?.getD 0 : Nat) : Int))).1
                rw [ucells_set] at hs2
                have hsw : (L.set p (L[rank]?.getD 0)).set rank (L[p]?.getD 0) = Lt.swp L p rank := rfl
                rw [hsw] at hs2
                have hB2 := (hB.setCell (p := ⟨g, p, none⟩) (hrow.out.lt g rfl).1 (.int .u64 ((L[rank]?.getD 0 : Nat) : Int))).setCell (p := ⟨g, rank, none⟩) (hrow.out.lt g rfl).1 (.int .u64 ((L[p]?.getD 0 : Nat) : Int))
                have hSl := Lt.swp_length L p rank
                rw [hlen] at hSl
                have hclr := Lt.clrTo_at (Lt.swp L p rank) rank bit (L[p]?.getD 0)
                have hclen := Lt.clrTo_length (Lt.swp L p rank) rank bit (L[p]?.getD 0)
                have hcS : ∀ j, Lt.clrTo (Lt.swp L p rank) rank bit (L[p]?.getD 0) (j + 1) = if j ≠ rank ∧ ((Lt.swp L p rank)[j]?.getD 0).testBit bit = true then (Lt.clrTo (Lt.swp L p rank) rank bit (L[p]?.getD 0) j).set j (((Lt.swp L p rank)[j]?.getD 0) ^^^ (L[p]?.getD 0)) else Lt.clrTo (Lt.swp L p rank) rank bit (L[p]?.getD 0) j := fun j => rfl
                have hc0 : Lt.clrTo (Lt.swp L p rank) rank bit (L[p]?.getD 0) 0 = Lt.swp L p rank := rfl
                have hk60 : 2 ^ k ≤ 1152921504606846976 := Nat.le_trans (Nat.pow_le_pow_right (by decide) hc) (by decide)
                have hwl : L[p]?.getD 0 < 2 ^ 62 := Nat.lt_of_lt_of_le (hG.out.lt p hplt) (by omega)
                have hSlt : ∀ j, j < k → (Lt.swp L p rank)[j]?.getD 0 < 2 ^ 62 := fun j hj => by
                  rw [Lt.swp_at (by omega) (by omega)]
                  have h1 := hG.out.lt p hplt
                  have h2 := hG.out.lt rank (by omega)
                  have h3 := hG.out.lt j hj
                  split
                  · omega
                  · split <;> omega
                have HROW := Lib.hid hs2
                have HCLR := Lib.hid hclr
                have HCLEN := Lib.hid hclen
                have HCS := Lib.hid hcS
                have HC0 := Lib.hid hc0
                have HSLT := Lib.hid hSlt
                rw [hb] at hsb
                clear hb hno hG hs1 hs2 hsw hrow hclr hclen hcS hc0 hSlt hlen hk60
                generalize Lt.clrTo (Lt.swp L p rank) rank bit (L[p]?.getD 0) = CL at *
                generalize Lt.swp L p rank = S at *
                generalize L[p]?.getD 0 = x at *
                generalize L[rank]?.getD 0 = y at *
                generalize ((L.set p y)[rank]?.getD 0) = y2 at *
                have hpI : (((p : Nat) : Int) == ((k : Nat) : Int)) = false := by simp; omega
                go_wp2
                obtain ⟨wa, hwa⟩ : ∃ wa, wa = (wr.setCell ⟨g, p, none⟩ (.int .u64 (y : Nat))).setCell ⟨g, rank, none⟩ (.int .u64 (x : Nat)) := ⟨_, rfl⟩
                rw [← hwa] at HROW hB2 ⊢
                clear hwa hf1 hc1 hfz hrc hcell hsb hB
                go_loopw [17] (fun i W => ∃ (j : Nat), i = .int .i64 j ∧ j ≤ k ∧ Hid (W.ownsRow w.heap.size 78 1 (.slice (some ⟨g, 0, none⟩) k cap) k (ucells (CL j))) ∧ Below w.heap.size w W)
                  (fun i _ => k - (intOf i).toNat)
                case atStart => exact ⟨0, rfl, Nat.zero_le _, Lib.hid (by rw [HC0.out]; exact HROW.out), hB2⟩
                case round =>
                  clear HROW hB2
                  obtain ⟨j, rfl, hj, hrow, hB⟩ := hrel
                  by_cases hjk : j < k
                  · have hcell := hrow.out.cellAt j (by omega)
                    rw [ucells_at (by rw [HCLEN.out]; omega), HCLR.out j (by omega) j, if_neg (by omega)] at hcell
                    have hst := Lib.hid (HCS.out j)
                    have hSj := HSLT.out j hjk
                    have hsb := shr_bit (S[j]?.getD 0) bit
                    have hfz := hrow.out.frozenAt j
                    have hxo := xor_u64 (S[j]?.getD 0) x (by omega) (by omega)
                    have hs := Lib.hid ((hrow.out.stored j (.int .u64 (((S[j]?.getD 0) ^^^ x : Nat) : Int))).1)
                    have hBs := hB.setCell (p := ⟨g, j, none⟩) (hrow.out.lt g rfl).1 (.int .u64 (((S[j]?.getD 0) ^^^ x : Nat) : Int))
                    by_cases hjr : j = rank
                    · have hjI : (((j : Nat) : Int) != ((rank : Nat) : Int)) = false := by simp [hjr]
                      have hnx : Hid (CL (j + 1) = CL j) := Lib.hid (by rw [hst.out, if_neg (by rintro ⟨h, _⟩; exact h hjr)])
                      clear hst hs hBs hjr hsb
                      generalize S[j]?.getD 0 = z at *
                      go_wp2
                      go_roundw
                      case rel => exact ⟨j + 1, by go_num, by omega, Lib.hid (by rw [hnx.out]; exact hrow.out), hB⟩
                      case measure => simp [intOf]; omega
                    · have hjI : (((j : Nat) : Int) != ((rank : Nat) : Int)) = true := by simp; omega
                      cases hb : (S[j]?.getD 0).testBit bit with
                      | false =>
                        have hnx : Hid (CL (j + 1) = CL j) := Lib.hid (by rw [hst.out, hb, if_neg (by rintro ⟨_, h⟩; cases h)])
                        rw [hb] at hsb
                        clear hst hs hBs hjr hb
                        generalize S[j]?.getD 0 = z at *
                        go_wp2
                        go_roundw
                        case rel => exact ⟨j + 1, by go_num, by omega, Lib.hid (by rw [hnx.out]; exact hrow.out), hB⟩
                        case measure => simp [intOf]; omega
                      | true =>
                        have hnx : Hid (ucells (CL (j + 1)) = (ucells (CL j)).set j (.int .u64 (((S[j]?.getD 0) ^^^ x : Nat) : Int))) := Lib.hid (by rw [hst.out, hb, if_pos ⟨hjr, rfl⟩, ucells_set])
                        rw [hb] at hsb
                        clear hst hjr hb
                        generalize (S[j]?.getD 0) ^^^ x = zx at *
                        generalize S[j]?.getD 0 = z at *
                        go_wp2
                        go_roundw
                        case rel => exact ⟨j + 1, by go_num, by omega, Lib.hid (by rw [hnx.out]; exact hs.out), hBs⟩
                        case measure => simp [intOf]; omega
                  · obtain rfl : j = k := by omega
                    go_wp2
                    go_roundw
                    case rel => exact ⟨bit + 1, rank + 1, CL j, by go_num, by go_num, by omega, by omega, hG', hrow, hB⟩
                    case measure => simp [intOf]; omega
            · obtain rfl : p = k := by omega
              have hG' := Lib.hid (hG.out.skip hno.out)
              clear hno hG
              go_wp2
              go_roundw
              case rel => exact ⟨bit + 1, rank, L, by go_num, rfl, by omega, hrk, hG', hrow, hB⟩
              case measure => simp [intOf]; omega
        · obtain rfl : bit = k := by omega
          have hfin := hgq.out L rank hG.out
          have hfin' := Lib.hid hfin.2
          have hrb := hfin.1
          clear hgq hfin hG
          go_wp2
          go_ret
          exact ⟨by rw [← hfin'.out]; rfl, hB⟩

end Go.Proofs.YtdlogklhekopgaaDoor

namespace Go.Proofs.YtdlogklhekopgaaDoor
open Go.RowKit Go.Shelf Go.Proofs
attribute [local go_sem] Oper.semAt_some

theorem sides_cases {r c : Int} (h : sidesOk r c = false) : r < 1 ∨ (1 ≤ r ∧ c < 1) ∨ (1 ≤ r ∧ 1 ≤ c ∧ 60 < r) ∨ (1 ≤ r ∧ 1 ≤ c ∧ r ≤ 60 ∧ 60 < c) := by
  unfold sidesOk at h
  by_cases h1 : 1 ≤ r
  · by_cases h2 : 1 ≤ c
    · by_cases h3 : r ≤ 60
      · by_cases h4 : c ≤ 60
        · simp [h1, h2, h3, h4] at h
        · omega
      · omega
    · omega
  · omega
theorem sides_good {r c : Int} (h : sidesOk r c = true) : ∃ R C : Nat, r = R ∧ c = C ∧ 1 ≤ R ∧ 1 ≤ C ∧ R ≤ 60 ∧ C ≤ 60 := by
  unfold sidesOk at h
  simp only [Bool.and_eq_true, decide_eq_true_eq] at h
  obtain ⟨⟨⟨h1, h2⟩, h3⟩, h4⟩ := h
  exact ⟨r.toNat, c.toNat, by omega, by omega, by omega, by omega, by omega, by omega⟩

theorem grid_elems (r c : Nat) (hr : 1 ≤ r) (hc : 1 ≤ c) (hrc : r * c ≤ 16) (w : World) :
    Calls Tryd.prog 16 #[.int .i64 r, .int .i64 c] w fun e w' => ∃ ad n cap, e = .returned (.tuple #[.int .i64 ((r * c : Nat) : Int), .slice ad n cap, .int .i64 0]) ∧ ReadsP w' (.slice ad n cap) (Lt.gridE r c) ∧ Below w.heap.size w w' := by
  refine (grid_good r c hr hc hrc w).mono ?_
  rintro e w' ⟨v, rfl, hr, hb⟩
  have hp := readsP_of_row hr
  obtain ⟨ad, n, cap, rfl⟩ := slice_of_row hr
  exact ⟨ad, n, cap, rfl, hp, hb⟩

theorem small_len (r c : Nat) (own : Bool) (hr : 1 ≤ r) (hc : 1 ≤ c) (hr4 : r ≤ 4) (hc4 : c ≤ 4) : (((Lt.quietOf (gr ((r * c : Nat) : Int) (Lt.gridE r c) own)).length : Nat) : Int) = gridQ r c own := by
  have := Lt.grid_quiet_small ⟨r, by omega⟩ ⟨c, by omega⟩ own hr hc
  simp only at this
  unfold gridQ gr
  rw [Int.toNat_natCast, ← this]; omega

set_option maxRecDepth 100000 in
set_option maxHeartbeats 8000000 in
theorem lightGridQuiets_any (r c : Int) (own : Bool) (w : World) (hT : Tab w) (hw : 1 < w.heap.size) : Calls Tryd.prog 4 #[.int .i64 r, .int .i64 c, .bool own] w fun e w' => e = .returned (.bool true) ∧ Below w.heap.size w w' := by
  go_enter Tryd.func4, Tryd.ntmps4
  go_wp2
  go_loopw [0, 1, 7] (fun x y i W => ∃ (k r c : Int), i = .int .i64 k ∧ x = .int .i64 r ∧ y = .int .i64 c ∧ (k = 0 ∨ (k = 1 ∧ 1 ≤ r ∧ r ≤ 60 ∧ 1 ≤ c ∧ c ≤ 60) ∨ (k = 2 ∧ 1 ≤ r ∧ r ≤ 4 ∧ 1 ≤ c ∧ c ≤ 4) ∨ k = 3) ∧ Below w.heap.size w W)
    (fun _ _ i _ => 3 - (intOf i).toNat)
  case atStart => exact ⟨0, r, c, rfl, rfl, rfl, .inl rfl, Below.refl _ _⟩
  case round =>
    clear r c
    obtain ⟨k, r, c, rfl, rfl, rfl, hk, hB⟩ := hrel
    rcases hk with rfl | ⟨rfl, hr1, hr60, hc1, hc60⟩ | ⟨rfl, hr1, hr4, hc1, hc4⟩ | rfl
    · obtain ⟨z1, hz1, hl1⟩ := u64_mod r 60 (by decide) (by decide)
      obtain ⟨z2, hz2, hl2⟩ := u64_mod c 60 (by decide) (by decide)
      have hz1' : (IntKind.u64.wrap r).tmod 60 = (z1 : Int) := hz1
      have hz2' : (IntKind.u64.wrap c).tmod 60 = (z2 : Int) := hz2
      clear hz1 hz2
      cases hok : sidesOk r c with
      | false =>
        have hg := Lib.hid (fun W => gridQuiet_bad r c own hok W)
        have hcases := sides_cases hok
        clear hok
        go_wp2_with fail
        refine (hg.out _).mono ?_
        rintro e w1 ⟨rfl, rfl⟩
        clear hg
        rcases hcases with h1 | ⟨h1, h2⟩ | ⟨h1, h2, h3⟩ | ⟨h1, h2, h3, h4⟩
        all_goals (
          go_wp2
          go_roundw
          case rel => exact ⟨1, _, _, rfl, rfl, rfl, .inr (.inl ⟨rfl, by omega, by omega, by omega, by omega⟩), hB⟩
          case measure => simp [intOf])
      | true =>
        obtain ⟨R, C, rfl, rfl, hR, hC, hR60, hC60⟩ := sides_good hok
        clear hok
        have hg := Lib.hid (fun W => gridQuiet_good R C own hR hC hR60 hC60 W)
        have hg2 := Lib.hid (fun W => refGridQuiet_any R C own hR60 hC hC60 W)
        generalize gridQ R C own = q at *
        go_wp2_with fail
        refine (hg.out _).mono ?_
        rintro e w1 ⟨rfl, hb1⟩
        go_wp2_with fail
        refine (hg2.out _).mono ?_
        rintro e w2 ⟨rfl, hb2⟩
        have hB2 := (hB.trans (hb1.mono hB.size)).trans (hb2.mono (by have := hB.size; have := hb1.size; omega))
        clear hg hg2 hb1 hb2
        go_wp2
        go_roundw
        case rel => exact ⟨1, _, _, rfl, rfl, rfl, .inr (.inl ⟨rfl, by omega, by omega, by omega, by omega⟩), hB2⟩
        case measure => simp [intOf]
    · obtain ⟨R, rfl⟩ : ∃ R : Nat, r = R := ⟨r.toNat, by omega⟩
      obtain ⟨C, rfl⟩ : ∃ C : Nat, c = C := ⟨c.toNat, by omega⟩
      have hg := Lib.hid (fun W => gridQuiet_good R C own (by omega) (by omega) (by omega) (by omega) W)
      have hg2 := Lib.hid (fun W => refGridQuiet_any R C own (by omega) (by omega) (by omega) W)
      have ht1 : ((R : Nat) : Int).tmod 4 = ((R % 4 : Nat) : Int) := tmod_nat R 4
      have ht2 : ((C : Nat) : Int).tmod 4 = ((C % 4 : Nat) : Int) := tmod_nat C 4
      have hm1 : R % 4 < 4 := Nat.mod_lt _ (by decide)
      have hm2 : C % 4 < 4 := Nat.mod_lt _ (by decide)
      generalize R % 4 = m1 at *
      generalize C % 4 = m2 at *
      generalize gridQ R C own = q at *
      go_wp2_with fail
      refine (hg.out _).mono ?_
      rintro e w1 ⟨rfl, hb1⟩
      go_wp2_with fail
      refine (hg2.out _).mono ?_
      rintro e w2 ⟨rfl, hb2⟩
      have hB2 := (hB.trans (hb1.mono hB.size)).trans (hb2.mono (by have := hB.size; have := hb1.size; omega))
      clear hg hg2 hb1 hb2
      go_wp2
      go_roundw
      case rel => exact ⟨2, _, _, rfl, rfl, rfl, .inr (.inr (.inl ⟨rfl, by omega, by omega, by omega, by omega⟩)), hB2⟩
      case measure => simp [intOf]
    · obtain ⟨R, rfl⟩ : ∃ R : Nat, r = R := ⟨r.toNat, by omega⟩
      obtain ⟨C, rfl⟩ : ∃ C : Nat, c = C := ⟨c.toNat, by omega⟩
      have hR4 : R ≤ 4 := by omega
      have hC4 : C ≤ 4 := by omega
      have hrc : R * C ≤ 16 := Nat.mul_le_mul hR4 hC4
      have hg := Lib.hid (fun W => gridQuiet_good R C own (by omega) (by omega) (by omega) (by omega) W)
      have hg2 := Lib.hid (fun W => refGridQuiet_any R C own (by omega) (by omega) (by omega) W)
      have hg3 := Lib.hid (fun W => grid_elems R C (by omega) (by omega) hrc W)
      have hel := gridE_length R C hrc
      have hcd := grid_code (r := R) (c := C) (by omega) (by omega) hrc
      have hsl := small_len R C own (by omega) (by omega) hR4 hC4
      have hg4 := Lib.hid (fun W ev h => quiet_good ((R * C : Nat) : Int) ev (Lt.gridE R C) own W hel h hcd)
      clear hel hcd hrc
      have ht1 : ((R : Nat) : Int).tmod 4 = ((R % 4 : Nat) : Int) := tmod_nat R 4
      have ht2 : ((C : Nat) : Int).tmod 4 = ((C % 4 : Nat) : Int) := tmod_nat C 4
      have hm1 : R % 4 < 4 := Nat.mod_lt _ (by decide)
      have hm2 : C % 4 < 4 := Nat.mod_lt _ (by decide)
      generalize R % 4 = m1 at *
      generalize C % 4 = m2 at *
      rw [← hsl] at hg hg2
      clear hsl
      generalize Lt.quietOf (gr ((R * C : Nat) : Int) (Lt.gridE R C) own) = Q at *
      generalize R * C = RC at *
      go_wp2_with fail
      refine (hg.out _).mono ?_
      rintro e w1 ⟨rfl, hb1⟩
      go_wp2_with fail
      refine (hg2.out _).mono ?_
      rintro e w2 ⟨rfl, hb2⟩
      have hB2 := (hB.trans (hb1.mono hB.size)).trans (hb2.mono (by have := hB.size; have := hb1.size; omega))
      clear hg hg2 hb1 hb2
      go_wp2_with fail
      refine (hg3.out _).mono ?_
      rintro e w3 ⟨a3, n3, c3, rfl, hp3, hb3⟩
      have hg4' := Lib.hid (hg4.out w3 _ hp3)
      have hB3 := hB2.trans (hb3.mono hB2.size)
      clear hg3 hg4 hp3 hb3 hB2
      go_wp2_with fail
      refine hg4'.out.mono ?_
      rintro e w4 ⟨a4, c4, rfl, -, hb4⟩
      have hB4 := hB3.trans (hb4.mono hB3.size)
      clear hg4' hB3 hb4
      go_wp2
      go_roundw
      case rel => exact ⟨3, _, _, rfl, rfl, rfl, .inr (.inr (.inr rfl)), hB4⟩
      case measure => simp [intOf]
    · have haw := Lib.hid (awake_any wr (hT.below hB hw) (by have := hB.size; omega))
      go_wp2_with (go_at_call 19; refine haw.out.mono ?_; rintro e w7 ⟨rfl, hb7⟩)
      go_ret
      exact ⟨rfl, hB.trans (hb7.mono hB.size)⟩

end Go.Proofs.YtdlogklhekopgaaDoor
