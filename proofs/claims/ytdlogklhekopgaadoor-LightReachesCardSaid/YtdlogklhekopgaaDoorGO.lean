/- Contracts of the program's functions: a part of the proof. -/
import Derived.Test.YtdlogklhekopgaaDoorGN
import Derived.Test.YtdlogklhekopgaaDoorPA
import Derived.Deep.LoopGhost
set_option linter.unusedVariables false
set_option linter.unusedSimpArgs false

namespace Go.Proofs.YtdlogklhekopgaaDoor
open Go.RowKit Go.Shelf Go.Proofs
attribute [local go_sem] Oper.semAt_some

/-- the first i powers marked -/
def markN (n : Nat) (P : List Nat) (i : Nat) : List Nat := (List.range n).map fun j => if j ∈ P.take i then 1 else 0
theorem markN_length (n : Nat) (P : List Nat) (i : Nat) : (markN n P i).length = n := by simp [markN]
theorem markN_zero (n : Nat) (P : List Nat) : markN n P 0 = List.replicate n 0 := by
  unfold markN
  apply List.ext_getElem?
  intro j
  simp [List.getElem?_replicate]
  split <;> simp_all
theorem markN_set (n : Nat) (P : List Nat) (i : Nat) (hi : i < P.length) (hp : P[i]?.getD 0 < n) : (markN n P i).set (P[i]?.getD 0) 1 = markN n P (i + 1) := by
  apply List.ext_getElem?
  intro j
  rw [List.getElem?_set]
  have hmem : ∀ j, j ∈ P.take (i + 1) ↔ j ∈ P.take i ∨ j = P[i]?.getD 0 := fun j => by
    rw [List.take_succ_eq_append_getElem hi, List.mem_append, List.mem_singleton, List.getElem?_eq_getElem hi, Option.getD_some]
  unfold markN
  by_cases e : P[i]?.getD 0 = j
  · have hj : j < n := by omega
    rw [if_pos e, if_pos (by simpa using hp)]
    simp [hj, hmem, e]
  · rw [if_neg e]
    by_cases hj : j < n
    · have : j ∈ P.take (i + 1) ↔ j ∈ P.take i := by rw [hmem]; exact ⟨fun h => h.resolve_right (fun h => e h.symm), .inl⟩
      simp [hj, this]
    · simp [hj]
def markTo (P : List Nat) (i : Nat) : List Nat := markN 201 P i
theorem markTo_length (P : List Nat) (i : Nat) : (markTo P i).length = 201 := markN_length 201 P i
theorem markTo_zero (P : List Nat) : markTo P 0 = List.replicate 201 0 := markN_zero 201 P
theorem markTo_set (P : List Nat) (i : Nat) (hi : i < P.length) (hp : P[i]?.getD 0 < 201) : (markTo P i).set (P[i]?.getD 0) 1 = markTo P (i + 1) := markN_set 201 P i hi hp
theorem mem_powersOf {k j : Nat} : j ∈ powersOf k ↔ (Lt.pathOf false k).testBit j = true := by
  unfold powersOf powersTo
  rw [List.mem_filter, List.mem_range]
  refine ⟨fun h => h.2, fun h => ⟨?_, h⟩⟩
  apply Classical.byContradiction
  intro hn
  rw [Lt.bit_plen (by omega)] at h
  cases h
theorem markTo_full (k : Nat) : markTo (powersOf k) (powersOf k).length = bitsN (Lt.pathOf false k) 201 := by
  unfold markTo markN bitsN
  rw [List.take_length]
  refine List.map_congr_left fun j _ => ?_
  cases h : (Lt.pathOf false k).testBit j with
  | true => rw [if_pos (mem_powersOf.2 h)]; rfl
  | false => rw [if_neg (fun hm => by rw [mem_powersOf, h] at hm; cases hm)]; rfl

set_option maxRecDepth 100000 in
set_option maxHeartbeats 4000000 in
/-- polynomial -/
theorem lawPoly_any (ad : Option Addr) (cap k : Nat) (hk : k ≤ 200) (w : World) (hp : Elems w w.heap.size ad (powersOf k)) :
    Calls Tryd.prog 27 #[.slice ad (powersOf k).length cap] w fun e w' => ∃ ad' cap', e = .returned (.tuple #[.slice ad' 201 cap', .bool true]) ∧ Elems w' w'.heap.size ad' (bitsN (Lt.pathOf false k) 201) ∧ Below w.heap.size w w' := by
  have HE := Lib.hid hp
  clear hp
  have hb : ∀ j, j < (powersOf k).length → (powersOf k)[j]?.getD 0 ≤ 200 := fun j hj => by
    have hm : (powersOf k)[j]?.getD 0 ∈ powersOf k := Lt.mem_getD hj
    rw [mem_powersOf] at hm
    apply Classical.byContradiction; intro hn
    have h1 := Lt.pathOf_plen false k
    rw [Lt.bit_plen (by omega)] at hm; cases hm
  have hfull := Lib.hid (markTo_full k)
  have hset := Lib.hid (fun i hi => markTo_set (powersOf k) i hi)
  have hzero := Lib.hid (markTo_zero (powersOf k))
  have hlen := Lib.hid (fun i => markTo_length (powersOf k) i)
  have HB := Lib.hid hb
  have hpl := powersOf_length k
  clear hb
  generalize markTo (powersOf k) = M at *
  generalize powersOf k = P at *
  have hmk0 := make_ints 201 (by decide)
  have hown := Lib.hid (fun W => owns_made W W.heap.size 201 (Nat.le_refl _) (by decide))
  generalize (List.replicate 201 (Value.int IntKind.i64 0)).toArray = Z at *
  have hmk : ∀ W, Sem.run Tryd.prog (Instr.makeSlice 36 (.int .i64 201) (.int .i64 201)) W = .ok (.slice (some ⟨W.heap.size, 0, none⟩) 201 201) (W.alloc (.cells Z 3)) := hmk0
  clear hmk0
  go_enter Tryd.func27, Tryd.ntmps27
  go_wp2
  have hR0 : Hid ((w.alloc (.cells Z 3)).ownsRow w.heap.size 3 1 (.slice (some ⟨w.heap.size, 0, none⟩) 201 201) 201 (ncells (M 0))) := Lib.hid (by rw [hzero.out]; exact hown.out w)
  have hB0 : Below w.heap.size w (w.alloc (.cells Z 3)) := below_one _
  go_loopw [5] (fun i W => ∃ j : Nat, i = .int .i64 j ∧ j ≤ P.length ∧ Hid (W.ownsRow w.heap.size 3 1 (.slice (some ⟨w.heap.size, 0, none⟩) 201 201) 201 (ncells (M j))) ∧ Below w.heap.size w W)
    (fun i _ => P.length - (intOf i).toNat)
  case atStart => exact ⟨0, rfl, Nat.zero_le _, hR0, hB0⟩
  case round =>
    clear hR0 hB0
    obtain ⟨j, rfl, hj, hrow, hB⟩ := hrel
    by_cases hlt : j < P.length
    · obtain ⟨g, off, rfl, hgw, hc⟩ := HE.out j hlt
      replace hc := (hB.cell (p := ⟨g, off + j, none⟩) hgw).trans hc
      have hb := HB.out j hlt
      have hst := Lib.hid (hset.out j hlt (by omega))
      generalize P[j]?.getD 0 = x at *
      have hx1 : ¬ ((x : Nat) : Int) < 0 := by omega
      have hx2 : ¬ (200 : Int) < ((x : Nat) : Int) := by omega
      obtain ⟨y, hy⟩ : ∃ y, (ncells (M j))[x]? = some y := ⟨_, List.getElem?_eq_getElem (by rw [ncells_length, hlen.out]; omega)⟩
      have hcell := hrow.out.cellAt x (by omega)
      rw [hy] at hcell
      have hfz := hrow.out.frozenAt x
      have hs := (hrow.out.stored x (.int .i64 ((1 : Nat) : Int))).1
      rw [ncells_set, hst.out] at hs
      have HS := Lib.hid hs
      have hBs := hB.setCell (p := ⟨w.heap.size, x, none⟩) (Nat.le_refl _) (.int .i64 ((1 : Nat) : Int))
      clear hy hs
      go_wp2
      go_roundw
      case rel => exact ⟨j + 1, by go_num, by omega, HS, hBs⟩
      case measure => simp [intOf]; omega
    · obtain rfl : j = P.length := by omega
      have HF : Hid (Elems wr wr.heap.size (some ⟨w.heap.size, 0, none⟩) (bitsN (Lt.pathOf false k) 201)) := Lib.hid (by
        rw [← hfull.out]; exact elems_of_own hrow.out (hlen.out _))
      go_wp2
      go_ret2
      exact ⟨_, _, rfl, HF.out, hB⟩

set_option maxRecDepth 100000 in
set_option maxHeartbeats 4000000 in
/-- degree -/
theorem lawDegree_any (ad : Option Addr) (cap p n : Nat) (hn : n ≤ 1000) (w : World) (hp : Elems w w.heap.size ad (bitsN p n)) (hl : Lt.plen p ≤ n) :
    Calls Tryd.prog 54 #[.slice ad n cap] w fun e w' => e = .returned (.int .i64 (((Lt.plen p : Nat) : Int) - 1)) ∧ w' = w := by
  have HE := Lib.hid hp
  clear hp
  go_enter Tryd.func54, Tryd.ntmps54
  go_wp2
  go_loopw [3] (fun i W => ∃ m : Nat, i = .int .i64 ((m : Nat) - 1) ∧ m ≤ n ∧ Hid (∀ j, m ≤ j → p.testBit j = false) ∧ W = w)
    (fun i _ => (intOf i + 1).toNat)
  case atStart => exact ⟨n, rfl, Nat.le_refl _, Lib.hid (fun j hj => Lt.bit_plen (by omega)), rfl⟩
  case round =>
    obtain ⟨m, rfl, hm, hz, rfl⟩ := hrel
    by_cases hm0 : m = 0
    · have hpl : Hid (Lt.plen p = m) := Lib.hid (Lt.plen_of hz.out (.inl hm0))
      subst hm0
      clear hz
      go_wp2
      go_ret
      exact ⟨by rw [hpl.out]; rfl, rfl⟩
    · obtain ⟨q, rfl⟩ : ∃ q, m = q + 1 := ⟨m - 1, by omega⟩
      have e1 : (((q + 1 : Nat) : Int) - 1) = (q : Int) := by omega
      obtain ⟨g, off, rfl, hgw, hc⟩ := HE.out q (by rw [bitsN_length]; omega)
      rw [bitsN_at (by omega)] at hc
      rw [e1]
      cases hb : p.testBit q with
      | false =>
        have hz' : Hid (∀ j, q ≤ j → p.testBit j = false) := Lib.hid (fun j hj => by
          by_cases e : j = q
          · subst e; exact hb
          · exact hz.out j (by omega))
        rw [hb] at hc
        simp only [Bool.toNat_false] at hc
        clear hz hb
        go_wp2
        go_roundw
        case rel => exact ⟨q, by go_num, by omega, hz', trivial⟩
        case measure => simp [intOf]
      | true =>
        have hpl : Hid (Lt.plen p = q + 1) := Lib.hid (Lt.plen_of hz.out (.inr (by simpa using hb)))
        rw [hb] at hc
        simp only [Bool.toNat_true] at hc
        clear hz hb
        go_wp2
        go_ret
        exact ⟨by rw [hpl.out, e1]; rfl, rfl⟩

end Go.Proofs.YtdlogklhekopgaaDoor

namespace Go.Proofs.YtdlogklhekopgaaDoor
open Go.RowKit Go.Shelf Go.Proofs
attribute [local go_sem] Oper.semAt_some

theorem bitsN_set0 {p q n : Nat} (hn : 0 < n) (h : ∀ j, p.testBit (j + 1) = q.testBit (j + 1)) : (bitsN p n).set 0 (q.testBit 0).toNat = bitsN q n := by
  apply List.ext_getElem?
  intro j
  rw [List.getElem?_set]
  unfold bitsN
  cases j with
  | zero => simp [hn]
  | succ j =>
    rw [if_neg (by omega)]
    by_cases hj : j + 1 < n
    · simp [hj, h]
    · simp [hj]

set_option maxRecDepth 100000 in
set_option maxHeartbeats 8000000 in
/-- shifted -/
theorem lawShifted_any (ad : Option Addr) (cap p n : Nat) (hn : n ≤ 1000) (w : World) (hp : Elems w w.heap.size ad (bitsN p n)) (hl : Lt.plen p ≤ n) :
    Calls Tryd.prog 29 #[.slice ad n cap] w fun e w' => ∃ ad' cap', e = .returned (.slice ad' n cap') ∧ Elems w' w'.heap.size ad' (bitsN (Lt.sub1 p) n) ∧ Below w.heap.size w w' := by
  have HE := Lib.hid (fun W (hb : Below w.heap.size w W) => hp.below hb (Nat.le_refl _))
  have hmk := make_ints n (by omega)
  have hownG := Lib.hid (fun W => owns_made W W.heap.size n (Nat.le_refl _) (by unfold maxLen; omega))
  have hz0 : List.replicate n 0 = bitsN (Lt.sub1 (p / 2 ^ n)) n := by
    rw [Nat.div_eq_of_lt (Nat.lt_of_lt_of_le (Lt.lt_plen p) (Nat.pow_le_pow_right (by decide) hl)), Lt.sub1_zero, ← bitsTo_zero 0 n]
    unfold bitsTo bitsN
    exact List.map_congr_left fun j _ => by simp
  have HZ0 := Lib.hid hz0
  generalize (List.replicate n (Value.int IntKind.i64 0)).toArray = Z at *
  clear hp hl hz0
  go_enter Tryd.func29, Tryd.ntmps29
  go_wp2
  have hB0 : Below w.heap.size w (w.alloc (.cells Z 3)) := below_one _
  have hR0 : Hid (Elems (w.alloc (.cells Z 3)) (w.alloc (.cells Z 3)).heap.size (some ⟨w.heap.size, 0, none⟩) (bitsN (Lt.sub1 (p / 2 ^ n)) n)) := Lib.hid (by
    rw [← HZ0.out]; exact elems_of_own (hownG.out w) (by simp))
  go_loopw [3, 4] (fun x i W => ∃ (m : Nat) (a1 : Option Addr), i = .int .i64 ((m : Nat) - 1) ∧ x = .slice a1 n n ∧ m ≤ n ∧ Hid (Elems W W.heap.size a1 (bitsN (Lt.sub1 (p / 2 ^ m)) n)) ∧ Below w.heap.size w W)
    (fun _ i _ => (intOf i + 1).toNat)
  case atStart => exact ⟨n, _, rfl, rfl, Nat.le_refl _, hR0, hB0⟩
  case round =>
    clear hR0 hB0 HZ0
    obtain ⟨m, a1, rfl, rfl, hm, H1, hB⟩ := hrel
    by_cases hm0 : m = 0
    · have HF : Hid (Elems wr wr.heap.size a1 (bitsN (Lt.sub1 p) n)) := Lib.hid (by have := H1.out; rw [hm0, Nat.pow_zero, Nat.div_one] at this; exact this)
      subst hm0
      clear H1
      go_wp2
      go_ret
      exact ⟨_, _, rfl, HF.out, hB⟩
    · obtain ⟨q, rfl⟩ : ∃ q, m = q + 1 := ⟨m - 1, by omega⟩
      have e1 : (((q + 1 : Nat) : Int) - 1) = (q : Int) := by omega
      rw [e1]
      have hqn : q < n := by omega
      have hhor : Hid (Lt.sub1 (p / 2 ^ q) = Lt.xp1 (Lt.sub1 (p / 2 ^ (q + 1))) ^^^ (p / 2 ^ q) % 2) := Lib.hid (by
        rw [Lt.sub1_horner (p / 2 ^ q), Nat.pow_succ, Nat.div_div_eq_div_mul])
      have hpq : Hid ((p / 2 ^ q) % 2 = (p.testBit q).toNat) := Lib.hid (by
        rw [Nat.testBit_eq_decide_div_mod_eq]
        rcases Nat.mod_two_eq_zero_or_one (p / 2 ^ q) with e | e <;> rw [e] <;> rfl)
      generalize Lt.sub1 (p / 2 ^ (q + 1)) = o at *
      have HE1 := Lib.hid (fun W (hb : Below wr.heap.size wr W) => H1.out.below hb (Nat.le_refl _))
      have HEp := Lib.hid (fun W (hb : Below wr.heap.size wr W) => HE.out W (hB.trans (hb.mono hB.size)))
      have hR0 := Lib.hid (hownG.out wr)
      have hB00 : Below wr.heap.size wr (wr.alloc (.cells Z 3)) := below_one _
      clear H1
      go_wp2
      obtain ⟨wo, rfl⟩ : ∃ wo : World, wo = wr := ⟨_, rfl⟩
      go_loopw [6] (fun i W => ∃ (k : Nat), i = .int .i64 k ∧ k ≤ n ∧ Hid (W.ownsRow wo.heap.size 3 1 (.slice (some ⟨wo.heap.size, 0, none⟩) n n) n (ncells (bitsTo (Lt.xp1 o) n k))) ∧ Below wo.heap.size wo W)
        (fun i _ => n - (intOf i).toNat)
      case atStart => exact ⟨0, rfl, Nat.zero_le _, Lib.hid (by rw [bitsTo_zero]; exact hR0.out), hB00⟩
      case round =>
        clear hR0 hB00
        obtain ⟨k, rfl, hk, hrow, hBm⟩ := hrel
        by_cases hkn : k < n
        · obtain ⟨g1, o1, rfl, hg1, hc1⟩ := (HE1.out wr hBm) k (by rw [bitsN_length]; exact hkn)
          rw [bitsN_at hkn] at hc1
          have hcell := hrow.out.cellAt k (by omega)
          have hfz := hrow.out.frozenAt k
          obtain ⟨v0, hv0⟩ : ∃ v, (ncells (bitsTo (Lt.xp1 o) n k))[k]? = some v := ⟨_, List.getElem?_eq_getElem (by rw [ncells_length, bitsTo_length]; exact hkn)⟩
          rw [hv0] at hcell
          clear hv0
          have hs := (hrow.out.stored k (.int .i64 ((o.testBit k).toNat : Nat))).1
          have hBs := hBm.setCell (p := ⟨wo.heap.size, k, none⟩) (Nat.le_refl _) (.int .i64 ((o.testBit k).toNat : Nat))
          by_cases hk0 : k = 0
          · have hk0I : ¬ (0 : Int) < (k : Int) := by omega
            rw [ncells_set, bitsTo_set1 hkn (by rw [hk0, Lt.xp1_bit0])] at hs
            have HS := Lib.hid hs
            clear hs hrow hk0
            generalize (o.testBit k).toNat = x at *
            go_wp2
            go_roundw
            case rel => exact ⟨k + 1, by go_num, by omega, HS, hBs⟩
            case measure => simp [intOf]; omega
          · have hk0I : (0 : Int) < (k : Int) := by omega
            obtain ⟨t, ht⟩ : ∃ t, k = t + 1 := ⟨k - 1, by omega⟩
            have hwm : IntKind.i64.wrap ((k : Int) - 1) = (t : Int) := by rw [IntKind.wrap_i64]; omega
            have hbit : Hid ((((Lt.xp1 o).testBit k).toNat : Nat) = (o.testBit k ^^ o.testBit t).toNat) := Lib.hid (by rw [ht, Lt.xp1_bit])
            have hxm := xor_mod2 (o.testBit k) (o.testBit t)
            obtain ⟨g3, o3, he3, hg3, hc3⟩ := (HE1.out _ hBs) t (by rw [bitsN_length]; omega)
            obtain ⟨rfl, rfl⟩ : g1 = g3 ∧ o1 = o3 := by simpa using he3
            rw [bitsN_at (by omega)] at hc3
            have hc1' := (hBs.cell (p := ⟨g1, o1 + k, none⟩) hg1).trans ((hBm.cell (p := ⟨g1, o1 + k, none⟩) hg1).symm.trans hc1)
            have hf2 := hs.frozenAt k
            have hcc2 := hs.cellAt k (by omega)
            rw [List.getElem?_set_self (by rw [ncells_length, bitsTo_length]; exact hkn)] at hcc2
            have hs3 := (hs.stored k (.int .i64 (((Lt.xp1 o).testBit k).toNat : Nat))).1
            rw [ncells_set, ncells_set, bitsTo_set hkn rfl] at hs3
            have HS := Lib.hid hs3
            have hBs3 := hBs.setCell (p := ⟨wo.heap.size, k, none⟩) (Nat.le_refl _) (.int .i64 (((Lt.xp1 o).testBit k).toNat : Nat))
            rw [hbit.out] at HS hBs3
            have htn : t < n := by omega
            have hx1 : (o.testBit k).toNat ≤ 1 := Bool.toNat_le _
            have hy1 : (o.testBit t).toNat ≤ 1 := Bool.toNat_le _
            clear hs hrow hk0 hs3 hbit ht he3
            generalize (o.testBit k ^^ o.testBit t).toNat = z at *
            generalize (o.testBit k).toNat = x at *
            generalize (o.testBit t).toNat = y at *
            obtain ⟨W2, hW2⟩ : ∃ W2, W2 = wr.setCell ⟨wo.heap.size, k, none⟩ (.int .i64 (x : Nat)) := ⟨_, rfl⟩
            go_wp2
            rw [← hW2]
            rw [← hW2] at hc3 hc1' hf2 hcc2 HS hBs3 hBs
            clear hW2
            go_region
            go_wp2
            go_roundw
            case rel => exact ⟨k + 1, by go_num, by omega, Lib.hid HS.out.drew, hBs3.drew⟩
            case measure => simp [intOf]; omega
        · obtain rfl : k = n := by omega
          rw [bitsTo_full] at hrow
          -- the next coefficient
          obtain ⟨g0, o0, he0, hg0, hc0⟩ := (HEp.out wr hBm) q (by rw [bitsN_length]; omega)
          rw [bitsN_at hqn] at hc0
          have hrc := hrow.out.cellAt 0 (by omega)
          have e0 : (ncells (bitsN (Lt.xp1 o) k))[0]? = some (.int .i64 (((Lt.xp1 o).testBit 0).toNat : Nat)) := by
            have h0k : 0 < k := by omega
            simp [ncells, bitsN, h0k]
          rw [e0] at hrc
          have hfz := hrow.out.frozenAt 0
          have hxm := xor_mod2 ((Lt.xp1 o).testBit 0) (p.testBit q)
          have hb0 : (Lt.sub1 (p / 2 ^ q)).testBit 0 = ((Lt.xp1 o).testBit 0 ^^ p.testBit q) := by
            rw [hhor.out, hpq.out, Nat.testBit_xor]; cases p.testBit q <;> simp
          have hbS : ∀ j, (Lt.xp1 o).testBit (j + 1) = (Lt.sub1 (p / 2 ^ q)).testBit (j + 1) := fun j => by
            rw [hhor.out, hpq.out, Nat.testBit_xor]
            have : ((p.testBit q).toNat).testBit (j + 1) = false := Nat.testBit_lt_two_pow (Nat.lt_of_le_of_lt (Bool.toNat_le _) (by have := Nat.two_pow_pos j; rw [Nat.pow_succ]; omega))
            rw [this]; simp
          have hs := (hrow.out.stored 0 (.int .i64 (((Lt.sub1 (p / 2 ^ q)).testBit 0).toNat : Nat))).1
          have hBs := hBm.setCell (p := ⟨wo.heap.size, 0, none⟩) (Nat.le_refl _) (.int .i64 (((Lt.sub1 (p / 2 ^ q)).testBit 0).toNat : Nat))
          rw [ncells_set, bitsN_set0 (by omega) hbS] at hs
          have HS := Lib.hid hs
          rw [hb0] at HS hBs
          have hx1 : ((Lt.xp1 o).testBit 0).toNat ≤ 1 := Bool.toNat_le _
          have hy1 : (p.testBit q).toNat ≤ 1 := Bool.toNat_le _
          clear hs hrow hhor hpq hb0 hbS e0 HE1 HEp
          generalize ((Lt.xp1 o).testBit 0 ^^ p.testBit q).toNat = z at *
          generalize ((Lt.xp1 o).testBit 0).toNat = x at *
          generalize (p.testBit q).toNat = y at *
          subst he0
          go_wp2
          go_region
          go_wp2
          go_roundw
          case rel => exact ⟨q, _, by go_num, rfl, by omega, Lib.hid (elems_of_own HS.out.drew (bitsN_length _ _)), (hB.trans (hBs.mono hB.size)).drew⟩
          case measure => simp [intOf]

end Go.Proofs.YtdlogklhekopgaaDoor

namespace Go.Proofs.YtdlogklhekopgaaDoor
open Go.RowKit Go.Shelf Go.Proofs
attribute [local go_sem] Oper.semAt_some

theorem elems_cells {w : World} {n₀ : Nat} {ad : Option Addr} {L : List Nat} (h : Elems w n₀ ad L) (hpos : 0 < L.length) : ∃ a, ad = some a ∧ ∀ (j : Nat) (v : Value), (ncells L)[j]? = some v → w.cell? (a.add j) = some v := by
  obtain ⟨g, off, e, hg, hc⟩ := h 0 hpos
  refine ⟨_, e, fun j v hv => ?_⟩
  have hj : j < L.length := by have := (List.getElem?_eq_some_iff.1 hv).1; rwa [ncells_length] at this
  obtain ⟨g', off', e', hg', hc'⟩ := h j hj
  obtain ⟨rfl, rfl⟩ : g = g' ∧ off = off' := by rw [e] at e'; simpa using e'
  have : (ncells L)[j]? = some (.int .i64 ((L[j]?.getD 0 : Nat) : Int)) := by simp [ncells, hj]
  rw [this] at hv
  rw [← hv]
  rcases j with _ | j <;> simpa [Addr.add] using hc'

theorem bitsN_set' {p q n i : Nat} (hi : i < n) (h : ∀ j, j ≠ i → p.testBit j = q.testBit j) : (bitsN p n).set i (q.testBit i).toNat = bitsN q n := by
  apply List.ext_getElem?
  intro j
  rw [List.getElem?_set]
  unfold bitsN
  by_cases e : i = j
  · subst e; simp [hi]
  · rw [if_neg e]
    by_cases hj : j < n
    · simp [hj, h j (fun h => e h.symm)]
    · simp [hj]

/-- the second polynomial's coefficients from m on -/
def from' (B m : Nat) : Nat := (B >>> m) <<< m
theorem from'_bit (B m j : Nat) : (from' B m).testBit j = (decide (m ≤ j) && B.testBit j) := by
  unfold from'
  rw [Nat.testBit_shiftLeft, Nat.testBit_shiftRight]
  by_cases h : m ≤ j
  · simp [h, show m + (j - m) = j by omega]
  · simp [h]
theorem from'_zero (B : Nat) : from' B 0 = B := by simp [from']
theorem from'_top {B m : Nat} (h : Lt.plen B ≤ m) : from' B m = 0 := by
  apply Nat.eq_of_testBit_eq; intro j
  rw [from'_bit, Nat.zero_testBit]
  by_cases hj : m ≤ j
  · rw [Lt.bit_plen (by omega)]; simp
  · simp [hj]
theorem down_step (A B d q : Nat) : (∀ j, j ≠ q + d → (Lt.psum A (from' B (q + 1)) d).testBit j = (Lt.psum A (from' B q) d).testBit j) ∧
    (Lt.psum A (from' B q) d).testBit (q + d) = ((Lt.psum A (from' B (q + 1)) d).testBit (q + d) ^^ B.testBit q) := by
  constructor
  · intro j hj
    rw [Lt.psum_bit, Lt.psum_bit, from'_bit, from'_bit]
    by_cases h : d ≤ j
    · have : (decide (q + 1 ≤ j - d)) = decide (q ≤ j - d) := by rw [decide_eq_decide]; omega
      rw [this]
    · simp [h]
  · rw [Lt.psum_bit, Lt.psum_bit, from'_bit, from'_bit]
    have e : q + d - d = q := by omega
    have e2 : ¬ q + 1 ≤ q := by omega
    rw [e]
    simp [e2]

theorem idl_step {A B d z : Nat} : Lt.Idl (Lt.psum A B d) B z ↔ Lt.Idl A B z := by
  constructor
  · intro h; exact h.trans ((Lt.Idl.left A B).psum (Lt.Idl.right A B) d) (Lt.Idl.right A B)
  · intro h
    refine h.trans ?_ (Lt.Idl.right _ B)
    have := (Lt.Idl.left (Lt.psum A B d) B).psum (Lt.Idl.right (Lt.psum A B d) B) d
    rwa [Lt.psum_psum] at this

set_option maxRecDepth 100000 in
set_option maxHeartbeats 8000000 in
/-- common -/
theorem lawCommon_any (ad1 ad2 : Option Addr) (cap1 cap2 p q n : Nat) (hn0 : 0 < n) (hn : n ≤ 1000) (w : World) (hp : Elems w w.heap.size ad1 (bitsN p n)) (hq : Elems w w.heap.size ad2 (bitsN q n))
    (lp : Lt.plen p ≤ n) (lq : Lt.plen q ≤ n) (hq0 : q ≠ 0) :
    Calls Tryd.prog 28 #[.slice ad1 n cap1, .slice ad2 n cap2] w fun e w' => e = .returned (.int .i64 (((Lt.plen (Lt.gcdP p q) : Nat) : Int) - 1)) ∧ Below w.heap.size w w' := by
  obtain ⟨a1, rfl, hc1⟩ := elems_cells hp (by rw [bitsN_length]; exact hn0)
  have hc2 : ∀ W, Below w.heap.size w W → ∃ a, ad2 = some a ∧ ∀ (j : Nat) (v : Value), (ncells (bitsN q n))[j]? = some v → W.cell? (a.add j) = some v := fun W hb => elems_cells (hq.below hb (Nat.le_refl _)) (by rw [bitsN_length]; exact hn0)
  obtain ⟨a2, rfl, -⟩ := hc2 w (Below.refl _ _)
  have HC1 := Lib.hid hc1
  have HC2 : Hid (∀ W : World, Below w.heap.size w W → ∀ (j : Nat) (v : Value), (ncells (bitsN q n))[j]? = some v → W.cell? (a2.add j) = some v) := Lib.hid (fun W hb => by
    obtain ⟨a, e, h⟩ := hc2 W hb
    obtain rfl : a2 = a := by simpa using e
    exact h)
  have hone1 : ∀ u ∈ ncells (bitsN p n), u.oneCell' = true := by intro u hu; simp only [ncells, List.mem_map] at hu; obtain ⟨x, _, rfl⟩ := hu; rfl
  have hone2 : ∀ u ∈ ncells (bitsN q n), u.oneCell' = true := by intro u hu; simp only [ncells, List.mem_map] at hu; obtain ⟨x, _, rfl⟩ := hu; rfl
  have HO1 := Lib.hid hone1
  have HO2 := Lib.hid hone2
  have hL1 : (ncells (bitsN p n)).length = n := by rw [ncells_length, bitsN_length]
  have hL2 : (ncells (bitsN q n)).length = n := by rw [ncells_length, bitsN_length]
  obtain ⟨i0, hi0, hz0, hzs, hzb⟩ := info_parts Tryd.info3
  clear hc1 hc2 hp hq hone1 hone2
  generalize hA : ncells (bitsN p n) = LA at *
  generalize hB : ncells (bitsN q n) = LB at *
  go_enter Tryd.func28, Tryd.ntmps28
  go_wp2_with (first
    | (at_builtin; refine wpList_append_own _ rfl (.tmp 10) (.tmp 11) 36 rfl w.heap.size 3 i0 _ 1 8 Tryd.underlying36 hi0 hz0 hzs hzb rfl (by decide) (.slice none 0 0) 0 [] rfl (World.ownsRow_nil _ _ _ _) a1 n cap1 LA rfl (by rw [hL1]; simp) HC1.out HO1.out (by unfold maxLen; omega) (by omega) (Nat.le_refl _) ?_; intro v1 w1 hown1 hgrow1 _; obtain ⟨g1, k1, hv1⟩ := Go.Joins.ownsRow_form hown1 (by omega); subst hv1; have HB1 : Below w.heap.size w w1 := (Below.refl _ w).grown hgrow1 (Nat.le_refl _) (fun k hk => by simp [Value.ownBlock] at hk); have HOWN1 := Lib.hid hown1; clear hown1 hgrow1)
    | (at_builtin; refine wpList_append_own _ rfl (.tmp 13) (.tmp 14) 36 rfl w1.heap.size 3 i0 _ 1 8 Tryd.underlying36 hi0 hz0 hzs hzb rfl (by decide) (.slice none 0 0) 0 [] rfl (World.ownsRow_nil _ _ _ _) a2 n cap2 LB rfl (by rw [hL2]; simp) (HC2.out w1 HB1) HO2.out (by unfold maxLen; omega) (by omega) (Nat.le_refl _) ?_; intro v2 w2 hown2 hgrow2 _; obtain ⟨g2, k2, hv2⟩ := Go.Joins.ownsRow_form hown2 (by omega); subst hv2; have HB2 : Below w1.heap.size w1 w2 := (Below.refl _ w1).grown hgrow2 (Nat.le_refl _) (fun k hk => by simp [Value.ownBlock] at hk); have HOWN2 := Lib.hid hown2; clear hown2 hgrow2))
  have hne : g1 ≠ g2 := by
    have h1 := (HOWN1.out.lt g1 rfl).2
    have h2 := (HOWN2.out.lt g2 rfl).1
    omega
  have hs1 := HB1.size
  have R1 : Hid (w2.ownsRow w.heap.size 3 1 (.slice (some ⟨g1, 0, none⟩) n k1) n (ncells (bitsN p n))) := Lib.hid (by
    rw [hA]; have := ownsRow_below HOWN1.out HB2 (fun k hk => (HOWN1.out.lt k hk).2); simpa using this)
  have R2 : Hid (w2.ownsRow w.heap.size 3 1 (.slice (some ⟨g2, 0, none⟩) n k2) n (ncells (bitsN q n))) := Lib.hid (by
    rw [hB]; have := Go.Joins.ownsRow_le HOWN2.out hs1; simpa using this)
  have HBB : Below w.heap.size w w2 := HB1.trans (HB2.mono hs1)
  clear HOWN1 HOWN2 HB1 HB2 hs1 HC1 HC2 HO1 HO2 hL1 hL2 hA hB
  have hfin : Hid (∀ A, (∀ z, Lt.Idl A 0 z ↔ Lt.Idl p q z) → Lt.plen A = Lt.plen (Lt.gcdP p q)) := Lib.hid (fun A h => Lt.common_deg hq0 h)
  have hdeg := Lib.hid (fun g cap P W h hl => lawDegree_any (some ⟨g, 0, none⟩) cap P n hn W h hl)
  clear hq0
  go_loopg [5, 6] (2 * Lt.plen p + 3 * Lt.plen q) (fun gk x y W => ∃ (A B g1 c1 g2 c2 : Nat), x = .slice (some ⟨g1, 0, none⟩) n c1 ∧ y = .slice (some ⟨g2, 0, none⟩) n c2 ∧ g1 ≠ g2 ∧ Lt.plen A ≤ n ∧ Lt.plen B ≤ n ∧
      gk = 2 * Lt.plen A + 3 * Lt.plen B ∧ Hid (∀ z, Lt.Idl A B z ↔ Lt.Idl p q z) ∧ Hid (W.ownsRow w.heap.size 3 1 (.slice (some ⟨g1, 0, none⟩) n c1) n (ncells (bitsN A n))) ∧
      Hid (W.ownsRow w.heap.size 3 1 (.slice (some ⟨g2, 0, none⟩) n c2) n (ncells (bitsN B n))) ∧ Below w.heap.size w W)
  case atStart => exact ⟨p, q, g1, k1, g2, k2, rfl, rfl, hne, lp, lq, rfl, Lib.hid (fun z => Iff.rfl), R1, R2, HBB⟩
  case round =>
    clear R1 R2 HBB hne
    obtain ⟨A, B, g1, c1, g2, c2, rfl, rfl, hne, lA, lB, hgk, hI, R1, R2, hBw⟩ := hrel
    have EA := Lib.hid (elems_of_own R1.out (bitsN_length _ _))
    have EB := Lib.hid (elems_of_own R2.out (bitsN_length _ _))
    have dA := Lib.hid (hdeg.out g1 c1 A wr EA.out lA)
    have dB := Lib.hid (hdeg.out g2 c2 B wr EB.out lB)
    by_cases hB0 : B = 0
    · have hpl : Hid (Lt.plen A = Lt.plen (Lt.gcdP p q)) := Lib.hid (hfin.out A (by rw [hB0] at hI; exact hI.out))
      have hpb : Lt.plen B = 0 := by rw [hB0]; rfl
      have hlt : ¬ (0 : Int) ≤ ((Lt.plen B : Nat) : Int) - 1 := by omega
      clear hB0 hI hfin
      go_wp2_with fail
      refine dB.out.mono ?_
      rintro e w3 ⟨rfl, rfl⟩
      go_wp2_with fail
      refine dA.out.mono ?_
      rintro e w3 ⟨rfl, rfl⟩
      go_wp2
      go_ret
      exact ⟨by rw [← hpl.out]; rfl, hBw⟩
    · have hbp : 0 < Lt.plen B := by unfold Lt.plen; rw [if_neg hB0]; omega
      have hge : (0 : Int) ≤ ((Lt.plen B : Nat) : Int) - 1 := by omega
      by_cases hlt : Lt.plen A < Lt.plen B
      · have hltI : ((Lt.plen A : Nat) : Int) - 1 < ((Lt.plen B : Nat) : Int) - 1 := by omega
        have hI2 : Hid (∀ z, Lt.Idl B A z ↔ Lt.Idl p q z) := Lib.hid (fun z => ⟨fun h => (hI.out z).1 h.swap, fun h => ((hI.out z).2 h).swap⟩)
        clear hB0 hI hfin
        go_wp2_with fail
        refine dB.out.mono ?_
        rintro e w3 ⟨rfl, rfl⟩
        go_wp2_with fail
        refine dA.out.mono ?_
        rintro e w3 ⟨rfl, rfl⟩
        go_wp2_with fail
        refine dB.out.mono ?_
        rintro e w3 ⟨rfl, rfl⟩
        go_wp2
        go_roundg (2 * Lt.plen B + 3 * Lt.plen A)
        case measure => omega
        case rel => exact ⟨B, A, g2, c2, g1, c1, rfl, rfl, fun e => hne e.symm, lB, lA, rfl, hI2, R2, R1, hBw⟩
      · have hltI : ¬ ((Lt.plen A : Nat) : Int) - 1 < ((Lt.plen B : Nat) : Int) - 1 := by omega
        have hless := Lt.psum_less hB0 (show Lt.plen B ≤ Lt.plen A by omega)
        have hI2 : Hid (∀ z, Lt.Idl (Lt.psum A B (Lt.plen A - Lt.plen B)) B z ↔ Lt.Idl p q z) := Lib.hid (fun z => idl_step.trans (hI.out z))
        obtain ⟨d, hd⟩ : ∃ d, d = Lt.plen A - Lt.plen B := ⟨_, rfl⟩
        rw [← hd] at hless hI2
        have hdI : (((Lt.plen A : Nat) : Int) - 1) - (((Lt.plen B : Nat) : Int) - 1) = (d : Int) := by omega
        have hdn : Lt.plen B + d ≤ n := by omega
        clear hB0 hI hfin hdeg hd
        go_wp2_with fail
        refine dB.out.mono ?_
        rintro e w3 ⟨rfl, rfl⟩
        go_wp2_with fail
        refine dA.out.mono ?_
        rintro e w3 ⟨rfl, rfl⟩
        go_wp2_with fail
        refine dB.out.mono ?_
        rintro e w3 ⟨rfl, rfl⟩
        go_wp2_with fail
        refine dA.out.mono ?_
        rintro e w3 ⟨rfl, rfl⟩
        go_wp2_with fail
        refine dB.out.mono ?_
        rintro e w3 ⟨rfl, rfl⟩
        go_wp2_with fail
        refine dB.out.mono ?_
        rintro e w3 ⟨rfl, rfl⟩
        clear dA dB EA EB hltI hge
        go_wp2
        have hAe : A = Lt.psum A (from' B (Lt.plen B)) d := by rw [from'_top (Nat.le_refl _)]; simp [Lt.psum]
        have R1' := R1
        rw [hAe] at R1'
        clear hAe
        have hpB : Lt.plen B ≤ Lt.plen B := Nat.le_refl _
        go_loopw [9] (fun i W => ∃ (m : Nat), i = .int .i64 ((m : Nat) - 1) ∧ m ≤ Lt.plen B ∧ Hid (W.ownsRow w.heap.size 3 1 (.slice (some ⟨g1, 0, none⟩) n c1) n (ncells (bitsN (Lt.psum A (from' B m) d) n))) ∧
            Hid (W.ownsRow w.heap.size 3 1 (.slice (some ⟨g2, 0, none⟩) n c2) n (ncells (bitsN B n))) ∧ Below w.heap.size w W)
          (fun i _ => (intOf i + 1).toNat)
        case atStart => exact ⟨Lt.plen B, rfl, Nat.le_refl _, R1', R2, hBw⟩
        case round =>
          clear R1 R1' R2 hBw hpB
          obtain ⟨m, rfl, hm, R1, R2, hBw⟩ := hrel
          by_cases hm0 : m = 0
          · have RF : Hid (wr.ownsRow w.heap.size 3 1 (.slice (some ⟨g1, 0, none⟩) n c1) n (ncells (bitsN (Lt.psum A B d) n))) := Lib.hid (by have := R1.out; rw [hm0, from'_zero] at this; exact this)
            subst hm0
            clear R1
            go_wp2
            go_roundg (2 * Lt.plen (Lt.psum A B d) + 3 * Lt.plen B)
            case measure => omega
            case rel => exact ⟨Lt.psum A B d, B, g1, c1, g2, c2, rfl, rfl, hne, by omega, lB, rfl, hI2, RF, R2, hBw⟩
          · obtain ⟨t, rfl⟩ : ∃ t, m = t + 1 := ⟨m - 1, by omega⟩
            have e1 : (((t + 1 : Nat) : Int) - 1) = (t : Int) := by omega
            rw [e1]
            have htd : t + d < n := by omega
            have htn : t < n := by omega
            have hwt : IntKind.i64.wrap ((t : Int) + (d : Int)) = ((t + d : Nat) : Int) := by rw [IntKind.wrap_i64]; omega
            have c1' := R1.out.cellAt (t + d) (by omega)
            have e2 : (ncells (bitsN (Lt.psum A (from' B (t + 1)) d) n))[t + d]? = some (.int .i64 (((Lt.psum A (from' B (t + 1)) d).testBit (t + d)).toNat : Nat)) := by simp [ncells, bitsN, htd]
            rw [e2] at c1'
            have c2' := R2.out.cellAt t (by omega)
            have e3 : (ncells (bitsN B n))[t]? = some (.int .i64 ((B.testBit t).toNat : Nat)) := by simp [ncells, bitsN, htn]
            rw [e3] at c2'
            have f1 := R1.out.frozenAt (t + d)
            obtain ⟨hds1, hds2⟩ := down_step A B d t
            have hxm := xor_mod2 ((Lt.psum A (from' B (t + 1)) d).testBit (t + d)) (B.testBit t)
            have hs := (R1.out.stored (t + d) (.int .i64 (((Lt.psum A (from' B t) d).testBit (t + d)).toNat : Nat))).1
            rw [ncells_set, bitsN_set' htd hds1] at hs
            have HS := Lib.hid hs
            have hR2s := Lib.hid (ownsRow_setCell_other R2.out (a := ⟨g1, t + d, none⟩) (by simp [Value.ownBlock]; exact fun h => hne h.symm) (.int .i64 (((Lt.psum A (from' B t) d).testBit (t + d)).toNat : Nat)))
            have hBs := hBw.setCell (p := ⟨g1, t + d, none⟩) (R1.out.lt g1 rfl).1 (.int .i64 (((Lt.psum A (from' B t) d).testBit (t + d)).toNat : Nat))
            rw [hds2] at HS hR2s hBs
            have hx1 : ((Lt.psum A (from' B (t + 1)) d).testBit (t + d)).toNat ≤ 1 := Bool.toNat_le _
            have hy1 : (B.testBit t).toNat ≤ 1 := Bool.toNat_le _
            clear hs hds1 hds2 e2 e3 R1 R2 hBw
            generalize ((Lt.psum A (from' B (t + 1)) d).testBit (t + d) ^^ B.testBit t).toNat = z at *
            generalize ((Lt.psum A (from' B (t + 1)) d).testBit (t + d)).toNat = x at *
            generalize (B.testBit t).toNat = y at *
            generalize t + d = i at *
            go_wp2
            go_region
            go_wp2
            go_roundw
            case rel => exact ⟨t, by go_num, by omega, Lib.hid HS.out.drew, Lib.hid hR2s.out.drew, hBs.drew⟩
            case measure => simp [intOf]

end Go.Proofs.YtdlogklhekopgaaDoor

namespace Go.Proofs.YtdlogklhekopgaaDoor
open Go.RowKit Go.Shelf Go.Proofs
attribute [local go_sem] Oper.semAt_some

theorem gcd_comm_deg {a b : Nat} (ha : a ≠ 0) : Lt.plen (Lt.gcdP a b) = Lt.plen (Lt.gcdP b a) := by
  refine Lt.common_deg ha fun z => ?_
  rw [← Lt.gcd_same]
  exact ⟨Lt.Idl.swap, Lt.Idl.swap⟩

theorem poly_succ (k : Nat) (hk : k + 1 ≤ 200) (w : World) :
    Calls Tryd.prog 23 #[.int .i64 ((k : Nat) + 1)] w fun e w' => ∃ ad cap, e = .returned (.tuple #[.slice ad (powersOf (k + 1)).length cap, .int .i64 0]) ∧ Elems w' w'.heap.size ad (powersOf (k + 1)) ∧ Below w.heap.size w w' := by
  have := poly_elems (k + 1) hk w
  rwa [show ((k + 1 : Nat) : Int) = (k : Int) + 1 by omega] at this

/-- the law's number, without own -/
theorem want_false (r c : Nat) (hr : r ≤ 60) (hc : c ≤ 60) (a1 a2 : Option Addr) (c1 c2 : Nat) (w : World) (h1 : Elems w w.heap.size a1 (bitsN (Lt.pathOf false (c + 1)) 201)) (h2 : Elems w w.heap.size a2 (bitsN (Lt.pathOf false (r + 1)) 201)) :
    Calls Tryd.prog 28 #[.slice a1 201 c1, .slice a2 201 c2] w fun e w' => e = .returned (.int .i64 (gridQ r c false)) ∧ Below w.heap.size w w' := by
  have l1 := Lt.pathOf_plen false (c + 1)
  have l2 := Lt.pathOf_plen false (r + 1)
  refine (lawCommon_any a1 a2 c1 c2 _ _ 201 (by decide) (by decide) w h1 h2 (by omega) (by omega) (Lt.path_ne _ _)).mono ?_
  rintro e w' ⟨rfl, hb⟩
  refine ⟨?_, hb⟩
  unfold gridQ
  rw [gcd_comm_deg (Lt.path_ne false c)]
/-- and with it -/
theorem want_true (r c : Nat) (hr : r ≤ 60) (hc : c ≤ 60) (a1 a2 : Option Addr) (c1 c2 : Nat) (w : World) (h1 : Elems w w.heap.size a1 (bitsN (Lt.pathOf false (c + 1)) 201)) (h2 : Elems w w.heap.size a2 (bitsN (Lt.sub1 (Lt.pathOf false (r + 1))) 201)) :
    Calls Tryd.prog 28 #[.slice a1 201 c1, .slice a2 201 c2] w fun e w' => e = .returned (.int .i64 (gridQ r c true)) ∧ Below w.heap.size w w' := by
  have l1 := Lt.pathOf_plen false (c + 1)
  have l2 := Lt.pathOf_plen true (r + 1)
  rw [(Lt.sub1_path (r + 1)).1] at h2
  refine (lawCommon_any a1 a2 c1 c2 _ _ 201 (by decide) (by decide) w h1 h2 (by omega) (by omega) (Lt.path_ne _ _)).mono ?_
  rintro e w' ⟨rfl, hb⟩
  refine ⟨?_, hb⟩
  unfold gridQ
  rw [gcd_comm_deg (Lt.path_ne false c)]
theorem gridQ_swap (r c : Nat) (own : Bool) : gridQ c r own = gridQ r c own := by
  unfold gridQ; rw [Lt.deg_swap]

set_option maxRecDepth 100000 in
set_option maxHeartbeats 8000000 in
theorem lightDegrees_any (r c : Int) (w : World) (hT : Tab w) (hw : 1 < w.heap.size) : Calls Tryd.prog 7 #[.int .i64 r, .int .i64 c] w fun e w' => e = .returned (.bool true) ∧ Below w.heap.size w w' := by
  obtain ⟨z1, hz1, hl1⟩ := u64_mod r 60 (by decide) (by decide)
  obtain ⟨z2, hz2, hl2⟩ := u64_mod c 60 (by decide) (by decide)
  have hz1' : (IntKind.u64.wrap r).tmod 60 = (z1 : Int) := hz1
  have hz2' : (IntKind.u64.wrap c).tmod 60 = (z2 : Int) := hz2
  have hN1 : (1 : Int) + (z1 : Int) = ((z1 + 1 : Nat) : Int) := by omega
  have hN2 : (1 : Int) + (z2 : Int) = ((z2 + 1 : Nat) : Int) := by omega
  have hR1 : 1 ≤ z1 + 1 := by omega
  have hC1 : 1 ≤ z2 + 1 := by omega
  have hR : z1 + 1 ≤ 60 := by omega
  have hC : z2 + 1 ≤ 60 := by omega
  clear hz1 hz2
  generalize z1 + 1 = R at *
  generalize z2 + 1 = C at *
  have p1 := Lib.hid (fun W => poly_succ C (by omega) W)
  have p2 := Lib.hid (fun W => poly_succ R (by omega) W)
  have q1 := Lib.hid (fun ad cap W h => lawPoly_any ad cap (C + 1) (by omega) W h)
  have q2 := Lib.hid (fun ad cap W h => lawPoly_any ad cap (R + 1) (by omega) W h)
  have wf := Lib.hid (fun a1 a2 c1 c2 W h1 h2 => want_false R C hR hC a1 a2 c1 c2 W h1 h2)
  have wt := Lib.hid (fun a1 a2 c1 c2 W h1 h2 => want_true R C hR hC a1 a2 c1 c2 W h1 h2)
  have lf := Lt.pathOf_plen false (R + 1)
  have sh := Lib.hid (fun ad cap W h => lawShifted_any ad cap (Lt.pathOf false (R + 1)) 201 (by decide) W h (by omega))
  have g1 := Lib.hid (fun own W => gridQuiet_good R C own hR1 hC1 hR hC W)
  have g2 := Lib.hid (fun own W => gridQuiet_good C R own hC1 hR1 hC hR W)
  simp only [gridQ_swap R C] at g2
  generalize powersOf (C + 1) = P1 at *
  generalize powersOf (R + 1) = P2 at *
  generalize Lt.pathOf false (C + 1) = F1 at *
  generalize Lt.pathOf false (R + 1) = F2 at *
  generalize gridQ R C = gq at *
  clear lf
  go_enter Tryd.func7, Tryd.ntmps7
  go_wp2_with fail
  refine (p1.out _).mono ?_
  rintro e w1 ⟨a1, c1, rfl, e1, hb1⟩
  have E1 := Lib.hid e1
  clear e1 p1
  go_wp2_with fail
  refine (p2.out _).mono ?_
  rintro e w2 ⟨a2, c2, rfl, e2, hb2⟩
  have E2 := Lib.hid e2
  have q1' := Lib.hid (q1.out a1 c1 w2 (E1.out.go hb2))
  clear e2 p2 E1 q1
  go_wp2_with fail
  refine q1'.out.mono ?_
  rintro e w3 ⟨a3, c3, rfl, e3, hb3⟩
  have E3 := Lib.hid e3
  have q2' := Lib.hid (q2.out a2 c2 w3 (E2.out.go hb3))
  clear e3 q1' q2 E2
  go_wp2_with fail
  refine q2'.out.mono ?_
  rintro e w4 ⟨a4, c4, rfl, e4, hb4⟩
  have E4 := Lib.hid e4
  have E3' := Lib.hid (E3.out.go hb4)
  have hB4 : Below w.heap.size w w4 := ((hb1.trans (hb2.mono hb1.size)).trans (hb3.mono (by have := hb1.size; have := hb2.size; omega))).trans (hb4.mono (by have := hb1.size; have := hb2.size; have := hb3.size; omega))
  clear e4 q2' E3 hb1 hb2 hb3 hb4
  go_wp2
  go_loopw [13] (fun i W => ∃ (k : Int), i = .int .i64 k ∧ (k = 0 ∨ k = 1 ∨ k = 2) ∧ Hid (Elems W W.heap.size a3 (bitsN F1 201)) ∧ Hid (Elems W W.heap.size a4 (bitsN F2 201)) ∧ Below w.heap.size w W)
    (fun i _ => 2 - (intOf i).toNat)
  case atStart => exact ⟨0, rfl, .inl rfl, E3', E4, hB4⟩
  case round =>
    clear E3' E4 hB4
    obtain ⟨k, rfl, hk, E3, E4, hB⟩ := hrel
    rcases hk with rfl | rfl | rfl
    · go_wp2_with fail
      refine (g1.out true _).mono ?_
      rintro e w5 ⟨rfl, hb5⟩
      have E3a := Lib.hid (E3.out.go hb5)
      have E4a := Lib.hid (E4.out.go hb5)
      have hB5 := hB.trans (hb5.mono hB.size)
      clear E3 E4 hB hb5
      go_wp2_with fail
      refine (g2.out true _).mono ?_
      rintro e w6 ⟨rfl, hb6⟩
      have E3b := Lib.hid (E3a.out.go hb6)
      have E4b := Lib.hid (E4a.out.go hb6)
      have hB6 := hB5.trans (hb6.mono hB5.size)
      have wf' := Lib.hid (wf.out a3 a4 c3 c4 w6 E3b.out E4b.out)
      clear E3a E4a hB5 hb6
      go_wp2_with fail
      refine wf'.out.mono ?_
      rintro e w7 ⟨rfl, hb7⟩
      have E3c := Lib.hid (E3b.out.go hb7)
      have E4c := Lib.hid (E4b.out.go hb7)
      have hB7 := hB6.trans (hb7.mono hB6.size)
      have sh' := Lib.hid (sh.out a4 c4 w7 E4c.out)
      clear E3b E4b hB6 hb7 wf'
      go_wp2_with fail
      refine sh'.out.mono ?_
      rintro e w8 ⟨a8, c8, rfl, e8, hb8⟩
      have E3d := Lib.hid (E3c.out.go hb8)
      have E4d := Lib.hid (E4c.out.go hb8)
      have hB8 := hB7.trans (hb8.mono hB7.size)
      have wt' := Lib.hid (wt.out a3 a8 c3 c8 w8 E3d.out e8)
      clear E3c E4c hB7 hb8 e8 sh'
      go_wp2_with fail
      refine wt'.out.mono ?_
      rintro e w9 ⟨rfl, hb9⟩
      have E3e := Lib.hid (E3d.out.go hb9)
      have E4e := Lib.hid (E4d.out.go hb9)
      have hB9 := hB8.trans (hb9.mono hB8.size)
      clear E3d E4d hB8 hb9 wt'
      go_wp2
      go_roundw
      case rel => exact ⟨1, rfl, .inr (.inl rfl), E3e, E4e, hB9⟩
      case measure => simp [intOf]
    · go_wp2_with fail
      refine (g1.out false _).mono ?_
      rintro e w5 ⟨rfl, hb5⟩
      have E3a := Lib.hid (E3.out.go hb5)
      have E4a := Lib.hid (E4.out.go hb5)
      have hB5 := hB.trans (hb5.mono hB.size)
      clear E3 E4 hB hb5
      go_wp2_with fail
      refine (g2.out false _).mono ?_
      rintro e w6 ⟨rfl, hb6⟩
      have E3b := Lib.hid (E3a.out.go hb6)
      have E4b := Lib.hid (E4a.out.go hb6)
      have hB6 := hB5.trans (hb6.mono hB5.size)
      have wf' := Lib.hid (wf.out a3 a4 c3 c4 w6 E3b.out E4b.out)
      clear E3a E4a hB5 hb6
      go_wp2_with fail
      refine wf'.out.mono ?_
      rintro e w7 ⟨rfl, hb7⟩
      have E3c := Lib.hid (E3b.out.go hb7)
      have E4c := Lib.hid (E4b.out.go hb7)
      have hB7 := hB6.trans (hb7.mono hB6.size)
      clear E3b E4b hB6 hb7 wf'
      go_wp2
      go_roundw
      case rel => exact ⟨2, rfl, .inr (.inr rfl), E3c, E4c, hB7⟩
      case measure => simp [intOf]
    · have haw := Lib.hid (awake_any wr (hT.below hB hw) (by have := hB.size; omega))
      go_wp2_with (go_at_call 19; refine haw.out.mono ?_; rintro e w7 ⟨rfl, hb7⟩)
      go_ret
      exact ⟨rfl, hB.trans (hb7.mono hB.size)⟩

end Go.Proofs.YtdlogklhekopgaaDoor
