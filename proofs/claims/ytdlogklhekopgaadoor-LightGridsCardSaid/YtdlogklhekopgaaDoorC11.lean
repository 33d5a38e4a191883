/- Contracts of the program's functions: part C11 of the proof. -/
import Derived.Test.YtdlogklhekopgaaDoorC10
set_option linter.unusedVariables false
set_option linter.unusedSimpArgs false
namespace Go.Proofs.YtdlogklhekopgaaDoor
open Go.RowKit Go.Shelf Go.Proofs

theorem redTo_small {l : List Nat} (hl : ∀ r ∈ l, r < 65536) (h16 : l.length ≤ 16) (k : Nat) (hk : k ≤ l.length) : SmallP (Lt.redTo l k).1 ∧ (Lt.redTo l k).1.length ≤ 16 ∧ (Lt.redTo l k).2.length ≤ 16 := by
  have h := Lt.inv_to l k hk
  have h2 : (2 : Nat) ^ k ≤ 2 ^ 16 := Nat.pow_le_pow_right (by decide) (by omega)
  refine ⟨fun j => ?_, by have := h.len; omega, by have := h.len; omega⟩
  by_cases hj : j < (Lt.redTo l k).1.length
  · have e : (Lt.redTo l k).1[j]?.getD (0, 0) = (Lt.redTo l k).1[j] := by simp [hj]
    rw [e]
    have hm := List.getElem_mem hj
    refine ⟨Nat.lt_of_lt_of_le (h.ltB _ hm) h2, ?_⟩
    rw [← h.effB _ hm]
    exact Lt.eff_lt (m := 16) hl _
  · have e : (Lt.redTo l k).1[j]?.getD (0, 0) = (0, 0) := by simp [hj]
    rw [e]; exact ⟨by decide, by decide⟩

theorem slice_of_row {w : World} {base : Nat} {e : TypeId} {size : Nat} {v : Value} {n : Nat} {xs : List Value} (h : w.ownsRow base e size v n xs) : ∃ a m c, v = .slice a m c := by
  rcases h.2 with ⟨rfl, _⟩ | ⟨g, cap, cur, rfl, _⟩
  · exact ⟨_, _, _, rfl⟩
  · exact ⟨_, _, _, rfl⟩

set_option maxRecDepth 100000 in
set_option maxHeartbeats 4000000 in
/-- (*lamps).reduced -/
theorem reduced_any (b : Nat) (l : List Nat) (w : World) (hL : Lamps w b l) :
    Calls Tryd.prog 52 #[.pointer (some ⟨b, 0, none⟩)] w fun e w' => ∃ vB vQ, e = .returned (.tuple #[vB, vQ]) ∧ (w'.ownsRow (w.heap.size + 2) 93 2 vB (Lt.basisOf l).length (pcells (Lt.basisOf l)) ∧ w'.ownsRow (w.heap.size + 2) 3 1 vQ (Lt.quietOf l).length (ncells (Lt.quietOf l))) ∧ Below w.heap.size w w' := by
  have hnum := hL.num
  have hlt := hL.lt
  have hlen := hL.len
  have HL := Lib.hid hL
  clear hL
  go_enter Tryd.func52, Tryd.ntmps52
  go_wp2
  go_loopw [11] (fun i wr => ∃ (k : Nat) (vB vQ : Value), i = .int .i64 k ∧ k ≤ l.length ∧ RedAt wr w.heap.size (w.heap.size + 1) (w.heap.size + 2) vB vQ (Lt.redTo l k).1 (Lt.redTo l k).2 ∧ Below w.heap.size w wr)
    (fun i _ => l.length - (intOf i).toNat)
  case atStart =>
    refine ⟨0, .slice none 0 0, .slice none 0 0, rfl, Nat.zero_le _, ⟨by omega, by omega, by simp, ?_, ?_, ⟨by simp [pcells, Lt.redTo], .inl ⟨rfl, rfl⟩⟩, ⟨by simp [ncells, Lt.redTo], .inl ⟨rfl, rfl⟩⟩⟩, ((Below.refl _ w).alloc (Nat.le_refl _) _).alloc (by simp) _⟩
    · exact (Below.heap_alloc _ _ _ (by simp)).trans (World.alloc_heap_new w _)
    · have := World.alloc_heap_new (w.alloc (.cells #[.slice none 0 0] 79)) (.cells #[.slice none 0 0] 36)
      rwa [World.size_alloc] at this
  case round =>
    obtain ⟨k, vB, vQ, rfl, hk, hat, hB⟩ := hrel
    by_cases hlt2 : k < l.length
    · have hLw := HL.out.below hB hlt
      have hr := hLw.row k (by omega)
      have hrl := hLw.rowlt k
      obtain ⟨hsm, hl1, hl2⟩ := redTo_small HL.out.small hlen k hk
      have h2k : (2 : Nat) ^ k < 65536 := Nat.lt_of_lt_of_le (Nat.pow_lt_pow_right (by decide) (by omega : k < 16)) (by decide)
      have hadd := Lib.hid (add_any (2 ^ k) (l[k]?.getD 0) h2k hrl _ _ _ vB vQ _ _ wr hat hsm (by omega) (by omega))
      have hnext : Hid (Lt.redTo l (k + 1) = Lt.add (Lt.redTo l k).1 (Lt.redTo l k).2 (2 ^ k, l[k]?.getD 0)) := Lib.hid rfl
      have w1 := Lt.wrap_u64_nat k (by omega)
      have w2 := wrap_pow k (by omega)
      have hat' := Lib.hid hat
      clear hat hLw
      generalize hm : 2 ^ k = m at w2 hadd hnext
      have hm' := Lib.hid hm
      clear hm h2k
      generalize l[k]?.getD 0 = x at *
      go_wp2_with fail
      refine hadd.out.mono ?_
      rintro e w' ⟨rfl, ⟨vB', vQ', hat2⟩, hB2⟩
      rw [← hnext.out] at hat2
      have hat3 := Lib.hid hat2
      clear hat2
      go_wp2_with fail
      go_roundw
      case rel => exact ⟨k + 1, vB', vQ', by go_num, by omega, hat3.out, hB.trans hB2⟩
      case measure => simp [intOf]; omega
    · have hkl : k = l.length := by omega
      obtain ⟨aB, nB, cB, rfl⟩ := slice_of_row hat.rowB
      obtain ⟨aQ, nQ, cQ, rfl⟩ := slice_of_row hat.rowQ
      have hf : Hid (wr.ownsRow (w.heap.size + 2) 93 2 (.slice aB nB cB) (Lt.basisOf l).length (pcells (Lt.basisOf l)) ∧ wr.ownsRow (w.heap.size + 2) 3 1 (.slice aQ nQ cQ) (Lt.quietOf l).length (ncells (Lt.quietOf l))) := Lib.hid (by
        unfold Lt.basisOf Lt.quietOf; rw [← hkl]; exact ⟨hat.rowB, hat.rowQ⟩)
      have hbb := cell_of_one hat.bbox
      have hqb := cell_of_one hat.qbox
      have hbf := free_of_one hat.bbox
      have hqf := free_of_one hat.qbox
      have hsz := hat.hbase
      clear hkl
      have hat' := Lib.hid hat
      clear hat
      have mixed := Tryd.mixed
      go_wp2
      go_region
      all_goals go_wp2
      all_goals
        have e1 : ((wr.setCell ⟨w.heap.size, 0, none⟩ (.slice aB nB cB)).setCell ⟨w.heap.size + 1, 0, none⟩ (.slice aQ nQ cQ)).drew.cell? ⟨w.heap.size, 0, none⟩ = some (.slice aB nB cB) := by
          show ((wr.setCell ⟨w.heap.size, 0, none⟩ (.slice aB nB cB)).setCell ⟨w.heap.size + 1, 0, none⟩ (.slice aQ nQ cQ)).cell? ⟨w.heap.size, 0, none⟩ = _
          rw [World.cell?_setCell_other _ _ _ _ (by simp)]; exact World.cell?_setCell_same' _ _ _ (by rw [hbb]; rfl)
        have e2 : ((wr.setCell ⟨w.heap.size, 0, none⟩ (.slice aB nB cB)).setCell ⟨w.heap.size + 1, 0, none⟩ (.slice aQ nQ cQ)).drew.cell? ⟨w.heap.size + 1, 0, none⟩ = some (.slice aQ nQ cQ) := by
          show ((wr.setCell ⟨w.heap.size, 0, none⟩ (.slice aB nB cB)).setCell ⟨w.heap.size + 1, 0, none⟩ (.slice aQ nQ cQ)).cell? ⟨w.heap.size + 1, 0, none⟩ = _
          exact World.cell?_setCell_same' _ _ _ (by rw [World.cell?_setCell_other _ _ _ _ (by simp), hqb]; rfl)
        have e3 : Hid ((((wr.setCell ⟨w.heap.size, 0, none⟩ (.slice aB nB cB)).setCell ⟨w.heap.size + 1, 0, none⟩ (.slice aQ nQ cQ)).drew.ownsRow (w.heap.size + 2) 93 2 (.slice aB nB cB) (Lt.basisOf l).length (pcells (Lt.basisOf l)) ∧
            ((wr.setCell ⟨w.heap.size, 0, none⟩ (.slice aB nB cB)).setCell ⟨w.heap.size + 1, 0, none⟩ (.slice aQ nQ cQ)).drew.ownsRow (w.heap.size + 2) 3 1 (.slice aQ nQ cQ) (Lt.quietOf l).length (ncells (Lt.quietOf l))) ∧
            Below w.heap.size w ((wr.setCell ⟨w.heap.size, 0, none⟩ (.slice aB nB cB)).setCell ⟨w.heap.size + 1, 0, none⟩ (.slice aQ nQ cQ)).drew) := Lib.hid
          ⟨⟨ownsRow_setCell_below (ownsRow_setCell_below hf.out.1 (by simp) _) (by simp) _, ownsRow_setCell_below (ownsRow_setCell_below hf.out.2 (by simp) _) (by simp) _⟩,
            ((hB.setCell (p := ⟨w.heap.size, 0, none⟩) (Nat.le_refl _) _).setCell (p := ⟨w.heap.size + 1, 0, none⟩) (by simp) _).drew⟩
        generalize ((wr.setCell ⟨w.heap.size, 0, none⟩ (.slice aB nB cB)).setCell ⟨w.heap.size + 1, 0, none⟩ (.slice aQ nQ cQ)).drew = w9 at *
        exact bodyPost_ret (v := .tuple #[.slice aB nB cB, .slice aQ nQ cQ]) (by simp [results, Tryd.results52, go_sem, e1, e2]) rfl ⟨_, _, rfl, e3.out.1, e3.out.2⟩

end Go.Proofs.YtdlogklhekopgaaDoor
