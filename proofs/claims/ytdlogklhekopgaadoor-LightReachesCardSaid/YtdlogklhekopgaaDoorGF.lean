/- Contracts of the program's functions: a part of the proof. -/
import Derived.Test.YtdlogklhekopgaaDoorGE
import Derived.Maps.AppendAt
import Derived.RangeFuncBox
set_option linter.unusedVariables false
set_option linter.unusedSimpArgs false

namespace Go.Proofs.YtdlogklhekopgaaDoor
open Go.RowKit Go.Shelf Go.Proofs

/-- numbers as cells -/
def ncells (l : List Nat) : List Value := l.map fun x : Nat => Value.int .i64 (x : Int)
theorem ncells_length (l : List Nat) : (ncells l).length = l.length := by simp [ncells]
theorem ncells_one (l : List Nat) : ∀ u ∈ ncells l, u.oneCell' = true := by
  intro u hu; simp only [ncells, List.mem_map] at hu; obtain ⟨x, _, rfl⟩ := hu; rfl

/-- reduced's two boxes and what they lead to -/
structure RedAt (w : World) (bb qb base : Nat) (vB vQ : Value) (B : List (Nat × Nat)) (Q : List Nat) : Prop where
  lt : bb < qb
  ltb : qb < base
  hbase : base ≤ w.heap.size
  bbox : w.heap[bb]? = some (.cells #[vB] 79 (0, 0))
  qbox : w.heap[qb]? = some (.cells #[vQ] 36 (0, 0))
  rowB : w.ownsRow base 93 2 vB B.length (pcells B)
  rowQ : w.ownsRow base 3 1 vQ Q.length (ncells Q)

theorem ownsRow_below {w w' : World} {base base' : Nat} {e : TypeId} {size : Nat} {v : Value} {n : Nat} {xs : List Value} (h : w.ownsRow base' e size v n xs) (hb : Below base w w') (hk : ∀ k, v.ownBlock = some k → k < base) : w'.ownsRow base' e size v n xs := by
  rcases h with ⟨hl, ⟨rfl, h0⟩ | ⟨g, cap, cur, rfl, hg, hh, rest⟩⟩
  · exact ⟨hl, .inl ⟨rfl, h0⟩⟩
  · exact ⟨hl, .inr ⟨g, cap, cur, rfl, hg, (hb.block g (hk g rfl)).trans hh, rest⟩⟩

theorem RedAt.below {w w' : World} {bb qb base : Nat} {vB vQ : Value} {B : List (Nat × Nat)} {Q : List Nat} (h : RedAt w bb qb base vB vQ B Q) (hb : Below w.heap.size w w') : RedAt w' bb qb base vB vQ B Q :=
  ⟨h.lt, h.ltb, Nat.le_trans h.hbase hb.size, (hb.block bb (lt_of_block h.bbox)).trans h.bbox, (hb.block qb (lt_of_block h.qbox)).trans h.qbox,
    ownsRow_below h.rowB hb (fun k hk => (h.rowB.lt k hk).2), ownsRow_below h.rowQ hb (fun k hk => (h.rowQ.lt k hk).2)⟩

/-- a slice's address, as the walk wants it: nil, or at the head of a block -/
def AddrOf (v : Value) (n : Nat) : Prop := (v = .slice none 0 0 ∧ n = 0) ∨ ∃ g cap, v = .slice (some ⟨g, 0, none⟩) n cap

def SmallP (B : List (Nat × Nat)) : Prop := ∀ j : Nat, (B[j]?.getD (0, 0)).1 < 65536 ∧ (B[j]?.getD (0, 0)).2 < 65536

theorem rows_apart {w : World} {base base' : Nat} {v u : Value} {n m : Nat} {xs ys : List Value} (h : w.ownsRow base 93 2 v n xs) (k : w.ownsRow base' 3 1 u m ys) : (v.ownBlock = none ∨ v.ownBlock ≠ u.ownBlock) ∧ (u.ownBlock = none ∨ u.ownBlock ≠ v.ownBlock) := by
  rcases h.2 with ⟨rfl, _⟩ | ⟨g, cap, cur, rfl, _, hh, _⟩
  · refine ⟨.inl rfl, ?_⟩
    rcases k.2 with ⟨rfl, _⟩ | ⟨g', cap', cur', rfl, _, hh', _⟩
    · exact .inl rfl
    · exact .inr (by simp [Value.ownBlock])
  · rcases k.2 with ⟨rfl, _⟩ | ⟨g', cap', cur', rfl, _, hh', _⟩
    · exact ⟨.inr (by simp [Value.ownBlock]), .inl rfl⟩
    · have hne : g ≠ g' := fun e => by
        rw [e, hh'] at hh
        simp at hh
      exact ⟨.inr (by simpa [Value.ownBlock] using hne), .inr (by simpa [Value.ownBlock] using fun e => hne e.symm)⟩

theorem RedAt.quiet {w0 w1 : World} {bb qb base : Nat} {vB vQ v' : Value} {B : List (Nat × Nat)} {Q : List Nat} {a : Nat} (h : RedAt w0 bb qb base vB vQ B Q) (hg : w0.grownBy w1 vQ.ownBlock) (hr : w1.ownsRow base 3 1 v' (Q.length + 1) (ncells Q ++ [.int .i64 (a : Int)])) :
    RedAt (w1.setCell ⟨qb, 0, none⟩ v') bb qb base vB v' B (Q ++ [a]) ∧ Below bb w0 (w1.setCell ⟨qb, 0, none⟩ v') := by
  have hlt := h.lt
  have hltb := h.ltb
  have hlow : ∀ k, vQ.ownBlock = some k → base ≤ k := fun k hk => (h.rowQ.lt k hk).1
  have hq1 : w1.heap[qb]? = some (.cells #[vQ] 36 (0, 0)) := (hg.block qb (lt_of_block h.qbox) (fun e => by have := hlow qb e.symm; omega)).trans h.qbox
  have hb1 : w1.heap[bb]? = some (.cells #[vB] 79 (0, 0)) := (hg.block bb (lt_of_block h.bbox) (fun e => by have := hlow bb e.symm; omega)).trans h.bbox
  have hrB : w1.ownsRow base 93 2 vB B.length (pcells B) := h.rowB.kept hg (rows_apart h.rowB h.rowQ).1
  refine ⟨⟨hlt, hltb, ?_, ?_, one_setCell hq1, ownsRow_setCell_below hrB (by simpa using hltb) _, ?_⟩, ?_⟩
  · have := h.hbase; have := hg.size; simp; omega
  · exact (Below.heap_setCell w1 ⟨qb, 0, none⟩ v' bb (by simp; omega)).trans hb1
  · have e1 : (Q ++ [a]).length = Q.length + 1 := by simp
    have e2 : ncells (Q ++ [a]) = ncells Q ++ [.int .i64 (a : Int)] := by simp [ncells]
    rw [e1, e2]
    exact ownsRow_setCell_below hr (by simpa using hltb) _
  · have hb : Below bb w0 w1 := (Below.refl bb w0).grown hg (Nat.le_of_lt (lt_of_block h.bbox)) (fun k hk => by have := hlow k hk; omega)
    exact hb.setCell (by simp; omega) _

theorem RedAt.qafter {w0 w1 : World} {bb qb base : Nat} {vB vQ : Value} {B : List (Nat × Nat)} {Q : List Nat} (h : RedAt w0 bb qb base vB vQ B Q) (o : Obj) (hg : (w0.alloc o).grownBy w1 vQ.ownBlock) :
    w1.cell? ⟨qb, 0, none⟩ = some vQ ∧ w1.frozen? ⟨qb, 0, none⟩ = false := by
  have h' := h.below ((Below.refl _ w0).alloc (Nat.le_refl _) o)
  have hltb := h.ltb
  have hq1 : w1.heap[qb]? = some (.cells #[vQ] 36 (0, 0)) := (hg.block qb (lt_of_block h'.qbox) (fun e => by have := (h'.rowQ.lt qb e.symm).1; omega)).trans h'.qbox
  exact ⟨cell_of_one hq1, free_of_one hq1⟩

theorem RedAt.basis {w0 w1 : World} {bb qb base : Nat} {vB vQ v' : Value} {B : List (Nat × Nat)} {Q : List Nat} {p : Nat × Nat} (h : RedAt w0 bb qb base vB vQ B Q) (hg : w0.grownBy w1 vB.ownBlock) (hr : w1.ownsRow base 93 2 v' (B.length + 1) (pcells (Lt.ins B p))) :
    RedAt (w1.setCell ⟨bb, 0, none⟩ v') bb qb base v' vQ (Lt.ins B p) Q ∧ Below bb w0 (w1.setCell ⟨bb, 0, none⟩ v') := by
  have hlt := h.lt
  have hltb := h.ltb
  have hlow : ∀ k, vB.ownBlock = some k → base ≤ k := fun k hk => (h.rowB.lt k hk).1
  have hq1 : w1.heap[qb]? = some (.cells #[vQ] 36 (0, 0)) := (hg.block qb (lt_of_block h.qbox) (fun e => by have := hlow qb e.symm; omega)).trans h.qbox
  have hb1 : w1.heap[bb]? = some (.cells #[vB] 79 (0, 0)) := (hg.block bb (lt_of_block h.bbox) (fun e => by have := hlow bb e.symm; omega)).trans h.bbox
  have hrQ : w1.ownsRow base 3 1 vQ Q.length (ncells Q) := h.rowQ.kept hg (rows_apart h.rowB h.rowQ).2
  refine ⟨⟨hlt, hltb, ?_, one_setCell hb1, ?_, ?_, ownsRow_setCell_below hrQ (by simp; omega) _⟩, ?_⟩
  · have := h.hbase; have := hg.size; simp; omega
  · exact (Below.heap_setCell w1 ⟨bb, 0, none⟩ v' qb (by simp; omega)).trans hq1
  · rw [Lt.ins_length]
    exact ownsRow_setCell_below hr (by simp; omega) _
  · have hb : Below bb w0 w1 := (Below.refl bb w0).grown hg (Nat.le_of_lt (lt_of_block h.bbox)) (fun k hk => by have := hlow k hk; omega)
    exact hb.setCell (by simp) _

theorem ReadsB.general {w : World} {v : Value} {B : List (Nat × Nat)} (h : ReadsB w v B) : ∃ ad cap, v = .slice ad B.length cap ∧ ∀ j, j < B.length → ∃ g off, ad = some ⟨g, off, none⟩ ∧ g < w.heap.size ∧
    w.cell? ⟨g, off + j * 2, none⟩ = some (.int .i64 ((B[j]?.getD (0, 0)).1 : Int)) ∧ w.cell? ⟨g, off + j * 2 + 1, none⟩ = some (.int .i64 ((B[j]?.getD (0, 0)).2 : Int)) := by
  rcases h with ⟨rfl, rfl⟩ | ⟨g, off, cap, rfl, hg, hc⟩
  · exact ⟨none, 0, rfl, fun j hj => by simp at hj⟩
  · exact ⟨_, cap, rfl, fun j hj => ⟨g, off, rfl, hg, (hc j hj).1, (hc j hj).2⟩⟩

theorem one_alloc {w : World} {b : Nat} {x y : Value} (h : One w b x y) (o : Obj) : One (w.alloc o) b x y :=
  (Below.heap_alloc w o b (lt_of_block h)).trans h
theorem one_two {w : World} {b : Nat} {x y x' y' : Value} (h : One w b x y) : One ((w.setCell ⟨b, 0, none⟩ x').setCell ⟨b, 1, none⟩ y') b x' y' := by
  unfold One at *
  have e1 := setCell_eq_setRow w b 0 #[x, y] 93 (0, 0) x' h
  have h1 := setRow_heap w b #[x, y] (#[x, y].setIfInBounds 0 x') 93 (0, 0) h
  rw [e1]
  have e2 := setCell_eq_setRow _ b 1 _ 93 (0, 0) y' h1
  rw [e2]
  exact setRow_heap _ b _ _ 93 (0, 0) h1

set_option maxRecDepth 100000 in
set_option maxHeartbeats 4000000 in
/-- reduced's closure -/
theorem add_any (s x : Nat) (hs : s < 65536) (hx : x < 65536) (bb qb base : Nat) (vB vQ : Value) (B : List (Nat × Nat)) (Q : List Nat) (w : World) (hr : RedAt w bb qb base vB vQ B Q) (hB : SmallP B) (hlB : B.length ≤ 100) (hlQ : Q.length ≤ 100) :
    Calls Tryd.prog 67 #[.agg #[.int .i64 s, .int .i64 x], .pointer (some ⟨bb, 0, none⟩), .pointer (some ⟨qb, 0, none⟩)] w fun e w' => e = .returned (.tuple #[]) ∧ (∃ vB' vQ', RedAt w' bb qb base vB' vQ' (Lt.add B Q (s, x)).1 (Lt.add B Q (s, x)).2) ∧ Below bb w w' := by
  have hbb := cell_of_one hr.bbox
  have hbl := lt_of_block hr.bbox
  have hread := ReadsB.of_row hr.rowB
  have HR := Lib.hid hr
  clear hr
  obtain ⟨ad, cap, rfl, hcs⟩ := hread.general
  · have HC := Lib.hid hcs
    clear hcs hread
    go_enter Tryd.func67, Tryd.ntmps67
    go_wp2
    go_loopw [9] (fun i wr => ∃ (k a c : Nat), i = .int .i64 k ∧ k ≤ B.length ∧ Hid (Lt.red1 (B.drop k) (a, c) = Lt.red1 B (s, x)) ∧ a < 65536 ∧ c < 65536 ∧ Hid (One wr w.heap.size (.int .i64 a) (.int .i64 c)) ∧ Below w.heap.size w wr)
      (fun i _ => B.length - (intOf i).toNat)
    case atStart =>
      refine ⟨0, s, x, rfl, Nat.zero_le _, Lib.hid rfl, hs, hx, Lib.hid ?_, (Below.refl _ _).alloc (Nat.le_refl _) _⟩
      exact World.alloc_heap_new w _
    case round =>
      obtain ⟨k, a, c, rfl, hk, hred, ha, hc, hone, hBl⟩ := hrel
      by_cases hlt : k < B.length
      · have hred' := hred
        obtain ⟨g, off, rfl, hgw, hc0, hc1⟩ := HC.out k hlt
        replace hc0 := (hBl.cell (p := ⟨g, off + k * 2, none⟩) hgw).trans hc0
        replace hc1 := (hBl.cell (p := ⟨g, off + k * 2 + 1, none⟩) hgw).trans hc1
        have hsm := hB k
        have hxor1 := Lt.xor_i64 c (B[k]?.getD (0, 0)).2 (by omega) (by omega)
        have hxor0 := Lt.xor_i64 a (B[k]?.getD (0, 0)).1 (by omega) (by omega)
        have hp0 : wr.cell? ⟨w.heap.size, 0, none⟩ = some (.int .i64 a) := by have := hone.out; unfold One at this; simp [World.cell?, this]
        have hp1 : wr.cell? ⟨w.heap.size, 1, none⟩ = some (.int .i64 c) := by have := hone.out; unfold One at this; simp [World.cell?, this]
        have hf0 : wr.frozen? ⟨w.heap.size, 0, none⟩ = false := by have := hone.out; unfold One at this; simp [World.frozen?, this]
        have hf1 : wr.frozen? ⟨w.heap.size, 1, none⟩ = false := by have := hone.out; unfold One at this; simp [World.frozen?, this]
        have hwr : w.heap.size < wr.heap.size := lt_of_block hone.out
        have hst : Hid (Lt.red1 (B.drop k) (a, c) = Lt.red1 (B.drop (k + 1)) (if c ^^^ (B[k]?.getD (0, 0)).2 < c then (a ^^^ (B[k]?.getD (0, 0)).1, c ^^^ (B[k]?.getD (0, 0)).2) else (a, c))) := Lib.hid (by
          rw [List.drop_eq_getElem_cons hlt, Lt.red1]; simp [hlt])
        have hxl1 : c ^^^ (B[k]?.getD (0, 0)).2 < 65536 := Nat.xor_lt_two_pow (n := 16) hc hsm.2
        have hxl0 : a ^^^ (B[k]?.getD (0, 0)).1 < 65536 := Nat.xor_lt_two_pow (n := 16) ha hsm.1
        generalize c ^^^ (B[k]?.getD (0, 0)).2 = c' at hxor1 hst hxl1
        generalize a ^^^ (B[k]?.getD (0, 0)).1 = a' at hxor0 hst hxl0
        generalize (B[k]?.getD (0, 0)).2 = bx at *
        generalize (B[k]?.getD (0, 0)).1 = bs at *
        clear hred
        by_cases hless : c' < c
        · rw [if_pos hless] at hst
          go_wp2
          go_roundw
          case rel =>
            exact ⟨k + 1, a', c', by go_num, by omega, Lib.hid (hst.out.symm.trans hred'.out), hxl0, hxl1, Lib.hid (one_alloc (one_two hone.out) _),
              ((hBl.setCell (p := ⟨w.heap.size, 0, none⟩) (Nat.le_refl _) _).setCell (p := ⟨w.heap.size, 1, none⟩) (Nat.le_refl _) _).alloc (by simp; omega) _⟩
          case measure => simp [intOf]; omega
        · rw [if_neg hless] at hst
          go_wp2
          go_roundw
          case rel => exact ⟨k + 1, a, c, by go_num, by omega, Lib.hid (hst.out.symm.trans hred'.out), ha, hc, Lib.hid (one_alloc hone.out _), hBl.alloc (by omega) _⟩
          case measure => simp [intOf]; omega
      · have hkB : Hid (Lt.red1 B (s, x) = (a, c)) := Lib.hid (by
          have e : B.drop k = [] := List.drop_of_length_le (by omega)
          have := hred.out; rw [e] at this; exact this.symm)
        have hat := HR.out.below hBl
        have hp0 : wr.cell? ⟨w.heap.size, 0, none⟩ = some (.int .i64 a) := by have := hone.out; unfold One at this; simp [World.cell?, this]
        have hp1 : wr.cell? ⟨w.heap.size, 1, none⟩ = some (.int .i64 c) := by have := hone.out; unfold One at this; simp [World.cell?, this]
        have hwr : w.heap.size < wr.heap.size := lt_of_block hone.out
        clear hred hbb HC
        by_cases hc0 : c = 0
        · have hq := cell_of_one hat.qbox
          have hqf := free_of_one hat.qbox
          have hqn : qb < wr.heap.size := lt_of_block hat.qbox
          have hrow := Lib.hid hat.rowQ
          obtain ⟨i0, hi0, hz0, hzs, hzb⟩ := info_parts Tryd.info3
          have hbase := Nat.le_trans hat.hbase (Nat.le_refl _)
          have hat' := Lib.hid hat
          clear hat
          have hct : ((c : Int) == 0) = true := by simp [hc0]
          have hc0' := Lib.hid hc0
          clear hc0
          go_wp2_with (at_builtin; refine wpList_append_own _ rfl _ _ 36 rfl base 3 i0 _ 1 8 Tryd.underlying36 hi0 hz0 hzs hzb rfl (by decide) vQ Q.length (ncells Q) rfl (hrow.out.alloc _) ⟨wr.heap.size, 0, none⟩ 1 1 [.int .i64 a] rfl rfl (cell_one_new _ _ _) (by simp [Value.oneCell']) (by unfold maxLen; omega) (by omega) (by simp; omega) ?_; intro v' w1 hown' hgrow _; obtain ⟨g', cap', rfl⟩ := ownsRow_succ hown'; have HOWN := Lib.hid hown'; have HGR := Lib.hid hgrow; have hq1 := hat'.out.qafter _ hgrow; have hqf1 := (hq1.2); replace hq1 := hq1.1; clear hown' hgrow)
          refine bodyPost_ret (results_none rfl _ _ _) rfl ?_
          have hfin := (hat'.out.below ((Below.refl _ wr).alloc (Nat.le_refl _) _)).quiet HGR.out HOWN.out
          have hadd : Lt.add B Q (s, x) = (B, Q ++ [a]) := by
            unfold Lt.add; rw [hkB.out, if_pos (by exact hc0'.out)]
          rw [hadd]
          refine ⟨rfl, ⟨_, _, hfin.1⟩, ?_⟩
          have h1 : Below bb w wr := hBl.mono (by omega)
          exact (h1.alloc (by have := lt_of_block hat'.out.bbox; omega) _).trans hfin.2
        · have hct : ((c : Int) == 0) = false := by simpa using hc0
          have hc0' := Lib.hid hc0
          have hidx := Lib.hid (indexLess_any (.slice ad B.length cap) B c w.heap.size wr (ReadsB.of_row hat.rowB) (by omega) hp1 hwr)
          have hbb := cell_of_one hat.bbox
          have hadd : Hid (Lt.add B Q (s, x) = (Lt.ins B (a, c), Q)) := Lib.hid (by unfold Lt.add; rw [hkB.out, if_neg (by exact hc0)])
          have hile : Lt.insAt B c ≤ B.length := List.findIdx_le_length
          have hcells := Lib.hid (pcells_ins B (a, c))
          have hat' := Lib.hid hat
          have hbw : bb < wr.heap.size := lt_of_block hat.bbox
          clear hat hc0
          have hjoin : ∀ (w2 : World), Below wr.heap.size wr w2 → Calls Tryd.prog 70 #[.slice ad B.length cap, .int .i64 (Lt.insAt B c : Nat), .slice (some ⟨w2.heap.size, 0, none⟩) 1 1] (w2.alloc (.cells #[.int .i64 (a : Int), .int .i64 (c : Int)] 93))
              fun e w3 => ∃ g' cap', e = .returned (.slice (some ⟨g', 0, none⟩) (B.length + 1) cap') ∧ (w3.cell? ⟨bb, 0, none⟩ = some (.slice ad B.length cap) ∧ w3.frozen? ⟨bb, 0, none⟩ = false) ∧
                Hid ((∃ vB' vQ', RedAt (w3.setCell ⟨bb, 0, none⟩ (.slice (some ⟨g', 0, none⟩) (B.length + 1) cap')) bb qb base vB' vQ' (Lt.ins B (a, c)) Q) ∧ Below bb w (w3.setCell ⟨bb, 0, none⟩ (.slice (some ⟨g', 0, none⟩) (B.length + 1) cap'))) := fun w2 hw2 => by
            have h2 := (hat'.out.below hw2).below ((Below.refl _ w2).alloc (Nat.le_refl _) (.cells #[.int .i64 (a : Int), .int .i64 (c : Int)] 93))
            refine (ins_any (.slice ad B.length cap) B.length (Lt.insAt B c) w2.heap.size _ _ (pcells B) _ base rfl rfl (by omega) hile h2.hbase h2.rowB (World.alloc_heap_new w2 _) (fun e => ?_) (pcells_one B)).mono ?_
            · have := ((hat'.out.below hw2).rowB.lt _ e).2; omega
            · rintro e w3 ⟨v', rfl, hrow', hgr⟩
              rw [← hcells.out] at hrow'
              obtain ⟨g', cap', rfl⟩ := ownsRow_succ hrow'
              have hb3 : w3.heap[bb]? = some (.cells #[.slice ad B.length cap] 79 (0, 0)) := (hgr.block bb (lt_of_block h2.bbox) (fun e => by have := (h2.rowB.lt bb e.symm).1; have := h2.lt; have := h2.ltb; omega)).trans h2.bbox
              have hfin := h2.basis hgr hrow'
              refine ⟨g', cap', rfl, ⟨cell_of_one hb3, free_of_one hb3⟩, Lib.hid ⟨⟨_, _, hfin.1⟩, ?_⟩⟩
              have h1 : Below bb w wr := hBl.mono (by omega)
              exact ((h1.trans (hw2.mono (by omega))).alloc (by have := hw2.size; omega) _).trans hfin.2
          have HJ := Lib.hid hjoin
          clear hjoin
          by_cases hin : Lt.insAt B c < B.length
          · have hidl : idxLess B c = (Lt.insAt B c : Int) := by unfold idxLess; rw [if_pos hin]
            rw [hidl] at hidx
            clear hidl hcells
            generalize Lt.insAt B c = i at *
            go_wp2_with fail
            refine hidx.out.mono ?_
            rintro e w2 ⟨rfl, hb2⟩
            have hbb2 := (hb2.cell (p := ⟨bb, 0, none⟩) hbw).trans hbb
            have hp02 := (hb2.cell (p := ⟨w.heap.size, 0, none⟩) hwr).trans hp0
            have hp12 := (hb2.cell (p := ⟨w.heap.size, 1, none⟩) hwr).trans hp1
            have hsz2 := hb2.size
            go_wp2_with fail
            refine (HJ.out w2 hb2).mono ?_
            rintro e w3 ⟨g', cap', rfl, ⟨hq1, hqf1⟩, hfin⟩
            go_wp2_with fail
            go_end0
            rw [hadd.out]
            exact ⟨rfl, hfin.out.1, hfin.out.2⟩
          · have hidl : idxLess B c = -1 := by unfold idxLess; rw [if_neg hin]
            have hieq : Lt.insAt B c = B.length := by omega
            rw [hidl] at hidx
            rw [hieq] at HJ
            clear hidl hcells hile hin hieq
            go_wp2_with fail
            refine hidx.out.mono ?_
            rintro e w2 ⟨rfl, hb2⟩
            have hbb2 := (hb2.cell (p := ⟨bb, 0, none⟩) hbw).trans hbb
            have hp02 := (hb2.cell (p := ⟨w.heap.size, 0, none⟩) hwr).trans hp0
            have hp12 := (hb2.cell (p := ⟨w.heap.size, 1, none⟩) hwr).trans hp1
            have hsz2 := hb2.size
            go_wp2_with fail
            refine (HJ.out w2 hb2).mono ?_
            rintro e w3 ⟨g', cap', rfl, ⟨hq1, hqf1⟩, hfin⟩
            go_wp2_with fail
            go_end0
            rw [hadd.out]
            exact ⟨rfl, hfin.out.1, hfin.out.2⟩

end Go.Proofs.YtdlogklhekopgaaDoor

namespace Go.Proofs.YtdlogklhekopgaaDoor
open Go.RowKit Go.Shelf Go.Proofs

theorem redTo_small {l : List Nat} (hl : ∀ r ∈ l, r < 65536) (h16 : l.length ≤ 16) (k : Nat) (hk : k ≤ l.length) : SmallP (Lt.redTo l k).1 ∧ (Lt.redTo l k).1.length ≤ 16 ∧ (Lt.redTo l k).2.length ≤ 16 := by
  have h := Lt.inv_to l k hk
  have h2 : (2 : Nat) ^ k ≤ 2 ^ 16 := Nat.pow_le_pow_right (by decide) (by omega)
  refine ⟨fun j => ?_, by have := h.len; omega, by have := h.len; omega⟩
  by_cases hj : j < (Lt.redTo l k).1.length
  · have e : (Lt.redTo l k).1[j]?.getD (0, 0) = (Lt.redTo l k).1[j] := by simp [hj]
    rw [e]
    have hm := List.getElem_mem hj
    refine ⟨Nat.lt_of_lt_of_le (h.ltB _ hm) h2, ?_⟩
    rw [← h.effB _ hm]
    exact Lt.eff_lt (m := 16) hl _
  · have e : (Lt.redTo l k).1[j]?.getD (0, 0) = (0, 0) := by simp [hj]
    rw [e]; exact ⟨by decide, by decide⟩

theorem slice_of_row {w : World} {base : Nat} {e : TypeId} {size : Nat} {v : Value} {n : Nat} {xs : List Value} (h : w.ownsRow base e size v n xs) : ∃ a m c, v = .slice a m c := by
  rcases h.2 with ⟨rfl, _⟩ | ⟨g, cap, cur, rfl, _⟩
  · exact ⟨_, _, _, rfl⟩
  · exact ⟨_, _, _, rfl⟩

set_option maxRecDepth 100000 in
set_option maxHeartbeats 4000000 in
/-- (*lamps).reduced -/
theorem reduced_any (b : Nat) (l : List Nat) (w : World) (hL : Lamps w b l) :
    Calls Tryd.prog 52 #[.pointer (some ⟨b, 0, none⟩)] w fun e w' => ∃ vB vQ, e = .returned (.tuple #[vB, vQ]) ∧ (w'.ownsRow (w.heap.size + 2) 93 2 vB (Lt.basisOf l).length (pcells (Lt.basisOf l)) ∧ w'.ownsRow (w.heap.size + 2) 3 1 vQ (Lt.quietOf l).length (ncells (Lt.quietOf l))) ∧ Below w.heap.size w w' := by
  have hnum := hL.num
  have hlt := hL.lt
  have hlen := hL.len
  have HL := Lib.hid hL
  clear hL
  go_enter Tryd.func52, Tryd.ntmps52
  go_wp2
  go_loopw [11] (fun i wr => ∃ (k : Nat) (vB vQ : Value), i = .int .i64 k ∧ k ≤ l.length ∧ RedAt wr w.heap.size (w.heap.size + 1) (w.heap.size + 2) vB vQ (Lt.redTo l k).1 (Lt.redTo l k).2 ∧ Below w.heap.size w wr)
    (fun i _ => l.length - (intOf i).toNat)
  case atStart =>
    refine ⟨0, .slice none 0 0, .slice none 0 0, rfl, Nat.zero_le _, ⟨by omega, by omega, by simp, ?_, ?_, ⟨by simp [pcells, Lt.redTo], .inl ⟨rfl, rfl⟩⟩, ⟨by simp [ncells, Lt.redTo], .inl ⟨rfl, rfl⟩⟩⟩, ((Below.refl _ w).alloc (Nat.le_refl _) _).alloc (by simp) _⟩
    · exact (Below.heap_alloc _ _ _ (by simp)).trans (World.alloc_heap_new w _)
    · have := World.alloc_heap_new (w.alloc (.cells #[.slice none 0 0] 79)) (.cells #[.slice none 0 0] 36)
      rwa [World.size_alloc] at this
  case round =>
    obtain ⟨k, vB, vQ, rfl, hk, hat, hB⟩ := hrel
    by_cases hlt2 : k < l.length
    · have hLw := HL.out.below hB hlt
      have hr := hLw.row k (by omega)
      have hrl := hLw.rowlt k
      obtain ⟨hsm, hl1, hl2⟩ := redTo_small HL.out.small hlen k hk
      have h2k : (2 : Nat) ^ k < 65536 := Nat.lt_of_lt_of_le (Nat.pow_lt_pow_right (by decide) (by omega : k < 16)) (by decide)
      have hadd := Lib.hid (add_any (2 ^ k) (l[k]?.getD 0) h2k hrl _ _ _ vB vQ _ _ wr hat hsm (by omega) (by omega))
      have hnext : Hid (Lt.redTo l (k + 1) = Lt.add (Lt.redTo l k).1 (Lt.redTo l k).2 (2 ^ k, l[k]?.getD 0)) := Lib.hid rfl
      have w1 := Lt.wrap_u64_nat k (by omega)
      have w2 := wrap_pow k (by omega)
      have hat' := Lib.hid hat
      clear hat hLw
      generalize hm : 2 ^ k = m at w2 hadd hnext
      have hm' := Lib.hid hm
      clear hm h2k
      generalize l[k]?.getD 0 = x at *
      go_wp2_with fail
      refine hadd.out.mono ?_
      rintro e w' ⟨rfl, ⟨vB', vQ', hat2⟩, hB2⟩
      rw [← hnext.out] at hat2
      have hat3 := Lib.hid hat2
      clear hat2
      go_wp2_with fail
      go_roundw
      case rel => exact ⟨k + 1, vB', vQ', by go_num, by omega, hat3.out, hB.trans hB2⟩
      case measure => simp [intOf]; omega
    · have hkl : k = l.length := by omega
      obtain ⟨aB, nB, cB, rfl⟩ := slice_of_row hat.rowB
      obtain ⟨aQ, nQ, cQ, rfl⟩ := slice_of_row hat.rowQ
      have hf : Hid (wr.ownsRow (w.heap.size + 2) 93 2 (.slice aB nB cB) (Lt.basisOf l).length (pcells (Lt.basisOf l)) ∧ wr.ownsRow (w.heap.size + 2) 3 1 (.slice aQ nQ cQ) (Lt.quietOf l).length (ncells (Lt.quietOf l))) := Lib.hid (by
        unfold Lt.basisOf Lt.quietOf; rw [← hkl]; exact ⟨hat.rowB, hat.rowQ⟩)
      have hbb := cell_of_one hat.bbox
      have hqb := cell_of_one hat.qbox
      have hbf := free_of_one hat.bbox
      have hqf := free_of_one hat.qbox
      have hsz := hat.hbase
      clear hkl
      have hat' := Lib.hid hat
      clear hat
      have mixed := Tryd.mixed
      go_wp2
      go_region
      all_goals go_wp2
      all_goals
        have e1 : ((wr.setCell ⟨w.heap.size, 0, none⟩ (.slice aB nB cB)).setCell ⟨w.heap.size + 1, 0, none⟩ (.slice aQ nQ cQ)).drew.cell? ⟨w.heap.size, 0, none⟩ = some (.slice aB nB cB) := by
          show ((wr.setCell ⟨w.heap.size, 0, none⟩ (.slice aB nB cB)).setCell ⟨w.heap.size + 1, 0, none⟩ (.slice aQ nQ cQ)).cell? ⟨w.heap.size, 0, none⟩ = _
          rw [World.cell?_setCell_other _ _ _ _ (by simp)]; exact World.cell?_setCell_same' _ _ _ (by rw [hbb]; rfl)
        have e2 : ((wr.setCell ⟨w.heap.size, 0, none⟩ (.slice aB nB cB)).setCell ⟨w.heap.size + 1, 0, none⟩ (.slice aQ nQ cQ)).drew.cell? ⟨w.heap.size + 1, 0, none⟩ = some (.slice aQ nQ cQ) := by
          show ((wr.setCell ⟨w.heap.size, 0, none⟩ (.slice aB nB cB)).setCell ⟨w.heap.size + 1, 0, none⟩ (.slice aQ nQ cQ)).cell? ⟨w.heap.size + 1, 0, none⟩ = _
          exact World.cell?_setCell_same' _ _ _ (by rw [World.cell?_setCell_other _ _ _ _ (by simp), hqb]; rfl)
        have e3 : Hid ((((wr.setCell ⟨w.heap.size, 0, none⟩ (.slice aB nB cB)).setCell ⟨w.heap.size + 1, 0, none⟩ (.slice aQ nQ cQ)).drew.ownsRow (w.heap.size + 2) 93 2 (.slice aB nB cB) (Lt.basisOf l).length (pcells (Lt.basisOf l)) ∧
            ((wr.setCell ⟨w.heap.size, 0, none⟩ (.slice aB nB cB)).setCell ⟨w.heap.size + 1, 0, none⟩ (.slice aQ nQ cQ)).drew.ownsRow (w.heap.size + 2) 3 1 (.slice aQ nQ cQ) (Lt.quietOf l).length (ncells (Lt.quietOf l))) ∧
            Below w.heap.size w ((wr.setCell ⟨w.heap.size, 0, none⟩ (.slice aB nB cB)).setCell ⟨w.heap.size + 1, 0, none⟩ (.slice aQ nQ cQ)).drew) := Lib.hid
          ⟨⟨ownsRow_setCell_below (ownsRow_setCell_below hf.out.1 (by simp) _) (by simp) _, ownsRow_setCell_below (ownsRow_setCell_below hf.out.2 (by simp) _) (by simp) _⟩,
            ((hB.setCell (p := ⟨w.heap.size, 0, none⟩) (Nat.le_refl _) _).setCell (p := ⟨w.heap.size + 1, 0, none⟩) (by simp) _).drew⟩
        generalize ((wr.setCell ⟨w.heap.size, 0, none⟩ (.slice aB nB cB)).setCell ⟨w.heap.size + 1, 0, none⟩ (.slice aQ nQ cQ)).drew = w9 at *
        exact bodyPost_ret (v := .tuple #[.slice aB nB cB, .slice aQ nQ cQ]) (by simp [results, Tryd.results52, go_sem, e1, e2]) rfl ⟨_, _, rfl, e3.out.1, e3.out.2⟩

end Go.Proofs.YtdlogklhekopgaaDoor
