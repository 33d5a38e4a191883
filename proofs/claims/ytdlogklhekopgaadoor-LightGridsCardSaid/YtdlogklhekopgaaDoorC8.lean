/- Contracts of the program's functions: part C8 of the proof. -/
import Derived.Test.YtdlogklhekopgaaDoorC7
set_option linter.unusedVariables false
set_option linter.unusedSimpArgs false
namespace Go.Proofs.YtdlogklhekopgaaDoor
open Go.RowKit Go.Shelf Go.Proofs

theorem zeroCells_size (z : Array Value) (n : Nat) : (Builtin.zeroCells z n).size = n * z.size := by simp [Builtin.zeroCells]

theorem ins_list2 {α : Type} (L cs : List α) (i n : Nat) (x y : α) (h : L.take (i * 2) = cs.take (i * 2)) (hcl : cs.length = n * 2) (hi : i < n) (hL : n * 2 + 2 ≤ L.length) :
    ((L.take (i * 2) ++ [x, y] ++ L.drop (i * 2 + 2)).take ((i + 1) * 2) ++ cs.drop (i * 2) ++ (L.take (i * 2) ++ [x, y] ++ L.drop (i * 2 + 2)).drop ((i + 1) * 2 + (cs.drop (i * 2)).length)).take ((n + 1) * 2) =
      cs.take (i * 2) ++ [x, y] ++ cs.drop (i * 2) := by
  have h1 : (L.take (i * 2) ++ [x, y] ++ L.drop (i * 2 + 2)).take ((i + 1) * 2) = cs.take (i * 2) ++ [x, y] := by
    rw [h]; exact List.take_left' (by simp [hcl]; omega)
  rw [h1]
  exact List.take_left' (by simp [hcl]; omega)

set_option maxHeartbeats 4000000 in
set_option maxRecDepth 100000 in
/-- slices.Insert of one pressing: no room, within: a new row -/
theorem ins_grow (g n cap i vb : Nat) (x y : Value) (cs : List Value) (cur : Array Value) (w : World) (base : Nat) (hx : x.oneCell' = true) (hy : y.oneCell' = true) (hn : n ≤ 1000) (hi : i < n) (hbase : base ≤ w.heap.size) (hg : base ≤ g)
    (hh : w.heap[g]? = some (.cells cur 93 (0, 0))) (hroom : cap < n + 1) (hnc : n ≤ cap) (hcs : cur.size = cap * 2) (htk : cur.toList.take (n * 2) = cs) (hv : One w vb x y) (h1c : ∀ u ∈ cs, u.oneCell' = true) :
    Calls Tryd.prog 70 #[.slice (some ⟨g, 0, none⟩) n cap, .int .i64 i, .slice (some ⟨vb, 0, none⟩) 1 1] w fun e w' => ∃ v', e = .returned v' ∧ w'.ownsRow base 93 2 v' (n + 1) (cs.take (i * 2) ++ [x, y] ++ cs.drop (i * 2)) ∧ w.grownBy w' none := by
  have hcl : cs.length = n * 2 := by rw [← htk]; simp; omega
  have hsz : (Tryd.prog.info? 93).map (·.size) = some 2 := by kernel_rfl
  obtain ⟨i0, hi0, hz0, hzs, hzb⟩ := info_parts Tryd.info93
  have hdl : (cs.drop (i * 2)).length = (n - i) * 2 := by rw [List.length_drop, hcl]; omega
  have hgw : g < w.heap.size := (Array.getElem?_eq_some_iff.1 hh).1
  have hvw : vb < w.heap.size := (Array.getElem?_eq_some_iff.1 hv).1
  have hcellw : ∀ j u, cs[j]? = some u → w.cell? ⟨g, j, none⟩ = some u := fun j u hj => by
    rw [← htk, List.getElem?_take] at hj
    split at hj
    · simp only [World.cell?, hh]; simpa using hj
    · cases hj
  have hold : (Builtin.firstCells i0.size i (.slice (some ⟨g, 0, none⟩) i cap)).run Tryd.prog w.drew = .ok (cs.take (i * 2)).toArray w.drew := by
    rw [hzs]
    refine run_firstCells_some w.drew 2 i ⟨g, 0, none⟩ i cap (cs.take (i * 2)) (by rw [List.length_take]; omega) (fun j u hj => ?_)
    rw [Addr.add_lit, Nat.zero_add]
    rw [List.getElem?_take] at hj
    split at hj
    · exact hcellw j u hj
    · cases hj
  have hik : i + (n + 1 - i) = n + 1 := by omega
  have hkk : (n : Int) + 1 - (i : Int) = ((n + 1 - i : Nat) : Int) := by omega
  have hrz : ∀ ty, (Builtin.append_ #[79, 3] ty #[.slice (some ⟨g, 0, none⟩) i cap, .int .i64 ((n : Int) + 1 - (i : Int))]).run Tryd.prog w =
      .ok (.slice (some ⟨w.heap.size, 0, none⟩) (n + 1) (grownCap w (n + 1) cap 93)) (w.drew.alloc (.cells ((cs.take (i * 2)).toArray ++ Builtin.zeroCells (Value.agg #[.int .i64 0, .int .i64 0]).cells (n + 1 - i) ++ Builtin.zeroCells (Value.agg #[.int .i64 0, .int .i64 0]).cells (grownCap w (n + 1) cap 93 - (n + 1))) 93)) := fun ty => by
    have h := Lib.run_append_grow_zeros w 79 3 ty 93 i0 _ .i64 .i64 Tryd.underlying79 Tryd.underlying3 hi0 hz0 (some ⟨g, 0, none⟩) i cap (cs.take (i * 2)) hold (n + 1 - i) (by omega) (by omega) (by omega) (by omega) (by rw [hzb]; omega) (by rw [hzb, hik]; exact growslice_fits hroom (by omega))
    rw [hik] at h
    rw [hkk]
    exact h
  obtain ⟨G, hG⟩ : ∃ G, G = grownCap w (n + 1) cap 93 := ⟨_, rfl⟩
  obtain ⟨ROW, hROW⟩ : ∃ ROW : Array Value, ROW = (cs.take (i * 2)).toArray ++ Builtin.zeroCells (Value.agg #[.int .i64 0, .int .i64 0]).cells (n + 1 - i) ++ Builtin.zeroCells (Value.agg #[.int .i64 0, .int .i64 0]).cells (G - (n + 1)) := ⟨_, rfl⟩
  rw [← hG] at hrz
  rw [← hROW] at hrz
  have hGn : n + 1 ≤ G := by rw [hG]; exact grownCap_ge w _ _ _
  have hGm : G ≤ maxLen := by rw [hG]; exact grownCap_le_maxLen w (n + 1) cap 93 (by unfold maxLen; omega)
  have hRs : ROW.size = G * 2 := by
    rw [hROW]; simp only [Array.size_append, zeroCells_size, List.size_toArray, List.length_take, hcl, Value.cells]
    simp; omega
  have hRt : ROW.toList.take (i * 2) = cs.take (i * 2) := by
    rw [hROW]; simp only [Array.toList_append]
    rw [List.append_assoc, List.take_left' (by simp [hcl]; omega)]
  obtain ⟨W1, hW1⟩ : ∃ W1, W1 = w.drew.alloc (.cells ROW 93) := ⟨_, rfl⟩
  have hN : W1.heap[w.heap.size]? = some (.cells ROW 93 (0, 0)) := by rw [hW1]; exact World.alloc_heap_new w.drew _
  have hlow : ∀ k, k < w.heap.size → W1.heap[k]? = w.heap[k]? := fun k hk => by rw [hW1]; exact Below.heap_alloc w.drew _ k hk
  have hg1 : w.grownBy W1 none := by rw [hW1]; exact ⟨rfl, rfl, rfl, by simp, fun k hk _ => Below.heap_alloc w.drew _ k hk⟩
  obtain ⟨cur1, hcur1⟩ : ∃ cur1, (ROW.toList.take (i * 2) ++ [x, y] ++ ROW.toList.drop (i * 2 + [x, y].length)).toArray = cur1 := ⟨_, rfl⟩
  have hcp1 : ∀ (W : World), (∀ k : Nat, W.heap[k]? = W1.heap[k]?) → ∀ ty dc, (Builtin.copy_ #[79, 79] ty #[.slice (some ⟨w.heap.size, i * 2, none⟩) (n + 1 - i) dc, .slice (some ⟨vb, 0, none⟩) 1 1]).run Tryd.prog W = .ok (goInt (Nat.min 1 (n + 1 - i))) (W.setRow w.heap.size cur1) := fun W hW ty dc => by
    rw [← hcur1]
    have hb : W.heap[vb]? = some (.cells #[x, y] 93 (0, 0)) := by rw [hW, hlow vb hvw]; exact hv
    refine run_copy_rowK W 79 79 ty 93 2 w.heap.size (i * 2) _ dc ⟨vb, 0, none⟩ _ 1 ROW 93 [x, y] Tryd.underlying79 hsz ((hW _).trans hN) (by simp only [Nat.min_def]; split <;> simp; omega) (fun j u hj => ?_) (by rw [hRs]; simp; omega) (by simp [hx, hy])
    match j, hj with
    | 0, hj => simp at hj; subst hj; simp [World.cell?, Addr.add, hb]
    | 1, hj => simp at hj; subst hj; simp [World.cell?, Addr.add, hb]
  have hs1 : cur1.size = G * 2 := by rw [← hcur1]; simp [hRs]; omega
  obtain ⟨cur2, hcur2⟩ : ∃ cur2, (cur1.toList.take ((i + 1) * 2) ++ cs.drop (i * 2) ++ cur1.toList.drop ((i + 1) * 2 + (cs.drop (i * 2)).length)).toArray = cur2 := ⟨_, rfl⟩
  have hcp2 : ∀ (W : World), (∀ k : Nat, W.heap[k]? = (W1.setRow w.heap.size cur1).heap[k]?) → ∀ ty dc sc, (Builtin.copy_ #[79, 79] ty #[.slice (some ⟨w.heap.size, (i + 1) * 2, none⟩) (n - i) dc, .slice (some ⟨g, i * 2, none⟩) (n - i) sc]).run Tryd.prog W = .ok (goInt (Nat.min (n - i) (n - i))) (W.setRow w.heap.size cur2) := fun W hW ty dc sc => by
    rw [← hcur2]
    have hb : W.heap[g]? = some (.cells cur 93 (0, 0)) := by
      rw [hW, (grownBy_setRow W1 w.heap.size cur1).block g (Nat.lt_of_lt_of_le hgw hg1.size) (fun e => by have e' := Option.some.inj e; omega), hlow g hgw]; exact hh
    refine run_copy_rowK W 79 79 ty 93 2 w.heap.size ((i + 1) * 2) _ dc ⟨g, i * 2, none⟩ _ sc cur1 93 (cs.drop (i * 2)) Tryd.underlying79 hsz ((hW _).trans (setRow_heap W1 _ ROW cur1 93 (0, 0) hN)) (by rw [hdl]; simp only [Nat.min_def]; split <;> omega) (fun j u hj => ?_) (by rw [hs1, hdl]; omega) (fun u hu => h1c u (List.mem_of_mem_drop hu))
    rw [Addr.add_lit]
    rw [List.getElem?_drop] at hj
    have := hcellw _ u hj
    simp only [World.cell?, hh] at this
    simp only [World.cell?, hb]; exact this
  have hs2 : cur2.size = G * 2 := by rw [← hcur2]; simp [hs1, hcl]; omega
  have hfin : cur2.toList.take ((n + 1) * 2) = cs.take (i * 2) ++ [x, y] ++ cs.drop (i * 2) := by
    rw [← hcur2, ← hcur1]
    exact ins_list2 ROW.toList cs i n x y hRt hcl hi (by simp [hRs]; omega)
  have HFIN := Lib.hid hfin
  have HS2 := Lib.hid hs2
  have HN := Lib.hid hN
  have HG1 := Lib.hid hg1
  have HGm := Lib.hid hGm
  have hG63 : G ≤ 9223372036854775807 := by unfold maxLen at hGm; omega
  clear hfin hs2 hcur2 hcur1 hs1 hcellw hdl hcl htk hcs hv h1c hRt hRs hROW hG hold hN hlow hg1 hik hkk hgw hvw hGm
  have hE : ∀ k : Nat, (w.alloc (.cells ROW 93)).drew.heap[k]? = W1.heap[k]? := fun k => by rw [hW1]; rfl
  have hE2 : ∀ k : Nat, (((w.alloc (.cells ROW 93)).drew.setRow w.heap.size cur1).drew).heap[k]? = (W1.setRow w.heap.size cur1).heap[k]? := fun k => by rw [hW1]; rfl
  have HW1 := Lib.hid hW1
  clear hW1
  have mixed := Tryd.mixed
  have hw1 : IntKind.i64.wrap ((i : Int) + 1) = (i : Int) + 1 := by rw [IntKind.wrap_i64]; omega
  have hz2 : ¬ ((i : Int) = (n : Int)) := by omega
  have hb1 : (0 : Int) ≤ (i : Int) + 1 := by omega
  have hin : i ≤ n := by omega
  have hb2 : ¬ (G = i + 1) := by omega
  have hb3 : (i : Int) ≤ (n : Int) := by omega
  have hb4 : ¬ (G = i) := by omega
  have hb5 : ¬ (cap = i) := by omega
  have hb6 : (i : Int) ≤ (n : Int) + 1 := by omega
  have htn : ((i : Int) + 1).toNat = i + 1 := by omega
  go_enter Tryd.func70, Tryd.ntmps70
  go_wp2_with (first
    | (at_builtin; refine Lib.wpList_append_run _ rfl _ _ _ _ rfl _ _ rfl rfl _ _ (hrz _) ?_)
    | (at_builtin; refine wpList_copy_runI _ rfl _ _ 79 79 rfl _ _ rfl rfl (hcp1 _ hE _ _) ?_))
  go_region_law_o (refine step_copy_runI rfl _ _ 79 79 rfl _ _ (by simp [Act.eval, Act.put]) (by simp [Act.eval, Act.put]) (hcp2 _ hE2 _ _ _) ?_)
  go_wp2
  go_ret
  refine ⟨_, rfl, ⟨by rw [← HFIN.out]; simp [HS2.out]; omega, .inr ⟨w.heap.size, G, cur2, rfl, hbase, setRow_heap _ _ cur1 cur2 93 (0, 0) ?_, hGn, HGm.out, HS2.out, HFIN.out⟩⟩, ?_⟩
  · have := setRow_heap W1 w.heap.size ROW cur1 93 (0, 0) HN.out
    rw [HW1.out] at this; exact this
  · refine ⟨rfl, rfl, rfl, by simp [World.setRow], fun k hk _ => ?_⟩
    have hne : ¬ w.heap.size = k := by omega
    simp only [World.setRow, World.drew]
    rw [Array.getElem?_modify, if_neg hne, Array.getElem?_modify, if_neg hne]
    exact Below.heap_alloc w _ k hk

/-- slices.Insert of one pressing, wherever -/
theorem ins_any (v : Value) (n i vb : Nat) (x y : Value) (cs : List Value) (w : World) (base : Nat) (hx : x.oneCell' = true) (hy : y.oneCell' = true) (hn : n ≤ 1000) (hi : i ≤ n) (hbase : base ≤ w.heap.size)
    (hrow : w.ownsRow base 93 2 v n cs) (hv : One w vb x y) (hvg : v.ownBlock ≠ some vb) (h1c : ∀ u ∈ cs, u.oneCell' = true) :
    Calls Tryd.prog 70 #[v, .int .i64 i, .slice (some ⟨vb, 0, none⟩) 1 1] w fun e w' => ∃ v', e = .returned v' ∧ w'.ownsRow base 93 2 v' (n + 1) (cs.take (i * 2) ++ [x, y] ++ cs.drop (i * 2)) ∧ w.grownBy w' v.ownBlock := by
  have hvb : w.heap[vb]? = some (.cells #[x, y] 93 (0, 0)) := hv
  by_cases e : i = n
  · subst e
    have h1 : cs.take (i * 2) = cs := List.take_of_length_le (by rw [hrow.1]; exact Nat.le_refl _)
    have h2 : cs.drop (i * 2) = [] := List.drop_of_length_le (by rw [hrow.1]; exact Nat.le_refl _)
    rw [h1, h2, List.append_nil]
    exact ins_end v i vb x y cs w base hx hy hn hbase hrow ⟨by simp [World.cell?, hvb], by simp [World.cell?, hvb]⟩
  · have hlt : i < n := by omega
    rcases hrow.2 with ⟨rfl, h0⟩ | ⟨g, cap, cur, rfl, hg, hh, hnc, hcm, hcs, htk⟩
    · omega
    · by_cases hr : n + 1 ≤ cap
      · exact ins_room g n cap i vb x y cs cur w base hx hy hn hlt hbase hg hh hr hcm hcs htk (fun e => hvg (by rw [e]; rfl)) hv h1c
      · refine (ins_grow g n cap i vb x y cs cur w base hx hy hn hlt hbase hg hh (by omega) hnc hcs htk hv h1c).mono ?_
        rintro e w' ⟨v', he, hrow', hgr⟩
        exact ⟨v', he, hrow', ⟨hgr.os, hgr.tape, hgr.output, hgr.size, fun k hk _ => hgr.block k hk (by simp)⟩⟩

end Go.Proofs.YtdlogklhekopgaaDoor
