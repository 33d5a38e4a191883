/- Contracts of the program's functions: a part of the proof. -/
import Derived.Test.YtdlogklhekopgaaDoorGD
import Derived.Shelf.Spec.SlicesInsertGrow
import Derived.Laws.CopyOwn
set_option linter.unusedVariables false
set_option linter.unusedSimpArgs false

namespace Go.Proofs.YtdlogklhekopgaaDoor
open Go.RowKit Go.Shelf Go.Proofs

theorem Tryd.info93 : (Tryd.prog.info? 93).map (fun i => (i.zero, i.size, i.bytes)) = some (some (.agg #[.int .i64 0, .int .i64 0]), 2, 16) := by kernel_rfl
theorem Tryd.info3 : (Tryd.prog.info? 3).map (fun i => (i.zero, i.size, i.bytes)) = some (some (.int .i64 0), 1, 8) := by kernel_rfl
theorem Tryd.mixed : Tryd.prog.follows .mixedOrders = true := by kernel_rfl

/-- copy into a row that is known whole, its elements of any size -/
theorem run_copy_rowK {P : Program} (w : World) (dT sT ty elem : TypeId) (size g o dLen dCap : Nat) (a : Addr) (sLen sCap : Nat) (cur : Array Value) (t : TypeId) (cs : List Value)
    (hu : P.underlying dT = some (.slice elem)) (hs : (P.info? elem).map (·.size) = some size)
    (hg : w.heap[g]? = some (.cells cur t (0, 0))) (hn : cs.length = Nat.min sLen dLen * size)
    (hsrc : ∀ j v, cs[j]? = some v → w.cell? (a.add j) = some v) (hfit : o + cs.length ≤ cur.size) (h1 : ∀ v ∈ cs, v.oneCell' = true) :
    (Builtin.copy_ #[dT, sT] ty #[.slice (some ⟨g, o, none⟩) dLen dCap, .slice (some a) sLen sCap]).run P w =
      .ok (goInt (Nat.min sLen dLen)) (w.setRow g (cur.toList.take o ++ cs ++ cur.toList.drop (o + cs.length)).toArray) := by
  have hl := run_loadCells_list (P := P) w a cs hsrc
  have hst := run_storeCells_at P g o t cs 0 cur w hg (by simpa using hfit) h1
  cases hq : P.info? elem with
  | none => simp [hq] at hs
  | some i =>
    have hi : i.size = size := by simpa [hq] using hs
    simp [Builtin.copy_, run_underlying hu, Builtin.lenOf, Builtin.firstCells, sizeOf, typeInfo, hq, hi, ← hn, hl, hst]

theorem ins_list {α : Type} (L cs : List α) (i n : Nat) (x y : α) (h : L.take (n * 2) = cs) (hi : i < n) (hL : n * 2 + 2 ≤ L.length) :
    ((L.take ((i + 1) * 2) ++ cs.drop (i * 2) ++ L.drop ((i + 1) * 2 + (cs.drop (i * 2)).length)).take (i * 2) ++ [x, y] ++ (L.take ((i + 1) * 2) ++ cs.drop (i * 2) ++ L.drop ((i + 1) * 2 + (cs.drop (i * 2)).length)).drop (i * 2 + 2)).take ((n + 1) * 2) =
      cs.take (i * 2) ++ [x, y] ++ cs.drop (i * 2) := by
  have hcl : cs.length = n * 2 := by rw [← h]; simp; omega
  have h1 : (L.take ((i + 1) * 2) ++ cs.drop (i * 2) ++ L.drop ((i + 1) * 2 + (cs.drop (i * 2)).length)).take (i * 2) = cs.take (i * 2) := by
    rw [List.append_assoc, List.take_append_of_le_length (by simp; omega), List.take_take, ← h, List.take_take]
    congr 1
    simp only [Nat.min_def]; split <;> split <;> omega
  have h2 : (L.take ((i + 1) * 2) ++ cs.drop (i * 2) ++ L.drop ((i + 1) * 2 + (cs.drop (i * 2)).length)).drop (i * 2 + 2) = cs.drop (i * 2) ++ L.drop ((i + 1) * 2 + (cs.drop (i * 2)).length) := by
    rw [List.append_assoc, List.drop_left' (by simp; omega)]
  rw [h1, h2, ← List.append_assoc]
  exact List.take_left' (by simp [hcl]; omega)

theorem grownBy_twice {a b c : World} {g : Nat} (h : a.grownBy b (some g)) (k : b.grownBy c (some g)) : a.grownBy c (some g) :=
  ⟨k.os.trans h.os, k.tape.trans h.tape, k.output.trans h.output, Nat.le_trans h.size k.size, fun i hi hne => (k.block i (Nat.lt_of_lt_of_le hi h.size) hne).trans (h.block i hi hne)⟩
theorem grownBy_drew (w : World) (r : Option Nat) : w.grownBy w.drew r := ⟨rfl, rfl, rfl, Nat.le_refl _, fun _ _ _ => rfl⟩

/-- a pressing that lies alone in its block -/
def One (w : World) (vb : Nat) (x y : Value) : Prop := w.heap[vb]? = some (.cells #[x, y] 93 (0, 0))

set_option maxHeartbeats 4000000 in
set_option maxRecDepth 100000 in
/-- slices.Insert of one pressing: at the end -/
theorem ins_end (v : Value) (n vb : Nat) (x y : Value) (cs : List Value) (w : World) (base : Nat) (hx : x.oneCell' = true) (hy : y.oneCell' = true) (hn : n ≤ 1000) (hbase : base ≤ w.heap.size)
    (hrow : w.ownsRow base 93 2 v n cs) (hv : w.cell? ⟨vb, 0, none⟩ = some x ∧ w.cell? ⟨vb, 1, none⟩ = some y) :
    Calls Tryd.prog 70 #[v, .int .i64 n, .slice (some ⟨vb, 0, none⟩) 1 1] w fun e w' => ∃ v', e = .returned v' ∧ w'.ownsRow base 93 2 v' (n + 1) (cs ++ [x, y]) ∧ w.grownBy w' v.ownBlock := by
  obtain ⟨i0, hi0, hz0, hzs, hzb⟩ := info_parts Tryd.info93
  have hnews : ∀ j u, [x, y][j]? = some u → w.cell? ((⟨vb, 0, none⟩ : Addr).add j) = some u := fun j u hj => by
    match j, hj with
    | 0, hj => simp at hj; subst hj; exact hv.1
    | 1, hj => simp at hj; subst hj; exact hv.2
  have h1 : ∀ u ∈ [x, y], u.oneCell' = true := by simp [hx, hy]
  have hk := hrow
  rcases hrow.2 with ⟨rfl, rfl⟩ | ⟨g, cap, cur, rfl, hg, hh, hnc, hcm, hcs, htk⟩
  · have HK := Lib.hid hk
    clear hk hrow
    go_enter Tryd.func70, Tryd.ntmps70
    go_wp2_with (at_builtin; refine wpList_append_own _ rfl _ _ 79 rfl base 93 i0 _ 2 16 Tryd.underlying79 hi0 hz0 hzs hzb rfl (by decide) _ 0 cs rfl HK.out ⟨vb, 0, none⟩ 1 1 [x, y] rfl rfl hnews h1 (by unfold maxLen; omega) (by omega) hbase ?_; intro v' w' hr hg' _; have HR := Lib.hid hr; clear hr)
    go_ret
    exact ⟨_, rfl, HR.out, hg'⟩
  · unfold maxLen at hcm
    have HK := Lib.hid hk
    clear hk hrow hh htk hcs
    go_enter Tryd.func70, Tryd.ntmps70
    go_wp2_with (at_builtin; refine wpList_append_own _ rfl _ _ 79 rfl base 93 i0 _ 2 16 Tryd.underlying79 hi0 hz0 hzs hzb rfl (by decide) _ n cs rfl HK.out ⟨vb, 0, none⟩ 1 1 [x, y] rfl rfl hnews h1 (by unfold maxLen; omega) (by omega) hbase ?_; intro v' w' hr hg' _; have HR := Lib.hid hr; clear hr)
    all_goals (go_ret; exact ⟨_, rfl, HR.out, hg'⟩)

theorem grownBy_setRow (w : World) (g : Nat) (cs : Array Value) : w.grownBy (w.setRow g cs) (some g) :=
  ⟨rfl, rfl, rfl, by simp [World.setRow], fun k _ hk => by
    have : k ≠ g := fun e => hk (by rw [e])
    simp only [World.setRow]
    rw [Array.getElem?_modify, if_neg (fun e => this e.symm)]⟩

set_option maxHeartbeats 4000000 in
set_option maxRecDepth 100000 in
/-- slices.Insert of one pressing: there is room, within -/
theorem ins_room (g n cap i vb : Nat) (x y : Value) (cs : List Value) (cur : Array Value) (w : World) (base : Nat) (hx : x.oneCell' = true) (hy : y.oneCell' = true) (hn : n ≤ 1000) (hi : i < n) (_hbase : base ≤ w.heap.size) (hg : base ≤ g)
    (hh : w.heap[g]? = some (.cells cur 93 (0, 0))) (hroom : n + 1 ≤ cap) (hcm : cap ≤ maxLen) (hcs : cur.size = cap * 2) (htk : cur.toList.take (n * 2) = cs) (hvg : vb ≠ g) (hv : One w vb x y) (h1c : ∀ u ∈ cs, u.oneCell' = true) :
    Calls Tryd.prog 70 #[.slice (some ⟨g, 0, none⟩) n cap, .int .i64 i, .slice (some ⟨vb, 0, none⟩) 1 1] w fun e w' => ∃ v', e = .returned v' ∧ w'.ownsRow base 93 2 v' (n + 1) (cs.take (i * 2) ++ [x, y] ++ cs.drop (i * 2)) ∧ w.grownBy w' (some g) := by
  unfold maxLen at hcm
  have hcl : cs.length = n * 2 := by rw [← htk]; simp; omega
  have hsz : (Tryd.prog.info? 93).map (·.size) = some 2 := by kernel_rfl
  have hdl : (cs.drop (i * 2)).length = (n - i) * 2 := by rw [List.length_drop, hcl]; omega
  have hcell : ∀ j u, (cs.drop (i * 2))[j]? = some u → w.drew.cell? ((⟨g, i * 2, none⟩ : Addr).add j) = some u := fun j u hj => by
    rw [Addr.add_lit]
    show w.cell? _ = _
    rw [List.getElem?_drop, ← htk] at hj
    rw [List.getElem?_take] at hj
    split at hj
    · simp only [World.cell?, hh]; simpa using hj
    · cases hj
  have hcp1 : ∀ ty dc sc, (Builtin.copy_ #[79, 79] ty #[.slice (some ⟨g, (i + 1) * 2, none⟩) (n - i) dc, .slice (some ⟨g, i * 2, none⟩) (n + 1 - i) sc]).run Tryd.prog w.drew = .ok (goInt (Nat.min (n + 1 - i) (n - i))) (w.drew.setRow g (cur.toList.take ((i + 1) * 2) ++ cs.drop (i * 2) ++ cur.toList.drop ((i + 1) * 2 + (cs.drop (i * 2)).length)).toArray) := fun ty dc sc =>
    run_copy_rowK w.drew 79 79 ty 93 2 g ((i + 1) * 2) _ dc ⟨g, i * 2, none⟩ _ sc cur 93 (cs.drop (i * 2)) Tryd.underlying79 hsz hh (by rw [hdl]; simp only [Nat.min_def]; split <;> omega) hcell (by rw [hdl, hcs]; omega) (fun u hu => h1c u (List.mem_of_mem_drop hu))
  obtain ⟨cur1, hcur1⟩ : ∃ cur1, (cur.toList.take ((i + 1) * 2) ++ cs.drop (i * 2) ++ cur.toList.drop ((i + 1) * 2 + (cs.drop (i * 2)).length)).toArray = cur1 := ⟨_, rfl⟩
  rw [hcur1] at hcp1
  have hh1 : (w.drew.setRow g cur1).heap[g]? = some (.cells cur1 93 (0, 0)) := setRow_heap w.drew g cur cur1 93 (0, 0) hh
  have hs1 : cur1.size = cap * 2 := by rw [← hcur1]; simp [hcl, hcs]; omega
  have hv1 : ∀ (W : World), (∀ k, W.heap[k]? = (w.drew.setRow g cur1).heap[k]?) → ∀ j u, [x, y][j]? = some u → W.cell? ((⟨vb, 0, none⟩ : Addr).add j) = some u := fun W hW j u hj => by
    have hb : W.heap[vb]? = some (.cells #[x, y] 93 (0, 0)) := by
      rw [hW]
      have h2 : some vb ≠ some g := fun e => hvg (by simpa using e)
      have hlt : vb < w.heap.size := (Array.getElem?_eq_some_iff.1 hv).1
      exact ((grownBy_setRow w.drew g cur1).block vb hlt h2).trans hv
    match j, hj with
    | 0, hj => simp at hj; subst hj; simp [World.cell?, Addr.add, hb]
    | 1, hj => simp at hj; subst hj; simp [World.cell?, Addr.add, hb]
  obtain ⟨cur2, hcur2⟩ : ∃ cur2, (cur1.toList.take (i * 2) ++ [x, y] ++ cur1.toList.drop (i * 2 + [x, y].length)).toArray = cur2 := ⟨_, rfl⟩
  have hcp2 : ∀ (W : World), (∀ k, W.heap[k]? = (w.drew.setRow g cur1).heap[k]?) → ∀ ty dc, (Builtin.copy_ #[79, 79] ty #[.slice (some ⟨g, i * 2, none⟩) (n + 1 - i) dc, .slice (some ⟨vb, 0, none⟩) 1 1]).run Tryd.prog W = .ok (goInt (Nat.min 1 (n + 1 - i))) (W.setRow g cur2) := fun W hW ty dc => by
    rw [← hcur2]
    exact run_copy_rowK W 79 79 ty 93 2 g (i * 2) _ dc ⟨vb, 0, none⟩ _ 1 cur1 93 [x, y] Tryd.underlying79 hsz ((hW g).trans hh1) (by simp only [Nat.min_def]; split <;> simp; omega) (hv1 W hW) (by rw [hs1]; simp; omega) (by simp [hx, hy])
  have hshv : w.shape? vb = some (93, 2) := by simp [World.shape?, show w.heap[vb]? = some (.cells #[x, y] 93 (0, 0)) from hv]
  have hshg : w.shape? g = some (93, cap * 2) := by simp [World.shape?, hh, hcs]
  have hov : ∀ lb cb, (callFunc 82 #[.slice (some ⟨vb, 0, none⟩) 1 1, .slice (some ⟨g, (i + 1) * 2, none⟩) lb cb]).run Tryd.prog w = .ok (.value (.bool false)) w := fun lb cb => by
    rw [run_callFunc_extern Tryd.func82 (by kernel_rfl) (by kernel_rfl) (by kernel_rfl) (e := Extern.SlicesOverlaps.overlaps #[79, 79] #[4]) (by kernel_rfl),
      Lib.run_overlaps_apart w 79 4 93 Tryd.underlying79 2 Tryd.sizeOf93 ⟨vb, 0, none⟩ ⟨g, (i + 1) * 2, none⟩ 1 1 lb cb hvg 93 93 2 (cap * 2) hshv hshg (by omega) (by simp [World.frozen?, show w.heap[vb]? = some (.cells #[x, y] 93 (0, 0)) from hv]) (by simp [World.frozen?, show w.heap[vb]? = some (.cells #[x, y] 93 (0, 0)) from hv])]
    rfl
  have hfin : cur2.toList.take ((n + 1) * 2) = cs.take (i * 2) ++ [x, y] ++ cs.drop (i * 2) := by
    rw [← hcur2, ← hcur1]
    exact ins_list cur.toList cs i n x y htk hi (by simp [hcs]; omega)
  have hs2 : cur2.size = cap * 2 := by rw [← hcur2]; simp [hs1]; omega
  have HFIN := Lib.hid hfin
  have HS2 := Lib.hid hs2
  have hw1 : IntKind.i64.wrap ((i : Int) + 1) = (i : Int) + 1 := by rw [IntKind.wrap_i64]; omega
  have mixed := Tryd.mixed
  clear hfin hs2 hcur2 hcur1 hs1 hshv hshg hcell hdl hcl htk hcs hv hv1 h1c
  have hz2 : ¬ ((i : Int) = (n : Int)) := by omega
  have hb1 : (0 : Int) ≤ (i : Int) + 1 := by omega
  have hin : i ≤ n := by omega
  have hb2 : ¬ (cap = i + 1) := by omega
  have hb3 : (i : Int) ≤ (n : Int) := by omega
  have hb5 : (i : Int) ≤ (n : Int) + 1 := by omega
  have hb4 : ¬ (cap = i) := by omega
  have htn : ((i : Int) + 1).toNat = i + 1 := by omega
  go_enter Tryd.func70, Tryd.ntmps70
  go_wp2_with (simp only [hov])
  go_region_law_o (refine step_copy_runI rfl _ _ 79 79 rfl _ _ (by simp [Act.eval, Act.put]) (by simp [Act.eval, Act.put]) (hcp1 _ _ _) ?_)
  go_wp2_with (at_builtin; refine wpList_copy_runI _ rfl _ _ 79 79 rfl _ _ rfl rfl (hcp2 _ (fun _ => rfl) _ _) ?_)
  go_ret
  refine ⟨_, rfl, ?_, ?_⟩
  · have hlen := congrArg List.length HFIN.out
    exact ⟨by rw [← HFIN.out]; simp [HS2.out]; omega, .inr ⟨g, cap, cur2, rfl, hg, setRow_heap _ g cur1 cur2 93 (0, 0) hh1, hroom, by unfold maxLen; omega, HS2.out, HFIN.out⟩⟩
  · exact grownBy_twice (grownBy_twice (grownBy_drew w _) (grownBy_setRow w.drew g cur1)) (grownBy_setRow _ g cur2)

end Go.Proofs.YtdlogklhekopgaaDoor

namespace Go.Proofs.YtdlogklhekopgaaDoor
open Go.RowKit Go.Shelf Go.Proofs

theorem zeroCells_size (z : Array Value) (n : Nat) : (Builtin.zeroCells z n).size = n * z.size := by simp [Builtin.zeroCells]

theorem ins_list2 {α : Type} (L cs : List α) (i n : Nat) (x y : α) (h : L.take (i * 2) = cs.take (i * 2)) (hcl : cs.length = n * 2) (hi : i < n) (hL : n * 2 + 2 ≤ L.length) :
    ((L.take (i * 2) ++ [x, y] ++ L.drop (i * 2 + 2)).take ((i + 1) * 2) ++ cs.drop (i * 2) ++ (L.take (i * 2) ++ [x, y] ++ L.drop (i * 2 + 2)).drop ((i + 1) * 2 + (cs.drop (i * 2)).length)).take ((n + 1) * 2) =
      cs.take (i * 2) ++ [x, y] ++ cs.drop (i * 2) := by
  have h1 : (L.take (i * 2) ++ [x, y] ++ L.drop (i * 2 + 2)).take ((i + 1) * 2) = cs.take (i * 2) ++ [x, y] := by
    rw [h]; exact List.take_left' (by simp [hcl]; omega)
  rw [h1]
  exact List.take_left' (by simp [hcl]; omega)

set_option maxHeartbeats 4000000 in
set_option maxRecDepth 100000 in
/-- slices.Insert of one pressing: no room, within: a new row -/
theorem ins_grow (g n cap i vb : Nat) (x y : Value) (cs : List Value) (cur : Array Value) (w : World) (base : Nat) (hx : x.oneCell' = true) (hy : y.oneCell' = true) (hn : n ≤ 1000) (hi : i < n) (hbase : base ≤ w.heap.size) (hg : base ≤ g)
    (hh : w.heap[g]? = some (.cells cur 93 (0, 0))) (hroom : cap < n + 1) (hnc : n ≤ cap) (hcs : cur.size = cap * 2) (htk : cur.toList.take (n * 2) = cs) (hv : One w vb x y) (h1c : ∀ u ∈ cs, u.oneCell' = true) :
    Calls Tryd.prog 70 #[.slice (some ⟨g, 0, none⟩) n cap, .int .i64 i, .slice (some ⟨vb, 0, none⟩) 1 1] w fun e w' => ∃ v', e = .returned v' ∧ w'.ownsRow base 93 2 v' (n + 1) (cs.take (i * 2) ++ [x, y] ++ cs.drop (i * 2)) ∧ w.grownBy w' none := by
  have hcl : cs.length = n * 2 := by rw [← htk]; simp; omega
  have hsz : (Tryd.prog.info? 93).map (·.size) = some 2 := by kernel_rfl
  obtain ⟨i0, hi0, hz0, hzs, hzb⟩ := info_parts Tryd.info93
  have hdl : (cs.drop (i * 2)).length = (n - i) * 2 := by rw [List.length_drop, hcl]; omega
  have hgw : g < w.heap.size := (Array.getElem?_eq_some_iff.1 hh).1
  have hvw : vb < w.heap.size := (Array.getElem?_eq_some_iff.1 hv).1
  have hcellw : ∀ j u, cs[j]? = some u → w.cell? ⟨g, j, none⟩ = some u := fun j u hj => by
    rw [← htk, List.getElem?_take] at hj
    split at hj
    · simp only [World.cell?, hh]; simpa using hj
    · cases hj
  have hold : (Builtin.firstCells i0.size i (.slice (some ⟨g, 0, none⟩) i cap)).run Tryd.prog w.drew = .ok (cs.take (i * 2)).toArray w.drew := by
    rw [hzs]
    refine run_firstCells_some w.drew 2 i ⟨g, 0, none⟩ i cap (cs.take (i * 2)) (by rw [List.length_take]; omega) (fun j u hj => ?_)
    rw [Addr.add_lit, Nat.zero_add]
    rw [List.getElem?_take] at hj
    split at hj
    · exact hcellw j u hj
    · cases hj
  have hik : i + (n + 1 - i) = n + 1 := by omega
  have hkk : (n : Int) + 1 - (i : Int) = ((n + 1 - i : Nat) : Int) := by omega
  have hrz : ∀ ty, (Builtin.append_ #[79, 3] ty #[.slice (some ⟨g, 0, none⟩) i cap, .int .i64 ((n : Int) + 1 - (i : Int))]).run Tryd.prog w =
      .ok (.slice (some ⟨w.heap.size, 0, none⟩) (n + 1) (grownCap w (n + 1) cap 93)) (w.drew.alloc (.cells ((cs.take (i * 2)).toArray ++ Builtin.zeroCells (Value.agg #[.int .i64 0, .int .i64 0]).cells (n + 1 - i) ++ Builtin.zeroCells (Value.agg #[.int .i64 0, .int .i64 0]).cells (grownCap w (n + 1) cap 93 - (n + 1))) 93)) := fun ty => by
    have h := Lib.run_append_grow_zeros w 79 3 ty 93 i0 _ .i64 .i64 Tryd.underlying79 Tryd.underlying3 hi0 hz0 (some ⟨g, 0, none⟩) i cap (cs.take (i * 2)) hold (n + 1 - i) (by omega) (by omega) (by omega) (by omega) (by rw [hzb]; omega) (by rw [hzb, hik]; exact growslice_fits hroom (by omega))
    rw [hik] at h
    rw [hkk]
    exact h
  obtain ⟨G, hG⟩ : ∃ G, G = grownCap w (n + 1) cap 93 := ⟨_, rfl⟩
  obtain ⟨ROW, hROW⟩ : ∃ ROW : Array Value, ROW = (cs.take (i * 2)).toArray ++ Builtin.zeroCells (Value.agg #[.int .i64 0, .int .i64 0]).cells (n + 1 - i) ++ Builtin.zeroCells (Value.agg #[.int .i64 0, .int .i64 0]).cells (G - (n + 1)) := ⟨_, rfl⟩
  rw [← hG] at hrz
  rw [← hROW] at hrz
  have hGn : n + 1 ≤ G := by rw [hG]; exact grownCap_ge w _ _ _
  have hGm : G ≤ maxLen := by rw [hG]; exact grownCap_le_maxLen w (n + 1) cap 93 (by unfold maxLen; omega)
  have hRs : ROW.size = G * 2 := by
    rw [hROW]; simp only [Array.size_append, zeroCells_size, List.size_toArray, List.length_take, hcl, Value.cells]
    simp; omega
  have hRt : ROW.toList.take (i * 2) = cs.take (i * 2) := by
    rw [hROW]; simp only [Array.toList_append]
    rw [List.append_assoc, List.take_left' (by simp [hcl]; omega)]
  obtain ⟨W1, hW1⟩ : ∃ W1, W1 = w.drew.alloc (.cells ROW 93) := ⟨_, rfl⟩
  have hN : W1.heap[w.heap.size]? = some (.cells ROW 93 (0, 0)) := by rw [hW1]; exact World.alloc_heap_new w.drew _
  have hlow : ∀ k, k < w.heap.size → W1.heap[k]? = w.heap[k]? := fun k hk => by rw [hW1]; exact Below.heap_alloc w.drew _ k hk
  have hg1 : w.grownBy W1 none := by rw [hW1]; exact ⟨rfl, rfl, rfl, by simp, fun k hk _ => Below.heap_alloc w.drew _ k hk⟩
  obtain ⟨cur1, hcur1⟩ : ∃ cur1, (ROW.toList.take (i * 2) ++ [x, y] ++ ROW.toList.drop (i * 2 + [x, y].length)).toArray = cur1 := ⟨_, rfl⟩
  have hcp1 : ∀ (W : World), (∀ k : Nat, W.heap[k]? = W1.heap[k]?) → ∀ ty dc, (Builtin.copy_ #[79, 79] ty #[.slice (some ⟨w.heap.size, i * 2, none⟩) (n + 1 - i) dc, .slice (some ⟨vb, 0, none⟩) 1 1]).run Tryd.prog W = .ok (goInt (Nat.min 1 (n + 1 - i))) (W.setRow w.heap.size cur1) := fun W hW ty dc => by
    rw [← hcur1]
    have hb : W.heap[vb]? = some (.cells #[x, y] 93 (0, 0)) := by rw [hW, hlow vb hvw]; exact hv
    refine run_copy_rowK W 79 79 ty 93 2 w.heap.size (i * 2) _ dc ⟨vb, 0, none⟩ _ 1 ROW 93 [x, y] Tryd.underlying79 hsz ((hW _).trans hN) (by simp only [Nat.min_def]; split <;> simp; omega) (fun j u hj => ?_) (by rw [hRs]; simp; omega) (by simp [hx, hy])
    match j, hj with
    | 0, hj => simp at hj; subst hj; simp [World.cell?, Addr.add, hb]
    | 1, hj => simp at hj; subst hj; simp [World.cell?, Addr.add, hb]
  have hs1 : cur1.size = G * 2 := by rw [← hcur1]; simp [hRs]; omega
  obtain ⟨cur2, hcur2⟩ : ∃ cur2, (cur1.toList.take ((i + 1) * 2) ++ cs.drop (i * 2) ++ cur1.toList.drop ((i + 1) * 2 + (cs.drop (i * 2)).length)).toArray = cur2 := ⟨_, rfl⟩
  have hcp2 : ∀ (W : World), (∀ k : Nat, W.heap[k]? = (W1.setRow w.heap.size cur1).heap[k]?) → ∀ ty dc sc, (Builtin.copy_ #[79, 79] ty #[.slice (some ⟨w.heap.size, (i + 1) * 2, none⟩) (n - i) dc, .slice (some ⟨g, i * 2, none⟩) (n - i) sc]).run Tryd.prog W = .ok (goInt (Nat.min (n - i) (n - i))) (W.setRow w.heap.size cur2) := fun W hW ty dc sc => by
    rw [← hcur2]
    have hb : W.heap[g]? = some (.cells cur 93 (0, 0)) := by
      rw [hW, (grownBy_setRow W1 w.heap.size cur1).block g (Nat.lt_of_lt_of_le hgw hg1.size) (fun e => by have e' := Option.some.inj e; omega), hlow g hgw]; exact hh
    refine run_copy_rowK W 79 79 ty 93 2 w.heap.size ((i + 1) * 2) _ dc ⟨g, i * 2, none⟩ _ sc cur1 93 (cs.drop (i * 2)) Tryd.underlying79 hsz ((hW _).trans (setRow_heap W1 _ ROW cur1 93 (0, 0) hN)) (by rw [hdl]; simp only [Nat.min_def]; split <;> omega) (fun j u hj => ?_) (by rw [hs1, hdl]; omega) (fun u hu => h1c u (List.mem_of_mem_drop hu))
    rw [Addr.add_lit]
    rw [List.getElem?_drop] at hj
    have := hcellw _ u hj
    simp only [World.cell?, hh] at this
    simp only [World.cell?, hb]; exact this
  have hs2 : cur2.size = G * 2 := by rw [← hcur2]; simp [hs1, hcl]; omega
  have hfin : cur2.toList.take ((n + 1) * 2) = cs.take (i * 2) ++ [x, y] ++ cs.drop (i * 2) := by
    rw [← hcur2, ← hcur1]
    exact ins_list2 ROW.toList cs i n x y hRt hcl hi (by simp [hRs]; omega)
  have HFIN := Lib.hid hfin
  have HS2 := Lib.hid hs2
  have HN := Lib.hid hN
  have HG1 := Lib.hid hg1
  have HGm := Lib.hid hGm
  have hG63 : G ≤ 9223372036854775807 := by unfold maxLen at hGm; omega
  clear hfin hs2 hcur2 hcur1 hs1 hcellw hdl hcl htk hcs hv h1c hRt hRs hROW hG hold hN hlow hg1 hik hkk hgw hvw hGm
  have hE : ∀ k : Nat, (w.alloc (.cells ROW 93)).drew.heap[k]? = W1.heap[k]? := fun k => by rw [hW1]; rfl
  have hE2 : ∀ k : Nat, (((w.alloc (.cells ROW 93)).drew.setRow w.heap.size cur1).drew).heap[k]? = (W1.setRow w.heap.size cur1).heap[k]? := fun k => by rw [hW1]; rfl
  have HW1 := Lib.hid hW1
  clear hW1
  have mixed := Tryd.mixed
  have hw1 : IntKind.i64.wrap ((i : Int) + 1) = (i : Int) + 1 := by rw [IntKind.wrap_i64]; omega
  have hz2 : ¬ ((i : Int) = (n : Int)) := by omega
  have hb1 : (0 : Int) ≤ (i : Int) + 1 := by omega
  have hin : i ≤ n := by omega
  have hb2 : ¬ (G = i + 1) := by omega
  have hb3 : (i : Int) ≤ (n : Int) := by omega
  have hb4 : ¬ (G = i) := by omega
  have hb5 : ¬ (cap = i) := by omega
  have hb6 : (i : Int) ≤ (n : Int) + 1 := by omega
  have htn : ((i : Int) + 1).toNat = i + 1 := by omega
  go_enter Tryd.func70, Tryd.ntmps70
  go_wp2_with (first
    | (at_builtin; refine Lib.wpList_append_run _ rfl _ _ _ _ rfl _ _ rfl rfl _ _ (hrz _) ?_)
    | (at_builtin; refine wpList_copy_runI _ rfl _ _ 79 79 rfl _ _ rfl rfl (hcp1 _ hE _ _) ?_))
  go_region_law_o (refine step_copy_runI rfl _ _ 79 79 rfl _ _ (by simp [Act.eval, Act.put]) (by simp [Act.eval, Act.put]) (hcp2 _ hE2 _ _ _) ?_)
  go_wp2
  go_ret
  refine ⟨_, rfl, ⟨by rw [← HFIN.out]; simp [HS2.out]; omega, .inr ⟨w.heap.size, G, cur2, rfl, hbase, setRow_heap _ _ cur1 cur2 93 (0, 0) ?_, hGn, HGm.out, HS2.out, HFIN.out⟩⟩, ?_⟩
  · have := setRow_heap W1 w.heap.size ROW cur1 93 (0, 0) HN.out
    rw [HW1.out] at this; exact this
  · refine ⟨rfl, rfl, rfl, by simp [World.setRow], fun k hk _ => ?_⟩
    have hne : ¬ w.heap.size = k := by omega
    simp only [World.setRow, World.drew]
    rw [Array.getElem?_modify, if_neg hne, Array.getElem?_modify, if_neg hne]
    exact Below.heap_alloc w _ k hk

/-- slices.Insert of one pressing, wherever -/
theorem ins_any (v : Value) (n i vb : Nat) (x y : Value) (cs : List Value) (w : World) (base : Nat) (hx : x.oneCell' = true) (hy : y.oneCell' = true) (hn : n ≤ 1000) (hi : i ≤ n) (hbase : base ≤ w.heap.size)
    (hrow : w.ownsRow base 93 2 v n cs) (hv : One w vb x y) (hvg : v.ownBlock ≠ some vb) (h1c : ∀ u ∈ cs, u.oneCell' = true) :
    Calls Tryd.prog 70 #[v, .int .i64 i, .slice (some ⟨vb, 0, none⟩) 1 1] w fun e w' => ∃ v', e = .returned v' ∧ w'.ownsRow base 93 2 v' (n + 1) (cs.take (i * 2) ++ [x, y] ++ cs.drop (i * 2)) ∧ w.grownBy w' v.ownBlock := by
  have hvb : w.heap[vb]? = some (.cells #[x, y] 93 (0, 0)) := hv
  by_cases e : i = n
  · subst e
    have h1 : cs.take (i * 2) = cs := List.take_of_length_le (by rw [hrow.1]; exact Nat.le_refl _)
    have h2 : cs.drop (i * 2) = [] := List.drop_of_length_le (by rw [hrow.1]; exact Nat.le_refl _)
    rw [h1, h2, List.append_nil]
    exact ins_end v i vb x y cs w base hx hy hn hbase hrow ⟨by simp [World.cell?, hvb], by simp [World.cell?, hvb]⟩
  · have hlt : i < n := by omega
    rcases hrow.2 with ⟨rfl, h0⟩ | ⟨g, cap, cur, rfl, hg, hh, hnc, hcm, hcs, htk⟩
    · omega
    · by_cases hr : n + 1 ≤ cap
      · exact ins_room g n cap i vb x y cs cur w base hx hy hn hlt hbase hg hh hr hcm hcs htk (fun e => hvg (by rw [e]; rfl)) hv h1c
      · refine (ins_grow g n cap i vb x y cs cur w base hx hy hn hlt hbase hg hh (by omega) hnc hcs htk hv h1c).mono ?_
        rintro e w' ⟨v', he, hrow', hgr⟩
        exact ⟨v', he, hrow', ⟨hgr.os, hgr.tape, hgr.output, hgr.size, fun k hk _ => hgr.block k hk (by simp)⟩⟩

end Go.Proofs.YtdlogklhekopgaaDoor

namespace Go.Proofs.YtdlogklhekopgaaDoor
open Go.RowKit Go.Shelf Go.Proofs

/-- pressings as cells -/
def pcells (B : List (Nat × Nat)) : List Value := B.flatMap fun p => [Value.int .i64 (p.1 : Int), Value.int .i64 (p.2 : Int)]
theorem pcells_length (B : List (Nat × Nat)) : (pcells B).length = B.length * 2 := by
  induction B with
  | nil => rfl
  | cons b B ih => simp only [pcells, List.flatMap_cons, List.length_append] at *; simp [ih]; omega
theorem pcells_append (A B : List (Nat × Nat)) : pcells (A ++ B) = pcells A ++ pcells B := by simp [pcells]
theorem pcells_one (B : List (Nat × Nat)) : ∀ u ∈ pcells B, u.oneCell' = true := by
  intro u hu
  simp only [pcells, List.mem_flatMap] at hu
  obtain ⟨p, _, hp⟩ := hu
  rcases List.mem_cons.1 hp with rfl | hp
  · rfl
  · rcases List.mem_cons.1 hp with rfl | hp
    · rfl
    · cases hp
theorem pcells_at (B : List (Nat × Nat)) (j : Nat) (hj : j < B.length) : (pcells B)[j * 2]? = some (.int .i64 (B[j].1 : Int)) ∧ (pcells B)[j * 2 + 1]? = some (.int .i64 (B[j].2 : Int)) := by
  induction B generalizing j with
  | nil => simp at hj
  | cons b B ih =>
    cases j with
    | zero => simp [pcells]
    | succ j =>
      have := ih j (by simpa using hj)
      have e : (j + 1) * 2 = j * 2 + 2 := by omega
      simp only [pcells, List.flatMap_cons] at *
      rw [e]
      simpa using this
theorem pcells_take (B : List (Nat × Nat)) (i : Nat) : pcells (B.take i) = (pcells B).take (i * 2) := by
  induction B generalizing i with
  | nil => simp [pcells]
  | cons b B ih =>
    cases i with
    | zero => simp [pcells]
    | succ i =>
      have e : (i + 1) * 2 = i * 2 + 2 := by omega
      have h := ih i
      simp only [pcells, List.take_succ_cons, List.flatMap_cons] at *
      rw [h, e]; simp
theorem pcells_drop (B : List (Nat × Nat)) (i : Nat) : pcells (B.drop i) = (pcells B).drop (i * 2) := by
  induction B generalizing i with
  | nil => simp [pcells]
  | cons b B ih =>
    cases i with
    | zero => simp [pcells]
    | succ i =>
      have e : (i + 1) * 2 = i * 2 + 2 := by omega
      have h := ih i
      simp only [pcells, List.drop_succ_cons, List.flatMap_cons] at *
      rw [h, e]; simp
theorem pcells_ins (B : List (Nat × Nat)) (p : Nat × Nat) : pcells (Lt.ins B p) = (pcells B).take (Lt.insAt B p.2 * 2) ++ [Value.int .i64 (p.1 : Int), Value.int .i64 (p.2 : Int)] ++ (pcells B).drop (Lt.insAt B p.2 * 2) := by
  unfold Lt.ins
  rw [pcells_append, pcells_take]
  have : p :: B.drop (Lt.insAt B p.2) = [p] ++ B.drop (Lt.insAt B p.2) := rfl
  rw [this, pcells_append, pcells_drop, ← List.append_assoc]
  rfl

/-- pressings in a slice as they are read -/
def ReadsB (w : World) (v : Value) (B : List (Nat × Nat)) : Prop :=
  (v = .slice none 0 0 ∧ B = []) ∨ ∃ b off cap, v = .slice (some ⟨b, off, none⟩) B.length cap ∧ b < w.heap.size ∧
    ∀ j, j < B.length → w.cell? ⟨b, off + j * 2, none⟩ = some (.int .i64 ((B[j]?.getD (0, 0)).1 : Int)) ∧ w.cell? ⟨b, off + j * 2 + 1, none⟩ = some (.int .i64 ((B[j]?.getD (0, 0)).2 : Int))
theorem ReadsB.below {w w' : World} (h : Below w.heap.size w w') {v : Value} {B : List (Nat × Nat)} : ReadsB w v B → ReadsB w' v B
  | .inl e => .inl e
  | .inr ⟨b, off, cap, e, hb, hc⟩ => .inr ⟨b, off, cap, e, Nat.lt_of_lt_of_le hb h.size, fun j hj => ⟨(h.cell (p := ⟨b, off + j * 2, none⟩) hb).trans (hc j hj).1, (h.cell (p := ⟨b, off + j * 2 + 1, none⟩) hb).trans (hc j hj).2⟩⟩
theorem ReadsB.of_row {w : World} {base : Nat} {v : Value} {B : List (Nat × Nat)} (h : w.ownsRow base 93 2 v B.length (pcells B)) : ReadsB w v B := by
  rcases h.2 with ⟨rfl, h0⟩ | ⟨g, cap, cur, rfl, hg, hh, hnc, hcm, hcs, htk⟩
  · exact .inl ⟨rfl, List.length_eq_zero_iff.1 h0⟩
  · refine .inr ⟨g, 0, cap, rfl, (Array.getElem?_eq_some_iff.1 hh).1, fun j hj => ?_⟩
    obtain ⟨h1, h2⟩ := pcells_at B j hj
    rw [← htk, List.getElem?_take, if_pos (by omega)] at h1
    rw [← htk, List.getElem?_take, if_pos (by omega)] at h2
    simp only [World.cell?, hh, Nat.zero_add]
    have e : B[j]?.getD (0, 0) = B[j] := by simp [hj]
    rw [e]
    exact ⟨by simpa using h1, by simpa using h2⟩

set_option maxHeartbeats 1000000 in
/-- reduced's test: a pressing's effect is less than that of the one in the box -/
theorem effLess_any (s x E : Int) (pb : Nat) (w : World) (hp : w.cell? ⟨pb, 1, none⟩ = some (.int .i64 E)) (hb : pb < w.heap.size) :
    Calls Tryd.prog 69 #[.agg #[.int .i64 s, .int .i64 x], .pointer (some ⟨pb, 0, none⟩)] w fun e w' => e = .returned (.bool (decide (x < E))) ∧ w' = w.alloc (.cells #[.int .i64 s, .int .i64 x] 93) := by
  go_enter Tryd.func69, Tryd.ntmps69
  go_wp2
  go_ret
  exact ⟨rfl, rfl⟩

/-- where a pressing is inserted, as IndexFunc says it -/
def idxLess (B : List (Nat × Nat)) (E : Nat) : Int := if Lt.insAt B E < B.length then (Lt.insAt B E : Int) else -1

theorem insAt_of {B : List (Nat × Nat)} {E k : Nat} (hk : k < B.length) (hno : ∀ j, j < k → ¬ (B[j]?.getD (0, 0)).2 < E) (hy : (B[k]?.getD (0, 0)).2 < E) : Lt.insAt B E = k := by
  unfold Lt.insAt
  refine (List.findIdx_eq hk).2 ⟨by simpa [hk] using hy, fun j hj => ?_⟩
  have := hno j hj
  have hj' : j < B.length := by omega
  simpa [hj'] using this
theorem insAt_none {B : List (Nat × Nat)} {E : Nat} (hno : ∀ j, j < B.length → ¬ (B[j]?.getD (0, 0)).2 < E) : Lt.insAt B E = B.length := by
  unfold Lt.insAt
  rw [List.findIdx_eq_length]
  intro x hx
  obtain ⟨j, hj, rfl⟩ := List.getElem_of_mem hx
  have := hno j hj
  simpa [hj] using this

set_option maxRecDepth 100000 in
set_option maxHeartbeats 2000000 in
theorem indexLess_any (v : Value) (B : List (Nat × Nat)) (E pb : Nat) (w : World) (hv : ReadsB w v B) (hlen : B.length ≤ 1000) (hp : w.cell? ⟨pb, 1, none⟩ = some (.int .i64 (E : Int))) (hb : pb < w.heap.size) :
    Calls Tryd.prog 68 #[v, .func (.func 69) #[] #[.pointer (some ⟨pb, 0, none⟩)]] w fun e w' => e = .returned (.int .i64 (idxLess B E)) ∧ Below w.heap.size w w' := by
  rcases hv with ⟨rfl, rfl⟩ | ⟨b, off, cap, rfl, hbw, hcs⟩
  · go_enter Tryd.func68, Tryd.ntmps68
    go_wp2
    refine wp_loop_rounds 1 ?_
    rw [rounds_succ]
    go_wp2
    go_ret
    exact ⟨by simp [idxLess, Lt.insAt], Below.refl _ _⟩
  · have HC := Lib.hid hcs
    have HP := Lib.hid hp
    clear hcs hp
    go_enter Tryd.func68, Tryd.ntmps68
    go_wp2
    go_loopw [5, 8] (fun _ i wr => ∃ k : Nat, i = .int .i64 k ∧ k ≤ B.length ∧ Hid (∀ j, j < k → ¬ (B[j]?.getD (0, 0)).2 < E) ∧ Below w.heap.size w wr) (fun _ i _ => B.length - (intOf i).toNat)
    case atStart => exact ⟨0, rfl, Nat.zero_le _, Lib.hid (fun j h => by omega), Below.refl _ _⟩
    case round =>
      obtain ⟨k, rfl, hk, hno, hB⟩ := hrel
      by_cases hlt : k < B.length
      · obtain ⟨hc0, hc1⟩ := HC.out k hlt
        replace hc0 := (hB.cell (p := ⟨b, off + k * 2, none⟩) hbw).trans hc0
        replace hc1 := (hB.cell (p := ⟨b, off + k * 2 + 1, none⟩) hbw).trans hc1
        have hpw := (hB.cell (p := ⟨pb, 1, none⟩) hb).trans HP.out
        have hbr : pb < wr.heap.size := Nat.lt_of_lt_of_le hb hB.size
        have hcl := Lib.hid (effLess_any (B[k]?.getD (0, 0)).1 (B[k]?.getD (0, 0)).2 E pb wr hpw hbr)
        clear hpw
        by_cases hy : (B[k]?.getD (0, 0)).2 < E
        · have hfin : Hid (idxLess B E = k) := Lib.hid (by unfold idxLess; rw [insAt_of hlt hno.out hy, if_pos hlt])
          have hd : decide ((((B[k]?.getD (0, 0)).2 : Nat) : Int) < (E : Int)) = true := by simpa using hy
          rw [hd] at hcl
          clear hd hy hno
          generalize (B[k]?.getD (0, 0)).2 = y at *
          generalize (B[k]?.getD (0, 0)).1 = x at *
          go_wp2_with (go_at_call 69; refine hcl.out.mono ?_; rintro e w' ⟨rfl, rfl⟩)
          go_ret
          exact ⟨by rw [hfin.out]; rfl, hB.alloc (by have := hB.size; omega) _⟩
        · have hd : decide ((((B[k]?.getD (0, 0)).2 : Nat) : Int) < (E : Int)) = false := by simpa using hy
          rw [hd] at hcl
          have hno' : Hid (∀ j, j < k + 1 → ¬ (B[j]?.getD (0, 0)).2 < E) := Lib.hid fun j hj => by
            by_cases e : j = k
            · subst e; exact hy
            · exact hno.out j (by omega)
          clear hd hy hno
          generalize (B[k]?.getD (0, 0)).2 = y at *
          generalize (B[k]?.getD (0, 0)).1 = x at *
          go_wp2_with (go_at_call 69; refine hcl.out.mono ?_; rintro e w' ⟨rfl, rfl⟩)
          go_roundw
          case rel => exact ⟨k + 1, by go_num, by omega, hno', hB.alloc hB.size _⟩
          case measure => simp [intOf]; omega
      · have hfin : Hid (idxLess B E = -1) := Lib.hid (by unfold idxLess; rw [insAt_none (fun j hj => hno.out j (by omega)), if_neg (by omega)])
        clear hno
        go_wp2
        go_ret
        exact ⟨by rw [hfin.out]; rfl, hB⟩

end Go.Proofs.YtdlogklhekopgaaDoor
