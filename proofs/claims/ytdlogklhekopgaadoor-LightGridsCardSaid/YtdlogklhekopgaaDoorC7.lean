/- Contracts of the program's functions: part C7 of the proof. -/
import Derived.Test.YtdlogklhekopgaaDoorC6
import Derived.Shelf.Spec.SlicesInsertGrow
import Derived.Laws.CopyOwn
set_option linter.unusedVariables false
set_option linter.unusedSimpArgs false
namespace Go.Proofs.YtdlogklhekopgaaDoor
open Go.RowKit Go.Shelf Go.Proofs

theorem Tryd.info93 : (Tryd.prog.info? 93).map (fun i => (i.zero, i.size, i.bytes)) = some (some (.agg #[.int .i64 0, .int .i64 0]), 2, 16) := by kernel_rfl
theorem Tryd.info3 : (Tryd.prog.info? 3).map (fun i => (i.zero, i.size, i.bytes)) = some (some (.int .i64 0), 1, 8) := by kernel_rfl
theorem Tryd.mixed : Tryd.prog.follows .mixedOrders = true := by kernel_rfl

/-- copy into a row that is known whole, its elements of any size -/
theorem run_copy_rowK {P : Program} (w : World) (dT sT ty elem : TypeId) (size g o dLen dCap : Nat) (a : Addr) (sLen sCap : Nat) (cur : Array Value) (t : TypeId) (cs : List Value)
    (hu : P.underlying dT = some (.slice elem)) (hs : (P.info? elem).map (·.size) = some size)
    (hg : w.heap[g]? = some (.cells cur t (0, 0))) (hn : cs.length = Nat.min sLen dLen * size)
    (hsrc : ∀ j v, cs[j]? = some v → w.cell? (a.add j) = some v) (hfit : o + cs.length ≤ cur.size) (h1 : ∀ v ∈ cs, v.oneCell' = true) :
    (Builtin.copy_ #[dT, sT] ty #[.slice (some ⟨g, o, none⟩) dLen dCap, .slice (some a) sLen sCap]).run P w =
      .ok (goInt (Nat.min sLen dLen)) (w.setRow g (cur.toList.take o ++ cs ++ cur.toList.drop (o + cs.length)).toArray) := by
  have hl := run_loadCells_list (P := P) w a cs hsrc
  have hst := run_storeCells_at P g o t cs 0 cur w hg (by simpa using hfit) h1
  cases hq : P.info? elem with
  | none => simp [hq] at hs
  | some i =>
    have hi : i.size = size := by simpa [hq] using hs
    simp [Builtin.copy_, run_underlying hu, Builtin.lenOf, Builtin.firstCells, sizeOf, typeInfo, hq, hi, ← hn, hl, hst]

theorem ins_list {α : Type} (L cs : List α) (i n : Nat) (x y : α) (h : L.take (n * 2) = cs) (hi : i < n) (hL : n * 2 + 2 ≤ L.length) :
    ((L.take ((i + 1) * 2) ++ cs.drop (i * 2) ++ L.drop ((i + 1) * 2 + (cs.drop (i * 2)).length)).take (i * 2) ++ [x, y] ++ (L.take ((i + 1) * 2) ++ cs.drop (i * 2) ++ L.drop ((i + 1) * 2 + (cs.drop (i * 2)).length)).drop (i * 2 + 2)).take ((n + 1) * 2) =
      cs.take (i * 2) ++ [x, y] ++ cs.drop (i * 2) := by
  have hcl : cs.length = n * 2 := by rw [← h]; simp; omega
  have h1 : (L.take ((i + 1) * 2) ++ cs.drop (i * 2) ++ L.drop ((i + 1) * 2 + (cs.drop (i * 2)).length)).take (i * 2) = cs.take (i * 2) := by
    rw [List.append_assoc, List.take_append_of_le_length (by simp; omega), List.take_take, ← h, List.take_take]
    congr 1
    simp only [Nat.min_def]; split <;> split <;> omega
  have h2 : (L.take ((i + 1) * 2) ++ cs.drop (i * 2) ++ L.drop ((i + 1) * 2 + (cs.drop (i * 2)).length)).drop (i * 2 + 2) = cs.drop (i * 2) ++ L.drop ((i + 1) * 2 + (cs.drop (i * 2)).length) := by
    rw [List.append_assoc, List.drop_left' (by simp; omega)]
  rw [h1, h2, ← List.append_assoc]
  exact List.take_left' (by simp [hcl]; omega)

theorem grownBy_twice {a b c : World} {g : Nat} (h : a.grownBy b (some g)) (k : b.grownBy c (some g)) : a.grownBy c (some g) :=
  ⟨k.os.trans h.os, k.tape.trans h.tape, k.output.trans h.output, Nat.le_trans h.size k.size, fun i hi hne => (k.block i (Nat.lt_of_lt_of_le hi h.size) hne).trans (h.block i hi hne)⟩
theorem grownBy_drew (w : World) (r : Option Nat) : w.grownBy w.drew r := ⟨rfl, rfl, rfl, Nat.le_refl _, fun _ _ _ => rfl⟩

/-- a pressing that lies alone in its block -/
def One (w : World) (vb : Nat) (x y : Value) : Prop := w.heap[vb]? = some (.cells #[x, y] 93 (0, 0))

set_option maxHeartbeats 4000000 in
set_option maxRecDepth 100000 in
/-- slices.Insert of one pressing: at the end -/
theorem ins_end (v : Value) (n vb : Nat) (x y : Value) (cs : List Value) (w : World) (base : Nat) (hx : x.oneCell' = true) (hy : y.oneCell' = true) (hn : n ≤ 1000) (hbase : base ≤ w.heap.size)
    (hrow : w.ownsRow base 93 2 v n cs) (hv : w.cell? ⟨vb, 0, none⟩ = some x ∧ w.cell? ⟨vb, 1, none⟩ = some y) :
    Calls Tryd.prog 70 #[v, .int .i64 n, .slice (some ⟨vb, 0, none⟩) 1 1] w fun e w' => ∃ v', e = .returned v' ∧ w'.ownsRow base 93 2 v' (n + 1) (cs ++ [x, y]) ∧ w.grownBy w' v.ownBlock := by
  obtain ⟨i0, hi0, hz0, hzs, hzb⟩ := info_parts Tryd.info93
  have hnews : ∀ j u, [x, y][j]? = some u → w.cell? ((⟨vb, 0, none⟩ : Addr).add j) = some u := fun j u hj => by
    match j, hj with
    | 0, hj => simp at hj; subst hj; exact hv.1
    | 1, hj => simp at hj; subst hj; exact hv.2
  have h1 : ∀ u ∈ [x, y], u.oneCell' = true := by simp [hx, hy]
  have hk := hrow
  rcases hrow.2 with ⟨rfl, rfl⟩ | ⟨g, cap, cur, rfl, hg, hh, hnc, hcm, hcs, htk⟩
  · have HK := Lib.hid hk
    clear hk hrow
    go_enter Tryd.func70, Tryd.ntmps70
    go_wp2_with (at_builtin; refine wpList_append_own _ rfl _ _ 79 rfl base 93 i0 _ 2 16 Tryd.underlying79 hi0 hz0 hzs hzb rfl (by decide) _ 0 cs rfl HK.out ⟨vb, 0, none⟩ 1 1 [x, y] rfl rfl hnews h1 (by unfold maxLen; omega) (by omega) hbase ?_; intro v' w' hr hg' _; have HR := Lib.hid hr; clear hr)
    go_ret
    exact ⟨_, rfl, HR.out, hg'⟩
  · unfold maxLen at hcm
    have HK := Lib.hid hk
    clear hk hrow hh htk hcs
    go_enter Tryd.func70, Tryd.ntmps70
    go_wp2_with (at_builtin; refine wpList_append_own _ rfl _ _ 79 rfl base 93 i0 _ 2 16 Tryd.underlying79 hi0 hz0 hzs hzb rfl (by decide) _ n cs rfl HK.out ⟨vb, 0, none⟩ 1 1 [x, y] rfl rfl hnews h1 (by unfold maxLen; omega) (by omega) hbase ?_; intro v' w' hr hg' _; have HR := Lib.hid hr; clear hr)
    all_goals (go_ret; exact ⟨_, rfl, HR.out, hg'⟩)

theorem grownBy_setRow (w : World) (g : Nat) (cs : Array Value) : w.grownBy (w.setRow g cs) (some g) :=
  ⟨rfl, rfl, rfl, by simp [World.setRow], fun k _ hk => by
    have : k ≠ g := fun e => hk (by rw [e])
    simp only [World.setRow]
    rw [Array.getElem?_modify, if_neg (fun e => this e.symm)]⟩

set_option maxHeartbeats 4000000 in
set_option maxRecDepth 100000 in
/-- slices.Insert of one pressing: there is room, within -/
theorem ins_room (g n cap i vb : Nat) (x y : Value) (cs : List Value) (cur : Array Value) (w : World) (base : Nat) (hx : x.oneCell' = true) (hy : y.oneCell' = true) (hn : n ≤ 1000) (hi : i < n) (_hbase : base ≤ w.heap.size) (hg : base ≤ g)
    (hh : w.heap[g]? = some (.cells cur 93 (0, 0))) (hroom : n + 1 ≤ cap) (hcm : cap ≤ maxLen) (hcs : cur.size = cap * 2) (htk : cur.toList.take (n * 2) = cs) (hvg : vb ≠ g) (hv : One w vb x y) (h1c : ∀ u ∈ cs, u.oneCell' = true) :
    Calls Tryd.prog 70 #[.slice (some ⟨g, 0, none⟩) n cap, .int .i64 i, .slice (some ⟨vb, 0, none⟩) 1 1] w fun e w' => ∃ v', e = .returned v' ∧ w'.ownsRow base 93 2 v' (n + 1) (cs.take (i * 2) ++ [x, y] ++ cs.drop (i * 2)) ∧ w.grownBy w' (some g) := by
  unfold maxLen at hcm
  have hcl : cs.length = n * 2 := by rw [← htk]; simp; omega
  have hsz : (Tryd.prog.info? 93).map (·.size) = some 2 := by kernel_rfl
  have hdl : (cs.drop (i * 2)).length = (n - i) * 2 := by rw [List.length_drop, hcl]; omega
  have hcell : ∀ j u, (cs.drop (i * 2))[j]? = some u → w.drew.cell? ((⟨g, i * 2, none⟩ : Addr).add j) = some u := fun j u hj => by
    rw [Addr.add_lit]
    show w.cell? _ = _
    rw [List.getElem?_drop, ← htk] at hj
    rw [List.getElem?_take] at hj
    split at hj
    · simp only [World.cell?, hh]; simpa using hj
    · cases hj
  have hcp1 : ∀ ty dc sc, (Builtin.copy_ #[79, 79] ty #[.slice (some ⟨g, (i + 1) * 2, none⟩) (n - i) dc, .slice (some ⟨g, i * 2, none⟩) (n + 1 - i) sc]).run Tryd.prog w.drew = .ok (goInt (Nat.min (n + 1 - i) (n - i))) (w.drew.setRow g (cur.toList.take ((i + 1) * 2) ++ cs.drop (i * 2) ++ cur.toList.drop ((i + 1) * 2 + (cs.drop (i * 2)).length)).toArray) := fun ty dc sc =>
    run_copy_rowK w.drew 79 79 ty 93 2 g ((i + 1) * 2) _ dc ⟨g, i * 2, none⟩ _ sc cur 93 (cs.drop (i * 2)) Tryd.underlying79 hsz hh (by rw [hdl]; simp only [Nat.min_def]; split <;> omega) hcell (by rw [hdl, hcs]; omega) (fun u hu => h1c u (List.mem_of_mem_drop hu))
  obtain ⟨cur1, hcur1⟩ : ∃ cur1, (cur.toList.take ((i + 1) * 2) ++ cs.drop (i * 2) ++ cur.toList.drop ((i + 1) * 2 + (cs.drop (i * 2)).length)).toArray = cur1 := ⟨_, rfl⟩
  rw [hcur1] at hcp1
  have hh1 : (w.drew.setRow g cur1).heap[g]? = some (.cells cur1 93 (0, 0)) := setRow_heap w.drew g cur cur1 93 (0, 0) hh
  have hs1 : cur1.size = cap * 2 := by rw [← hcur1]; simp [hcl, hcs]; omega
  have hv1 : ∀ (W : World), (∀ k, W.heap[k]? = (w.drew.setRow g cur1).heap[k]?) → ∀ j u, [x, y][j]? = some u → W.cell? ((⟨vb, 0, none⟩ : Addr).add j) = some u := fun W hW j u hj => by
    have hb : W.heap[vb]? = some (.cells #[x, y] 93 (0, 0)) := by
      rw [hW]
      have h2 : some vb ≠ some g := fun e => hvg (by simpa using e)
      have hlt : vb < w.heap.size := (Array.getElem?_eq_some_iff.1 hv).1
      exact ((grownBy_setRow w.drew g cur1).block vb hlt h2).trans hv
    match j, hj with
    | 0, hj => simp at hj; subst hj; simp [World.cell?, Addr.add, hb]
    | 1, hj => simp at hj; subst hj; simp [World.cell?, Addr.add, hb]
  obtain ⟨cur2, hcur2⟩ : ∃ cur2, (cur1.toList.take (i * 2) ++ [x, y] ++ cur1.toList.drop (i * 2 + [x, y].length)).toArray = cur2 := ⟨_, rfl⟩
  have hcp2 : ∀ (W : World), (∀ k, W.heap[k]? = (w.drew.setRow g cur1).heap[k]?) → ∀ ty dc, (Builtin.copy_ #[79, 79] ty #[.slice (some ⟨g, i * 2, none⟩) (n + 1 - i) dc, .slice (some ⟨vb, 0, none⟩) 1 1]).run Tryd.prog W = .ok (goInt (Nat.min 1 (n + 1 - i))) (W.setRow g cur2) := fun W hW ty dc => by
    rw [← hcur2]
    exact run_copy_rowK W 79 79 ty 93 2 g (i * 2) _ dc ⟨vb, 0, none⟩ _ 1 cur1 93 [x, y] Tryd.underlying79 hsz ((hW g).trans hh1) (by simp only [Nat.min_def]; split <;> simp; omega) (hv1 W hW) (by rw [hs1]; simp; omega) (by simp [hx, hy])
  have hshv : w.shape? vb = some (93, 2) := by simp [World.shape?, show w.heap[vb]? = some (.cells #[x, y] 93 (0, 0)) from hv]
  have hshg : w.shape? g = some (93, cap * 2) := by simp [World.shape?, hh, hcs]
  have hov : ∀ lb cb, (callFunc 82 #[.slice (some ⟨vb, 0, none⟩) 1 1, .slice (some ⟨g, (i + 1) * 2, none⟩) lb cb]).run Tryd.prog w = .ok (.value (.bool false)) w := fun lb cb => by
    rw [run_callFunc_extern Tryd.func82 (by kernel_rfl) (by kernel_rfl) (by kernel_rfl) (e := Extern.SlicesOverlaps.overlaps #[79, 79] #[4]) (by kernel_rfl),
      Lib.run_overlaps_apart w 79 4 93 Tryd.underlying79 2 Tryd.sizeOf93 ⟨vb, 0, none⟩ ⟨g, (i + 1) * 2, none⟩ 1 1 lb cb hvg 93 93 2 (cap * 2) hshv hshg (by omega) (by simp [World.frozen?, show w.heap[vb]? = some (.cells #[x, y] 93 (0, 0)) from hv]) (by simp [World.frozen?, show w.heap[vb]? = some (.cells #[x, y] 93 (0, 0)) from hv])]
    rfl
  have hfin : cur2.toList.take ((n + 1) * 2) = cs.take (i * 2) ++ [x, y] ++ cs.drop (i * 2) := by
    rw [← hcur2, ← hcur1]
    exact ins_list cur.toList cs i n x y htk hi (by simp [hcs]; omega)
  have hs2 : cur2.size = cap * 2 := by rw [← hcur2]; simp [hs1]; omega
  have HFIN := Lib.hid hfin
  have HS2 := Lib.hid hs2
  have hw1 : IntKind.i64.wrap ((i : Int) + 1) = (i : Int) + 1 := by rw [IntKind.wrap_i64]; omega
  have mixed := Tryd.mixed
  clear hfin hs2 hcur2 hcur1 hs1 hshv hshg hcell hdl hcl htk hcs hv hv1 h1c
  have hz2 : ¬ ((i : Int) = (n : Int)) := by omega
  have hb1 : (0 : Int) ≤ (i : Int) + 1 := by omega
  have hin : i ≤ n := by omega
  have hb2 : ¬ (cap = i + 1) := by omega
  have hb3 : (i : Int) ≤ (n : Int) := by omega
  have hb5 : (i : Int) ≤ (n : Int) + 1 := by omega
  have hb4 : ¬ (cap = i) := by omega
  have htn : ((i : Int) + 1).toNat = i + 1 := by omega
  go_enter Tryd.func70, Tryd.ntmps70
  go_wp2_with (simp only [hov])
  go_region_law_o (refine step_copy_runI rfl _ _ 79 79 rfl _ _ (by simp [Act.eval, Act.put]) (by simp [Act.eval, Act.put]) (hcp1 _ _ _) ?_)
  go_wp2_with (at_builtin; refine wpList_copy_runI _ rfl _ _ 79 79 rfl _ _ rfl rfl (hcp2 _ (fun _ => rfl) _ _) ?_)
  go_ret
  refine ⟨_, rfl, ?_, ?_⟩
  · have hlen := congrArg List.length HFIN.out
    exact ⟨by rw [← HFIN.out]; simp [HS2.out]; omega, .inr ⟨g, cap, cur2, rfl, hg, setRow_heap _ g cur1 cur2 93 (0, 0) hh1, hroom, by unfold maxLen; omega, HS2.out, HFIN.out⟩⟩
  · exact grownBy_twice (grownBy_twice (grownBy_drew w _) (grownBy_setRow w.drew g cur1)) (grownBy_setRow _ g cur2)

end Go.Proofs.YtdlogklhekopgaaDoor
