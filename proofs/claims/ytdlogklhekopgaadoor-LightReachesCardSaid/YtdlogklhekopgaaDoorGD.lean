/- Contracts of the program's functions: a part of the proof. -/
import Derived.Test.YtdlogklhekopgaaDoorGC
import Derived.Test.YtdlogklhekopgaaDoorGB
import Derived.StillTailTactics
import Derived.Deep.QuietTactic
import Derived.BigQuiet
set_option linter.unusedVariables false
set_option linter.unusedSimpArgs false

namespace Go.Proofs.YtdlogklhekopgaaDoor
open Go.RowKit Go.Shelf Go.Proofs
open Lt (cmpI cmp2)

/-- a slice of pairs as it lies in memory, read alone -/
def ReadsP (w : World) (v : Value) (es : List (Int × Int)) : Prop :=
  (v = .slice none 0 0 ∧ es = []) ∨ ∃ b off cap, v = .slice (some ⟨b, off, none⟩) es.length cap ∧ b < w.heap.size ∧
    ∀ j, j < es.length → w.cell? ⟨b, off + j * 2, none⟩ = some (.int .i64 (es[j]?.getD (0, 0)).1) ∧ w.cell? ⟨b, off + j * 2 + 1, none⟩ = some (.int .i64 (es[j]?.getD (0, 0)).2)
theorem ReadsP.below {w w' : World} (h : Below w.heap.size w w') {v : Value} {es : List (Int × Int)} : ReadsP w v es → ReadsP w' v es
  | .inl e => .inl e
  | .inr ⟨b, off, cap, e, hb, hc⟩ => .inr ⟨b, off, cap, e, Nat.lt_of_lt_of_le hb h.size, fun j hj => ⟨(h.cell (p := ⟨b, off + j * 2, none⟩) hb).trans (hc j hj).1, (h.cell (p := ⟨b, off + j * 2 + 1, none⟩) hb).trans (hc j hj).2⟩⟩

set_option maxRecDepth 100000 in
set_option maxHeartbeats 1000000 in
theorem open_arg (n : Int) (hn : n < 1 ∨ 16 < n) (ev sv : Value) (own : Bool) (w : World) :
    Calls Tryd.prog 49 #[.int .i64 n, ev, .bool own, sv] w fun e w' => e = .returned (.tuple #[.pointer none, .int .i64 1]) ∧ Below w.heap.size w w' := by
  by_cases h : n < 1
  · clear hn
    go_enter Tryd.func49, Tryd.ntmps49
    go_wp2
    go_ret2
    exact ⟨rfl, (Below.refl _ _).alloc (Nat.le_refl _) _⟩
  · have h2 : 16 < n := by omega
    clear hn
    go_enter Tryd.func49, Tryd.ntmps49
    go_wp2
    go_ret2
    exact ⟨rfl, (Below.refl _ _).alloc (Nat.le_refl _) _⟩

/-- where open stands: the number's box, the lamps, the last edge -/
structure OpenAt (w wr : World) (n : Nat) (l : List Nat) (last : Int × Int) : Prop where
  below : Below w.heap.size w wr
  size : w.heap.size + 3 ≤ wr.heap.size
  num : wr.cell? ⟨w.heap.size, 0, none⟩ = some (.int .i64 n)
  cnt : wr.cell? ⟨w.heap.size + 1, 0, none⟩ = some (.int .i64 n)
  row : ∀ i, i < 16 → wr.cell? ⟨w.heap.size + 1, 1 + i, none⟩ = some (.int .i64 ((l[i]?.getD 0 : Nat) : Int))
  free : ∀ i, i < 16 → wr.frozen? ⟨w.heap.size + 1, 1 + i, none⟩ = false
  l0 : wr.cell? ⟨w.heap.size + 2, 0, none⟩ = some (.int .i64 last.1)
  l1 : wr.cell? ⟨w.heap.size + 2, 1, none⟩ = some (.int .i64 last.2)
  f0 : wr.frozen? ⟨w.heap.size + 2, 0, none⟩ = false
  f1 : wr.frozen? ⟨w.heap.size + 2, 1, none⟩ = false

theorem OpenAt.alloc {w wr : World} {n : Nat} {l : List Nat} {last : Int × Int} (h : OpenAt w wr n l last) (o : Obj) : OpenAt w (wr.alloc o) n l last := by
  have hb : Below wr.heap.size wr (wr.alloc o) := (Below.refl _ _).alloc (Nat.le_refl _) o
  have hs := h.size
  exact ⟨h.below.alloc (by omega) o, by simp; omega, (hb.cell (p := ⟨w.heap.size, 0, none⟩) (by simp; omega)).trans h.num, (hb.cell (p := ⟨w.heap.size + 1, 0, none⟩) (by simp; omega)).trans h.cnt,
    fun i hi => (hb.cell (p := ⟨w.heap.size + 1, 1 + i, none⟩) (by simp; omega)).trans (h.row i hi), fun i hi => (hb.frozen (p := ⟨w.heap.size + 1, 1 + i, none⟩) (by simp; omega)).trans (h.free i hi),
    (hb.cell (p := ⟨w.heap.size + 2, 0, none⟩) (by simp; omega)).trans h.l0, (hb.cell (p := ⟨w.heap.size + 2, 1, none⟩) (by simp; omega)).trans h.l1,
    (hb.frozen (p := ⟨w.heap.size + 2, 0, none⟩) (by simp; omega)).trans h.f0, (hb.frozen (p := ⟨w.heap.size + 2, 1, none⟩) (by simp; omega)).trans h.f1⟩
theorem OpenAt.drewN {w wr : World} {n : Nat} {l : List Nat} {last : Int × Int} (h : OpenAt w wr n l last) (m : Nat) : OpenAt w (wr.drewN m) n l last :=
  ⟨h.below.trans ⟨rfl, rfl, rfl, Nat.le_refl _, fun _ _ => rfl⟩, h.size, h.num, h.cnt, h.row, h.free, h.l0, h.l1, h.f0, h.f1⟩
theorem OpenAt.store {w wr : World} {n : Nat} {l : List Nat} {last : Int × Int} (h : OpenAt w wr n l last) (i x : Nat) (hi : i < 16) (hl : i < l.length) :
    OpenAt w (wr.setCell ⟨w.heap.size + 1, 1 + i, none⟩ (.int .i64 (x : Nat))) n (l.set i x) last := by
  have hs := h.size
  refine ⟨h.below.setCell (by simp) _, by simpa using hs, (World.cell?_setCell_other _ _ _ _ (by simp)).trans h.num, (World.cell?_setCell_other _ _ _ _ (by simp)).trans h.cnt, fun j hj => ?_, fun j hj => by rw [World.frozen?_setCell]; exact h.free j hj,
    (World.cell?_setCell_other _ _ _ _ (by simp)).trans h.l0, (World.cell?_setCell_other _ _ _ _ (by simp)).trans h.l1, by rw [World.frozen?_setCell]; exact h.f0, by rw [World.frozen?_setCell]; exact h.f1⟩
  by_cases e : i = j
  · subst e
    rw [World.cell?_setCell_same' _ _ _ (by rw [h.row i hi]; rfl)]; simp [hl]
  · rw [World.cell?_setCell_other _ _ _ _ (by simp [e]), h.row j hj]; simp [e]
theorem OpenAt.last {w wr : World} {n : Nat} {l : List Nat} {last : Int × Int} (h : OpenAt w wr n l last) (a b : Int) :
    OpenAt w ((wr.setCell ⟨w.heap.size + 2, 0, none⟩ (.int .i64 a)).setCell ⟨w.heap.size + 2, 1, none⟩ (.int .i64 b)) n l (a, b) := by
  have hs := h.size
  refine ⟨(h.below.setCell (by simp) _).setCell (by simp) _, by simpa using hs, ?_, ?_, fun j hj => ?_, fun j hj => by rw [World.frozen?_setCell, World.frozen?_setCell]; exact h.free j hj, ?_, ?_, by rw [World.frozen?_setCell, World.frozen?_setCell]; exact h.f0, by rw [World.frozen?_setCell, World.frozen?_setCell]; exact h.f1⟩
  · rw [World.cell?_setCell_other _ _ _ _ (by simp), World.cell?_setCell_other _ _ _ _ (by simp)]; exact h.num
  · rw [World.cell?_setCell_other _ _ _ _ (by simp), World.cell?_setCell_other _ _ _ _ (by simp)]; exact h.cnt
  · rw [World.cell?_setCell_other _ _ _ _ (by simp), World.cell?_setCell_other _ _ _ _ (by simp)]; exact h.row j hj
  · rw [World.cell?_setCell_other _ _ _ _ (by simp)]; exact World.cell?_setCell_same' _ _ _ (by rw [h.l0]; rfl)
  · exact World.cell?_setCell_same' _ _ _ (by rw [World.cell?_setCell_other _ _ _ _ (by simp), h.l1]; rfl)

end Go.Proofs.YtdlogklhekopgaaDoor

namespace Go.Proofs.YtdlogklhekopgaaDoor
open Go.RowKit Go.Shelf Go.Proofs
open Lt (cmpI cmp2)

theorem quiet_call {f : FuncId} {args : Array Value} {w : World} {n : Nat} {v : Value}
    (h : Calls Tryd.prog f args (w.drewN n) fun e w' => e = .returned v ∧ w.drewN n = w') : Calls Tryd.prog f args (w.drewN n) fun e w'' => e = .returned v ∧ ∃ m, w'' = w.drewN m :=
  h.mono fun _ _ ⟨he, hm⟩ => ⟨he, n, hm.symm⟩

theorem modify_set (l : List Nat) (i : Nat) (f : Nat → Nat) (hi : i < l.length) : l.modify i f = l.set i (f (l[i]?.getD 0)) := by
  apply List.ext_getElem
  · simp
  · intro j h1 h2
    rw [List.getElem_modify, List.getElem_set]
    by_cases e : i = j
    · subst e; simp [hi]
    · simp [e]

theorem addEdge_set (l : List Nat) (i j : Nat) (hi : i < l.length) (hj : j < l.length) :
    Lt.addEdge l ((i : Int), (j : Int)) = (l.set i (l[i]?.getD 0 ||| 2 ^ j)).set j ((l.set i (l[i]?.getD 0 ||| 2 ^ j))[j]?.getD 0 ||| 2 ^ i) := by
  unfold Lt.addEdge
  simp only [Int.toNat_natCast]
  rw [modify_set l i _ hi, modify_set _ j _ (by simpa using hj)]

/-- what open comes to -/
def OpenPost (n : Nat) (es : List (Int × Int)) (own : Bool) (xs : List Int) (w : World) (e : Ending) (w' : World) : Prop :=
  Below w.heap.size w w' ∧
    ((Lt.edgesOk n (-1, -1) es = false ∧ e = .returned (.tuple #[.pointer none, .int .i64 40])) ∨
     (Lt.edgesOk n (-1, -1) es = true ∧ xs.any (badSet (2 ^ n)) = true ∧ e = .returned (.tuple #[.pointer none, .int .i64 1])) ∨
     (Lt.edgesOk n (-1, -1) es = true ∧ xs.any (badSet (2 ^ n)) = false ∧ ∃ b, e = .returned (.tuple #[.pointer (some ⟨b, 0, none⟩), .int .i64 0]) ∧ w.heap.size ≤ b ∧ Lamps w' b (Lt.graph n es own)))

/-- a row and the bits that come to it stay small -/
def SmallRows (l : List Nat) : Prop := ∀ i : Nat, l[i]?.getD 0 < 65536
theorem SmallRows.set {l : List Nat} (h : SmallRows l) (i j : Nat) (hj : j < 16) : SmallRows (l.set i (l[i]?.getD 0 ||| 2 ^ j)) := by
  intro k
  rw [List.getElem?_set]
  by_cases e : i = k
  · subst e
    by_cases hl : i < l.length
    · simp only [hl, if_true, Option.getD_some]
      have h1 := h i
      have h2 : (2 : Nat) ^ j < 2 ^ 16 := Nat.pow_lt_pow_right (by decide) hj
      exact Nat.or_lt_two_pow (n := 16) (by omega) h2
    · simp [hl]
  · simp [e]; exact h k

theorem rows_nil (n i : Nat) : (Lt.rowsOf n [])[i]?.getD 0 = 0 := by
  unfold Lt.rowsOf
  simp only [List.foldl_nil]
  rw [List.getElem?_replicate]; split <;> rfl

theorem or_pow (r j : Nat) (hr : r < 9223372036854775808) (hj : j < 16) : bits BinOp.or IntKind.i64 (r : Int) (wrap64 ((2 : Int) ^ j)) = ((r ||| 2 ^ j : Nat) : Int) := by
  rw [wrap_pow j (by omega)]
  exact Lt.or_i64 r (2 ^ j) hr (Nat.lt_of_lt_of_le (Nat.pow_lt_pow_right (by decide) hj) (by decide))

set_option maxRecDepth 100000 in
set_option maxHeartbeats 4000000 in
theorem open_go (n : Nat) (h1 : 1 ≤ n) (h2 : n ≤ 16) (a : Option Addr) (cap : Nat) (es : List (Int × Int)) (sv : Value) (xs : List Int) (own : Bool) (w : World) (hlen : es.length ≤ 1000) (hxs : xs.length ≤ 1000)
    (hes : ∀ j, j < es.length → ∃ b off, a = some ⟨b, off, none⟩ ∧ b < w.heap.size ∧ w.cell? ⟨b, off + j * 2, none⟩ = some (.int .i64 (es[j]?.getD (0, 0)).1) ∧ w.cell? ⟨b, off + j * 2 + 1, none⟩ = some (.int .i64 (es[j]?.getD (0, 0)).2))
    (hsv : Reads w sv xs) :
    Calls Tryd.prog 49 #[.int .i64 n, .slice a es.length cap, .bool own, sv] w (OpenPost n es own xs w) := by
  have HES := Lib.hid hes
  have HSV := Lib.hid hsv
  clear hes hsv
  go_enter Tryd.func49, Tryd.ntmps49
  go_wp2
  go_loopw [27] (fun i wr => ∃ (k : Nat) (l : List Nat) (last : Int × Int), i = .int .i64 k ∧ k ≤ es.length ∧ Hid (l = Lt.rowsOf n (es.take k)) ∧ Hid (last = Lt.lastOf (-1, -1) (es.take k)) ∧ Hid (Lt.edgesOk n (-1, -1) (es.take k) = true) ∧ Hid (SmallRows l ∧ l.length = n) ∧ OpenAt w wr n l last)
    (fun i _ => es.length - (intOf i).toNat)
  case atStart =>
    refine ⟨0, Lt.rowsOf n [], (-1, -1), rfl, Nat.zero_le _, Lib.hid rfl, Lib.hid rfl, Lib.hid rfl, Lib.hid ⟨fun i => ?_, Lt.rowsOf_length n []⟩, ?_⟩
    · have e : (Lt.rowsOf n [])[i]?.getD 0 = 0 := rows_nil n i
      rw [e]; decide
    · have hrow : ∀ i, (Lt.rowsOf n [])[i]?.getD 0 = 0 := rows_nil n
      refine ⟨((Below.refl _ w).alloc (Nat.le_refl _) _).alloc (by simp) _ |>.alloc (by simp; omega) _, by simp, by simp [go_sem], by simp [go_sem], fun i hi => ?_, fun i hi => by simp [go_sem], by simp [go_sem], by simp [go_sem], by simp [go_sem], by simp [go_sem]⟩
      rw [hrow]
      match i, hi with
      | 0, _ => simp [go_sem]
      | 1, _ => simp [go_sem]
      | 2, _ => simp [go_sem]
      | 3, _ => simp [go_sem]
      | 4, _ => simp [go_sem]
      | 5, _ => simp [go_sem]
      | 6, _ => simp [go_sem]
      | 7, _ => simp [go_sem]
      | 8, _ => simp [go_sem]
      | 9, _ => simp [go_sem]
      | 10, _ => simp [go_sem]
      | 11, _ => simp [go_sem]
      | 12, _ => simp [go_sem]
      | 13, _ => simp [go_sem]
      | 14, _ => simp [go_sem]
      | 15, _ => simp [go_sem]
      | i + 16, h => omega
  case round =>
    obtain ⟨k, l, last, rfl, hk, hl, hla, hok, hsm, hat⟩ := hrel
    by_cases hlt : k < es.length
    · obtain ⟨b, off, rfl, hb, he0, he1⟩ := HES.out k hlt
      have hB := hat.below
      replace he0 := (hB.cell (p := ⟨b, off + k * 2, none⟩) hb).trans he0
      replace he1 := (hB.cell (p := ⟨b, off + k * 2 + 1, none⟩) hb).trans he1
      generalize hee : es[k]?.getD (0, 0) = ee at *
      have hee' := Lib.hid hee
      clear hee
      obtain ⟨e0, e1⟩ := ee
      obtain ⟨l0, l1⟩ := last
      dsimp only at he0 he1
      go_wp2
      obtain ⟨w2, hw2⟩ : ∃ w2, wr.alloc (Obj.cells #[Value.int IntKind.i64 e0, Value.int IntKind.i64 e1] 29) = w2 := ⟨_, rfl⟩
      have hat2 : OpenAt w w2 n l (l0, l1) := by rw [← hw2]; exact hat.alloc _
      have hc0 : w2.cell? ⟨wr.heap.size, 0, none⟩ = some (.int .i64 e0) := by rw [← hw2]; simp [go_sem]
      have hc1 : w2.cell? ⟨wr.heap.size, 1, none⟩ = some (.int .i64 e1) := by rw [← hw2]; simp [go_sem]
      have hl0 : w2.cell? ⟨w.heap.size + 1 + 1, 0, none⟩ = some (.int .i64 l0) := hat2.l0
      have hl1 : w2.cell? ⟨w.heap.size + 1 + 1, 1, none⟩ = some (.int .i64 l1) := hat2.l1
      have hnum := hat2.num
      have hwr := hat.size
      have hcmp : ∀ m, Calls Tryd.prog 63 #[.slice (some ⟨wr.heap.size, 0, none⟩) 2 2, .slice (some ⟨w.heap.size + 1 + 1, 0, none⟩) 2 2] (w2.drewN m) fun e w' => e = .returned (.int .i64 (cmp2 e0 e1 l0 l1)) ∧ w2.drewN m = w' :=
        fun m => cmp2_any _ _ _ _ e0 e1 l0 l1 _ hc0 hc1 hl0 hl1
      rw [hw2]
      have hsz : wr.heap.size < w2.heap.size := by rw [← hw2]; simp
      clear hw2 hat hB he0 he1 hl0 hl1
      generalize hcc : cmp2 e0 e1 l0 l1 = c at *
      have hcc' := Lib.hid hcc
      have HC := Lib.hid hcmp
      clear hcc hcmp
      by_cases hgood : 0 < c ∧ 0 ≤ e0 ∧ e0 < e1 ∧ e1 < n
      · have hedge : Hid (Lt.edgeOk n (l0, l1) (e0, e1) = true) := Lib.hid (by
          obtain ⟨g1, g2, g3, g4⟩ := hgood
          unfold Lt.edgeOk
          simp only [hcc'.out, Bool.and_eq_true, Bool.not_eq_true', decide_eq_false_iff_not]; omega)
        obtain ⟨g1, g2, g3, g4⟩ := hgood
        go_quiet ((go_at_call 63; exact quiet_call (HC.out _)))
        go_wp2
        obtain ⟨w3, hw3⟩ : ∃ w3, w2.drewN nq = w3 := ⟨_, rfl⟩
        have hat3 : OpenAt w w3 n l (l0, l1) := by rw [← hw3]; exact hat2.drewN _
        replace hc0 : w3.cell? ⟨wr.heap.size, 0, none⟩ = some (.int .i64 e0) := by rw [← hw3]; exact hc0
        replace hc1 : w3.cell? ⟨wr.heap.size, 1, none⟩ = some (.int .i64 e1) := by rw [← hw3]; exact hc1
        have hsz3 : wr.heap.size < w3.heap.size := by rw [← hw3]; exact hsz
        rw [hw3]
        clear hw3 hat2 hnum hsz HC
        obtain ⟨i0, rfl⟩ := Int.eq_ofNat_of_zero_le g2
        obtain ⟨j0, rfl⟩ := Int.eq_ofNat_of_zero_le (show 0 ≤ e1 by omega)
        have hi16 : (i0 : Int) < 16 := by omega
        have hj16 : (j0 : Int) < 16 := by omega
        have hi16' : i0 < 16 := by omega
        have hj16' : j0 < 16 := by omega
        have hsize := hat3.size
        have hr0 := hat3.row i0 hi16'
        have hfr0 := hat3.free i0 hi16'
        have wj := Lt.wrap_u64_nat j0 (by omega)
        have wi := Lt.wrap_u64_nat i0 (by omega)
        have hor := or_pow (l[i0]?.getD 0) j0 (Nat.lt_trans (hsm.out.1 i0) (by decide)) hj16'
        have hset : Hid (Lt.addEdge l ((i0 : Int), (j0 : Int)) = (l.set i0 (l[i0]?.getD 0 ||| 2 ^ j0)).set j0 ((l.set i0 (l[i0]?.getD 0 ||| 2 ^ j0))[j0]?.getD 0 ||| 2 ^ i0)) :=
          Lib.hid (addEdge_set l i0 j0 (by have := hsm.out.2; omega) (by have := hsm.out.2; omega))
        have hsm1 := Lib.hid (SmallRows.set hsm.out.1 i0 j0 hj16')
        have hsm2 := Lib.hid (SmallRows.set hsm1.out j0 i0 hi16')
        rw [← hset.out] at hsm2
        have hlen1 : Hid (l.length = n) := Lib.hid hsm.out.2
        have hlen2 : Hid ((l.set i0 (l[i0]?.getD 0 ||| 2 ^ j0)).length = n) := Lib.hid (by simpa using hsm.out.2)
        generalize hl1 : l.set i0 (l[i0]?.getD 0 ||| 2 ^ j0) = l1' at hset hsm1 hlen2
        have hl1' := Lib.hid hl1
        clear hl1
        have hx : Hid (∃ x : Nat, x = l[i0]?.getD 0 ||| 2 ^ j0) := Lib.hid ⟨_, rfl⟩
        generalize hrm : l[i0]?.getD 0 ||| 2 ^ j0 = rm at hor
        generalize l[i0]?.getD 0 = r0 at hr0 hor
        have hrm' := Lib.hid hrm
        clear hrm hx
        refine wp_region_still_tail 15 (by kernel_rfl) (by kernel_rfl) ?_
        simp only [List.take_succ_cons, List.take_zero, List.drop_succ_cons, List.drop_zero]
        repeat (refine wpStill_step (fun K hK => ?_); go_simp; (try go_bits); refine hK _ ?_; clear hK K)
        try refine wpStill_nil ?_
        change wpList _ _ _ _ _ w3.drew
        have hat4 : OpenAt w w3.drew n l (l0, l1) := hat3.drewN 1
        replace hc0 : w3.drew.cell? ⟨wr.heap.size, 0, none⟩ = some (.int .i64 i0) := hc0
        replace hc1 : w3.drew.cell? ⟨wr.heap.size, 1, none⟩ = some (.int .i64 j0) := hc1
        replace hr0 : w3.drew.cell? ⟨w.heap.size + 1, 1 + i0, none⟩ = some (.int .i64 (r0 : Nat)) := hr0
        replace hfr0 : w3.drew.frozen? ⟨w.heap.size + 1, 1 + i0, none⟩ = false := hfr0
        replace hsz3 : wr.heap.size < w3.drew.heap.size := hsz3
        clear hat3
        generalize w3.drew = w4 at *
        go_wp2
        clear hor hfr0 hr0
        obtain ⟨w5, hw5⟩ : ∃ w5, w4.setCell ⟨w.heap.size + 1, 1 + i0, none⟩ (.int .i64 (rm : Int)) = w5 := ⟨_, rfl⟩
        have hat5 : OpenAt w w5 n l1' (l0, l1) := by rw [← hw5, ← hl1'.out, hrm'.out]; exact hat4.store i0 _ hi16' (by have := hlen1.out; omega)
        replace hc0 : w5.cell? ⟨wr.heap.size, 0, none⟩ = some (.int .i64 i0) := by rw [← hw5, World.cell?_setCell_other _ _ _ _ (by first | (simp; done) | (simp; omega))]; exact hc0
        replace hc1 : w5.cell? ⟨wr.heap.size, 1, none⟩ = some (.int .i64 j0) := by rw [← hw5, World.cell?_setCell_other _ _ _ _ (by first | (simp; done) | (simp; omega))]; exact hc1
        replace hsz3 : wr.heap.size < w5.heap.size := by rw [← hw5]; simpa using hsz3
        rw [hw5]
        clear hw5 hat4
        have hr1 := hat5.row j0 hj16'
        have hfr1 := hat5.free j0 hj16'
        have hor1 := or_pow (l1'[j0]?.getD 0) i0 (Nat.lt_trans (hsm1.out j0) (by decide)) hi16'
        generalize hrm2 : l1'[j0]?.getD 0 ||| 2 ^ i0 = rm2 at hor1 hset
        have hrm2' := Lib.hid hrm2
        clear hrm2
        generalize l1'[j0]?.getD 0 = r1 at hr1 hor1
        refine wp_region_still_tail 15 (by kernel_rfl) (by kernel_rfl) ?_
        simp only [List.take_succ_cons, List.take_zero, List.drop_succ_cons, List.drop_zero]
        repeat (refine wpStill_step (fun K hK => ?_); go_simp; (try go_bits); refine hK _ ?_; clear hK K)
        try refine wpStill_nil ?_
        change wpList _ _ _ _ _ w5.drew
        have hat6 : OpenAt w w5.drew n l1' (l0, l1) := hat5.drewN 1
        replace hc0 : w5.drew.cell? ⟨wr.heap.size, 0, none⟩ = some (.int .i64 i0) := hc0
        replace hc1 : w5.drew.cell? ⟨wr.heap.size, 1, none⟩ = some (.int .i64 j0) := hc1
        replace hr1 : w5.drew.cell? ⟨w.heap.size + 1, 1 + j0, none⟩ = some (.int .i64 (r1 : Nat)) := hr1
        replace hfr1 : w5.drew.frozen? ⟨w.heap.size + 1, 1 + j0, none⟩ = false := hfr1
        replace hsz3 : wr.heap.size < w5.drew.heap.size := hsz3
        have hq0 : w5.drew.cell? ⟨w.heap.size + 1 + 1, 0, none⟩ = some (.int .i64 l0) := hat6.l0
        have hq1 : w5.drew.cell? ⟨w.heap.size + 1 + 1, 1, none⟩ = some (.int .i64 l1) := hat6.l1
        have hg0 : w5.drew.frozen? ⟨w.heap.size + 1 + 1, 0, none⟩ = false := hat6.f0
        have hg1 : w5.drew.frozen? ⟨w.heap.size + 1 + 1, 1, none⟩ = false := hat6.f1
        clear hat5
        generalize w5.drew = w6 at *
        go_wp2
        go_roundw
        case rel =>
          refine ⟨k + 1, Lt.addEdge l ((i0 : Int), (j0 : Int)), ((i0 : Int), (j0 : Int)), by go_num, by omega, ?_, ?_, ?_, ?_, ?_⟩
          · refine Lib.hid ?_
            rw [List.take_succ_eq_append_getElem hlt, Lt.rowsOf_snoc, ← hl.out]
            congr 1
            have := hee'.out; simp [hlt] at this; exact this.symm
          · refine Lib.hid ?_
            rw [List.take_succ_eq_append_getElem hlt, Lt.lastOf_snoc]
            have := hee'.out; simp [hlt] at this; exact this.symm
          · refine Lib.hid ?_
            rw [List.take_succ_eq_append_getElem hlt, Lt.edgesOk_append, hok.out, ← hla.out]
            have := hee'.out; simp [hlt] at this
            rw [this]; simp [Lt.edgesOk, hedge.out]
          · exact Lib.hid ⟨hsm2.out, by rw [Lt.addEdge_length]; exact hlen1.out⟩
          · rw [hset.out]
            exact (hat6.store j0 rm2 hj16' (by have := hlen2.out; omega)).last i0 j0
        case measure => simp [intOf]; omega
      · have hedge : Hid (Lt.edgeOk n (l0, l1) (e0, e1) = false) := Lib.hid (by
          unfold Lt.edgeOk
          simp only [hcc'.out]
          rw [Bool.eq_false_iff]
          simp only [ne_eq, Bool.and_eq_true, Bool.not_eq_true', decide_eq_false_iff_not]; omega)
        have hfalse : Hid (Lt.edgesOk n (-1, -1) es = false) := Lib.hid (by
          have e1 : es = es.take k ++ (es[k] :: es.drop (k + 1)) := by rw [← List.drop_eq_getElem_cons hlt]; simp
          rw [e1, Lt.edgesOk_append, ← hla.out]
          have := hee'.out; simp [hlt] at this
          rw [this]; simp [Lt.edgesOk, hedge.out])
        have hways : c ≤ 0 ∨ (0 < c ∧ e0 < 0) ∨ (0 < c ∧ 0 ≤ e0 ∧ e1 ≤ e0) ∨ (0 < c ∧ 0 ≤ e0 ∧ e0 < e1 ∧ n ≤ e1) := by omega
        clear hgood
        rcases hways with g1 | ⟨g1, g2⟩ | ⟨g1, g2, g3⟩ | ⟨g1, g2, g3, g4⟩
        all_goals
          go_quiet ((go_at_call 63; exact quiet_call (HC.out _)))
          go_wp2
          go_ret2
          exact ⟨hat2.below.trans ⟨rfl, rfl, rfl, Nat.le_refl _, fun _ _ => rfl⟩, .inl ⟨hfalse.out, rfl⟩⟩
    · have hk' : es.take k = es := List.take_of_length_le (by omega)
      rw [hk'] at hl hok
      have hnum := hat.num
      have hlen1 : Hid (l.length = n) := Lib.hid hsm.out.2
      clear hk' hk hla
      by_cases how : own = true
      · subst how
        go_wp2
        obtain ⟨wo, rfl⟩ : ∃ wo : World, wo = wr := ⟨_, rfl⟩
        go_loopw [86] (fun i wr2 => ∃ k2 : Nat, i = .int .i64 k2 ∧ k2 ≤ n ∧ Hid (SmallRows (Lt.ownTo l k2)) ∧ OpenAt w wr2 n (Lt.ownTo l k2) last)
          (fun i _ => n - (intOf i).toNat)
        case atStart => exact ⟨0, rfl, Nat.zero_le _, Lib.hid hsm.out.1, hat⟩
        case round =>
          obtain ⟨k2, rfl, hk2, hsm2, hat2⟩ := hrel
          clear hat hnum
          have hnum2 := hat2.num
          by_cases hlt2 : k2 < n
          · have hi16 : (k2 : Int) < 16 := by omega
            have hi16' : k2 < 16 := by omega
            have hsize := hat2.size
            have hr0 := hat2.row k2 hi16'
            have hfr0 := hat2.free k2 hi16'
            have wi := Lt.wrap_u64_nat k2 (by omega)
            have hor := or_pow ((Lt.ownTo l k2)[k2]?.getD 0) k2 (Nat.lt_trans (hsm2.out k2) (by decide)) hi16'
            have hset : Hid (Lt.ownTo l (k2 + 1) = (Lt.ownTo l k2).set k2 ((Lt.ownTo l k2)[k2]?.getD 0 ||| 2 ^ k2)) := Lib.hid (by
              rw [Lt.ownTo, modify_set _ _ _ (by rw [Lt.ownTo_length, hlen1.out]; exact hlt2)])
            have hsm3 := Lib.hid (SmallRows.set hsm2.out k2 k2 hi16')
            rw [← hset.out] at hsm3
            have hlen2 : Hid ((Lt.ownTo l k2).length = n) := Lib.hid (by rw [Lt.ownTo_length, hlen1.out])
            generalize hrm : (Lt.ownTo l k2)[k2]?.getD 0 ||| 2 ^ k2 = rm at hor hset
            have hrm' := Lib.hid hrm
            clear hrm
            generalize (Lt.ownTo l k2)[k2]?.getD 0 = r0 at hr0 hor
            go_wp2
            refine wp_region_still_tail 13 (by kernel_rfl) (by kernel_rfl) ?_
            simp only [List.take_succ_cons, List.take_zero, List.drop_succ_cons, List.drop_zero]
            repeat (refine wpStill_step (fun K hK => ?_); go_simp; (try go_bits); refine hK _ ?_; clear hK K)
            try refine wpStill_nil ?_
            change wpList _ _ _ _ _ wr.drew
            have hat3 : OpenAt w wr.drew n (Lt.ownTo l k2) last := hat2.drewN 1
            replace hr0 : wr.drew.cell? ⟨w.heap.size + 1, 1 + k2, none⟩ = some (.int .i64 (r0 : Nat)) := hr0
            replace hfr0 : wr.drew.frozen? ⟨w.heap.size + 1, 1 + k2, none⟩ = false := hfr0
            clear hat2 hnum2
            generalize wr.drew = w6 at *
            go_wp2
            go_roundw
            case rel =>
              have hat4 : OpenAt w (w6.setCell ⟨w.heap.size + 1, 1 + k2, none⟩ (.int .i64 (rm : Int))) n (Lt.ownTo l (k2 + 1)) last := by rw [hset.out]; exact hat3.store k2 rm hi16' (by have := hlen2.out; omega)
              exact ⟨k2 + 1, by go_num, by omega, hsm3, hat4⟩
            case measure => simp [intOf]; omega
          · have hkn : k2 = n := by omega
            subst hkn
            have hread := HSV.out.below hat2.below
            have hcb := Lib.hid (containsBad_any k2 h2 sv xs ⟨w.heap.size, 0, none⟩ wr hat2.num hread hxs)
            have hlam : Hid (Lamps wr (w.heap.size + 1) (Lt.graph k2 es true)) := Lib.hid (by
              have hg : Lt.graph k2 es true = Lt.ownTo l k2 := by unfold Lt.graph; rw [← hl.out]; rfl
              have hll : (Lt.graph k2 es true).length = k2 := Lt.graph_length _ _ _
              refine ⟨by have := hat2.size; omega, by rw [hll]; exact h2, ?_, by rw [hll]; exact hat2.cnt, by rw [hg]; exact hat2.row⟩
              intro r hr
              obtain ⟨i, hi, rfl⟩ := List.getElem_of_mem hr
              have := hsm2.out i
              rw [← hg] at this
              simpa [hi] using this)
            have hbel := hat2.below
            clear hread hnum2 hat2
            cases hany : xs.any (badSet (2 ^ k2)) with
            | true =>
              rw [hany] at hcb
              have hany' := Lib.hid hany
              clear hany
              go_wp2_with (go_at_call 64; refine hcb.out.mono ?_; rintro e w' ⟨rfl, rfl⟩)
              go_ret2
              exact ⟨hbel, .inr (.inl ⟨hok.out, hany'.out, rfl⟩)⟩
            | false =>
              rw [hany] at hcb
              have hany' := Lib.hid hany
              clear hany
              go_wp2_with (go_at_call 64; refine hcb.out.mono ?_; rintro e w' ⟨rfl, rfl⟩)
              go_ret2
              exact ⟨hbel, .inr (.inr ⟨hok.out, hany'.out, _, rfl, Nat.le_succ _, hlam.out⟩)⟩
      · have how' : own = false := by simpa using how
        subst how'
        clear how
        go_wp2
        obtain ⟨wo, rfl⟩ : ∃ wo : World, wo = wr := ⟨_, rfl⟩
        go_loopw [86] (fun i wr => ∃ k2 : Nat, i = .int .i64 k2 ∧ k2 ≤ n ∧ Hid (SmallRows l) ∧ OpenAt w wr n l last)
          (fun i _ => n - (intOf i).toNat)
        case atStart => exact ⟨0, rfl, Nat.zero_le _, Lib.hid hsm.out.1, hat⟩
        case round =>
          obtain ⟨k2, rfl, hk2, hsm2, hat2⟩ := hrel
          clear hat hnum
          have hnum2 := hat2.num
          by_cases hlt2 : k2 < n
          · go_wp2
            go_roundw
            case rel => exact ⟨k2 + 1, by go_num, by omega, hsm2, hat2⟩
            case measure => simp [intOf]; omega
          · have hkn : k2 = n := by omega
            subst hkn
            have hread := HSV.out.below hat2.below
            have hcb := Lib.hid (containsBad_any k2 h2 sv xs ⟨w.heap.size, 0, none⟩ wr hat2.num hread hxs)
            have hlam : Hid (Lamps wr (w.heap.size + 1) (Lt.graph k2 es false)) := Lib.hid (by
              have hg : Lt.graph k2 es false = l := by unfold Lt.graph; rw [← hl.out]; rfl
              have hll : (Lt.graph k2 es false).length = k2 := Lt.graph_length _ _ _
              refine ⟨by have := hat2.size; omega, by rw [hll]; exact h2, ?_, by rw [hll]; exact hat2.cnt, by rw [hg]; exact hat2.row⟩
              intro r hr
              obtain ⟨i, hi, rfl⟩ := List.getElem_of_mem hr
              have := hsm2.out i
              rw [← hg] at this
              simpa [hi] using this)
            have hbel := hat2.below
            clear hread hnum2 hat2
            cases hany : xs.any (badSet (2 ^ k2)) with
            | true =>
              rw [hany] at hcb
              have hany' := Lib.hid hany
              clear hany
              go_wp2_with (go_at_call 64; refine hcb.out.mono ?_; rintro e w' ⟨rfl, rfl⟩)
              go_ret2
              exact ⟨hbel, .inr (.inl ⟨hok.out, hany'.out, rfl⟩)⟩
            | false =>
              rw [hany] at hcb
              have hany' := Lib.hid hany
              clear hany
              go_wp2_with (go_at_call 64; refine hcb.out.mono ?_; rintro e w' ⟨rfl, rfl⟩)
              go_ret2
              exact ⟨hbel, .inr (.inr ⟨hok.out, hany'.out, _, rfl, Nat.le_succ _, hlam.out⟩)⟩
/-- open, wherever the number is from 1 to 16 -/
theorem open_any (n : Nat) (h1 : 1 ≤ n) (h2 : n ≤ 16) (ev sv : Value) (es : List (Int × Int)) (xs : List Int) (own : Bool) (w : World) (hlen : es.length ≤ 1000) (hxs : xs.length ≤ 1000)
    (hes : ReadsP w ev es) (hsv : Reads w sv xs) : Calls Tryd.prog 49 #[.int .i64 n, ev, .bool own, sv] w (OpenPost n es own xs w) := by
  rcases hes with ⟨rfl, rfl⟩ | ⟨b, off, cap, rfl, hb, hc⟩
  · exact open_go n h1 h2 none 0 [] sv xs own w hlen hxs (fun j hj => by simp at hj) hsv
  · exact open_go n h1 h2 _ cap es sv xs own w hlen hxs (fun j hj => ⟨b, off, rfl, hb, (hc j hj).1, (hc j hj).2⟩) hsv

end Go.Proofs.YtdlogklhekopgaaDoor
