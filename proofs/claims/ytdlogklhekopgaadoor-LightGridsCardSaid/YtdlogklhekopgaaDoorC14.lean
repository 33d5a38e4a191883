/- Contracts of the program's functions: part C14 of the proof. -/
import Derived.Test.YtdlogklhekopgaaDoorC13
set_option linter.unusedVariables false
set_option linter.unusedSimpArgs false
namespace Go.Proofs.YtdlogklhekopgaaDoor
open Go.RowKit Go.Shelf Go.Proofs
attribute [local go_sem] Oper.semAt_some

/-- the blocks for the rounds' deferred calls, as they stand in an activation -/
def dfs (Ds : List Nat) : List Deferred := Ds.map fun D => { target := .collected D, args := #[] }
structure Coll (B : Nat) (Ds : List Nat) (w : World) : Prop where
  nodup : Ds.Nodup
  lo : ∀ D ∈ Ds, B ≤ D
  at_ : ∀ D ∈ Ds, w.heap[D]? = some (.deferred (some []))

theorem Coll.nil (B : Nat) (w : World) : Coll B [] w := ⟨by simp, by simp, by simp⟩
theorem Coll.keeps {B : Nat} {Ds : List Nat} {w w' : World} (h : Coll B Ds w) (hk : KeepsFrom B w w') : Coll B Ds w' :=
  ⟨h.nodup, h.lo, fun D hD => hk.same D _ (h.lo D hD) (h.at_ D hD) rfl⟩
theorem Coll.below {B C : Nat} {Ds : List Nat} {w w' : World} (h : Coll B Ds w) (hk : Below C w w') (hC : ∀ D ∈ Ds, D < C) : Coll B Ds w' :=
  ⟨h.nodup, h.lo, fun D hD => (hk.block D (hC D hD)).trans (h.at_ D hD)⟩
theorem Coll.lt {B : Nat} {Ds : List Nat} {w : World} (h : Coll B Ds w) : ∀ D ∈ Ds, D < w.heap.size := fun D hD => (Array.getElem?_eq_some_iff.1 (h.at_ D hD)).1
theorem Coll.cons {B : Nat} {Ds : List Nat} {w : World} {D : Nat} (h : Coll B Ds w) (hB : B ≤ D) (hD : w.heap[D]? = some (.deferred (some []))) (hn : D ∉ Ds) : Coll B (D :: Ds) w :=
  ⟨List.nodup_cons.2 ⟨hn, h.nodup⟩, fun x hx => by rcases List.mem_cons.1 hx with rfl | hx; exact hB; exact h.lo x hx, fun x hx => by rcases List.mem_cons.1 hx with rfl | hx; exact hD; exact h.at_ x hx⟩

theorem leaves_coll {F : Fence} {n : Nat} {P : Program} {fn : Func} {tmps : Array Value} {R : Ending → World → Prop} {B : Nat} :
    ∀ (Ds : List Nat) (w : World), Coll B Ds w → (∀ w', Below B w w' → LeavesIn F n P fn tmps R [] .returning w') → LeavesInM F n P fn tmps R (dfs Ds) .returning w
  | [], w, _, h => h w (Below.refl _ _)
  | D :: Ds, w, hc, h => by
    refine ⟨by simp, .inl ⟨D, _, rfl, run_takeDeferred (hc.at_ D (by simp)), ?_⟩⟩
    have hlo := hc.lo D (by simp)
    have hput : Below B w (w.putObj D (.deferred none)) := ⟨rfl, rfl, rfl, by simp, fun i hi => World.putObj_heap_other (by omega)⟩
    obtain ⟨hn1, hn2⟩ := List.nodup_cons.1 hc.nodup
    refine leaves_coll Ds _ ⟨hn2, fun x hx => hc.lo x (by simp [hx]), fun x hx => ?_⟩ (fun w' hw' => h w' (hput.trans hw'))
    exact (World.putObj_heap_other (fun e => hn1 (by rw [← e]; exact hx))).trans (hc.at_ x (by simp [hx]))

/-- a slice of numbers in blocks below n₀, apart from o -/
def ReadsN (n₀ o : Nat) (w : World) (v : Value) (L : List Nat) : Prop :=
  (v = .slice none 0 0 ∧ L = []) ∨ ∃ b off cap, v = .slice (some ⟨b, off, none⟩) L.length cap ∧ b < n₀ ∧ b ≠ o ∧ ∀ j, j < L.length → w.cell? ⟨b, off + j, none⟩ = some (.int .i64 ((L[j]?.getD 0 : Nat) : Int))
theorem ReadsN.apart {n₀ o : Nat} {w w' : World} (h : Apart n₀ o w w') {v : Value} {L : List Nat} : ReadsN n₀ o w v L → ReadsN n₀ o w' v L
  | .inl e => .inl e
  | .inr ⟨b, off, cap, e, hb, ho, hc⟩ => .inr ⟨b, off, cap, e, hb, ho, fun j hj => (h.cell (p := ⟨b, off + j, none⟩) hb ho).trans (hc j hj)⟩
theorem ReadsN.general {n₀ o : Nat} {w : World} {v : Value} {L : List Nat} (h : ReadsN n₀ o w v L) : ∃ ad cap, v = .slice ad L.length cap ∧ ∀ j, j < L.length → ∃ g off, ad = some ⟨g, off, none⟩ ∧ g < n₀ ∧ g ≠ o ∧ w.cell? ⟨g, off + j, none⟩ = some (.int .i64 ((L[j]?.getD 0 : Nat) : Int)) := by
  rcases h with ⟨rfl, rfl⟩ | ⟨g, off, cap, rfl, hg, ho, hc⟩
  · exact ⟨none, 0, rfl, fun j hj => by simp at hj⟩
  · exact ⟨_, cap, rfl, fun j hj => ⟨g, off, rfl, hg, ho, hc j hj⟩⟩
theorem Tab.apart {n₀ o : Nat} {w w' : World} (h : Apart n₀ o w w') (hn : 1 < n₀) (ho : 1 ≠ o) (ht : Tab w) : Tab w' := fun j hj => (h.cell (p := ⟨1, j, none⟩) hn ho).trans (ht j hj)

/-- all sums of the sets, in the order of the choices -/
def sumsTo (L : List Nat) (k : Nat) : List Nat := (List.range k).map (Lt.eff L)
theorem sumsTo_succ (L : List Nat) (k : Nat) : sumsTo L (k + 1) = sumsTo L k ++ [Lt.eff L k] := by simp [sumsTo, List.range_succ]

set_option maxRecDepth 100000 in
set_option maxHeartbeats 4000000 in
theorem sums1_try (Bs n₀ o : Nat) (L : List Nat) (v : Value) (hL : ∀ i : Nat, L[i]?.getD 0 < 65536) (h16 : L.length ≤ 16) (hn₀ : 1 < n₀) (hBn : Bs < n₀) (ho1 : 1 ≠ o) (hoB : Bs ≠ o) (l : Nat) (J Jx : List Nat → World → Prop) (W : World) (hW : n₀ ≤ W.heap.size)
    (hJ : ClosedAt W.heap.size J) (hJx : ClosedAt W.heap.size Jx)
    (hY : ∀ pre x W1, J pre W1 → x < 65536 → pre.length < 65536 → YieldAt Fence.wide 5 Tryd.prog l #[.int .i64 (x : Nat)] W1 fun e W' =>
      KeepsFrom W.heap.size W1 W' ∧ ((e = .returned (.bool true) ∧ J (pre ++ [x]) W' ∧ Apart n₀ o W1 W') ∨ (e = .returned (.bool false) ∧ Jx (pre ++ [x]) W')))
    (hBs : W.cell? ⟨Bs, 0, none⟩ = some v) (hv : ReadsN n₀ o W v L) (hT : Tab W) (h0 : J [] W) :
    CallsIn Fence.wide 6 Tryd.prog 90 #[.func (.yield l) #[] #[], .pointer (some ⟨Bs, 0, none⟩)] W fun e W' => (∃ v, e = .returned v) ∧
      ((∃ ys, ys = sumsTo L (2 ^ L.length) ∧ J ys W') ∨ (∃ pre, (∃ k, k ≤ 2 ^ L.length ∧ pre = sumsTo L k) ∧ Jx pre W')) := by
  obtain ⟨ad, cap, rfl, hcs⟩ := hv.general
  have HC := Lib.hid hcs
  clear hcs hv
  have w1 := Lt.wrap_u64_nat L.length (by omega)
  have w2 := wrap_pow L.length (by omega)
  have hm16 : (2 : Nat) ^ L.length ≤ 65536 := Nat.pow_le_pow_right (by decide) h16
  generalize hm : 2 ^ L.length = m at *
  have hm' := Lib.hid hm
  clear hm
  refine callsIn_of_wp_marks Tryd.func90 rfl trivial ?_ rfl
  simp only [Tryd.ntmps90, List.size_toArray, List.length_cons, List.length_nil, Nat.reduceAdd, Nat.reduceSub, Array.replicate_succ, Array.replicate_zero, List.push_toArray, List.append_toArray, List.nil_append, List.cons_append]
  gi_wp2
  rw [w2]
  refine wpIn_loop (fun a wr => ∃ (k : Nat) (u3 u4 u5 u11 u12 u13 u14 u15 u16 u17 u18 u19 u20 u21 u22 u23 u24 u25 u26 : Value) (Ds : List Nat), a = { tmps := #[Value.func (Fn.yield l) #[] #[], Value.pointer (some ⟨Bs, 0, none⟩), undef, u3, u4, u5,
          Value.slice ad L.length cap, Value.int IntKind.i64 ↑L.length, Value.int IntKind.u64 ↑L.length, Value.int IntKind.i64 (m : Nat), Value.int IntKind.i64 (k : Nat), u11, u12, u13, u14, u15, u16, u17, u18, u19, u20, u21, u22, u23, u24, u25, u26], defers := dfs Ds } ∧
      k ≤ m ∧ J (sumsTo L k) wr ∧ Apart n₀ o W wr ∧ W.heap.size ≤ wr.heap.size ∧ Coll W.heap.size Ds wr) (fun a _ => m - (intOf (a.tmps.getD 10 undef)).toNat) ?start ?round
  case start => exact ⟨0, _, _, _, _, _, _, _, _, _, _, _, _, _, _, _, _, _, _, _, [], rfl, Nat.zero_le _, by simpa [sumsTo] using h0, Apart.refl _ _ _, Nat.le_refl _, Coll.nil _ _⟩
  case round =>
    rintro a wr ⟨k, u3, u4, u5, u11, u12, u13, u14, u15, u16, u17, u18, u19, u20, u21, u22, u23, u24, u25, u26, Ds, rfl, hk, hJk, hB, hsz, hco⟩
    by_cases hlt : k < m
    · have hk64 : k < 65536 := by omega
      gi_wp2_with (refine ⟨trivial, ?_⟩; gi_at_call 75; refine (callsIn_wide.2 (members_any k _)).mono ?_; rintro e w' ⟨rfl, rfl⟩)
      obtain ⟨w3, hw3⟩ : ∃ w3, (wr.alloc (Obj.cells #[Value.int IntKind.i64 0] 3)).alloc (Obj.cells #[Value.int IntKind.i64 ↑k] 3) = w3 := ⟨_, rfl⟩
      have hB3 : Below wr.heap.size wr w3 := by rw [← hw3]; exact ((Below.refl _ wr).alloc (Nat.le_refl _) _).alloc (by simp) _
      have hz3 : w3.heap.size = wr.heap.size + 2 := by rw [← hw3]; simp
      have hc1 : w3.cell? ⟨wr.heap.size, 0, none⟩ = some (.int .i64 0) := by rw [← hw3]; simp [go_sem]
      have hf1 : w3.frozen? ⟨wr.heap.size, 0, none⟩ = false := by rw [← hw3]; simp [go_sem]
      have hc2 : w3.cell? ⟨wr.heap.size + 1, 0, none⟩ = some (.int .i64 k) := by rw [← hw3]; simp [go_sem]
      rw [hw3]
      have hJ3 := hJ _ _ _ hJk (hB3.mono hsz)
      have hBW3 : Apart n₀ o W w3 := hB.trans (Apart.of_below hB3 (by omega))
      have hT3 := hT.apart hBW3 hn₀ ho1
      have hst := SeqZ.of_K (members_stops (· < L.length) 5 (by omega) (wr.heap.size + 1) n₀ k (by omega) hn₀ (bitsOf_lt (by rw [hm'.out]; exact hlt)) w3 (by omega) (by omega) hc2 hT3)
      have hco3 := hco.below hB3 hco.lt
      clear hc2 hJk hw3
      refine wpIn_rangeFunc_Z rfl (by omega) (gf := 88) (lb := #[.pointer (some ⟨wr.heap.size + 1, 0, none⟩)]) rfl trivial (enters_of Tryd.func88 (by kernel_rfl) rfl)
        hst (fun h k => h.trans k) (fun X k o hk => below_put X k o (by omega)) (Below.refl _ _) (fun _ => rfl)
        (fun pre X => (X.cell? ⟨wr.heap.size, 0, none⟩ = some (.int .i64 (Lt.effList L (pre.map (·.1)) : Nat)) ∧ X.frozen? ⟨wr.heap.size, 0, none⟩ = false) ∧ (J (sumsTo L k) X ∧ Apart n₀ o W X ∧ w3.heap.size ≤ X.heap.size ∧ Coll W.heap.size Ds X))
        (fun _ _ _ => False) ?cI (fun _ _ _ _ h _ => h) ⟨⟨hc1, hf1⟩, hJ3, hBW3, Nat.le_refl _, hco3⟩
        (fun x => { tmps := #[Value.func (Fn.yield l) #[] #[], Value.pointer (some ⟨Bs, 0, none⟩), undef,
          Value.int IntKind.i64 ↑k, Value.pointer (some ⟨wr.heap.size, 0, none⟩), .int .i64 (x.1 : Nat),
          Value.slice ad L.length cap, Value.int IntKind.i64 ↑L.length, Value.int IntKind.u64 ↑L.length,
          Value.int IntKind.i64 ↑m, Value.int IntKind.i64 ↑k, Value.bool true, Value.int IntKind.i64 ↑k,
          Value.int IntKind.i64 ↑k,
          Value.func (Fn.func 88) #[] #[Value.pointer (some ⟨wr.heap.size + 1, 0, none⟩)], .int .i64 (x.1 : Nat), u16, u17,
          u18, u19, u20, u21, u22, u23, u24, u25, u26], defers := [] }) ?assign ?body ?done ?stop
      case cI =>
        rintro pre X Y ⟨⟨h1, h2⟩, h3, h4, h5, h6⟩ hb
        exact ⟨⟨(hb.cell (p := ⟨wr.heap.size, 0, none⟩) (by simp; omega)).trans h1, (hb.frozen (p := ⟨wr.heap.size, 0, none⟩) (by simp; omega)).trans h2⟩, hJ _ _ _ h3 (hb.mono (by omega)), h4.trans (Apart.of_below hb (by omega)), Nat.le_trans h5 hb.size,
          h6.below hb (fun D hD => Nat.lt_of_lt_of_le (hco.lt D hD) (by omega))⟩
      case assign =>
        intro l x W K hK
        gi_wp2
        exact hK
      case body =>
        rintro l' pre ⟨x, hx⟩ X hX ⟨⟨hc, hf⟩, hj, hb, hs, hcl⟩ _
        obtain ⟨g, off, rfl, hgn, hgo, hrow⟩ := HC.out x hx
        replace hrow := (hb.cell (p := ⟨g, off + x, none⟩) hgn hgo).trans hrow
        have hBsX := (hb.cell (p := ⟨Bs, 0, none⟩) hBn hoB).trans hBs
        have hxo := Lt.xor_i64 (Lt.effList L (pre.map (·.1))) (L[x]?.getD 0) (by have := effList_lt hL (pre.map (·.1)); omega) (by have := hL x; omega)
        have hsn := Lib.hid (Lt.effList_snoc L (pre.map (·.1)) x)
        have hJX := Lib.hid hj
        have hBX := Lib.hid hb
        have hCX := Lib.hid hcl
        clear hj hb hcl hst hJ3 hBW3 hT3 hco3 hB3 hY h0 hT hBs
        generalize hE : Lt.effList L (pre.map (·.1)) = E at hc hxo hsn
        generalize L[x]?.getD 0 = R at hrow hxo hsn
        clear hE
        have hmx : Tryd.prog.follows .mixedOrders = true := by kernel_rfl
        gi_wp2
        gi_region_with_o (fail)
        all_goals gi_wp2
        all_goals
          have hbX : ∀ C, C ≤ wr.heap.size → Below C X (X.setCell ⟨wr.heap.size, 0, none⟩ (.int .i64 ((E ^^^ R : Nat) : Int))).drew := fun C hC => ((Below.refl C X).setCell (p := ⟨wr.heap.size, 0, none⟩) hC _).drew
          exact ⟨((KeepsOthers.setCell _ _ _).trans (KeepsOthers.drew _)).from _, hbX n₀ (by omega),
            ⟨by rw [List.map_append, List.map_cons, List.map_nil, hsn.out]; exact World.cell?_setCell_same' _ _ _ (by rw [hc]; rfl), by rw [frozen_drew_own, World.frozen?_setCell]; exact hf⟩,
            hJ _ _ _ hJX.out (hbX _ hsz), hBX.out.trans (Apart.of_below (hbX n₀ (by omega)) (Nat.le_refl _)), by simpa using hs, hCX.out.below (hbX wr.heap.size (Nat.le_refl _)) hco.lt⟩
      case done =>
        rintro D ys X hD hDX hys ⟨⟨hc, _⟩, hj, hb, hs, hcl⟩ hK
        rw [hys, Lt.effList_bitsOf (by omega)] at hc
        have hx : Lt.eff L k < 65536 := by
          refine Lt.eff_lt (m := 16) (fun r hr => ?_) k
          obtain ⟨i, hi, rfl⟩ := List.getElem_of_mem hr
          have := hL i
          simpa [hi] using this
        have hlenk : (sumsTo L k).length < 65536 := by simp [sumsTo]; omega
        obtain ⟨fn, tmps, assign, body, hy, hR⟩ := hY (sumsTo L k) (Lt.eff L k) X hj hx hlenk
        have hDs : D ∉ Ds := fun h => by have := hco.lt D h; omega
        have hco' := Lib.hid (hcl.cons (by omega) hK hDs)
        have hBX := Lib.hid hb
        have hnext := Lib.hid (sumsTo_succ L k)
        clear hj hb hcl hst hJ3 hBW3 hT3 hco3 hB3 hY h0 hT hBs hys hK hco hc1 hf1 hx
        generalize Lt.eff L k = X' at *
        gi_wp2
        refine hR.mono ?_
        rintro e W4 ⟨hk4, ⟨rfl, hJ4, hb4⟩ | ⟨rfl, hJ4⟩⟩
        · rw [← hnext.out] at hJ4
          gi_wp2
          refine ⟨⟨k + 1, _, _, _, _, _, _, _, _, _, _, _, _, _, _, _, _, _, _, _, D :: Ds, rfl, by omega, hJ4, hBX.out.trans hb4, by have := hk4.size; omega, hco'.out.keeps hk4⟩, ?_⟩
          simp [intOf]; omega
        · rw [← hnext.out] at hJ4
          gi_wp2
          refine leaves_coll (B := W.heap.size) (D :: Ds) W4 (hco'.out.keeps hk4) (fun W5 hb5 => ?_)
          exact ⟨_, results_none rfl _ _ _, ⟨_, rfl⟩, .inr ⟨_, ⟨k + 1, by omega, rfl⟩, hJx _ _ _ hJ4 hb5⟩⟩
      case stop =>
        rintro D c pre X _ _ _ h _
        exact h.elim
    · have hkm : Hid (k = m) := Lib.hid (by omega)
      have hJk' := Lib.hid hJk
      have hco' := Lib.hid hco
      clear hJk hco h0 hY hT hBs
      gi_wp2
      refine leaves_coll (B := W.heap.size) Ds wr hco'.out (fun W5 hb5 => ?_)
      exact ⟨_, results_none rfl _ _ _, ⟨_, rfl⟩, .inl ⟨_, by rw [← hkm.out], hJ _ _ _ hJk'.out hb5⟩⟩

/-- sums(l): the slice is boxed; the function value has captured the box -/
theorem sums_any (a : Option Addr) (len cap : Nat) (w : World) :
    Calls Tryd.prog 76 #[.slice a len cap] w fun e w' => e = .returned (.func (.func 90) #[] #[.pointer (some ⟨w.heap.size, 0, none⟩)]) ∧ w' = w.alloc (.cells #[.slice a len cap] 36) := by
  go_enter Tryd.func76, Tryd.ntmps76
  go_wp2
  go_ret
  exact ⟨rfl, rfl⟩

/-- sums' value: all sums, in the order of the choices -/
theorem sums_seq (Bs n₀ o : Nat) (L : List Nat) (v : Value) (hL : ∀ i : Nat, L[i]?.getD 0 < 65536) (h16 : L.length ≤ 16) (hn₀ : 1 < n₀) (hBn : Bs < n₀) (ho1 : 1 ≠ o) (hoB : Bs ≠ o) (w : World) (hw : n₀ ≤ w.heap.size) (hBs : w.cell? ⟨Bs, 0, none⟩ = some v) (hv : ReadsN n₀ o w v L) (hT : Tab w) :
    SeqZ Fence.wide 6 Tryd.prog 90 #[.pointer (some ⟨Bs, 0, none⟩)] (fun x : { x : Nat // x < 65536 } => #[Value.int .i64 (x.1 : Nat)]) (Apart n₀ o) (fun ys => ys.map (·.1) = sumsTo L (2 ^ L.length)) (fun pre => ∃ k, k ≤ 2 ^ L.length ∧ pre.map (·.1) = sumsTo L k) 65536 w := by
  intro l J Jx W hW hJ hJx hY h0
  have hb : Below n₀ w W := hW.mono hw
  refine (sums1_try Bs n₀ o L v hL h16 hn₀ hBn ho1 hoB l (fun ns X => ∃ ys : List { x : Nat // x < 65536 }, ys.map (·.1) = ns ∧ J ys X) (fun ns X => ∃ ys : List { x : Nat // x < 65536 }, ys.map (·.1) = ns ∧ Jx ys X) W (Nat.le_trans hw hW.size)
    (fun _ _ _ ⟨ys, he, hj⟩ hb => ⟨ys, he, hJ _ _ _ hj hb⟩) (fun _ _ _ ⟨ys, he, hj⟩ hb => ⟨ys, he, hJx _ _ _ hj hb⟩) ?_ ((hb.cell (p := ⟨Bs, 0, none⟩) hBn).trans hBs) (hv.apart (Apart.of_below hb (Nat.le_refl _))) (hT.below hb hn₀) ⟨[], rfl, h0⟩).mono ?_
  · rintro _ x W1 ⟨ys, rfl, hj⟩ hx hlen
    obtain ⟨fn, tmps, assign, body, hy, hR⟩ := hY ys ⟨x, hx⟩ W1 hj (by simpa using hlen)
    refine ⟨fn, tmps, assign, body, hy, hR.mono ?_⟩
    rintro e W' ⟨hk, ⟨he, hj', hb'⟩ | ⟨he, hj'⟩⟩
    · exact ⟨hk, .inl ⟨he, ⟨_, by simp, hj'⟩, hb'⟩⟩
    · exact ⟨hk, .inr ⟨he, ⟨_, by simp, hj'⟩⟩⟩
  · rintro e W' ⟨he, ⟨_, rfl, ys, hys, hj⟩ | ⟨_, ⟨k, hk, rfl⟩, ys, hys, hj⟩⟩
    · exact ⟨he, .inl ⟨ys, hys, hj⟩⟩
    · exact ⟨he, .inr ⟨ys, ⟨k, hk, hys⟩, hj⟩⟩

end Go.Proofs.YtdlogklhekopgaaDoor
