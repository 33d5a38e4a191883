/- Contracts of the program's functions: a part of the proof. -/
import Derived.Test.YtdlogklhekopgaaDoorGF
import Derived.Laws.StructEq
set_option linter.unusedVariables false
set_option linter.unusedSimpArgs false

namespace Go.Proofs.YtdlogklhekopgaaDoor
open Go.RowKit Go.Shelf Go.Proofs

theorem basis_small {l : List Nat} (hl : ∀ r ∈ l, r < 65536) (h16 : l.length ≤ 16) : SmallP (Lt.basisOf l) ∧ (Lt.basisOf l).length ≤ 16 ∧ (Lt.quietOf l).length ≤ 16 := redTo_small hl h16 l.length (Nat.le_refl _)

theorem eqP (x y x' y' : Int) (w : World) : Sem.run Tryd.prog (binOp .eql 93 (.agg #[.int .i64 x, .int .i64 y]) (.agg #[.int .i64 x', .int .i64 y'])) w = .ok (.bool (x == x' && y == y')) w := by
  have u3 := Tryd.underlying3
  have a3 := Tryd.isAgg3
  have z3 := Tryd.sizeOf3
  have hS : Tryd.prog.underlying 93 = some (.struct (Tryd.prog.fieldsOf 93)) := by kernel_rfl
  have hp : Tryd.prog.stoodInHeld 93 = false := by kernel_rfl
  rw [run_eql_struct, show (10000 : Nat) = 9999 + 1 from rfl, run_equalIn_agg w 9999 93 _ _ hS hp]
  simp only [Program.fieldsOf, Tryd.underlying93]
  go_simp
  by_cases h1 : x = x' <;> by_cases h2 : y = y' <;> simp [h1, h2]

set_option maxRecDepth 100000 in
set_option maxHeartbeats 4000000 in
/-- (*lamps).solve -/
theorem solve_any (b : Nat) (l : List Nat) (t : Nat) (ht : t < 65536) (w : World) (hL : Lamps w b l) :
    Calls Tryd.prog 58 #[.pointer (some ⟨b, 0, none⟩), .int .i64 t] w fun e w' => e = .returned (.tuple #[.int .i64 ((Lt.solveOf l t).1 : Nat), .bool (decide ((Lt.solveOf l t).2 = 0))]) ∧ Below w.heap.size w w' := by
  obtain ⟨hB, hlB, -⟩ := basis_small hL.small hL.len
  have hred := Lib.hid (reduced_any b l w hL)
  unfold Lt.solveOf
  generalize Lt.basisOf l = B at *
  clear hL
  go_enter Tryd.func58, Tryd.ntmps58
  go_wp2_with fail
  refine hred.out.mono ?_
  rintro e w1 ⟨vB, vQ, rfl, ⟨hrB, -⟩, hb1⟩
  have hread := ReadsB.of_row hrB
  clear hrB hred
  obtain ⟨ad, cap, rfl, hcs⟩ := hread.general
  have HC := Lib.hid hcs
  clear hcs hread
  go_wp2_with fail
  go_loopw [20] (fun i wr => ∃ (k a c : Nat), i = .int .i64 k ∧ k ≤ B.length ∧ Hid (Lt.red1 (B.drop k) (a, c) = Lt.red1 B (0, t)) ∧ a < 65536 ∧ c < 65536 ∧ Hid (One wr w1.heap.size (.int .i64 a) (.int .i64 c)) ∧ Below w1.heap.size w1 wr)
    (fun i _ => B.length - (intOf i).toNat)
  case atStart =>
    refine ⟨0, 0, t, rfl, Nat.zero_le _, Lib.hid rfl, by decide, ht, Lib.hid ?_, (Below.refl _ _).alloc (Nat.le_refl _) _⟩
    exact World.alloc_heap_new w1 _
  case round =>
    obtain ⟨k, a, c, rfl, hk, hred, ha, hc, hone, hBl⟩ := hrel
    have hp0 : wr.cell? ⟨w1.heap.size, 0, none⟩ = some (.int .i64 a) := by have := hone.out; unfold One at this; simp [World.cell?, this]
    have hp1 : wr.cell? ⟨w1.heap.size, 1, none⟩ = some (.int .i64 c) := by have := hone.out; unfold One at this; simp [World.cell?, this]
    by_cases hlt : k < B.length
    · have hred' := hred
      obtain ⟨g, off, rfl, hgw, hc0, hc1⟩ := HC.out k hlt
      replace hc0 := (hBl.cell (p := ⟨g, off + k * 2, none⟩) hgw).trans hc0
      replace hc1 := (hBl.cell (p := ⟨g, off + k * 2 + 1, none⟩) hgw).trans hc1
      have hsm := hB k
      have hxor1 := Lt.xor_i64 c (B[k]?.getD (0, 0)).2 (by omega) (by omega)
      have hxor0 := Lt.xor_i64 a (B[k]?.getD (0, 0)).1 (by omega) (by omega)
      have hf0 : wr.frozen? ⟨w1.heap.size, 0, none⟩ = false := by have := hone.out; unfold One at this; simp [World.frozen?, this]
      have hf1 : wr.frozen? ⟨w1.heap.size, 1, none⟩ = false := by have := hone.out; unfold One at this; simp [World.frozen?, this]
      have hwr : w1.heap.size < wr.heap.size := lt_of_block hone.out
      have hst : Hid (Lt.red1 (B.drop k) (a, c) = Lt.red1 (B.drop (k + 1)) (if c ^^^ (B[k]?.getD (0, 0)).2 < c then (a ^^^ (B[k]?.getD (0, 0)).1, c ^^^ (B[k]?.getD (0, 0)).2) else (a, c))) := Lib.hid (by
        rw [List.drop_eq_getElem_cons hlt, Lt.red1]; simp [hlt])
      have hxl1 : c ^^^ (B[k]?.getD (0, 0)).2 < 65536 := Nat.xor_lt_two_pow (n := 16) hc hsm.2
      have hxl0 : a ^^^ (B[k]?.getD (0, 0)).1 < 65536 := Nat.xor_lt_two_pow (n := 16) ha hsm.1
      generalize c ^^^ (B[k]?.getD (0, 0)).2 = c' at hxor1 hst hxl1
      generalize a ^^^ (B[k]?.getD (0, 0)).1 = a' at hxor0 hst hxl0
      generalize (B[k]?.getD (0, 0)).2 = bx at *
      generalize (B[k]?.getD (0, 0)).1 = bs at *
      clear hred
      by_cases hless : c' < c
      · rw [if_pos hless] at hst
        go_wp2
        go_roundw
        case rel =>
          exact ⟨k + 1, a', c', by go_num, by omega, Lib.hid (hst.out.symm.trans hred'.out), hxl0, hxl1, Lib.hid (one_alloc (one_two hone.out) _),
              ((hBl.setCell (p := ⟨w1.heap.size, 0, none⟩) (Nat.le_refl _) _).setCell (p := ⟨w1.heap.size, 1, none⟩) (Nat.le_refl _) _).alloc (by simp; omega) _⟩
        case measure => simp [intOf]; omega
      · rw [if_neg hless] at hst
        go_wp2
        go_roundw
        case rel => exact ⟨k + 1, a, c, by go_num, by omega, Lib.hid (hst.out.symm.trans hred'.out), ha, hc, Lib.hid (one_alloc hone.out _), hBl.alloc (by omega) _⟩
        case measure => simp [intOf]; omega
    · have hkB : Hid (Lt.red1 B (0, t) = (a, c)) := Lib.hid (by
        have e : B.drop k = [] := List.drop_of_length_le (by omega)
        have := hred.out; rw [e] at this; exact this.symm)
      clear hred HC
      have hgt : Tryd.prog.eqGuardType Tryd.prog.depth 93 = false := by kernel_rfl
      have hEq := fun W => eqP a c a 0 W
      go_wp2
      go_quiet (fail)
      go_wp2
      go_ret2
      refine ⟨?_, (hb1.trans (hBl.mono hb1.size)).trans ⟨rfl, rfl, rfl, Nat.le_refl _, fun _ _ => rfl⟩⟩
      rw [hkB.out]
      have e : (((c : Nat) : Int) == 0) = decide (c = 0) := by rw [Bool.eq_iff_iff]; simp
      simp only [e]
      rfl

end Go.Proofs.YtdlogklhekopgaaDoor

namespace Go.Proofs.YtdlogklhekopgaaDoor
open Go.RowKit Go.Shelf Go.Proofs
variable {F : Fence} {n : Nat} {P : Program}

/-- what is said of a world hangs on the blocks below B alone -/
def ClosedAt {β : Type} (B : Nat) (J : β → World → Prop) : Prop := ∀ s W W', J s W → Below B W W' → J s W'

/-- an iterator's contract for whoever speaks of what lay before the call alone: the iterator may turn whatever it has laid itself -/
def SeqZ {α : Type} (F : Fence) (n : Nat) (P : Program) (g : Nat) (lb : Array Value) (encs : α → Array Value) (Kp : World → World → Prop) (S Sp : List α → Prop) (N : Nat) (w : World) : Prop :=
  ∀ (l : Nat) (J Jx : List α → World → Prop) (W : World), Below w.heap.size w W → ClosedAt W.heap.size J → ClosedAt W.heap.size Jx →
    (∀ pre x W1, J pre W1 → pre.length < N → YieldAt F (n - 1) P l (encs x) W1 fun e W' =>
      KeepsFrom W.heap.size W1 W' ∧ ((e = .returned (.bool true) ∧ J (pre ++ [x]) W' ∧ Kp W1 W') ∨ (e = .returned (.bool false) ∧ Jx (pre ++ [x]) W'))) →
    J [] W →
    CallsIn F n P g (#[.func (.yield l) #[] #[]] ++ lb) W fun e W' => (∃ v, e = .returned v) ∧ ((∃ xs, S xs ∧ J xs W') ∨ (∃ pre, Sp pre ∧ Jx pre W'))

theorem below_of_grownBy {B : Nat} {W W' : World} {row : Option Nat} (hg : W.grownBy W' row) (hB : B ≤ W.heap.size) (hr : ∀ r, row = some r → B ≤ r) : Below B W W' := (Below.refl B W).grown hg hB hr

theorem SeqZ.of_K {α : Type} {g : Nat} {lb : Array Value} {encs : α → Array Value} {Kp : World → World → Prop} {S Sp : List α → Prop} {N : Nat} {w : World} (h : SeqStopsK F n P g lb encs Kp S Sp N w) : SeqZ F n P g lb encs Kp S Sp N w :=
  fun l J Jx W hW hJ hJx hY h0 => by
    -- while J and Jx are told of worlds whose heap has grown beyond W's
    refine (h l (fun s X => J s X ∧ W.heap.size ≤ X.heap.size) (fun s X => Jx s X ∧ W.heap.size ≤ X.heap.size) W hW ?_ ?_ ?_ ⟨h0, Nat.le_refl _⟩).mono ?_
    · exact fun s X Y row hs hg hr => ⟨hJ s X Y hs.1 (below_of_grownBy hg hs.2 (fun r e => (hr r e).1)), Nat.le_trans hs.2 hg.size⟩
    · exact fun s X Y row hs hg hr => ⟨hJx s X Y hs.1 (below_of_grownBy hg hs.2 (fun r e => (hr r e).1)), Nat.le_trans hs.2 hg.size⟩
    · intro pre x W1 hj hlen
      obtain ⟨fn, tmps, assign, body, hy, hR⟩ := hY pre x W1 hj.1 hlen
      refine ⟨fn, tmps, assign, body, hy, hR.mono ?_⟩
      rintro e W' ⟨hs, ⟨he, hj', hk⟩ | ⟨he, hj'⟩⟩
      · exact .inl ⟨he, ⟨hj', Nat.le_trans hj.2 hs.size⟩, hk⟩
      · exact .inr ⟨he, ⟨hj', Nat.le_trans hj.2 hs.size⟩⟩
    · rintro e W' ⟨hv, ⟨xs, hS, hj⟩ | ⟨pre, hS, hj⟩⟩
      · exact ⟨hv, .inl ⟨xs, hS, hj.1⟩⟩
      · exact ⟨hv, .inr ⟨pre, hS, hj.1⟩⟩

/-- what lies below n₀, but for one block, is as it was -/
structure Apart (n₀ o : Nat) (X Y : World) : Prop where
  size : X.heap.size ≤ Y.heap.size
  block : ∀ k, k < n₀ → k ≠ o → Y.heap[k]? = X.heap[k]?
theorem Apart.refl (n₀ o : Nat) (X : World) : Apart n₀ o X X := ⟨Nat.le_refl _, fun _ _ _ => rfl⟩
theorem Apart.trans {n₀ o : Nat} {X Y Z : World} (h : Apart n₀ o X Y) (k : Apart n₀ o Y Z) : Apart n₀ o X Z := ⟨Nat.le_trans h.size k.size, fun i hi ho => (k.block i hi ho).trans (h.block i hi ho)⟩
theorem Apart.of_below {n₀ o B : Nat} {X Y : World} (h : Below B X Y) (hB : n₀ ≤ B) : Apart n₀ o X Y := ⟨h.size, fun k hk _ => h.block k (by omega)⟩
theorem Apart.put {n₀ o : Nat} (X : World) (k : Nat) (ob : Obj) (h : n₀ ≤ k) : Apart n₀ o X (X.putObj k ob) := ⟨by simp, fun i hi _ => World.putObj_heap_other (by omega)⟩
theorem Apart.set {n₀ o : Nat} (X : World) (v : Value) : Apart n₀ o X (X.setCell ⟨o, 0, none⟩ v) := ⟨by simp, fun i _ ho => Below.heap_setCell X ⟨o, 0, none⟩ v i (by simpa using ho)⟩
theorem Apart.cell {n₀ o : Nat} {X Y : World} (h : Apart n₀ o X Y) {p : Addr} (hp : p.block < n₀) (ho : p.block ≠ o) : Y.cell? p = X.cell? p := World.cell?_of_block (h.block p.block hp ho)
theorem below_put {n₀ : Nat} (X : World) (k : Nat) (ob : Obj) (h : n₀ ≤ k) : Below n₀ X (X.putObj k ob) := ⟨rfl, rfl, rfl, by simp, fun i hi => World.putObj_heap_other (by omega)⟩

/-- the caller's law for such an iterator; what the caller speaks of lay before the loop -/
theorem wpIn_rangeFunc_Z {α : Type} {g : Operand} {ps : Array Tmp} {assign body : Code} {Q : Exit → Act → World → Prop} {a : Act} {w : World}
    (hro : F.round = none) (h1 : 1 ≤ n) {gf : Nat} {lb : Array Value} (hg : a.eval g = .func (.func gf) #[] lb) (hFg : F.fn gf) (eg : ∀ args w, (callFunc gf args).run P w = .ok (.enter gf args) w)
    {encs : α → Array Value} {Kp : World → World → Prop} {S Sp : List α → Prop} {N : Nat} {w0 : World} (hseq : SeqZ F (n - 1) P gf lb encs Kp S Sp N w0)
    (hKt : ∀ {A B C : World}, Kp A B → Kp B C → Kp A C) (hKb : ∀ (X : World) (k : Nat) (o : Obj), w.heap.size ≤ k → Kp X (X.putObj k o)) (hb0 : Below w0.heap.size w0 w) (hps : ∀ x, (encs x).size = ps.size)
    (I : List α → World → Prop) (Ix : Code → List α → World → Prop) (hI : ClosedAt w.heap.size I) (hIx : ∀ c, ClosedAt w.heap.size (Ix c)) (h0 : I [] w) (a₁ : α → Act)
    (hassign : ∀ (l : Nat) (x : α) (W : World) (K : Act → World → Prop), K (a₁ x) W →
      assign.wpIn (F.inRound l) (n - 1 - 1) P (Exit.then K (fun _ _ _ => False)) { tmps := (ps.zip (encs x)).foldl (fun t (p, v) => t.setIfInBounds p v) a.tmps, defers := [] } W)
    (hbody : ∀ (l : Nat) (pre : List α) (x : α) (W : World), w.heap.size ≤ W.heap.size → I pre W → pre.length < N → body.wpIn (F.inRound l) (n - 1 - 1) P (ownPostG w.heap.size Kp I Ix (pre ++ [x]) W) (a₁ x) W)
    (hdone : ∀ (D : Nat) (xs : List α) (W : World), w.heap.size = D → D < W.heap.size → S xs → I xs W → W.heap[D]? = some (.deferred (some [])) → Q .normal { a with defers := { target := .collected D, args := #[] } :: a.defers } W)
    (hstop : ∀ (D : Nat) (c : Code) (pre : List α) (W : World), w.heap.size = D → D < W.heap.size → Sp pre → Ix c pre W → W.heap[D]? = some (.deferred (some [])) → c.wpIn F n P Q { a with defers := { target := .collected D, args := #[] } :: a.defers } W) :
    (Code.rangeFunc g ps assign body).wpIn F n P Q a w := by
  refine wpIn_rangeFunc ?_
  intro fn hfn
  rw [hro]
  obtain ⟨rec, hrec⟩ : ∃ rec : LoopState → Option Code → Loop, rec = fun st pe => { state := st, pending := pe, fn, tmps := a.tmps, params := ps, assign, body, defers := w.heap.size } := ⟨_, rfl⟩
  obtain ⟨W1, hW1⟩ : ∃ W1, (w.alloc (.deferred (some []))).alloc (.loop (rec .ready none)) = W1 := ⟨_, rfl⟩
  have hs1 : W1.heap.size = w.heap.size + 2 := by rw [← hW1]; simp
  have hL1 : W1.heap[w.heap.size + 1]? = some (.loop (rec .ready none)) := by
    rw [← hW1]; have := World.alloc_heap_new (w.alloc (.deferred (some []))) (.loop (rec .ready none)); rwa [World.size_alloc] at this
  have hK1 : W1.heap[w.heap.size]? = some (.deferred (some [])) := by
    rw [← hW1]; exact (Below.heap_alloc _ _ _ (by simp)).trans (World.alloc_heap_new w _)
  have hw1 : Below w.heap.size w W1 := by rw [← hW1]; exact ((Below.refl _ w).alloc (Nat.le_refl _) _).alloc (by simp) _
  have hI1 : I [] W1 := hI _ _ _ h0 hw1
  have hb1 : Below w0.heap.size w0 W1 := hb0.trans (hw1.mono hb0.size)
  have hput : ∀ (X : World) (k : Nat) (o : Obj) (B : Nat), B ≤ k → Below B X (X.putObj k o) := fun X k o B hB =>
    ⟨rfl, rfl, rfl, by simp, fun i hi => World.putObj_heap_other (by omega)⟩
  refine ⟨w.heap.size + 1, [{ target := .collected w.heap.size, args := #[] }], W1, { target := .fn (.func gf) lb, args := #[.func (.yield (w.heap.size + 1)) #[] #[]] }, W1, gf,
    #[.func (.yield (w.heap.size + 1)) #[] #[]] ++ lb, W1, ?_, ?_, ?_, ?_, fun _ => h1, ?_⟩
  · rw [← hW1, hrec]; exact run_enterLoop_outer _ _ _ _ _
  · simp only [resolve, hg]
    simp [go_sem]
  · intro f' hf'; simp [Target.leads] at hf'; subst hf'; exact hFg
  · simp [invoke, go_sem, eg]
  · refine (hseq (w.heap.size + 1)
      (fun pre W => (I pre W ∧ W1.heap.size ≤ W.heap.size) ∧ W.heap[w.heap.size + 1]? = some (.loop (rec .ready none)) ∧ W.heap[w.heap.size]? = some (.deferred (some [])))
      (fun pre W => ∃ c, (Ix c pre W ∧ W1.heap.size ≤ W.heap.size) ∧ W.heap[w.heap.size + 1]? = some (.loop (rec .done (some c))) ∧ W.heap[w.heap.size]? = some (.deferred (some [])))
      W1 hb1 ?_ ?_ ?_ ⟨⟨hI1, Nat.le_refl _⟩, hL1, hK1⟩).mono ?_
    · rintro s X Y ⟨⟨hi, hsz⟩, hl, hk⟩ hb
      exact ⟨⟨hI s X Y hi (hb.mono (by omega)), Nat.le_trans hsz hb.size⟩, (hb.block _ (by omega)).trans hl, (hb.block _ (by omega)).trans hk⟩
    · rintro s X Y ⟨c, ⟨hi, hsz⟩, hl, hk⟩ hb
      exact ⟨c, ⟨hIx c s X Y hi (hb.mono (by omega)), Nat.le_trans hsz hb.size⟩, (hb.block _ (by omega)).trans hl, (hb.block _ (by omega)).trans hk⟩
    · -- one round
      rintro pre x W ⟨⟨hi, hsz⟩, hl, hk⟩ hlen
      have hlt : w.heap.size + 1 < W.heap.size := (Array.getElem?_eq_some_iff.1 hl).1
      have hy := run_yield (P := P) (args := encs x) hl (by rw [hrec]; exact hps x)
      rw [hrec] at hy
      refine ⟨fn, _, assign, body, hy, roundIn_of_wpIn hfn (hassign _ x W _ ?_)⟩
      refine ⟨_, run_beginRound hl (by rw [hrec]), ?_⟩
      have hl2 : (W.putObj (w.heap.size + 1) (.loop { rec .ready none with state := .busy })).heap[w.heap.size + 1]? = some (.loop { rec .ready none with state := .busy }) := World.putObj_heap_same hlt
      have hk2 : (W.putObj (w.heap.size + 1) (.loop { rec .ready none with state := .busy })).heap[w.heap.size]? = some (.deferred (some [])) := (World.putObj_heap_other (by omega)).trans hk
      have hsz2 : (W.putObj (w.heap.size + 1) (.loop { rec .ready none with state := .busy })).heap.size = W.heap.size := by simp
      refine wpIn_mono (hbody _ pre x _ (by simp; omega) (hI _ _ _ hi (hput W _ _ _ (by omega))) hlen) ?_
      have fin : ∀ (jump : Option Code) (W3 : World), KeepsFrom w.heap.size (W.putObj (w.heap.size + 1) (.loop { rec .ready none with state := .busy })) W3 →
          (Instr.endRound (w.heap.size + 1) jump).run P W3 = .ok (.bool jump.isNone) (W3.putObj (w.heap.size + 1) (.loop (rec (if jump.isNone then .ready else .done) jump))) ∧
          (W3.putObj (w.heap.size + 1) (.loop (rec (if jump.isNone then .ready else .done) jump))).heap[w.heap.size + 1]? = some (.loop (rec (if jump.isNone then .ready else .done) jump)) ∧
          (W3.putObj (w.heap.size + 1) (.loop (rec (if jump.isNone then .ready else .done) jump))).heap[w.heap.size]? = some (.deferred (some [])) ∧
          KeepsFrom W1.heap.size W (W3.putObj (w.heap.size + 1) (.loop (rec (if jump.isNone then .ready else .done) jump))) := fun jump W3 hk3 => by
        have hl3 := hk3.same _ _ (by omega) hl2 rfl
        have := run_endRound (P := P) jump hl3
        rw [hrec] at this ⊢
        refine ⟨this, World.putObj_heap_same (Array.getElem?_eq_some_iff.1 hl3).1, (World.putObj_heap_other (by omega)).trans (hk3.same _ _ (Nat.le_refl _) hk2 rfl), ?_⟩
        refine ⟨by have := hk3.size; simp at this ⊢; exact this, fun k o hkB hko hoc => ?_⟩
        exact (World.putObj_heap_other (by omega)).trans (hk3.same k o (by omega) ((World.putObj_heap_other (by omega)).trans hko) hoc)
      rintro e a3 W3 hp
      cases e with
      | normal =>
        obtain ⟨hk3, hkp3, hi3⟩ := hp
        obtain ⟨hr, hl4, hk4, hs4⟩ := fin none W3 hk3
        exact ⟨_, _, hr, hs4, .inl ⟨rfl, ⟨⟨hI _ _ _ hi3 (hput W3 _ _ _ (by omega)), Nat.le_trans hsz hs4.size⟩, hl4, hk4⟩, hKt (hKt (hKb W _ _ (by omega)) hkp3) (hKb W3 _ _ (by omega))⟩⟩
      | ret =>
        obtain ⟨hk3, hi3⟩ := hp
        obtain ⟨hr, hl4, hk4, hs4⟩ := fin (some .ret) W3 hk3
        exact ⟨_, _, hr, hs4, .inr ⟨rfl, .ret, ⟨hIx _ _ _ _ hi3 (hput W3 _ _ _ (by omega)), Nat.le_trans hsz hs4.size⟩, hl4, hk4⟩⟩
      | exit id =>
        obtain ⟨hk3, hi3⟩ := hp
        obtain ⟨hr, hl4, hk4, hs4⟩ := fin (some (.exit id)) W3 hk3
        exact ⟨_, _, hr, hs4, .inr ⟨rfl, .exit id, ⟨hIx _ _ _ _ hi3 (hput W3 _ _ _ (by omega)), Nat.le_trans hsz hs4.size⟩, hl4, hk4⟩⟩
      | goto t =>
        obtain ⟨hk3, hi3⟩ := hp
        obtain ⟨hr, hl4, hk4, hs4⟩ := fin (some (.goto t)) W3 hk3
        exact ⟨_, _, hr, hs4, .inr ⟨rfl, .goto t, ⟨hIx _ _ _ _ hi3 (hput W3 _ _ _ (by omega)), Nat.le_trans hsz hs4.size⟩, hl4, hk4⟩⟩
      | panic ch => exact hp.elim
      | outgrown => exact hp.elim
    · -- behind the iterator
      rintro e W2 ⟨⟨v, rfl⟩, (⟨xs, hS, ⟨hi, hsz⟩, hl, hk⟩ | ⟨pre, hSp, c, ⟨hi, hsz⟩, hl, hk⟩)⟩
      · exact ⟨none, _, by have := run_endLoop (P := P) hl (by rw [hrec]; simp); rw [hrec] at this; exact this, hdone _ xs _ rfl (by simp; omega) hS (hI _ _ _ hi (hput W2 _ _ _ (by omega))) ((World.putObj_heap_other (by omega)).trans hk)⟩
      · exact ⟨some c, _, by have := run_endLoop (P := P) hl (by rw [hrec]; simp); rw [hrec] at this; exact this, hstop _ c pre _ rfl (by simp; omega) hSp (hIx c _ _ _ hi (hput W2 _ _ _ (by omega))) ((World.putObj_heap_other (by omega)).trans hk)⟩

end Go.Proofs.YtdlogklhekopgaaDoor

namespace Go.Proofs.YtdlogklhekopgaaDoor
open Go.RowKit Go.Shelf Go.Proofs
attribute [local go_sem] Oper.semAt_some

/-- the blocks for the rounds' deferred calls, as they stand in an activation -/
def dfs (Ds : List Nat) : List Deferred := Ds.map fun D => { target := .collected D, args := #[] }
structure Coll (B : Nat) (Ds : List Nat) (w : World) : Prop where
  nodup : Ds.Nodup
  lo : ∀ D ∈ Ds, B ≤ D
  at_ : ∀ D ∈ Ds, w.heap[D]? = some (.deferred (some []))

theorem Coll.nil (B : Nat) (w : World) : Coll B [] w := ⟨by simp, by simp, by simp⟩
theorem Coll.keeps {B : Nat} {Ds : List Nat} {w w' : World} (h : Coll B Ds w) (hk : KeepsFrom B w w') : Coll B Ds w' :=
  ⟨h.nodup, h.lo, fun D hD => hk.same D _ (h.lo D hD) (h.at_ D hD) rfl⟩
theorem Coll.below {B C : Nat} {Ds : List Nat} {w w' : World} (h : Coll B Ds w) (hk : Below C w w') (hC : ∀ D ∈ Ds, D < C) : Coll B Ds w' :=
  ⟨h.nodup, h.lo, fun D hD => (hk.block D (hC D hD)).trans (h.at_ D hD)⟩
theorem Coll.lt {B : Nat} {Ds : List Nat} {w : World} (h : Coll B Ds w) : ∀ D ∈ Ds, D < w.heap.size := fun D hD => (Array.getElem?_eq_some_iff.1 (h.at_ D hD)).1
theorem Coll.cons {B : Nat} {Ds : List Nat} {w : World} {D : Nat} (h : Coll B Ds w) (hB : B ≤ D) (hD : w.heap[D]? = some (.deferred (some []))) (hn : D ∉ Ds) : Coll B (D :: Ds) w :=
  ⟨List.nodup_cons.2 ⟨hn, h.nodup⟩, fun x hx => by rcases List.mem_cons.1 hx with rfl | hx; exact hB; exact h.lo x hx, fun x hx => by rcases List.mem_cons.1 hx with rfl | hx; exact hD; exact h.at_ x hx⟩

theorem leaves_coll {F : Fence} {n : Nat} {P : Program} {fn : Func} {tmps : Array Value} {R : Ending → World → Prop} {B : Nat} :
    ∀ (Ds : List Nat) (w : World), Coll B Ds w → (∀ w', Below B w w' → LeavesIn F n P fn tmps R [] .returning w') → LeavesInM F n P fn tmps R (dfs Ds) .returning w
  | [], w, _, h => h w (Below.refl _ _)
  | D :: Ds, w, hc, h => by
    refine ⟨by simp, .inl ⟨D, _, rfl, run_takeDeferred (hc.at_ D (by simp)), ?_⟩⟩
    have hlo := hc.lo D (by simp)
    have hput : Below B w (w.putObj D (.deferred none)) := ⟨rfl, rfl, rfl, by simp, fun i hi => World.putObj_heap_other (by omega)⟩
    obtain ⟨hn1, hn2⟩ := List.nodup_cons.1 hc.nodup
    refine leaves_coll Ds _ ⟨hn2, fun x hx => hc.lo x (by simp [hx]), fun x hx => ?_⟩ (fun w' hw' => h w' (hput.trans hw'))
    exact (World.putObj_heap_other (fun e => hn1 (by rw [← e]; exact hx))).trans (hc.at_ x (by simp [hx]))

/-- a slice of numbers in blocks below n₀, apart from o -/
def ReadsN (n₀ o : Nat) (w : World) (v : Value) (L : List Nat) : Prop :=
  (v = .slice none 0 0 ∧ L = []) ∨ ∃ b off cap, v = .slice (some ⟨b, off, none⟩) L.length cap ∧ b < n₀ ∧ b ≠ o ∧ ∀ j, j < L.length → w.cell? ⟨b, off + j, none⟩ = some (.int .i64 ((L[j]?.getD 0 : Nat) : Int))
theorem ReadsN.apart {n₀ o : Nat} {w w' : World} (h : Apart n₀ o w w') {v : Value} {L : List Nat} : ReadsN n₀ o w v L → ReadsN n₀ o w' v L
  | .inl e => .inl e
  | .inr ⟨b, off, cap, e, hb, ho, hc⟩ => .inr ⟨b, off, cap, e, hb, ho, fun j hj => (h.cell (p := ⟨b, off + j, none⟩) hb ho).trans (hc j hj)⟩
theorem ReadsN.general {n₀ o : Nat} {w : World} {v : Value} {L : List Nat} (h : ReadsN n₀ o w v L) : ∃ ad cap, v = .slice ad L.length cap ∧ ∀ j, j < L.length → ∃ g off, ad = some ⟨g, off, none⟩ ∧ g < n₀ ∧ g ≠ o ∧ w.cell? ⟨g, off + j, none⟩ = some (.int .i64 ((L[j]?.getD 0 : Nat) : Int)) := by
  rcases h with ⟨rfl, rfl⟩ | ⟨g, off, cap, rfl, hg, ho, hc⟩
  · exact ⟨none, 0, rfl, fun j hj => by simp at hj⟩
  · exact ⟨_, cap, rfl, fun j hj => ⟨g, off, rfl, hg, ho, hc j hj⟩⟩
theorem Tab.apart {n₀ o : Nat} {w w' : World} (h : Apart n₀ o w w') (hn : 1 < n₀) (ho : 1 ≠ o) (ht : Tab w) : Tab w' := fun j hj => (h.cell (p := ⟨1, j, none⟩) hn ho).trans (ht j hj)

/-- all sums of the sets, in the order of the choices -/
def sumsTo (L : List Nat) (k : Nat) : List Nat := (List.range k).map (Lt.eff L)
theorem sumsTo_succ (L : List Nat) (k : Nat) : sumsTo L (k + 1) = sumsTo L k ++ [Lt.eff L k] := by simp [sumsTo, List.range_succ]

set_option maxRecDepth 100000 in
set_option maxHeartbeats 4000000 in
theorem sums1_try (Bs n₀ o : Nat) (L : List Nat) (v : Value) (hL : ∀ i : Nat, L[i]?.getD 0 < 65536) (h16 : L.length ≤ 16) (hn₀ : 1 < n₀) (hBn : Bs < n₀) (ho1 : 1 ≠ o) (hoB : Bs ≠ o) (l : Nat) (J Jx : List Nat → World → Prop) (W : World) (hW : n₀ ≤ W.heap.size)
    (hJ : ClosedAt W.heap.size J) (hJx : ClosedAt W.heap.size Jx)
    (hY : ∀ pre x W1, J pre W1 → x < 65536 → pre.length < 65536 → YieldAt Fence.wide 5 Tryd.prog l #[.int .i64 (x : Nat)] W1 fun e W' =>
      KeepsFrom W.heap.size W1 W' ∧ ((e = .returned (.bool true) ∧ J (pre ++ [x]) W' ∧ Apart n₀ o W1 W') ∨ (e = .returned (.bool false) ∧ Jx (pre ++ [x]) W')))
    (hBs : W.cell? ⟨Bs, 0, none⟩ = some v) (hv : ReadsN n₀ o W v L) (hT : Tab W) (h0 : J [] W) :
    CallsIn Fence.wide 6 Tryd.prog 90 #[.func (.yield l) #[] #[], .pointer (some ⟨Bs, 0, none⟩)] W fun e W' => (∃ v, e = .returned v) ∧
      ((∃ ys, ys = sumsTo L (2 ^ L.length) ∧ J ys W') ∨ (∃ pre, (∃ k, k ≤ 2 ^ L.length ∧ pre = sumsTo L k) ∧ Jx pre W')) := by
  obtain ⟨ad, cap, rfl, hcs⟩ := hv.general
  have HC := Lib.hid hcs
  clear hcs hv
  have w1 := Lt.wrap_u64_nat L.length (by omega)
  have w2 := wrap_pow L.length (by omega)
  have hm16 : (2 : Nat) ^ L.length ≤ 65536 := Nat.pow_le_pow_right (by decide) h16
  generalize hm : 2 ^ L.length = m at *
  have hm' := Lib.hid hm
  clear hm
  refine callsIn_of_wp_marks Tryd.func90 rfl trivial ?_ rfl
  simp only [Tryd.ntmps90, List.size_toArray, List.length_cons, List.length_nil, Nat.reduceAdd, Nat.reduceSub, Array.replicate_succ, Array.replicate_zero, List.push_toArray, List.append_toArray, List.nil_append, List.cons_append]
  gi_wp2
  rw [w2]
  refine wpIn_loop (fun a wr => ∃ (k : Nat) (u3 u4 u5 u11 u12 u13 u14 u15 u16 u17 u18 u19 u20 u21 u22 u23 u24 u25 u26 : Value) (Ds : List Nat), a = { tmps := #[Value.func (Fn.yield l) #[] #[], Value.pointer (some ⟨Bs, 0, none⟩), undef, u3, u4, u5,
          Value.slice ad L.length cap, Value.int IntKind.i64 ↑L.length, Value.int IntKind.u64 ↑L.length, Value.int IntKind.i64 (m : Nat), Value.int IntKind.i64 (k : Nat), u11, u12, u13, u14, u15, u16, u17, u18, u19, u20, u21, u22, u23, u24, u25, u26], defers := dfs Ds } ∧
      k ≤ m ∧ J (sumsTo L k) wr ∧ Apart n₀ o W wr ∧ W.heap.size ≤ wr.heap.size ∧ Coll W.heap.size Ds wr) (fun a _ => m - (intOf (a.tmps.getD 10 undef)).toNat) ?start ?round
  case start => exact ⟨0, _, _, _, _, _, _, _, _, _, _, _, _, _, _, _, _, _, _, _, [], rfl, Nat.zero_le _, by simpa [sumsTo] using h0, Apart.refl _ _ _, Nat.le_refl _, Coll.nil _ _⟩
  case round =>
    rintro a wr ⟨k, u3, u4, u5, u11, u12, u13, u14, u15, u16, u17, u18, u19, u20, u21, u22, u23, u24, u25, u26, Ds, rfl, hk, hJk, hB, hsz, hco⟩
    by_cases hlt : k < m
    · have hk64 : k < 65536 := by omega
      gi_wp2_with (refine ⟨trivial, ?_⟩; gi_at_call 75; refine (callsIn_wide.2 (members_any k _)).mono ?_; rintro e w' ⟨rfl, rfl⟩)
      obtain ⟨w3, hw3⟩ : ∃ w3, (wr.alloc (Obj.cells #[Value.int IntKind.i64 0] 3)).alloc (Obj.cells #[Value.int IntKind.i64 ↑k] 3) = w3 := ⟨_, rfl⟩
      have hB3 : Below wr.heap.size wr w3 := by rw [← hw3]; exact ((Below.refl _ wr).alloc (Nat.le_refl _) _).alloc (by simp) _
      have hz3 : w3.heap.size = wr.heap.size + 2 := by rw [← hw3]; simp
      have hc1 : w3.cell? ⟨wr.heap.size, 0, none⟩ = some (.int .i64 0) := by rw [← hw3]; simp [go_sem]
      have hf1 : w3.frozen? ⟨wr.heap.size, 0, none⟩ = false := by rw [← hw3]; simp [go_sem]
      have hc2 : w3.cell? ⟨wr.heap.size + 1, 0, none⟩ = some (.int .i64 k) := by rw [← hw3]; simp [go_sem]
      rw [hw3]
      have hJ3 := hJ _ _ _ hJk (hB3.mono hsz)
      have hBW3 : Apart n₀ o W w3 := hB.trans (Apart.of_below hB3 (by omega))
      have hT3 := hT.apart hBW3 hn₀ ho1
      have hst := SeqZ.of_K (members_stops (· < L.length) 5 (by omega) (wr.heap.size + 1) n₀ k (by omega) hn₀ (bitsOf_lt (by rw [hm'.out]; exact hlt)) w3 (by omega) (by omega) hc2 hT3)
      have hco3 := hco.below hB3 hco.lt
      clear hc2 hJk hw3
      refine wpIn_rangeFunc_Z rfl (by omega) (gf := 88) (lb := #[.pointer (some ⟨wr.heap.size + 1, 0, none⟩)]) rfl trivial (enters_of Tryd.func88 (by kernel_rfl) rfl)
        hst (fun h k => h.trans k) (fun X k o hk => below_put X k o (by omega)) (Below.refl _ _) (fun _ => rfl)
        (fun pre X => (X.cell? ⟨wr.heap.size, 0, none⟩ = some (.int .i64 (Lt.effList L (pre.map (·.1)) : Nat)) ∧ X.frozen? ⟨wr.heap.size, 0, none⟩ = false) ∧ (J (sumsTo L k) X ∧ Apart n₀ o W X ∧ w3.heap.size ≤ X.heap.size ∧ Coll W.heap.size Ds X))
        (fun _ _ _ => False) ?cI (fun _ _ _ _ h _ => h) ⟨⟨hc1, hf1⟩, hJ3, hBW3, Nat.le_refl _, hco3⟩
        (fun x => { tmps := #[Value.func (Fn.yield l) #[] #[], Value.pointer (some ⟨Bs, 0, none⟩), undef,
          Value.int IntKind.i64 ↑k, Value.pointer (some ⟨wr.heap.size, 0, none⟩), .int .i64 (x.1 : Nat),
          Value.slice ad L.length cap, Value.int IntKind.i64 ↑L.length, Value.int IntKind.u64 ↑L.length,
          Value.int IntKind.i64 ↑m, Value.int IntKind.i64 ↑k, Value.bool true, Value.int IntKind.i64 ↑k,
          Value.int IntKind.i64 ↑k,
          Value.func (Fn.func 88) #[] #[Value.pointer (some ⟨wr.heap.size + 1, 0, none⟩)], .int .i64 (x.1 : Nat), u16, u17,
          u18, u19, u20, u21, u22, u23, u24, u25, u26], defers := [] }) ?assign ?body ?done ?stop
      case cI =>
        rintro pre X Y ⟨⟨h1, h2⟩, h3, h4, h5, h6⟩ hb
        exact ⟨⟨(hb.cell (p := ⟨wr.heap.size, 0, none⟩) (by simp; omega)).trans h1, (hb.frozen (p := ⟨wr.heap.size, 0, none⟩) (by simp; omega)).trans h2⟩, hJ _ _ _ h3 (hb.mono (by omega)), h4.trans (Apart.of_below hb (by omega)), Nat.le_trans h5 hb.size,
          h6.below hb (fun D hD => Nat.lt_of_lt_of_le (hco.lt D hD) (by omega))⟩
      case assign =>
        intro l x W K hK
        gi_wp2
        exact hK
      case body =>
        rintro l' pre ⟨x, hx⟩ X hX ⟨⟨hc, hf⟩, hj, hb, hs, hcl⟩ _
        obtain ⟨g, off, rfl, hgn, hgo, hrow⟩ := HC.out x hx
        replace hrow := (hb.cell (p := ⟨g, off + x, none⟩) hgn hgo).trans hrow
        have hBsX := (hb.cell (p := ⟨Bs, 0, none⟩) hBn hoB).trans hBs
        have hxo := Lt.xor_i64 (Lt.effList L (pre.map (·.1))) (L[x]?.getD 0) (by have := effList_lt hL (pre.map (·.1)); omega) (by have := hL x; omega)
        have hsn := Lib.hid (Lt.effList_snoc L (pre.map (·.1)) x)
        have hJX := Lib.hid hj
        have hBX := Lib.hid hb
        have hCX := Lib.hid hcl
        clear hj hb hcl hst hJ3 hBW3 hT3 hco3 hB3 hY h0 hT hBs
        generalize hE : Lt.effList L (pre.map (·.1)) = E at hc hxo hsn
        generalize L[x]?.getD 0 = R at hrow hxo hsn
        clear hE
        have hmx : Tryd.prog.follows .mixedOrders = true := by kernel_rfl
        gi_wp2
        gi_region_with_o (fail)
        all_goals gi_wp2
        all_goals
          have hbX : ∀ C, C ≤ wr.heap.size → Below C X (X.setCell ⟨wr.heap.size, 0, none⟩ (.int .i64 ((E ^^^ R : Nat) : Int))).drew := fun C hC => ((Below.refl C X).setCell (p := ⟨wr.heap.size, 0, none⟩) hC _).drew
          exact ⟨((KeepsOthers.setCell _ _ _).trans (KeepsOthers.drew _)).from _, hbX n₀ (by omega),
            ⟨by rw [List.map_append, List.map_cons, List.map_nil, hsn.out]; exact World.cell?_setCell_same' _ _ _ (by rw [hc]; rfl), by rw [frozen_drew_own, World.frozen?_setCell]; exact hf⟩,
            hJ _ _ _ hJX.out (hbX _ hsz), hBX.out.trans (Apart.of_below (hbX n₀ (by omega)) (Nat.le_refl _)), by simpa using hs, hCX.out.below (hbX wr.heap.size (Nat.le_refl _)) hco.lt⟩
      case done =>
        rintro D ys X hD hDX hys ⟨⟨hc, _⟩, hj, hb, hs, hcl⟩ hK
        rw [hys, Lt.effList_bitsOf (by omega)] at hc
        have hx : Lt.eff L k < 65536 := by
          refine Lt.eff_lt (m := 16) (fun r hr => ?_) k
          obtain ⟨i, hi, rfl⟩ := List.getElem_of_mem hr
          have := hL i
          simpa [hi] using this
        have hlenk : (sumsTo L k).length < 65536 := by simp [sumsTo]; omega
        obtain ⟨fn, tmps, assign, body, hy, hR⟩ := hY (sumsTo L k) (Lt.eff L k) X hj hx hlenk
        have hDs : D ∉ Ds := fun h => by have := hco.lt D h; omega
        have hco' := Lib.hid (hcl.cons (by omega) hK hDs)
        have hBX := Lib.hid hb
        have hnext := Lib.hid (sumsTo_succ L k)
        clear hj hb hcl hst hJ3 hBW3 hT3 hco3 hB3 hY h0 hT hBs hys hK hco hc1 hf1 hx
        generalize Lt.eff L k = X' at *
        gi_wp2
        refine hR.mono ?_
        rintro e W4 ⟨hk4, ⟨rfl, hJ4, hb4⟩ | ⟨rfl, hJ4⟩⟩
        · rw [← hnext.out] at hJ4
          gi_wp2
          refine ⟨⟨k + 1, _, _, _, _, _, _, _, _, _, _, _, _, _, _, _, _, _, _, _, D :: Ds, rfl, by omega, hJ4, hBX.out.trans hb4, by have := hk4.size; omega, hco'.out.keeps hk4⟩, ?_⟩
          simp [intOf]; omega
        · rw [← hnext.out] at hJ4
          gi_wp2
          refine leaves_coll (B := W.heap.size) (D :: Ds) W4 (hco'.out.keeps hk4) (fun W5 hb5 => ?_)
          exact ⟨_, results_none rfl _ _ _, ⟨_, rfl⟩, .inr ⟨_, ⟨k + 1, by omega, rfl⟩, hJx _ _ _ hJ4 hb5⟩⟩
      case stop =>
        rintro D c pre X _ _ _ h _
        exact h.elim
    · have hkm : Hid (k = m) := Lib.hid (by omega)
      have hJk' := Lib.hid hJk
      have hco' := Lib.hid hco
      clear hJk hco h0 hY hT hBs
      gi_wp2
      refine leaves_coll (B := W.heap.size) Ds wr hco'.out (fun W5 hb5 => ?_)
      exact ⟨_, results_none rfl _ _ _, ⟨_, rfl⟩, .inl ⟨_, by rw [← hkm.out], hJ _ _ _ hJk'.out hb5⟩⟩

/-- sums(l): the slice is boxed; the function value has captured the box -/
theorem sums_any (a : Option Addr) (len cap : Nat) (w : World) :
    Calls Tryd.prog 76 #[.slice a len cap] w fun e w' => e = .returned (.func (.func 90) #[] #[.pointer (some ⟨w.heap.size, 0, none⟩)]) ∧ w' = w.alloc (.cells #[.slice a len cap] 36) := by
  go_enter Tryd.func76, Tryd.ntmps76
  go_wp2
  go_ret
  exact ⟨rfl, rfl⟩

/-- sums' value: all sums, in the order of the choices -/
theorem sums_seq (Bs n₀ o : Nat) (L : List Nat) (v : Value) (hL : ∀ i : Nat, L[i]?.getD 0 < 65536) (h16 : L.length ≤ 16) (hn₀ : 1 < n₀) (hBn : Bs < n₀) (ho1 : 1 ≠ o) (hoB : Bs ≠ o) (w : World) (hw : n₀ ≤ w.heap.size) (hBs : w.cell? ⟨Bs, 0, none⟩ = some v) (hv : ReadsN n₀ o w v L) (hT : Tab w) :
    SeqZ Fence.wide 6 Tryd.prog 90 #[.pointer (some ⟨Bs, 0, none⟩)] (fun x : { x : Nat // x < 65536 } => #[Value.int .i64 (x.1 : Nat)]) (Apart n₀ o) (fun ys => ys.map (·.1) = sumsTo L (2 ^ L.length)) (fun pre => ∃ k, k ≤ 2 ^ L.length ∧ pre.map (·.1) = sumsTo L k) 65536 w := by
  intro l J Jx W hW hJ hJx hY h0
  have hb : Below n₀ w W := hW.mono hw
  refine (sums1_try Bs n₀ o L v hL h16 hn₀ hBn ho1 hoB l (fun ns X => ∃ ys : List { x : Nat // x < 65536 }, ys.map (·.1) = ns ∧ J ys X) (fun ns X => ∃ ys : List { x : Nat // x < 65536 }, ys.map (·.1) = ns ∧ Jx ys X) W (Nat.le_trans hw hW.size)
    (fun _ _ _ ⟨ys, he, hj⟩ hb => ⟨ys, he, hJ _ _ _ hj hb⟩) (fun _ _ _ ⟨ys, he, hj⟩ hb => ⟨ys, he, hJx _ _ _ hj hb⟩) ?_ ((hb.cell (p := ⟨Bs, 0, none⟩) hBn).trans hBs) (hv.apart (Apart.of_below hb (Nat.le_refl _))) (hT.below hb hn₀) ⟨[], rfl, h0⟩).mono ?_
  · rintro _ x W1 ⟨ys, rfl, hj⟩ hx hlen
    obtain ⟨fn, tmps, assign, body, hy, hR⟩ := hY ys ⟨x, hx⟩ W1 hj (by simpa using hlen)
    refine ⟨fn, tmps, assign, body, hy, hR.mono ?_⟩
    rintro e W' ⟨hk, ⟨he, hj', hb'⟩ | ⟨he, hj'⟩⟩
    · exact ⟨hk, .inl ⟨he, ⟨_, by simp, hj'⟩, hb'⟩⟩
    · exact ⟨hk, .inr ⟨he, ⟨_, by simp, hj'⟩⟩⟩
  · rintro e W' ⟨he, ⟨_, rfl, ys, hys, hj⟩ | ⟨_, ⟨k, hk, rfl⟩, ys, hys, hj⟩⟩
    · exact ⟨he, .inl ⟨ys, hys, hj⟩⟩
    · exact ⟨he, .inr ⟨ys, ⟨k, hk, hys⟩, hj⟩⟩

end Go.Proofs.YtdlogklhekopgaaDoor

namespace Go.Proofs.YtdlogklhekopgaaDoor
open Go.RowKit Go.Shelf Go.Proofs
attribute [local go_sem] Oper.semAt_some

/-- one step to the best set -/
def stepL (s o x : Nat) : Nat := if Lt.less (s ^^^ x) o then s ^^^ x else o
/-- the best set after some sums -/
def bestL (s : Nat) (l : List Nat) : Nat := l.foldl (stepL s) s
theorem bestL_snoc (s : Nat) (l : List Nat) (x : Nat) : bestL s (l ++ [x]) = stepL s (bestL s l) x := by simp [bestL, List.foldl_append]
theorem bestL_sums (Q : List Nat) (s : Nat) : ∀ k, bestL s (sumsTo Q k) = Lt.bestTo Q s k
  | 0 => rfl
  | k + 1 => by rw [sumsTo_succ, bestL_snoc, bestL_sums Q s k]; rfl
theorem stepL_lt {m s o x : Nat} (hs : s < 2 ^ m) (ho : o < 2 ^ m) (hx : x < 2 ^ m) : stepL s o x < 2 ^ m := by
  unfold stepL; split
  · exact Nat.xor_lt_two_pow hs hx
  · exact ho
theorem bestL_lt' {m s : Nat} (hs : s < 2 ^ m) (l : List Nat) (hl : ∀ x ∈ l, x < 2 ^ m) : bestL s l < 2 ^ m := by
  unfold bestL
  suffices h : ∀ (l : List Nat) (o : Nat), o < 2 ^ m → (∀ x ∈ l, x < 2 ^ m) → l.foldl (stepL s) o < 2 ^ m from h l s hs hl
  intro l
  induction l with
  | nil => intro o ho _; exact ho
  | cons x l ih =>
    intro o ho hx
    rw [List.foldl_cons]
    refine ih _ ?_ ?_
    · exact stepL_lt hs ho (hx x List.mem_cons_self)
    · exact fun y hy => hx y (List.mem_cons_of_mem _ hy)
theorem pow16 : (2 : Nat) ^ 16 = 65536 := by decide
theorem bestL_lt {s : Nat} (hs : s < 65536) (l : List Nat) (hl : ∀ x ∈ l, x < 65536) : bestL s l < 65536 := by
  rw [← pow16] at *
  exact bestL_lt' hs l hl

theorem reads_of_rowN {w : World} {base n₀ o : Nat} {v : Value} {L : List Nat} (h : w.ownsRow base 3 1 v L.length (ncells L)) (hn : w.heap.size ≤ n₀) (ho : w.heap.size ≤ o) : ReadsN n₀ o w v L := by
  rcases h.2 with ⟨rfl, h0⟩ | ⟨g, cap, cur, rfl, hg, hh, hnc, hcm, hcs, htk⟩
  · exact .inl ⟨rfl, List.length_eq_zero_iff.1 h0⟩
  · have hgl : g < w.heap.size := (Array.getElem?_eq_some_iff.1 hh).1
    refine .inr ⟨g, 0, cap, rfl, by omega, by omega, fun j hj => ?_⟩
    have h1 : (ncells L)[j]? = some (.int .i64 ((L[j] : Nat) : Int)) := by simp [ncells, hj]
    rw [← htk, List.getElem?_take, if_pos (by omega)] at h1
    simp only [World.cell?, hh, Nat.zero_add]
    have e : L[j]?.getD 0 = L[j] := by simp [hj]
    rw [e]
    simpa using h1

theorem ReadsN.of_below {n₀ o base : Nat} {w w' : World} {v : Value} {L : List Nat} (h : ReadsN n₀ o w v L) (hb : Below w.heap.size w w') (hr : w.ownsRow base 3 1 v L.length (ncells L)) : ReadsN n₀ o w' v L := by
  rcases h with h | ⟨b, off, cap, rfl, h1, h2, h3⟩
  · exact .inl h
  · have hlt := (hr.lt b rfl).2
    exact .inr ⟨b, off, cap, rfl, h1, h2, fun j hj => (hb.cell (p := ⟨b, off + j, none⟩) hlt).trans (h3 j hj)⟩

theorem quiet_small {l : List Nat} (h16 : l.length ≤ 16) : (∀ i : Nat, (Lt.quietOf l)[i]?.getD 0 < 65536) ∧ (Lt.quietOf l).length ≤ 16 := by
  have h := Lt.inv_of l
  have h2 : (2 : Nat) ^ l.length ≤ 2 ^ 16 := Nat.pow_le_pow_right (by decide) h16
  refine ⟨fun i => ?_, by have := h.len; omega⟩
  cases hq : (Lt.quietOf l)[i]? with
  | none => simp
  | some x => exact Nat.lt_of_lt_of_le (h.ltQ x (List.mem_of_getElem? hq)) h2

set_option maxRecDepth 100000 in
set_option maxHeartbeats 4000000 in
/-- (*lamps).fewest -/
theorem fewest_any (b : Nat) (l : List Nat) (t : Nat) (ht : t < 65536) (w : World) (hL : Lamps w b l) (hT : Tab w) (hw : 1 < w.heap.size) :
    Calls Tryd.prog 56 #[.pointer (some ⟨b, 0, none⟩), .int .i64 t] w fun e w' => e = .returned (.tuple #[.int .i64 ((if (Lt.solveOf l t).2 = 0 then Lt.fewOf l t else 0 : Nat) : Int), .bool (decide ((Lt.solveOf l t).2 = 0))]) ∧ Below w.heap.size w w' := by
  have hsol := Lib.hid (solve_any b l t ht w hL)
  have hlt1 : (Lt.solveOf l t).1 < 65536 := Nat.lt_of_lt_of_le (Lt.solve_lt l t) (Nat.pow_le_pow_right (by decide) hL.len : 2 ^ l.length ≤ 2 ^ 16)
  by_cases h0 : (Lt.solveOf l t).2 = 0
  · have hd : decide ((Lt.solveOf l t).2 = 0) = true := by simpa using h0
    rw [hd] at hsol ⊢
    rw [if_pos h0]
    unfold Lt.fewOf
    obtain ⟨hQ, hQ16⟩ := quiet_small hL.len
    have hred := fun (W : World) (hb : Below w.heap.size w W) => reduced_any b l W (hL.below hb hL.lt)
    have HRED := Lib.hid hred
    clear hred hd h0 hL
    generalize (Lt.solveOf l t).1 = s at *
    generalize Lt.quietOf l = Q at *
    generalize Lt.basisOf l = B at *
    refine (callsIn_wide (n := 7)).1 ?_
    refine callsIn_of_wp_marks Tryd.func56 rfl trivial ?_ rfl
    simp only [Tryd.ntmps56, List.size_toArray, List.length_cons, List.length_nil, Nat.reduceAdd, Nat.reduceSub, Array.replicate_succ, Array.replicate_zero, List.push_toArray, List.append_toArray, List.nil_append, List.cons_append]
    gi_wp2_with fail
    refine ⟨trivial, ?_⟩
    refine (callsIn_wide.2 hsol.out).mono ?_
    rintro e w1 ⟨rfl, hb1⟩
    gi_wp2_with fail
    refine ⟨trivial, ?_⟩
    refine (callsIn_wide.2 (HRED.out _ (hb1.alloc hb1.size _))).mono ?_
    rintro e w2 ⟨vB, vQ, rfl, ⟨-, hrQ⟩, hb2⟩
    obtain ⟨aQ, nQ, cQ, rfl⟩ := slice_of_row hrQ
    have hfirst : w2.cell? ⟨w1.heap.size, 0, none⟩ = some (.int .i64 s) := (hb2.cell (p := ⟨w1.heap.size, 0, none⟩) (by simp)).trans (by simp [go_sem])
    have hz2 : w1.heap.size < w2.heap.size := by have := hb2.size; simp at this; omega
    have hb2' : Below w.heap.size w w2 := (hb1.alloc hb1.size _).trans (hb2.mono (by have := hb1.size; simp; omega))
    have hsz1 := hb1.size
    gi_wp2_with (refine ⟨trivial, ?_⟩; gi_at_call 76; refine (callsIn_wide.2 (sums_any _ _ _ _)).mono ?_; rintro e w' ⟨rfl, rfl⟩)
    obtain ⟨w3, hw3⟩ : ∃ w3, (w2.alloc (Obj.cells #[Value.int IntKind.i64 ↑s] 3)).alloc (Obj.cells #[Value.slice aQ nQ cQ] 36) = w3 := ⟨_, rfl⟩
    have hB3 : Below w2.heap.size w2 w3 := by rw [← hw3]; exact ((Below.refl _ w2).alloc (Nat.le_refl _) _).alloc (by simp) _
    have hz3 : w3.heap.size = w2.heap.size + 2 := by rw [← hw3]; simp
    have hc1 : w3.cell? ⟨w2.heap.size, 0, none⟩ = some (.int .i64 s) := by rw [← hw3]; simp [go_sem]
    have hf1 : w3.frozen? ⟨w2.heap.size, 0, none⟩ = false := by rw [← hw3]; simp [go_sem]
    have hc2 : w3.cell? ⟨w2.heap.size + 1, 0, none⟩ = some (.slice aQ nQ cQ) := by rw [← hw3]; simp [go_sem]
    have hfirst3 := (hB3.cell (p := ⟨w1.heap.size, 0, none⟩) hz2).trans hfirst
    have hbW3 : Below w.heap.size w w3 := hb2'.trans (hB3.mono hb2'.size)
    have hw2s := hb2'.size
    rw [hw3]
    have hrd : ReadsN w3.heap.size w2.heap.size w3 (.slice aQ nQ cQ) Q := (reads_of_rowN hrQ (by omega) (Nat.le_refl _)).of_below hB3 hrQ
    have hst := sums_seq (w2.heap.size + 1) w3.heap.size w2.heap.size Q _ hQ hQ16 (by omega) (by omega) (by omega) (by omega) w3 (Nat.le_refl _) hc2 hrd (hT.below hbW3 hw)
    have hsum := Lib.hid (bestL_sums Q s (2 ^ Q.length))
    clear hc2 hw3 hrd hfirst
    refine wpIn_rangeFunc_Z rfl (by omega) (gf := 90) (lb := #[.pointer (some ⟨w2.heap.size + 1, 0, none⟩)]) rfl trivial (enters_of Tryd.func90 (by kernel_rfl) rfl)
        hst (fun h k => h.trans k) (fun X k o hk => Apart.put X k o (by omega)) (Below.refl _ _) (fun _ => rfl)
        (fun pre X => (X.cell? ⟨w1.heap.size, 0, none⟩ = some (.int .i64 s) ∧ X.cell? ⟨w2.heap.size, 0, none⟩ = some (.int .i64 (bestL s (pre.map (·.1)) : Nat)) ∧ X.frozen? ⟨w2.heap.size, 0, none⟩ = false) ∧ Below w.heap.size w X)
        (fun _ _ _ => False) ?cI (fun _ _ _ _ h _ => h) ⟨⟨hfirst3, hc1, hf1⟩, hbW3⟩
        (fun x => { tmps :=
          #[Value.pointer (some ⟨b, 0, none⟩), Value.int IntKind.i64 ↑t, undef, undef,
          Value.int IntKind.i64 0, Value.bool false, Value.pointer (some ⟨w1.heap.size, 0, none⟩),
          Value.bool true, vB, Value.slice aQ nQ cQ, Value.pointer (some ⟨w2.heap.size, 0, none⟩), .int .i64 (x.1 : Nat),
          Value.tuple #[Value.int IntKind.i64 ↑s, Value.bool true], Value.pointer (some ⟨b, 0, none⟩),
          Value.int IntKind.i64 ↑t, Value.tuple #[Value.int IntKind.i64 ↑s, Value.bool true], Value.int IntKind.i64 ↑s,
          Value.bool true, Value.bool true, Value.bool false, Value.tuple #[vB, Value.slice aQ nQ cQ],
          Value.pointer (some ⟨b, 0, none⟩), Value.tuple #[vB, Value.slice aQ nQ cQ], vB, Value.slice aQ nQ cQ, Value.int IntKind.i64 ↑s, Value.slice aQ nQ cQ,
          Value.func (Fn.func 90) #[] #[Value.pointer (some ⟨w2.heap.size + 1, 0, none⟩)], .int .i64 (x.1 : Nat), undef, undef, undef, undef, undef, undef, undef, undef, undef], defers := [] }) ?assign ?body ?done ?stop
    case cI =>
      rintro pre X Y ⟨⟨h1, h2, h3⟩, h4⟩ hb
      exact ⟨⟨(hb.cell (p := ⟨w1.heap.size, 0, none⟩) (by simp; omega)).trans h1, (hb.cell (p := ⟨w2.heap.size, 0, none⟩) (by simp; omega)).trans h2, (hb.frozen (p := ⟨w2.heap.size, 0, none⟩) (by simp; omega)).trans h3⟩, h4.trans (hb.mono (by omega))⟩
    case assign =>
      intro l x W K hK
      gi_wp2
      exact hK
    case body =>
      rintro l' pre ⟨x, hx⟩ X hX ⟨⟨hf, hc, hfz⟩, hb⟩ _
      have hbest : bestL s (pre.map (·.1)) < 65536 := bestL_lt hlt1 _ (fun y hy => by obtain ⟨z, _, rfl⟩ := List.mem_map.1 hy; exact z.2)
      have hxo := Lt.xor_i64 s x (by omega) (by omega)
      have hsx : s ^^^ x < 65536 := by have := Nat.xor_lt_two_pow (n := 16) (show s < 2 ^ 16 from hlt1) (show x < 2 ^ 16 from hx); exact this
      have hsn := Lib.hid (bestL_snoc s (pre.map (·.1)) x)
      have hless := Lib.hid (less_any (s ^^^ x) (bestL s (pre.map (·.1))) hsx hbest X)
      clear hst
      generalize bestL s (pre.map (·.1)) = O at *
      by_cases hl : Lt.less (s ^^^ x) O = true
      · have hstep : stepL s O x = s ^^^ x := by unfold stepL; rw [if_pos hl]
        rw [hstep] at hsn
        rw [hl] at hless
        clear hl hstep
        generalize s ^^^ x = y at *
        gi_wp2_with (refine ⟨trivial, ?_⟩; gi_at_call 77; refine (CallsIn.inRound l' (callsIn_wide.2 hless.out)).mono ?_; rintro e w' ⟨rfl, rfl⟩)
        exact ⟨(KeepsOthers.setCell _ _ _).from _, Apart.set X _, ⟨(World.cell?_setCell_other _ _ _ _ (by first | (simp; done) | (simp; omega))).trans hf, by rw [List.map_append, List.map_cons, List.map_nil, hsn.out]; exact World.cell?_setCell_same' _ _ _ (by rw [hc]; rfl), by rw [World.frozen?_setCell]; exact hfz⟩, hb.setCell (p := ⟨w2.heap.size, 0, none⟩) hw2s _⟩
      · have hl' : Lt.less (s ^^^ x) O = false := by simpa using hl
        have hstep : stepL s O x = O := by unfold stepL; rw [if_neg hl]
        rw [hstep] at hsn
        rw [hl'] at hless
        clear hl hl' hstep
        generalize s ^^^ x = y at *
        gi_wp2_with (refine ⟨trivial, ?_⟩; gi_at_call 77; refine (CallsIn.inRound l' (callsIn_wide.2 hless.out)).mono ?_; rintro e w' ⟨rfl, rfl⟩)
        exact ⟨KeepsFrom.refl _ _, Apart.refl _ _ _, ⟨hf, by rw [List.map_append, List.map_cons, List.map_nil, hsn.out]; exact hc, hfz⟩, hb⟩
    case done =>
      rintro D ys X hD hDX hys ⟨⟨_, hc, _⟩, hb⟩ hK
      rw [hys, hsum.out] at hc
      clear hst hsum
      gi_wp2
      refine ⟨by simp, .inl ⟨_, _, rfl, run_takeDeferred hK, ?_⟩⟩
      exact ⟨_, results_tmp2 rfl _ _ _, rfl, hb.trans (below_put X D _ (by omega))⟩
    case stop =>
      rintro D c pre X _ _ _ h _
      exact h.elim
  · have hd : decide ((Lt.solveOf l t).2 = 0) = false := by simpa using h0
    rw [hd] at hsol ⊢
    rw [if_neg h0]
    clear hd h0 hL
    generalize (Lt.solveOf l t).1 = s at *
    go_enter Tryd.func56, Tryd.ntmps56
    go_wp2_with fail
    refine hsol.out.mono ?_
    rintro e w1 ⟨rfl, hb1⟩
    go_wp2_with fail
    go_ret2
    exact ⟨rfl, hb1.alloc hb1.size _⟩

end Go.Proofs.YtdlogklhekopgaaDoor
