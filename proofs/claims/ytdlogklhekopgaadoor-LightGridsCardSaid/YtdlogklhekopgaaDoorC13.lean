/- Contracts of the program's functions: part C13 of the proof. -/
import Derived.Test.YtdlogklhekopgaaDoorC12
set_option linter.unusedVariables false
set_option linter.unusedSimpArgs false
namespace Go.Proofs.YtdlogklhekopgaaDoor
open Go.RowKit Go.Shelf Go.Proofs
variable {F : Fence} {n : Nat} {P : Program}

/-- what is said of a world hangs on the blocks below B alone -/
def ClosedAt {β : Type} (B : Nat) (J : β → World → Prop) : Prop := ∀ s W W', J s W → Below B W W' → J s W'

/-- an iterator's contract for whoever speaks of what lay before the call alone: the iterator may turn whatever it has laid itself -/
def SeqZ {α : Type} (F : Fence) (n : Nat) (P : Program) (g : Nat) (lb : Array Value) (encs : α → Array Value) (Kp : World → World → Prop) (S Sp : List α → Prop) (N : Nat) (w : World) : Prop :=
  ∀ (l : Nat) (J Jx : List α → World → Prop) (W : World), Below w.heap.size w W → ClosedAt W.heap.size J → ClosedAt W.heap.size Jx →
    (∀ pre x W1, J pre W1 → pre.length < N → YieldAt F (n - 1) P l (encs x) W1 fun e W' =>
      KeepsFrom W.heap.size W1 W' ∧ ((e = .returned (.bool true) ∧ J (pre ++ [x]) W' ∧ Kp W1 W') ∨ (e = .returned (.bool false) ∧ Jx (pre ++ [x]) W'))) →
    J [] W →
    CallsIn F n P g (#[.func (.yield l) #[] #[]] ++ lb) W fun e W' => (∃ v, e = .returned v) ∧ ((∃ xs, S xs ∧ J xs W') ∨ (∃ pre, Sp pre ∧ Jx pre W'))

theorem below_of_grownBy {B : Nat} {W W' : World} {row : Option Nat} (hg : W.grownBy W' row) (hB : B ≤ W.heap.size) (hr : ∀ r, row = some r → B ≤ r) : Below B W W' := (Below.refl B W).grown hg hB hr

theorem SeqZ.of_K {α : Type} {g : Nat} {lb : Array Value} {encs : α → Array Value} {Kp : World → World → Prop} {S Sp : List α → Prop} {N : Nat} {w : World} (h : SeqStopsK F n P g lb encs Kp S Sp N w) : SeqZ F n P g lb encs Kp S Sp N w :=
  fun l J Jx W hW hJ hJx hY h0 => by
    -- while J and Jx are told of worlds whose heap has grown beyond W's
    refine (h l (fun s X => J s X ∧ W.heap.size ≤ X.heap.size) (fun s X => Jx s X ∧ W.heap.size ≤ X.heap.size) W hW ?_ ?_ ?_ ⟨h0, Nat.le_refl _⟩).mono ?_
    · exact fun s X Y row hs hg hr => ⟨hJ s X Y hs.1 (below_of_grownBy hg hs.2 (fun r e => (hr r e).1)), Nat.le_trans hs.2 hg.size⟩
    · exact fun s X Y row hs hg hr => ⟨hJx s X Y hs.1 (below_of_grownBy hg hs.2 (fun r e => (hr r e).1)), Nat.le_trans hs.2 hg.size⟩
    · intro pre x W1 hj hlen
      obtain ⟨fn, tmps, assign, body, hy, hR⟩ := hY pre x W1 hj.1 hlen
      refine ⟨fn, tmps, assign, body, hy, hR.mono ?_⟩
      rintro e W' ⟨hs, ⟨he, hj', hk⟩ | ⟨he, hj'⟩⟩
      · exact .inl ⟨he, ⟨hj', Nat.le_trans hj.2 hs.size⟩, hk⟩
      · exact .inr ⟨he, ⟨hj', Nat.le_trans hj.2 hs.size⟩⟩
    · rintro e W' ⟨hv, ⟨xs, hS, hj⟩ | ⟨pre, hS, hj⟩⟩
      · exact ⟨hv, .inl ⟨xs, hS, hj.1⟩⟩
      · exact ⟨hv, .inr ⟨pre, hS, hj.1⟩⟩

/-- what lies below n₀, but for one block, is as it was -/
structure Apart (n₀ o : Nat) (X Y : World) : Prop where
  size : X.heap.size ≤ Y.heap.size
  block : ∀ k, k < n₀ → k ≠ o → Y.heap[k]? = X.heap[k]?
theorem Apart.refl (n₀ o : Nat) (X : World) : Apart n₀ o X X := ⟨Nat.le_refl _, fun _ _ _ => rfl⟩
theorem Apart.trans {n₀ o : Nat} {X Y Z : World} (h : Apart n₀ o X Y) (k : Apart n₀ o Y Z) : Apart n₀ o X Z := ⟨Nat.le_trans h.size k.size, fun i hi ho => (k.block i hi ho).trans (h.block i hi ho)⟩
theorem Apart.of_below {n₀ o B : Nat} {X Y : World} (h : Below B X Y) (hB : n₀ ≤ B) : Apart n₀ o X Y := ⟨h.size, fun k hk _ => h.block k (by omega)⟩
theorem Apart.put {n₀ o : Nat} (X : World) (k : Nat) (ob : Obj) (h : n₀ ≤ k) : Apart n₀ o X (X.putObj k ob) := ⟨by simp, fun i hi _ => World.putObj_heap_other (by omega)⟩
theorem Apart.set {n₀ o : Nat} (X : World) (v : Value) : Apart n₀ o X (X.setCell ⟨o, 0, none⟩ v) := ⟨by simp, fun i _ ho => Below.heap_setCell X ⟨o, 0, none⟩ v i (by simpa using ho)⟩
theorem Apart.cell {n₀ o : Nat} {X Y : World} (h : Apart n₀ o X Y) {p : Addr} (hp : p.block < n₀) (ho : p.block ≠ o) : Y.cell? p = X.cell? p := World.cell?_of_block (h.block p.block hp ho)
theorem below_put {n₀ : Nat} (X : World) (k : Nat) (ob : Obj) (h : n₀ ≤ k) : Below n₀ X (X.putObj k ob) := ⟨rfl, rfl, rfl, by simp, fun i hi => World.putObj_heap_other (by omega)⟩

/-- the caller's law for such an iterator; what the caller speaks of lay before the loop -/
theorem wpIn_rangeFunc_Z {α : Type} {g : Operand} {ps : Array Tmp} {assign body : Code} {Q : Exit → Act → World → Prop} {a : Act} {w : World}
    (hro : F.round = none) (h1 : 1 ≤ n) {gf : Nat} {lb : Array Value} (hg : a.eval g = .func (.func gf) #[] lb) (hFg : F.fn gf) (eg : ∀ args w, (callFunc gf args).run P w = .ok (.enter gf args) w)
    {encs : α → Array Value} {Kp : World → World → Prop} {S Sp : List α → Prop} {N : Nat} {w0 : World} (hseq : SeqZ F (n - 1) P gf lb encs Kp S Sp N w0)
    (hKt : ∀ {A B C : World}, Kp A B → Kp B C → Kp A C) (hKb : ∀ (X : World) (k : Nat) (o : Obj), w.heap.size ≤ k → Kp X (X.putObj k o)) (hb0 : Below w0.heap.size w0 w) (hps : ∀ x, (encs x).size = ps.size)
    (I : List α → World → Prop) (Ix : Code → List α → World → Prop) (hI : ClosedAt w.heap.size I) (hIx : ∀ c, ClosedAt w.heap.size (Ix c)) (h0 : I [] w) (a₁ : α → Act)
    (hassign : ∀ (l : Nat) (x : α) (W : World) (K : Act → World → Prop), K (a₁ x) W →
      assign.wpIn (F.inRound l) (n - 1 - 1) P (Exit.then K (fun _ _ _ => False)) { tmps := (ps.zip (encs x)).foldl (fun t (p, v) => t.setIfInBounds p v) a.tmps, defers := [] } W)
    (hbody : ∀ (l : Nat) (pre : List α) (x : α) (W : World), w.heap.size ≤ W.heap.size → I pre W → pre.length < N → body.wpIn (F.inRound l) (n - 1 - 1) P (ownPostG w.heap.size Kp I Ix (pre ++ [x]) W) (a₁ x) W)
    (hdone : ∀ (D : Nat) (xs : List α) (W : World), w.heap.size = D → D < W.heap.size → S xs → I xs W → W.heap[D]? = some (.deferred (some [])) → Q .normal { a with defers := { target := .collected D, args := #[] } :: a.defers } W)
    (hstop : ∀ (D : Nat) (c : Code) (pre : List α) (W : World), w.heap.size = D → D < W.heap.size → Sp pre → Ix c pre W → W.heap[D]? = some (.deferred (some [])) → c.wpIn F n P Q { a with defers := { target := .collected D, args := #[] } :: a.defers } W) :
    (Code.rangeFunc g ps assign body).wpIn F n P Q a w := by
  refine wpIn_rangeFunc ?_
  intro fn hfn
  rw [hro]
  obtain ⟨rec, hrec⟩ : ∃ rec : LoopState → Option Code → Loop, rec = fun st pe => { state := st, pending := pe, fn, tmps := a.tmps, params := ps, assign, body, defers := w.heap.size } := ⟨_, rfl⟩
  obtain ⟨W1, hW1⟩ : ∃ W1, (w.alloc (.deferred (some []))).alloc (.loop (rec .ready none)) = W1 := ⟨_, rfl⟩
  have hs1 : W1.heap.size = w.heap.size + 2 := by rw [← hW1]; simp
  have hL1 : W1.heap[w.heap.size + 1]? = some (.loop (rec .ready none)) := by
    rw [← hW1]; have := World.alloc_heap_new (w.alloc (.deferred (some []))) (.loop (rec .ready none)); rwa [World.size_alloc] at this
  have hK1 : W1.heap[w.heap.size]? = some (.deferred (some [])) := by
    rw [← hW1]; exact (Below.heap_alloc _ _ _ (by simp)).trans (World.alloc_heap_new w _)
  have hw1 : Below w.heap.size w W1 := by rw [← hW1]; exact ((Below.refl _ w).alloc (Nat.le_refl _) _).alloc (by simp) _
  have hI1 : I [] W1 := hI _ _ _ h0 hw1
  have hb1 : Below w0.heap.size w0 W1 := hb0.trans (hw1.mono hb0.size)
  have hput : ∀ (X : World) (k : Nat) (o : Obj) (B : Nat), B ≤ k → Below B X (X.putObj k o) := fun X k o B hB =>
    ⟨rfl, rfl, rfl, by simp, fun i hi => World.putObj_heap_other (by omega)⟩
  refine ⟨w.heap.size + 1, [{ target := .collected w.heap.size, args := #[] }], W1, { target := .fn (.func gf) lb, args := #[.func (.yield (w.heap.size + 1)) #[] #[]] }, W1, gf,
    #[.func (.yield (w.heap.size + 1)) #[] #[]] ++ lb, W1, ?_, ?_, ?_, ?_, fun _ => h1, ?_⟩
  · rw [← hW1, hrec]; exact run_enterLoop_outer _ _ _ _ _
  · simp only [resolve, hg]
    simp [go_sem]
  · intro f' hf'; simp [Target.leads] at hf'; subst hf'; exact hFg
  · simp [invoke, go_sem, eg]
  · refine (hseq (w.heap.size + 1)
      (fun pre W => (I pre W ∧ W1.heap.size ≤ W.heap.size) ∧ W.heap[w.heap.size + 1]? = some (.loop (rec .ready none)) ∧ W.heap[w.heap.size]? = some (.deferred (some [])))
      (fun pre W => ∃ c, (Ix c pre W ∧ W1.heap.size ≤ W.heap.size) ∧ W.heap[w.heap.size + 1]? = some (.loop (rec .done (some c))) ∧ W.heap[w.heap.size]? = some (.deferred (some [])))
      W1 hb1 ?_ ?_ ?_ ⟨⟨hI1, Nat.le_refl _⟩, hL1, hK1⟩).mono ?_
    · rintro s X Y ⟨⟨hi, hsz⟩, hl, hk⟩ hb
      exact ⟨⟨hI s X Y hi (hb.mono (by omega)), Nat.le_trans hsz hb.size⟩, (hb.block _ (by omega)).trans hl, (hb.block _ (by omega)).trans hk⟩
    · rintro s X Y ⟨c, ⟨hi, hsz⟩, hl, hk⟩ hb
      exact ⟨c, ⟨hIx c s X Y hi (hb.mono (by omega)), Nat.le_trans hsz hb.size⟩, (hb.block _ (by omega)).trans hl, (hb.block _ (by omega)).trans hk⟩
    · -- one round
      rintro pre x W ⟨⟨hi, hsz⟩, hl, hk⟩ hlen
      have hlt : w.heap.size + 1 < W.heap.size := (Array.getElem?_eq_some_iff.1 hl).1
      have hy := run_yield (P := P) (args := encs x) hl (by rw [hrec]; exact hps x)
      rw [hrec] at hy
      refine ⟨fn, _, assign, body, hy, roundIn_of_wpIn hfn (hassign _ x W _ ?_)⟩
      refine ⟨_, run_beginRound hl (by rw [hrec]), ?_⟩
      have hl2 : (W.putObj (w.heap.size + 1) (.loop { rec .ready none with state := .busy })).heap[w.heap.size + 1]? = some (.loop { rec .ready none with state := .busy }) := World.putObj_heap_same hlt
      have hk2 : (W.putObj (w.heap.size + 1) (.loop { rec .ready none with state := .busy })).heap[w.heap.size]? = some (.deferred (some [])) := (World.putObj_heap_other (by omega)).trans hk
      have hsz2 : (W.putObj (w.heap.size + 1) (.loop { rec .ready none with state := .busy })).heap.size = W.heap.size := by simp
      refine wpIn_mono (hbody _ pre x _ (by simp; omega) (hI _ _ _ hi (hput W _ _ _ (by omega))) hlen) ?_
      have fin : ∀ (jump : Option Code) (W3 : World), KeepsFrom w.heap.size (W.putObj (w.heap.size + 1) (.loop { rec .ready none with state := .busy })) W3 →
          (Instr.endRound (w.heap.size + 1) jump).run P W3 = .ok (.bool jump.isNone) (W3.putObj (w.heap.size + 1) (.loop (rec (if jump.isNone then .ready else .done) jump))) ∧
          (W3.putObj (w.heap.size + 1) (.loop (rec (if jump.isNone then .ready else .done) jump))).heap[w.heap.size + 1]? = some (.loop (rec (if jump.isNone then .ready else .done) jump)) ∧
          (W3.putObj (w.heap.size + 1) (.loop (rec (if jump.isNone then .ready else .done) jump))).heap[w.heap.size]? = some (.deferred (some [])) ∧
          KeepsFrom W1.heap.size W (W3.putObj (w.heap.size + 1) (.loop (rec (if jump.isNone then .ready else .done) jump))) := fun jump W3 hk3 => by
        have hl3 := hk3.same _ _ (by omega) hl2 rfl
        have := run_endRound (P := P) jump hl3
        rw [hrec] at this ⊢
        refine ⟨this, World.putObj_heap_same (Array.getElem?_eq_some_iff.1 hl3).1, (World.putObj_heap_other (by omega)).trans (hk3.same _ _ (Nat.le_refl _) hk2 rfl), ?_⟩
        refine ⟨by have := hk3.size; simp at this ⊢; exact this, fun k o hkB hko hoc => ?_⟩
        exact (World.putObj_heap_other (by omega)).trans (hk3.same k o (by omega) ((World.putObj_heap_other (by omega)).trans hko) hoc)
      rintro e a3 W3 hp
      cases e with
      | normal =>
        obtain ⟨hk3, hkp3, hi3⟩ := hp
        obtain ⟨hr, hl4, hk4, hs4⟩ := fin none W3 hk3
        exact ⟨_, _, hr, hs4, .inl ⟨rfl, ⟨⟨hI _ _ _ hi3 (hput W3 _ _ _ (by omega)), Nat.le_trans hsz hs4.size⟩, hl4, hk4⟩, hKt (hKt (hKb W _ _ (by omega)) hkp3) (hKb W3 _ _ (by omega))⟩⟩
      | ret =>
        obtain ⟨hk3, hi3⟩ := hp
        obtain ⟨hr, hl4, hk4, hs4⟩ := fin (some .ret) W3 hk3
        exact ⟨_, _, hr, hs4, .inr ⟨rfl, .ret, ⟨hIx _ _ _ _ hi3 (hput W3 _ _ _ (by omega)), Nat.le_trans hsz hs4.size⟩, hl4, hk4⟩⟩
      | exit id =>
        obtain ⟨hk3, hi3⟩ := hp
        obtain ⟨hr, hl4, hk4, hs4⟩ := fin (some (.exit id)) W3 hk3
        exact ⟨_, _, hr, hs4, .inr ⟨rfl, .exit id, ⟨hIx _ _ _ _ hi3 (hput W3 _ _ _ (by omega)), Nat.le_trans hsz hs4.size⟩, hl4, hk4⟩⟩
      | goto t =>
        obtain ⟨hk3, hi3⟩ := hp
        obtain ⟨hr, hl4, hk4, hs4⟩ := fin (some (.goto t)) W3 hk3
        exact ⟨_, _, hr, hs4, .inr ⟨rfl, .goto t, ⟨hIx _ _ _ _ hi3 (hput W3 _ _ _ (by omega)), Nat.le_trans hsz hs4.size⟩, hl4, hk4⟩⟩
      | panic ch => exact hp.elim
      | outgrown => exact hp.elim
    · -- behind the iterator
      rintro e W2 ⟨⟨v, rfl⟩, (⟨xs, hS, ⟨hi, hsz⟩, hl, hk⟩ | ⟨pre, hSp, c, ⟨hi, hsz⟩, hl, hk⟩)⟩
      · exact ⟨none, _, by have := run_endLoop (P := P) hl (by rw [hrec]; simp); rw [hrec] at this; exact this, hdone _ xs _ rfl (by simp; omega) hS (hI _ _ _ hi (hput W2 _ _ _ (by omega))) ((World.putObj_heap_other (by omega)).trans hk)⟩
      · exact ⟨some c, _, by have := run_endLoop (P := P) hl (by rw [hrec]; simp); rw [hrec] at this; exact this, hstop _ c pre _ rfl (by simp; omega) hSp (hIx c _ _ _ hi (hput W2 _ _ _ (by omega))) ((World.putObj_heap_other (by omega)).trans hk)⟩

end Go.Proofs.YtdlogklhekopgaaDoor
