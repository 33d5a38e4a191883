/- Contracts of the program's functions: a part of the proof. -/
import Derived.Test.YtdlogklhekopgaaDoorGW
set_option linter.unusedVariables false
set_option linter.unusedSimpArgs false

namespace Go.Proofs.YtdlogklhekopgaaDoor
open Go.RowKit Go.Shelf Go.Proofs
attribute [local go_sem] Oper.semAt_some

theorem lastOf_take (es : List (Int × Int)) (k : Nat) (hk : k < es.length) : Lt.lastOf (-1, -1) (es.take (k + 1)) = es[k]?.getD (0, 0) := by
  rw [List.take_succ_eq_append_getElem hk, Lt.lastOf_append, List.getElem?_eq_getElem hk]; rfl

theorem edge_bad {n : Int} {last e : Int × Int} (h : e.1 < 0 ∨ e.2 ≤ e.1 ∨ n ≤ e.2 ∨ Lt.cmp2 e.1 e.2 last.1 last.2 ≤ 0) : Lt.edgeOk n last e = false := by
  unfold Lt.edgeOk
  rcases h with h | h | h | h <;> simp [h]
theorem edge_good {n : Int} {last e : Int × Int} (h1 : ¬ e.1 < 0) (h2 : ¬ e.2 ≤ e.1) (h3 : ¬ n ≤ e.2) (h4 : ¬ Lt.cmp2 e.1 e.2 last.1 last.2 ≤ 0) : Lt.edgeOk n last e = true := by
  unfold Lt.edgeOk; simp [h1, h2, h3, h4]
theorem cmp2_neg {a0 a1 b0 b1 : Int} (h : a0 < b0 ∨ (a0 = b0 ∧ a1 ≤ b1)) : Lt.cmp2 a0 a1 b0 b1 ≤ 0 := by
  have hlt : ∀ {a b : Int}, a < b → Lt.cmpI a b = -1 := fun {a b} h => by unfold Lt.cmpI; rw [if_pos h]
  have heq : ∀ {a : Int}, Lt.cmpI a a = 0 := fun {a} => by unfold Lt.cmpI; rw [if_neg (by omega), if_neg (by omega)]
  unfold Lt.cmp2
  rcases h with h | ⟨rfl, h⟩
  · rw [hlt h, if_pos (by decide)]; decide
  · rw [heq, if_neg (by decide)]
    by_cases h2 : a1 < b1
    · rw [hlt h2]; decide
    · obtain rfl : a1 = b1 := by omega
      rw [heq]; decide

theorem edges_bad_at {n : Int} {es : List (Int × Int)} {k : Nat} (hk : k < es.length) (h : Lt.edgeOk n (Lt.lastOf (-1, -1) (es.take k)) (es[k]?.getD (0, 0)) = false) : Lt.edgesOk n (-1, -1) es = false := by
  rw [← List.take_append_drop k es, Lt.edgesOk_append, List.drop_eq_getElem_cons hk]
  have e : es[k]?.getD (0, 0) = es[k] := by simp [hk]
  rw [e] at h
  simp only [Lt.edgesOk, h, Bool.false_and, Bool.and_false]
theorem edges_good_at {n : Int} {es : List (Int × Int)} {k : Nat} (hk : k < es.length) (h0 : Lt.edgesOk n (-1, -1) (es.take k) = true) (h : Lt.edgeOk n (Lt.lastOf (-1, -1) (es.take k)) (es[k]?.getD (0, 0)) = true) : Lt.edgesOk n (-1, -1) (es.take (k + 1)) = true := by
  have e : es[k]?.getD (0, 0) = es[k] := by simp [hk]
  rw [e] at h
  rw [List.take_succ_eq_append_getElem hk, Lt.edgesOk_append, h0]
  simp [Lt.edgesOk, h]

theorem code_bad_edges {n : Int} {es : List (Int × Int)} (h1 : 1 ≤ n) (h16 : n ≤ 16) (h : Lt.edgesOk n (-1, -1) es = false) : code n es [] = 40 := by
  unfold code; rw [if_neg (by omega), if_pos h]
theorem code_good_edges {n : Int} {es : List (Int × Int)} (h1 : 1 ≤ n) (h16 : n ≤ 16) (h : Lt.edgesOk n (-1, -1) es = true) : code n es [] = 0 := by
  unfold code; rw [if_neg (by omega), if_neg (by rw [h]; decide)]; simp
theorem code_arg {n : Int} {es : List (Int × Int)} {xs : List Int} (h : n < 1 ∨ 16 < n) : code n es xs = 1 := by unfold code; rw [if_pos h]

set_option maxRecDepth 100000 in
set_option maxHeartbeats 16000000 in
/-- ref.Check -/
theorem refCheck_any (n : Int) (lv : Value) (es : List (Int × Int)) (w : World) (hlen : es.length ≤ 1000) (hes : ReadsP w lv es) :
    Calls Tryd.prog 48 #[.int .i64 n, lv] w fun e w' => e = .returned (.int .i64 (code n es [] : Nat)) ∧ Below w.heap.size w w' := by
  obtain ⟨ad, cap, rfl, hcells⟩ := hes.general
  have HC := Lib.hid hcells
  clear hes hcells
  by_cases hn : n < 1
  · rw [code_arg (.inl hn)]
    go_enter Tryd.func48, Tryd.ntmps48
    go_wp2
    go_ret
    exact ⟨rfl, Below.refl _ _⟩
  · by_cases hn2 : 16 < n
    · rw [code_arg (.inr hn2)]
      go_enter Tryd.func48, Tryd.ntmps48
      go_wp2
      go_ret
      exact ⟨rfl, Below.refl _ _⟩
    · have hbad := Lib.hid (fun h => code_bad_edges (n := n) (es := es) (by omega) (by omega) h)
      have hgood := Lib.hid (fun h => code_good_edges (n := n) (es := es) (by omega) (by omega) h)
      generalize code n es [] = cd at *
      go_enter Tryd.func48, Tryd.ntmps48
      go_wp2
      go_loopw [5] (fun i W => ∃ k : Nat, i = .int .i64 k ∧ k ≤ es.length ∧ Hid (Lt.edgesOk n (-1, -1) (es.take k) = true) ∧ Below w.heap.size w W)
        (fun i _ => es.length - (intOf i).toNat)
      case atStart => exact ⟨0, rfl, Nat.zero_le _, Lib.hid rfl, Below.refl _ _⟩
      case round =>
        obtain ⟨k, rfl, hk, hok, hB⟩ := hrel
        by_cases hlt : k < es.length
        · obtain ⟨g, off, rfl, hgw, hc1, hc2⟩ := HC.out k hlt
          replace hc1 := (hB.cell (p := ⟨g, off + k * 2, none⟩) hgw).trans hc1
          replace hc2 := (hB.cell (p := ⟨g, off + k * 2 + 1, none⟩) hgw).trans hc2
          have hbad' := Lib.hid (fun h => hbad.out (edges_bad_at hlt (edge_bad (n := n) (last := Lt.lastOf (-1, -1) (es.take k)) h)))
          have hgood' := Lib.hid (fun h1 h2 h3 h4 => edges_good_at hlt hok.out (edge_good (n := n) (last := Lt.lastOf (-1, -1) (es.take k)) (e := es[k]?.getD (0, 0)) h1 h2 h3 h4))
          have hprev : Hid (0 < k → ∃ p0 p1 : Int, ∃ q : Nat, k = q + 1 ∧ wr.cell? ⟨g, off + q * 2, none⟩ = some (.int .i64 p0) ∧ wr.cell? ⟨g, off + q * 2 + 1, none⟩ = some (.int .i64 p1) ∧ Lt.lastOf (-1, -1) (es.take k) = (p0, p1)) := Lib.hid (fun h0 => by
            obtain ⟨q, rfl⟩ : ∃ q, k = q + 1 := ⟨k - 1, by omega⟩
            obtain ⟨g', off', he, hgw', hd1, hd2⟩ := HC.out q (by omega)
            obtain ⟨rfl, rfl⟩ : g = g' ∧ off = off' := by simpa using he
            exact ⟨_, _, q, rfl, (hB.cell (p := ⟨g, off + q * 2, none⟩) hgw').trans hd1, (hB.cell (p := ⟨g, off + q * 2 + 1, none⟩) hgw').trans hd2, by rw [lastOf_take es q (by omega)]⟩)
          have hlast0 : Hid (k = 0 → Lt.lastOf (-1, -1) (es.take k) = (-1, -1)) := Lib.hid (fun h => by rw [h]; rfl)
          generalize Lt.lastOf (-1, -1) (es.take k) = last at *
          generalize es[k]?.getD (0, 0) = ed at *
          obtain ⟨a, b⟩ := ed
          simp only at hc1 hc2 hbad' hgood'
          clear hbad hgood hok
          by_cases ha : a < 0
          · have hcd := Lib.hid (hbad'.out (.inl ha))
            clear hbad' hgood' hprev hlast0
            go_wp2
            go_quiet (fail)
            go_wp2
            go_ret
            exact ⟨by rw [hcd.out]; rfl, hB.trans ⟨rfl, rfl, rfl, Nat.le_refl _, fun _ _ => rfl⟩⟩
          · by_cases hab : b ≤ a
            · have hcd := Lib.hid (hbad'.out (.inr (.inl hab)))
              clear hbad' hgood' hprev hlast0
              go_wp2
              go_quiet (fail)
              go_wp2
              go_ret
              exact ⟨by rw [hcd.out]; rfl, hB.trans ⟨rfl, rfl, rfl, Nat.le_refl _, fun _ _ => rfl⟩⟩
            · by_cases hnb : n ≤ b
              · have hcd := Lib.hid (hbad'.out (.inr (.inr (.inl hnb))))
                clear hbad' hgood' hprev hlast0
                go_wp2
                go_quiet (fail)
                go_wp2
                go_ret
                exact ⟨by rw [hcd.out]; rfl, hB.trans ⟨rfl, rfl, rfl, Nat.le_refl _, fun _ _ => rfl⟩⟩
              · by_cases hk0 : k = 0
                · have hnx := Lib.hid (hgood'.out ha hab hnb (by rw [hlast0.out hk0]; exact Lt.cmp2_pos (.inl (by simp only; omega))))
                  have hk0I : ¬ (0 : Int) < (k : Int) := by omega
                  clear hbad' hgood' hprev hlast0 hk0
                  go_wp2
                  go_quiet (fail)
                  go_wp2
                  go_roundw
                  case rel => exact ⟨k + 1, by go_num, by omega, hnx, hB.trans ⟨rfl, rfl, rfl, Nat.le_refl _, fun _ _ => rfl⟩⟩
                  case measure => simp [intOf]; omega
                · obtain ⟨p0, p1, q, hq, d1, d2, hl⟩ := hprev.out (by omega)
                  have hk0I : (0 : Int) < (k : Int) := by omega
                  have hkq : ((k : Nat) : Int) - 1 = (q : Int) := by omega
                  have hql : q < es.length := by omega
                  rw [hl] at hbad' hgood'
                  simp only at hbad' hgood'
                  have hfour : a < p0 ∨ (¬ a < p0 ∧ p0 = a ∧ b ≤ p1) ∨ (¬ a < p0 ∧ ¬ p0 = a) ∨ (¬ a < p0 ∧ p0 = a ∧ ¬ b ≤ p1) := by omega
                  have hq' := Lib.hid hq
                  clear hl hq hprev hlast0
                  rcases hfour with hr | ⟨hr1, hr2, hr3⟩ | ⟨hr1, hr2⟩ | ⟨hr1, hr2, hr3⟩
                  · have hcd := Lib.hid (hbad'.out (.inr (.inr (.inr (cmp2_neg (.inl hr))))))
                    clear hbad' hgood'
                    go_wp2
                    go_quiet (fail)
                    go_wp2
                    go_ret
                    exact ⟨by rw [hcd.out]; rfl, hB.trans ⟨rfl, rfl, rfl, Nat.le_refl _, fun _ _ => rfl⟩⟩
                  · have hcd := Lib.hid (hbad'.out (.inr (.inr (.inr (cmp2_neg (.inr ⟨hr2.symm, hr3⟩))))))
                    have hr2I : ((p0 == a) = true) := by simpa using hr2
                    clear hbad' hgood' hr2
                    go_wp2
                    go_quiet (fail)
                    go_wp2
                    go_ret
                    exact ⟨by rw [hcd.out]; rfl, hB.trans ⟨rfl, rfl, rfl, Nat.le_refl _, fun _ _ => rfl⟩⟩
                  · have hnx := Lib.hid (hgood'.out ha hab hnb (Lt.cmp2_pos (.inl (by omega))))
                    have hr2I : ((p0 == a) = false) := by simpa using hr2
                    clear hbad' hgood' hr2
                    go_wp2
                    go_quiet (fail)
                    go_wp2
                    go_roundw
                    case rel => exact ⟨k + 1, by go_num, by omega, hnx, hB.trans ⟨rfl, rfl, rfl, Nat.le_refl _, fun _ _ => rfl⟩⟩
                    case measure => simp [intOf]; omega
                  · have hnx := Lib.hid (hgood'.out ha hab hnb (Lt.cmp2_pos (.inr ⟨hr2.symm, by omega⟩)))
                    have hr2I : ((p0 == a) = true) := by simpa using hr2
                    clear hbad' hgood' hr2
                    go_wp2
                    go_quiet (fail)
                    go_wp2
                    go_roundw
                    case rel => exact ⟨k + 1, by go_num, by omega, hnx, hB.trans ⟨rfl, rfl, rfl, Nat.le_refl _, fun _ _ => rfl⟩⟩
                    case measure => simp [intOf]; omega
        · have hcd := Lib.hid (hgood.out (by have := hok.out; rwa [List.take_of_length_le (by omega)] at this))
          clear hbad hgood hok
          go_wp2
          go_ret
          exact ⟨by rw [hcd.out]; rfl, hB⟩

end Go.Proofs.YtdlogklhekopgaaDoor

namespace Go.Proofs.YtdlogklhekopgaaDoor
open Go.RowKit Go.Shelf Go.Proofs
attribute [local go_sem] Oper.semAt_some

set_option maxRecDepth 100000 in
set_option maxHeartbeats 4000000 in
/-- Hardest, of what is no graph -/
theorem hardest_bad (n : Int) (ev : Value) (es : List (Int × Int)) (own : Bool) (w : World) (hlen : es.length ≤ 1000) (hes : ReadsP w ev es) (hc : code n es [] ≠ 0) :
    Calls Tryd.prog 45 #[.int .i64 n, ev, .bool own] w fun e w' => e = .returned (.tuple #[.int .i64 0, .int .i64 0, .int .i64 (code n es [] : Nat)]) ∧ Below w.heap.size w w' := by
  have ho := Lib.hid (open_bad hc ev _ own w hlen (by simp) hes (reads_nil w))
  generalize code n es [] = c at *
  have hct : (((c : Nat) : Int) == 0) = false := by simpa using hc
  clear hc hes
  go_enter Tryd.func45, Tryd.ntmps45
  go_wp2_with fail
  refine ho.out.mono ?_
  rintro e w1 ⟨rfl, hb⟩
  clear ho
  go_wp2
  go_ret3
  exact ⟨rfl, hb⟩

theorem code_more {n : Int} {es : List (Int × Int)} (h : code n es [] ≠ 0) (xs : List Int) : code n es xs = code n es [] := by
  unfold code at *
  by_cases h1 : n < 1 ∨ 16 < n
  · rw [if_pos h1, if_pos h1]
  · rw [if_neg h1] at h
    rw [if_neg h1, if_neg h1]
    by_cases h2 : Lt.edgesOk n (-1, -1) es = false
    · rw [if_pos h2, if_pos h2]
    · rw [if_neg h2] at h; simp at h
theorem code_bad_set {n : Int} {es : List (Int × Int)} (h : code n es [] = 0) {xs : List Int} {x : Int} (hx : x ∈ xs) (hb : x < 0 ∨ ((2 ^ n.toNat : Nat) : Int) ≤ x) : code n es xs = 1 := by
  unfold code at *
  by_cases h1 : n < 1 ∨ 16 < n
  · rw [if_pos h1]
  · rw [if_neg h1] at h ⊢
    by_cases h2 : Lt.edgesOk n (-1, -1) es = false
    · rw [if_pos h2] at h; cases h
    · rw [if_neg h2]
      have : xs.any (badSet (2 ^ n.toNat)) = true := by
        rw [List.any_eq_true]
        refine ⟨x, hx, ?_⟩
        unfold badSet
        rcases hb with h | h
        · simp [h]
        · rw [decide_eq_true h]; simp
      rw [this]; rfl

/-- what the calls answer where something is wrong -/
structure Bad (n : Int) (es : List (Int × Int)) (x : Int) (W : Nat) : Prop where
  ne : W ≠ 0
  c1 : code n es [x] = W
  c2 : code n es [x, 0] = W
  c3 : code n es [0, x] = W

theorem Bad.effect {n x : Int} {es : List (Int × Int)} {W : Nat} (h : Bad n es x W) (v : Value) (own : Bool) (w : World) (hlen : es.length ≤ 1000) (hv : ReadsP w v es) (hT : Tab w) (hw : 1 < w.heap.size) :
    Calls Tryd.prog 32 #[.int .i64 n, v, .bool own, .int .i64 x] w fun e w' => e = .returned (.tuple #[.int .i64 0, .int .i64 (W : Nat)]) ∧ Below w.heap.size w w' := by
  refine (effect_api n x v es own w hlen hv hT hw).mono ?_
  rw [h.c1, if_neg h.ne]
  exact fun e w' h => h
theorem Bad.unsolved {n x : Int} {es : List (Int × Int)} {W : Nat} (h : Bad n es x W) (own : Bool) : solved n es own x = false := by
  unfold solved; rw [h.c1]; simp [h.ne]
theorem Bad.solve {n x : Int} {es : List (Int × Int)} {W : Nat} (h : Bad n es x W) (v : Value) (own : Bool) (w : World) (hlen : es.length ≤ 1000) (hv : ReadsP w v es) :
    Calls Tryd.prog 39 #[.int .i64 n, v, .bool own, .int .i64 x] w fun e w' => e = .returned (.tuple #[.int .i64 0, .bool false, .int .i64 (W : Nat)]) ∧ Below w.heap.size w w' := by
  refine (solve_api n x v es own w hlen hv).mono ?_
  rw [h.c1, h.unsolved, if_neg (by decide)]
  exact fun e w' h => h
theorem Bad.fewest {n x : Int} {es : List (Int × Int)} {W : Nat} (h : Bad n es x W) (v : Value) (own : Bool) (w : World) (hlen : es.length ≤ 1000) (hv : ReadsP w v es) (hT : Tab w) (hw : 1 < w.heap.size) :
    Calls Tryd.prog 36 #[.int .i64 n, v, .bool own, .int .i64 x] w fun e w' => e = .returned (.tuple #[.int .i64 0, .bool false, .int .i64 (W : Nat)]) ∧ Below w.heap.size w w' := by
  refine (fewest_api n x v es own w hlen hv hT hw).mono ?_
  rw [h.c1, h.unsolved, if_neg (by decide)]
  exact fun e w' h => h
theorem Bad.refute {n x : Int} {es : List (Int × Int)} {W : Nat} (h : Bad n es x W) (v : Value) (own : Bool) (w : World) (hlen : es.length ≤ 1000) (hv : ReadsP w v es) :
    Calls Tryd.prog 42 #[.int .i64 n, v, .bool own, .int .i64 x] w fun e w' => e = .returned (.tuple #[.int .i64 0, .bool false, .int .i64 (W : Nat)]) ∧ Below w.heap.size w w' := by
  have hr : refuted n es own x = none := by unfold refuted; rw [if_neg (by rw [h.c1]; exact h.ne)]
  refine (refute_api n x v es own w hlen hv).mono ?_
  rw [h.c1, hr]
  exact fun e w' h => h
theorem Bad.isref1 {n x : Int} {es : List (Int × Int)} {W : Nat} (h : Bad n es x W) (v : Value) (own : Bool) (w : World) (hlen : es.length ≤ 1000) (hv : ReadsP w v es) (hT : Tab w) (hw : 1 < w.heap.size) :
    Calls Tryd.prog 43 #[.int .i64 n, v, .bool own, .int .i64 x, .int .i64 0] w fun e w' => e = .returned (.tuple #[.bool false, .int .i64 (W : Nat)]) ∧ Below w.heap.size w w' := by
  have hr : isRef n es own x 0 = false := by unfold isRef; rw [h.c2]; simp [h.ne]
  refine (isref_api n x 0 v es own w hlen hv hT hw).mono ?_
  rw [h.c2, hr]
  exact fun e w' h => h
theorem Bad.isref2 {n x : Int} {es : List (Int × Int)} {W : Nat} (h : Bad n es x W) (v : Value) (own : Bool) (w : World) (hlen : es.length ≤ 1000) (hv : ReadsP w v es) (hT : Tab w) (hw : 1 < w.heap.size) :
    Calls Tryd.prog 43 #[.int .i64 n, v, .bool own, .int .i64 0, .int .i64 x] w fun e w' => e = .returned (.tuple #[.bool false, .int .i64 (W : Nat)]) ∧ Below w.heap.size w w' := by
  have hr : isRef n es own 0 x = false := by unfold isRef; rw [h.c3]; simp [h.ne]
  refine (isref_api n 0 x v es own w hlen hv hT hw).mono ?_
  rw [h.c3, hr]
  exact fun e w' h => h

set_option maxRecDepth 100000 in
set_option maxHeartbeats 16000000 in
theorem lightChecks_any (n : Int) (lv : Value) (es : List (Int × Int)) (x : Int) (w : World) (hes : ReadsP w lv es) (hcap : ∀ ad n c, lv = .slice ad n c → n ≤ c ∧ n ≤ 9223372036854775807) (hT : Tab w) (hw : 1 < w.heap.size) :
    Calls Tryd.prog 15 #[.int .i64 n, lv, .int .i64 x] w fun e w' => e = .returned (.bool true) ∧ Below w.heap.size w w' := by
  have hbig : es.length ≤ 9223372036854775807 := by
    obtain ⟨ad, cap, e, -⟩ := hes.general
    exact (hcap _ _ _ e).2
  have hown := Lib.hid (own_any lv es w hes (fun ad n c e => (hcap ad n c e).1) hbig)
  have hg130 : (es.take 130).length ≤ 1000 := by rw [List.length_take]; omega
  clear hes hcap hbig
  generalize es.take 130 = g at *
  go_enter Tryd.func15, Tryd.ntmps15
  go_wp2_with fail
  refine hown.out.mono ?_
  rintro e w1 ⟨ad, k, cap, rfl, hk, hp1, -, hb1⟩
  have HP1 := Lib.hid hp1
  have hck := Lib.hid (refCheck_any n _ g w1 hg130 hp1)
  clear hown hk hp1
  go_wp2_with fail
  refine hck.out.mono ?_
  rintro e w2 ⟨rfl, hb2⟩
  have HP2 := Lib.hid (HP1.out.below hb2)
  have hB2 := hb1.trans (hb2.mono hb1.size)
  have hck2 := Lib.hid (check_api n _ g w2 hg130 HP2.out)
  clear hck HP1 hb1 hb2
  by_cases hc0 : code n g [] = 0
  · have hn := code_zero hc0
    obtain ⟨hn1, hn16, -, -⟩ := hn
    obtain ⟨N, rfl⟩ : ∃ N : Nat, n = N := ⟨n.toNat, by omega⟩
    have hwp := wrap_pow N (by omega)
    rw [hc0] at hck2
    have hpl : 2 ^ N ≤ 65536 := Nat.le_trans (Nat.pow_le_pow_right (by decide) (show N ≤ 16 by omega)) (by decide)
    have hmk : Hid (∀ xs : List Int, x ∈ xs → (x < 0 ∨ ((2 ^ N : Nat) : Int) ≤ x) → code (N : Int) g xs = 1) := Lib.hid (fun xs hx hb => code_bad_set hc0 hx (by rw [Int.toNat_natCast]; exact hb))
    have HC0 := Lib.hid hc0
    clear hc0
    have hw2 : 1 < w2.heap.size := by have := hB2.size; omega
    rw [HC0.out]
    generalize 2 ^ N = M at *
    go_wp2_with fail
    refine hck2.out.mono ?_
    rintro e w3 ⟨rfl, hb3⟩
    have HP3 := Lib.hid (HP2.out.below hb3)
    have hB3 := hB2.trans (hb3.mono hB2.size)
    have HT3 := Lib.hid (hT.below hB3 hw)
    have hw3 : 1 < w3.heap.size := by have := hB3.size; omega
    clear hck2 HP2 hb3
    by_cases hx : 0 ≤ x ∧ x < (M : Int)
    · obtain ⟨hx0, hxM⟩ := hx
      have haw := Lib.hid (awake_any w3 HT3.out hw3)
      go_wp2_with fail
      refine haw.out.mono ?_
      rintro e v7 ⟨rfl, hv7⟩
      go_wp2
      go_ret
      exact ⟨rfl, hB3.trans (hv7.mono hB3.size)⟩
    · have hbx : x < 0 ∨ (M : Int) ≤ x := by omega
      have HBD : Hid (Bad (N : Int) g x 1) := Lib.hid ⟨by decide, hmk.out _ (by simp) hbx, hmk.out _ (by simp) hbx, hmk.out _ (by simp) hbx⟩
      rcases (show x < 0 ∨ (0 ≤ x ∧ ¬ x < (M : Int)) by omega) with h1 | ⟨h1, h2⟩
      all_goals (
        clear hbx hx hmk HC0
        have t1 := Lib.hid (HBD.out.effect _ true w3 hg130 HP3.out HT3.out hw3)
        go_wp2_with fail
        refine t1.out.mono ?_
        rintro e v1 ⟨rfl, hv1⟩
        have Q1 := Lib.hid (HP3.out.below hv1)
        have B1 := hB3.trans (hv1.mono hB3.size)
        have t2 := Lib.hid (HBD.out.solve _ true v1 hg130 Q1.out)
        clear t1 HP3 hv1
        go_wp2_with fail
        refine t2.out.mono ?_
        rintro e v2 ⟨rfl, hv2⟩
        have Q2 := Lib.hid (Q1.out.below hv2)
        have B2 := B1.trans (hv2.mono B1.size)
        have t3 := Lib.hid (HBD.out.fewest _ false v2 hg130 Q2.out (hT.below B2 hw) (by have := B2.size; omega))
        clear t2 Q1 hv2
        go_wp2_with fail
        refine t3.out.mono ?_
        rintro e v3 ⟨rfl, hv3⟩
        have Q3 := Lib.hid (Q2.out.below hv3)
        have B3 := B2.trans (hv3.mono B2.size)
        have t4 := Lib.hid (HBD.out.refute _ true v3 hg130 Q3.out)
        clear t3 Q2 hv3
        go_wp2_with fail
        refine t4.out.mono ?_
        rintro e v4 ⟨rfl, hv4⟩
        have Q4 := Lib.hid (Q3.out.below hv4)
        have B4 := B3.trans (hv4.mono B3.size)
        have t5 := Lib.hid (HBD.out.isref1 _ true v4 hg130 Q4.out (hT.below B4 hw) (by have := B4.size; omega))
        clear t4 Q3 hv4
        go_wp2_with fail
        refine t5.out.mono ?_
        rintro e v5 ⟨rfl, hv5⟩
        have Q5 := Lib.hid (Q4.out.below hv5)
        have B5 := B4.trans (hv5.mono B4.size)
        have t6 := Lib.hid (HBD.out.isref2 _ true v5 hg130 Q5.out (hT.below B5 hw) (by have := B5.size; omega))
        clear t5 Q4 hv5
        go_wp2_with fail
        refine t6.out.mono ?_
        rintro e v6 ⟨rfl, hv6⟩
        have B6 := B5.trans (hv6.mono B5.size)
        have haw := Lib.hid (awake_any v6 (hT.below B6 hw) (by have := B6.size; omega))
        clear t6 Q5 hv6
        go_wp2_with fail
        refine haw.out.mono ?_
        rintro e v7 ⟨rfl, hv7⟩
        go_wp2
        go_ret
        exact ⟨rfl, B6.trans (hv7.mono B6.size)⟩
        )
  · have HBD : Hid (Bad n g x (code n g [])) := Lib.hid ⟨hc0, code_more hc0 _, code_more hc0 _, code_more hc0 _⟩
    have eQ := Lib.hid (fun W hv => quiet_api n (.slice ad k cap) g true W hg130 hv)
    have eM := Lib.hid (fun W hv => reachable_api n (.slice ad k cap) g true W hg130 hv)
    have eH := Lib.hid (fun W hv => hardest_bad n (.slice ad k cap) g false W hg130 hv hc0)
    have hq : quietT n g true = [] := by unfold quietT; rw [if_neg hc0]
    rw [hq] at eQ
    rw [if_neg hc0] at eM
    have hcI : (((code n g [] : Nat) : Int) == 0) = false := by simpa using hc0
    clear hc0 hq
    generalize code n g [] = cc at *
    go_wp2_with fail
    refine hck2.out.mono ?_
    rintro e w3 ⟨rfl, hb3⟩
    have HP3 := Lib.hid (HP2.out.below hb3)
    have hB3 := hB2.trans (hb3.mono hB2.size)
    have eQ' := Lib.hid (eQ.out w3 HP3.out)
    clear hck2 HP2 hb3 eQ
    go_wp2_with fail
    refine eQ'.out.mono ?_
    rintro e w4 ⟨vq, rfl, hrq, hb4⟩
    obtain ⟨aq, cq, rfl, -⟩ := elems_of_row hrq
    have HP4 := Lib.hid (HP3.out.below hb4)
    have hB4 := hB3.trans (hb4.mono hB3.size)
    have eM' := Lib.hid (eM.out w4 HP4.out)
    clear eQ' HP3 hb4 hrq eM
    simp only [List.length_nil]
    go_wp2_with fail
    refine eM'.out.mono ?_
    rintro e w5 ⟨rfl, hb5⟩
    have HP5 := Lib.hid (HP4.out.below hb5)
    have hB5 := hB4.trans (hb5.mono hB4.size)
    have eH' := Lib.hid (eH.out w5 HP5.out)
    clear eM' HP4 hb5 eH
    go_wp2_with fail
    refine eH'.out.mono ?_
    rintro e w6 ⟨rfl, hb6⟩
    have HP6 := Lib.hid (HP5.out.below hb6)
    have hB6 := hB5.trans (hb6.mono hB5.size)
    have HT6 := Lib.hid (hT.below hB6 hw)
    have hw6 : 1 < w6.heap.size := by have := hB6.size; omega
    clear eH' HP5 hb6
    have t1 := Lib.hid (HBD.out.effect _ true w6 hg130 HP6.out HT6.out hw6)
    go_wp2_with fail
    refine t1.out.mono ?_
    rintro e v1 ⟨rfl, hv1⟩
    have Q1 := Lib.hid (HP6.out.below hv1)
    have B1 := hB6.trans (hv1.mono hB6.size)
    have t2 := Lib.hid (HBD.out.solve _ true v1 hg130 Q1.out)
    clear t1 HP6 hv1
    go_wp2_with fail
    refine t2.out.mono ?_
    rintro e v2 ⟨rfl, hv2⟩
    have Q2 := Lib.hid (Q1.out.below hv2)
    have B2 := B1.trans (hv2.mono B1.size)
    have t3 := Lib.hid (HBD.out.fewest _ false v2 hg130 Q2.out (hT.below B2 hw) (by have := B2.size; omega))
    clear t2 Q1 hv2
    go_wp2_with fail
    refine t3.out.mono ?_
    rintro e v3 ⟨rfl, hv3⟩
    have Q3 := Lib.hid (Q2.out.below hv3)
    have B3 := B2.trans (hv3.mono B2.size)
    have t4 := Lib.hid (HBD.out.refute _ true v3 hg130 Q3.out)
    clear t3 Q2 hv3
    go_wp2_with fail
    refine t4.out.mono ?_
    rintro e v4 ⟨rfl, hv4⟩
    have Q4 := Lib.hid (Q3.out.below hv4)
    have B4 := B3.trans (hv4.mono B3.size)
    have t5 := Lib.hid (HBD.out.isref1 _ true v4 hg130 Q4.out (hT.below B4 hw) (by have := B4.size; omega))
    clear t4 Q3 hv4
    go_wp2_with fail
    refine t5.out.mono ?_
    rintro e v5 ⟨rfl, hv5⟩
    have Q5 := Lib.hid (Q4.out.below hv5)
    have B5 := B4.trans (hv5.mono B4.size)
    have t6 := Lib.hid (HBD.out.isref2 _ true v5 hg130 Q5.out (hT.below B5 hw) (by have := B5.size; omega))
    clear t5 Q4 hv5
    go_wp2_with fail
    refine t6.out.mono ?_
    rintro e v6 ⟨rfl, hv6⟩
    have B6 := B5.trans (hv6.mono B5.size)
    have haw := Lib.hid (awake_any v6 (hT.below B6 hw) (by have := B6.size; omega))
    clear t6 Q5 hv6
    go_wp2_with fail
    refine haw.out.mono ?_
    rintro e v7 ⟨rfl, hv7⟩
    go_wp2
    go_ret
    exact ⟨rfl, B6.trans (hv7.mono B6.size)⟩

end Go.Proofs.YtdlogklhekopgaaDoor
