/- Contracts of the program's functions: a part of the proof. -/
import Derived.Test.YtdlogklhekopgaaDoorGV
import Derived.Test.YtdlogklhekopgaaDoorPD
import Derived.Laws.AppendOwnNone
set_option linter.unusedVariables false
set_option linter.unusedSimpArgs false

namespace Go.Proofs.YtdlogklhekopgaaDoor
open Go.RowKit Go.Shelf Go.Proofs
attribute [local go_sem] Oper.semAt_some

/-- pairs of whole numbers as cells -/
def picells (L : List (Int × Int)) : List Value := L.flatMap fun e => [.int .i64 e.1, .int .i64 e.2]
theorem picells_length (L : List (Int × Int)) : (picells L).length = L.length * 2 := by
  induction L with
  | nil => rfl
  | cons e L ih => simp only [picells, List.flatMap_cons, List.length_append, List.length_cons, List.length_nil] at *; omega
theorem picells_one (L : List (Int × Int)) : ∀ u ∈ picells L, u.oneCell' = true := by
  intro u hu
  simp only [picells, List.mem_flatMap] at hu
  obtain ⟨e, _, hu⟩ := hu
  rcases List.mem_cons.1 hu with rfl | hu
  · rfl
  · rw [List.mem_singleton] at hu; subst hu; rfl
theorem picells_at : ∀ (L : List (Int × Int)) (j : Nat), j < L.length → (picells L)[j * 2]? = some (.int .i64 (L[j]?.getD (0, 0)).1) ∧ (picells L)[j * 2 + 1]? = some (.int .i64 (L[j]?.getD (0, 0)).2)
  | [], j, h => by simp at h
  | e :: L, 0, _ => ⟨rfl, rfl⟩
  | e :: L, j + 1, h => by
    obtain ⟨h1, h2⟩ := picells_at L j (by simpa using h)
    have e1 : picells (e :: L) = [.int .i64 e.1, .int .i64 e.2] ++ picells L := rfl
    rw [e1]
    constructor
    · rw [List.getElem?_append_right (by simp; omega)]
      simp only [List.length_cons, List.length_nil, List.getElem?_cons_succ]
      rw [show (j + 1) * 2 - (0 + 1 + 1) = j * 2 by omega]; exact h1
    · rw [List.getElem?_append_right (by simp; omega)]
      simp only [List.length_cons, List.length_nil, List.getElem?_cons_succ]
      rw [show (j + 1) * 2 + 1 - (0 + 1 + 1) = j * 2 + 1 by omega]; exact h2
theorem readsP_of_rowI {w : World} {base : Nat} {e : TypeId} {v : Value} {B : List (Int × Int)} (h : w.ownsRow base e 2 v B.length (picells B)) : ReadsP w v B := by
  rcases h.2 with ⟨rfl, h0⟩ | ⟨g, cap, cur, rfl, hg, hh, hnc, hcm, hcs, htk⟩
  · exact .inl ⟨rfl, List.length_eq_zero_iff.1 h0⟩
  · have hgl : g < w.heap.size := (Array.getElem?_eq_some_iff.1 hh).1
    refine .inr ⟨g, 0, cap, rfl, hgl, fun j hj => ?_⟩
    obtain ⟨h1, h2⟩ := picells_at B j hj
    rw [← htk] at h1 h2
    rw [List.getElem?_take, if_pos (by omega)] at h1 h2
    constructor
    · simp only [World.cell?, hh, Nat.zero_add]; simpa using h1
    · simp only [World.cell?, hh, Nat.zero_add]; simpa using h2

theorem cells_of_reads {w : World} {a : Addr} {n cap : Nat} {es : List (Int × Int)} (h : ReadsP w (.slice (some a) n cap) es) (m : Nat) (hm : m ≤ es.length) :
    ∀ (j : Nat) (v : Value), (picells (es.take m))[j]? = some v → w.cell? (a.add j) = some v := by
  intro j v hv
  have hj : j < (es.take m).length * 2 := by rw [← picells_length]; exact (List.getElem?_eq_some_iff.1 hv).1
  rw [List.length_take, Nat.min_eq_left hm] at hj
  rcases h with ⟨h, _⟩ | ⟨b, off, cap', he, hb, hc⟩
  · simp at h
  · obtain ⟨rfl, -, -⟩ : a = ⟨b, off, none⟩ ∧ n = es.length ∧ cap = cap' := by simpa using he
    obtain ⟨k1, k2⟩ := picells_at (es.take m) (j / 2) (by rw [List.length_take]; omega)
    obtain ⟨c1, c2⟩ := hc (j / 2) (by omega)
    have e : (es.take m)[j / 2]?.getD (0, 0) = es[j / 2]?.getD (0, 0) := by rw [List.getElem?_take, if_pos (by omega)]
    rw [e] at k1 k2
    have ha : (⟨b, off, none⟩ : Addr).add j = ⟨b, off + j, none⟩ := by
      rcases j with _ | j <;> simp [Addr.add]
    rw [ha]
    rcases Nat.mod_two_eq_zero_or_one j with hp | hp
    · have ej : j / 2 * 2 = j := by omega
      rw [ej] at k1 c1
      rw [k1] at hv
      rw [← hv]; exact c1
    · have ej : j / 2 * 2 + 1 = j := by omega
      rw [ej] at k2
      rw [k2] at hv
      rw [← hv, ← c2]; congr 2; omega

theorem take_min (es : List (Int × Int)) : es.take (min es.length 130) = es.take 130 := by
  by_cases h : es.length ≤ 130
  · rw [Nat.min_eq_left h, List.take_of_length_le (Nat.le_refl _), List.take_of_length_le h]
  · rw [Nat.min_eq_right (by omega)]
theorem slice_len_cap {w : World} {base : Nat} {e : TypeId} {size : Nat} {ad : Option Addr} {n cap k : Nat} {xs : List Value} (h : w.ownsRow base e size (.slice ad n cap) k xs) : n ≤ cap := by
  rcases h.2 with ⟨h, _⟩ | ⟨g, cap', cur, h, hb, hg, hnc, _⟩
  · have : n = 0 ∧ cap = 0 := by simp at h; exact ⟨h.2.1, h.2.2⟩
    omega
  · have : n = k ∧ cap = cap' := by simp at h; exact ⟨h.2.1, h.2.2⟩
    omega

set_option maxRecDepth 100000 in
set_option maxHeartbeats 4000000 in
/-- own -/
theorem own_any (lv : Value) (es : List (Int × Int)) (w : World) (hes : ReadsP w lv es) (hcap : ∀ ad n c, lv = .slice ad n c → n ≤ c) (hbig : es.length ≤ 9223372036854775807) :
    Calls Tryd.prog 35 #[lv] w fun e w' => ∃ ad n cap, e = .returned (.slice ad n cap) ∧ n = (es.take 130).length ∧ ReadsP w' (.slice ad n cap) (es.take 130) ∧ n ≤ cap ∧ Below w.heap.size w w' := by
  obtain ⟨i0, hi0, hz0, hzs, hzb⟩ := info_parts Tryd.info29
  rcases hes with ⟨rfl, rfl⟩ | ⟨b, off, cap, rfl, hb, hc⟩
  · have hmin0 : min (0 : Int) 130 = 0 := rfl
    go_enter Tryd.func35, Tryd.ntmps35
    go_wp2
    go_ret
    exact ⟨none, 0, 0, rfl, rfl, .inl ⟨rfl, rfl⟩, Nat.le_refl _, Below.refl _ _⟩
  · have hR : ReadsP w (.slice (some ⟨b, off, none⟩) es.length cap) es := .inr ⟨b, off, cap, rfl, hb, hc⟩
    have hlc := hcap _ _ _ rfl
    have HN := Lib.hid (cells_of_reads hR (min es.length 130) (by omega))
    have HO := Lib.hid (picells_one (es.take (min es.length 130)))
    have hL := picells_length (es.take (min es.length 130))
    rw [List.length_take] at hL
    have hmin : min ((es.length : Nat) : Int) 130 = ((min es.length 130 : Nat) : Int) := by omega
    have hm130 : min es.length 130 ≤ 130 := by omega
    have hmc : min es.length 130 ≤ cap := by omega
    clear hR hc hcap
    have HT := Lib.hid (take_min es)
    generalize hm : min es.length 130 = m at *
    have hml : m ≤ es.length := by omega
    clear hm
    go_enter Tryd.func35, Tryd.ntmps35
    go_wp2_with (at_builtin; refine wpList_append_own _ rfl (.tmp 4) (.tmp 9) 22 rfl w.heap.size 29 i0 _ 2 16 Tryd.underlying22 hi0 hz0 hzs hzb rfl (by decide) (.slice none 0 0) 0 [] rfl (World.ownsRow_nil _ _ _ _) ⟨b, off, none⟩ m cap (picells (es.take m)) rfl (by rw [hL]; omega) HN.out HO.out (by unfold maxLen; omega) (by omega) (Nat.le_refl _) ?_; intro v' w1 hown' hgrow _; have HOWN := Lib.hid hown'; have HB1 : Below w.heap.size w w1 := (Below.refl _ w).grown hgrow (Nat.le_refl _) (fun k hk => by simp [Value.ownBlock] at hk); clear hown' hgrow)
    go_ret
    have h1 := HOWN.out
    rw [List.nil_append, Nat.zero_add] at h1
    have h2 : w1.ownsRow w.heap.size 29 2 v' (es.take 130).length (picells (es.take 130)) := by
      rw [← HT.out, List.length_take, Nat.min_eq_left hml]; exact h1
    have h3 := readsP_of_rowI h2
    obtain ⟨ad, k, cp, rfl⟩ := slice_of_row h2
    refine ⟨ad, k, cp, rfl, ?_, h3, slice_len_cap h2, HB1⟩
    obtain ⟨ad', cap', he, -⟩ := h3.general
    injection he with _ h2 _
    rw [List.length_take] at h2
    exact h2

end Go.Proofs.YtdlogklhekopgaaDoor

namespace Go.Proofs.YtdlogklhekopgaaDoor
open Go.RowKit Go.Shelf Go.Proofs
attribute [local go_sem] Oper.semAt_some

theorem tame_ok2 (n : Int) (lv : Value) (es : List (Int × Int)) (most : Nat) (hm1 : 1 ≤ most) (hm : most ≤ 16) (w : World) (hes : ReadsP w lv es) :
    Calls Tryd.prog 30 #[.int .i64 n, lv, .int .i64 most] w fun e w' => ∃ (N : Nat) (L : List (Int × Int)) (ad : Option Addr) (cap : Nat), e = .returned (.tuple #[.int .i64 N, .slice ad L.length cap]) ∧ N ≤ most ∧ Ok N L ∧ ReadsP w' (.slice ad L.length cap) L ∧ L.length ≤ cap ∧ L.length ≤ 120 ∧ Below w.heap.size w w' := by
  refine (tame_any n lv es most hm1 hm w hes).mono ?_
  rintro e w' ⟨N, L, v, rfl, h1, h2, h3, h4, h5, hb⟩
  have hp := readsP_of_row h5
  obtain ⟨ad, k, cap, rfl⟩ := slice_of_row h5
  have hk : k = (L.map Lt.toI).length := by
    obtain ⟨ad', cap', he, -⟩ := hp.general
    injection he
  have hc := slice_len_cap h5
  subst hk
  exact ⟨N, L.map Lt.toI, ad, cap, rfl, h2, ⟨h1, by omega, h4, by simp; omega⟩, hp, hc, Lt.edges_few (by omega) h4, hb⟩

theorem Ok.tidy_len {N : Nat} {es : List (Int × Int)} (h : Ok N es) (own : Bool) : (Lt.tidy (Lt.quietOf (G N es own))).length ≤ 16 := by
  have := h.counts own
  have := h.most
  omega
theorem Ok.tidy_refQ {N : Nat} {es : List (Int × Int)} (_h : Ok N es) (own : Bool) : (Lt.refQTo (G N es own) (2 ^ N)).1 = Lt.tidy (Lt.quietOf (G N es own)) := by
  have := Lt.tidy_ref (G N es own)
  rw [G_length] at this
  exact this.symm
/-- ref.Quiet of ref.Near -/
theorem refQuiet_elems {N : Nat} {es : List (Int × Int)} (h : Ok N es) (own : Bool) (ad : Option Addr) (cap : Nat) (w : World) (he : Elems w w.heap.size ad (G N es own)) :
    Calls Tryd.prog 37 #[.slice ad N cap] w fun e w' => ∃ ad' cap', e = .returned (.slice ad' (Lt.tidy (Lt.quietOf (G N es own))).length cap') ∧ Elems w' w'.heap.size ad' (Lt.tidy (Lt.quietOf (G N es own))) ∧ Below w.heap.size w w' := by
  refine (refQuiet_ok h own ad cap w he).mono ?_
  rw [h.tidy_refQ own]
  rintro e w' ⟨v, rfl, hr, hb⟩
  obtain ⟨ad', cap', rfl, hE⟩ := elems_of_row hr
  exact ⟨ad', cap', rfl, hE, hb⟩
/-- the quiet basis, as a row of new memory -/
theorem quiet_row {N : Nat} {es : List (Int × Int)} (h : Ok N es) (v : Value) (own : Bool) (w : World) (hv : ReadsP w v es) :
    Calls Tryd.prog 22 #[.int .i64 N, v, .bool own] w fun e w' => ∃ ad cap, e = .returned (.tuple #[.slice ad (Lt.tidy (Lt.quietOf (G N es own))).length cap, .int .i64 0]) ∧
      w'.ownsRow w.heap.size 3 1 (.slice ad (Lt.tidy (Lt.quietOf (G N es own))).length cap) (Lt.tidy (Lt.quietOf (G N es own))).length (ncells (Lt.tidy (Lt.quietOf (G N es own)))) ∧ Below w.heap.size w w' := by
  refine (quiet_ok h v own w hv).mono ?_
  rintro e w' ⟨g, rfl, hr, hb⟩
  obtain ⟨ad, cap, rfl, -⟩ := elems_of_row hr
  exact ⟨ad, cap, rfl, hr, hb⟩
theorem poly_row (k : Nat) (hk : k ≤ 200) (w : World) :
    Calls Tryd.prog 23 #[.int .i64 k] w fun e w' => ∃ ad cap, e = .returned (.tuple #[.slice ad (powersOf k).length cap, .int .i64 0]) ∧ w'.ownsRow w.heap.size 3 1 (.slice ad (powersOf k).length cap) (powersOf k).length (ncells (powersOf k)) ∧ Below w.heap.size w w' := by
  refine (polynomial_good k hk w).mono ?_
  rintro e w' ⟨v, rfl, hr, hb⟩
  obtain ⟨ad', cap', rfl, hE⟩ := elems_of_row hr
  exact ⟨ad', cap', rfl, hr, hb⟩

theorem elems_of_slice {w : World} {base : Nat} {ad : Option Addr} {cap : Nat} {L : List Nat} (h : w.ownsRow base 3 1 (.slice ad L.length cap) L.length (ncells L)) : Elems w w.heap.size ad L := by
  obtain ⟨ad', cap', he, hE⟩ := elems_of_row h
  injection he with h1 h2 h3
  subst h1
  exact hE

set_option maxRecDepth 100000 in
set_option maxHeartbeats 16000000 in
theorem lightOwn_any (n : Int) (lv : Value) (es : List (Int × Int)) (x y : Int) (w : World) (hes : ReadsP w lv es) (hT : Tab w) (hw : 1 < w.heap.size) :
    Calls Tryd.prog 9 #[.int .i64 n, lv, .agg #[.int .i64 x, .int .i64 y]] w fun e w' => e = .returned (.bool true) ∧ Below w.heap.size w w' := by
  have hB0 : Below w.heap.size w (w.alloc (.cells #[.int .i64 x, .int .i64 y] 29)) := below_one _
  have ht := Lib.hid (tame_ok2 n lv es 10 (by decide) (by decide) _ (hes.below hB0))
  have hx0 : (w.alloc (.cells #[.int .i64 x, .int .i64 y] 29)).cell? ⟨w.heap.size, 0, none⟩ = some (.int .i64 x) := cell_two_new w _ _ _ 0 _ rfl
  have hy0 : (w.alloc (.cells #[.int .i64 x, .int .i64 y] 29)).cell? ⟨w.heap.size, 1, none⟩ = some (.int .i64 y) := cell_two_new w _ _ _ 1 _ rfl
  have hs0 : w.heap.size < (w.alloc (.cells #[.int .i64 x, .int .i64 y] 29)).heap.size := by simp
  have HX0 := Lib.hid hx0
  have HY0 := Lib.hid hy0
  clear hes hx0 hy0
  go_enter Tryd.func9, Tryd.ntmps9
  go_wp2_with fail
  refine ht.out.mono ?_
  rintro e w1 ⟨N, L, ad, cap, rfl, -, hO, hp, hlc, hl120, hb1⟩
  have HO := Lib.hid hO
  have HP := Lib.hid hp
  have h16 := hO.most
  have hs1 : w.heap.size < w1.heap.size := Nat.lt_of_lt_of_le hs0 hb1.size
  have c0 := Lib.hid ((hb1.cell (p := ⟨w.heap.size, 0, none⟩) hs0).trans HX0.out)
  have c1 := Lib.hid ((hb1.cell (p := ⟨w.heap.size, 1, none⟩) hs0).trans HY0.out)
  have hB1 := hB0.trans (hb1.mono hB0.size)
  have hsv := Lib.hid (fun z W => set_val z N W h16)
  have hSx := setN_lt x N h16
  have hSy := setN_lt y N h16
  have HT1 := Lib.hid (hT.below hB1 hw)
  have hw1 : 1 < w1.heap.size := by omega
  have hown := Lib.hid (own_any (.slice ad L.length cap) L w1 hp (by rintro ad' n' c' he; injection he with h1 h2 h3; omega) (by omega))
  have htk : L.take 130 = L := List.take_of_length_le (by omega)
  rw [htk] at hown
  clear ht hO hp hB0 hb1 HX0 HY0 hs0 htk
  go_wp2_with fail
  refine hown.out.mono ?_
  rintro e w2 ⟨ad2, n2, cap2, rfl, rfl, hp2, -, hb2⟩
  have HPc := Lib.hid hp2
  have HPg := Lib.hid (HP.out.below hb2)
  have c02 := Lib.hid ((hb2.cell (p := ⟨w.heap.size, 0, none⟩) hs1).trans c0.out)
  have c12 := Lib.hid ((hb2.cell (p := ⟨w.heap.size, 1, none⟩) hs1).trans c1.out)
  have hB2 := hB1.trans (hb2.mono hB1.size)
  have HT2 := Lib.hid (HT1.out.below hb2 hw1)
  have hw2 : 1 < w2.heap.size := by have := hb2.size; omega
  have hs2 : w.heap.size < w2.heap.size := by have := hb2.size; omega
  have eQ := Lib.hid (fun W hv => quiet_row HO.out (.slice ad L.length cap) true W hv)
  have eE := Lib.hid (fun W hv hT hw => effect_ok HO.out (.slice ad L.length cap) true hSx W hv hT hw)
  have eF := Lib.hid (fun W hv hT hw => fewest_ok HO.out (.slice ad L.length cap) false hSy W hv hT hw)
  have eP : Hid (∀ W, Calls Tryd.prog 23 #[.int .i64 7] W fun e w' => ∃ ad cap, e = .returned (.tuple #[.slice ad (powersOf 7).length cap, .int .i64 0]) ∧ w'.ownsRow W.heap.size 3 1 (.slice ad (powersOf 7).length cap) (powersOf 7).length (ncells (powersOf 7)) ∧ Below W.heap.size W w') := Lib.hid (fun W => poly_row 7 (by decide) W)
  have eP2 : Hid (∀ W, Calls Tryd.prog 26 #[.int .i64 7] W fun e w' => ∃ ad cap, e = .returned (.slice ad (7 + 2 : Nat) cap) ∧ Elems w' w'.heap.size ad (bitsN (Lt.pathOf false 7) (7 + 2)) ∧ Below W.heap.size W w') := Lib.hid (fun W => refPoly_any 7 (by decide) W)
  have eP3 : Hid (∀ ad cap W, Elems W W.heap.size ad (bitsN (Lt.pathOf false 7) (7 + 2)) → Calls Tryd.prog 25 #[.slice ad (7 + 2 : Nat) cap] W fun e w' => ∃ ad' cap', e = .returned (.slice ad' (powersOf 7).length cap') ∧ Elems w' w'.heap.size ad' (powersOf 7) ∧ Below W.heap.size W w') := Lib.hid (fun ad cap W h => refPowers_poly ad cap 7 (by decide) W h)
  have eI7 := Lib.hid (fun a1 a2 c1 c2 W h1 h2 => ints_any a1 a2 c1 c2 (powersOf 7) (powersOf 7) W h1 h2 (by have := powersOf_length 7; omega) (by have := powersOf_length 7; omega))
  have hq16 := HO.out.tidy_len true
  have eIQ := Lib.hid (fun a1 a2 c1 c2 W h1 h2 => ints_any a1 a2 c1 c2 (Lt.tidy (Lt.quietOf (G N L true))) (Lt.tidy (Lt.quietOf (G N L true))) W h1 h2 (by omega) (by omega))
  simp only [decide_true] at eI7 eIQ
  have eN := Lib.hid (fun v W hv => near_ok HO.out v true W hv)
  have eRQ := Lib.hid (fun ad cap W h => refQuiet_elems HO.out true ad cap W h)
  have h7 := powersOf_length 7
  generalize Lt.tidy (Lt.quietOf (G N L true)) = TQ at *
  generalize powersOf 7 = P7 at *
  clear hB1 hb2 HP c0 c1 HT1 hw1 hown
  have eQ' := Lib.hid (eQ.out w2 HPg.out)
  go_wp2_with fail
  refine eQ'.out.mono ?_
  rintro e w3 ⟨aq, cq, rfl, hrq, hb3⟩
  have HRQ := Lib.hid hrq
  have HP3 := Lib.hid (HPg.out.below hb3)
  have HT3 := Lib.hid (HT2.out.below hb3 hw2)
  have hw3 : 1 < w3.heap.size := by have := hb3.size; omega
  have c03 := (hb3.cell (p := ⟨w.heap.size, 0, none⟩) hs2).trans c02.out
  have c13 := Lib.hid ((hb3.cell (p := ⟨w.heap.size, 1, none⟩) hs2).trans c12.out)
  have hs3 : w.heap.size < w3.heap.size := by have := hb3.size; omega
  have eE' := Lib.hid (fun W hW => eE.out W hW)
  clear eQ' hrq
  go_wp2_with (go_at_call 31; refine (hsv.out _ _).mono ?_; rintro e w4 ⟨rfl, hww⟩; have hww2 := hww.symm; subst hww2)
  have eE'' := Lib.hid (eE.out w3 HP3.out HT3.out hw3)
  clear eE eE' c03
  generalize setN x N = A at *
  go_wp2_with fail
  refine eE''.out.mono ?_
  rintro e w4 ⟨rfl, hb4⟩
  have HRQ4 := Lib.hid (ownsRow_below HRQ.out hb4 (fun k hk => (HRQ.out.lt k hk).2))
  have HP4 := Lib.hid (HP3.out.below hb4)
  have HT4 := Lib.hid (HT3.out.below hb4 hw3)
  have hw4 : 1 < w4.heap.size := by have := hb4.size; omega
  have c14 := (hb4.cell (p := ⟨w.heap.size, 1, none⟩) hs3).trans c13.out
  clear eE'' HRQ HP3 HT3 c13
  go_wp2_with (go_at_call 31; refine (hsv.out _ _).mono ?_; rintro e w4' ⟨rfl, hww⟩; have hww2 := hww.symm; subst hww2)
  have eF' := Lib.hid (eF.out w4 HP4.out HT4.out hw4)
  clear eF c14 hsv
  generalize setN y N = B at *
  generalize (if can N L false B = true then Lt.fewOf (G N L false) B else 0) = bst at *
  generalize can N L false B = cd at *
  go_wp2_with fail
  refine eF'.out.mono ?_
  rintro e w5 ⟨rfl, hb5⟩
  have HRQ5 := Lib.hid (ownsRow_below HRQ4.out hb5 (fun k hk => (HRQ4.out.lt k hk).2))
  have HP5 := Lib.hid (HP4.out.below hb5)
  have hw5 : 1 < w5.heap.size := by have := hb5.size; omega
  clear eF' HRQ4 HP4 HT4
  go_wp2_with fail
  refine (eP.out _).mono ?_
  rintro e w6 ⟨ap, cp, rfl, hrp, hb6⟩
  have HRQ6 := Lib.hid (ownsRow_below HRQ5.out hb6 (fun k hk => (HRQ5.out.lt k hk).2))
  have HRP6 := Lib.hid hrp
  have hB36 : Below w2.heap.size w2 w6 := ((hb3.trans (hb4.mono hb3.size)).trans (hb5.mono (by have := hb3.size; have := hb4.size; omega))).trans (hb6.mono (by have := hb3.size; have := hb4.size; have := hb5.size; omega))
  have hqlt : Hid (∀ k, (Value.slice aq TQ.length cq).ownBlock = some k → k < w5.heap.size) := Lib.hid (fun k hk => (HRQ5.out.lt k hk).2)
  have hs5 : w2.heap.size ≤ w5.heap.size := by have := hb3.size; have := hb4.size; have := hb5.size; omega
  clear HRQ5 hrp hb3 hb4 hb5 hb6 HP5
  go_wp2
  go_loopw [18] (fun i W => ∃ (j : Nat) (xs : List Value), i = .int .i64 j ∧ j ≤ TQ.length ∧ Hid (W.ownsRow w2.heap.size 3 1 (.slice aq TQ.length cq) TQ.length xs) ∧ Hid (∃ ys, W.ownsRow w5.heap.size 3 1 (.slice ap P7.length cp) P7.length ys) ∧ Below w2.heap.size w2 W)
    (fun i _ => TQ.length - (intOf i).toNat)
  case atStart => exact ⟨0, _, rfl, Nat.zero_le _, HRQ6, Lib.hid ⟨_, HRP6.out⟩, hB36⟩
  case round =>
    clear HRQ6 HRP6 hB36
    obtain ⟨j, xs, rfl, hj, hrq, hrp, hB⟩ := hrel
    by_cases hlt : j < TQ.length
    · obtain ⟨gq, kq, hv⟩ := Go.Joins.ownsRow_form hrq.out (by omega)
      have he := hv
      injection he with h1 h2 h3
      subst h1
      subst h3
      have hxl := hrq.out.1
      obtain ⟨v0, hv0⟩ : ∃ v, xs[j]? = some v := ⟨_, List.getElem?_eq_getElem (by omega)⟩
      have hcell := hrq.out.cellAt j (by omega)
      rw [hv0] at hcell
      have hfz := hrq.out.frozenAt j
      have hs := Lib.hid ((hrq.out.stored j (.int .i64 (-1))).1)
      have hBs := hB.setCell (p := ⟨gq, j, none⟩) (hrq.out.lt gq rfl).1 (.int .i64 (-1))
      have hrp' : Hid (∃ ys, (wr.setCell ⟨gq, j, none⟩ (.int .i64 (-1))).ownsRow w5.heap.size 3 1 (.slice ap P7.length cp) P7.length ys) := Lib.hid (by
        obtain ⟨ys, h⟩ := hrp.out
        refine ⟨ys, ownsRow_setCell_other h (fun hk => ?_) _⟩
        have h1 := (h.lt _ hk).1
        have h2 := hqlt.out gq rfl
        simp only at h1
        omega)
      clear hv h2 hv0 hrq hrp hxl
      go_wp2
      go_roundw
      case rel => exact ⟨j + 1, _, by go_num, by omega, hs, hrp', hBs⟩
      case measure => simp [intOf]; omega
    · clear hrq hqlt
      go_wp2
      obtain ⟨ys, hrp0⟩ := hrp.out
      have HRP0 := Lib.hid hrp0
      clear hrp hrp0
      go_loopw [19] (fun i W => ∃ (j : Nat) (ys : List Value), i = .int .i64 j ∧ j ≤ P7.length ∧ Hid (W.ownsRow w5.heap.size 3 1 (.slice ap P7.length cp) P7.length ys) ∧ Below w2.heap.size w2 W)
        (fun i _ => P7.length - (intOf i).toNat)
      case atStart => exact ⟨0, ys, rfl, Nat.zero_le _, HRP0, hB⟩
      case round =>
        clear HRP0 hB hlt hj
        obtain ⟨j, ys, rfl, hj, hrp, hB⟩ := hrel
        by_cases hlt : j < P7.length
        · obtain ⟨gp, kp, hv⟩ := Go.Joins.ownsRow_form hrp.out (by omega)
          have he := hv
          injection he with h1 h2 h3
          subst h1
          subst h3
          have hxl := hrp.out.1
          obtain ⟨v0, hv0⟩ : ∃ v, ys[j]? = some v := ⟨_, List.getElem?_eq_getElem (by omega)⟩
          have hcell := hrp.out.cellAt j (by omega)
          rw [hv0] at hcell
          have hfz := hrp.out.frozenAt j
          have hs := Lib.hid ((hrp.out.stored j (.int .i64 (-1))).1)
          have hBs := hB.setCell (p := ⟨gp, j, none⟩) (by have := (hrp.out.lt gp rfl).1; simp only; omega) (.int .i64 (-1))
          clear hv h2 hv0 hrp hxl
          go_wp2
          go_roundw
          case rel => exact ⟨j + 1, _, by go_num, by omega, hs, hBs⟩
          case measure => simp [intOf]; omega
        · clear hrp
          have HPw := Lib.hid (HPg.out.below hB)
          have HPcw := Lib.hid (HPc.out.below hB)
          have eQ' := Lib.hid (eQ.out wr HPw.out)
          clear HPg HPc
          go_wp2_with fail
          refine eQ'.out.mono ?_
          rintro e w7 ⟨ar, cr, rfl, hrr, hb7⟩
          have ER7 := Lib.hid (elems_of_slice hrr)
          have HPw7 := Lib.hid (HPw.out.below hb7)
          have HPc7 := Lib.hid (HPcw.out.below hb7)
          have hB7 := hB.trans (hb7.mono hB.size)
          clear eQ eQ' hrr hB hb7 HPw HPcw
          go_wp2_with fail
          refine (eP.out _).mono ?_
          rintro e w8 ⟨a8, c8, rfl, hrs, hb8⟩
          have ER8 := Lib.hid (ER7.out.go hb8)
          have ES8 := Lib.hid (elems_of_slice hrs)
          have HPw8 := Lib.hid (HPw7.out.below hb8)
          have HPc8 := Lib.hid (HPc7.out.below hb8)
          have hB8 := hB7.trans (hb8.mono hB7.size)
          have eN' := Lib.hid (eN.out _ w8 HPc8.out)
          clear hrs hB7 hb8 HPw7 HPc7 ER7 eP eN
          go_wp2_with fail
          refine eN'.out.mono ?_
          rintro e w9 ⟨a9, c9, rfl, e9, hb9⟩
          have ER9 := Lib.hid (ER8.out.go hb9)
          have ES9 := Lib.hid (ES8.out.go hb9)
          have HPw9 := Lib.hid (HPw8.out.below hb9)
          have HPc9 := Lib.hid (HPc8.out.below hb9)
          have hB9 := hB8.trans (hb9.mono hB8.size)
          have eR' := Lib.hid (eRQ.out a9 c9 w9 e9)
          clear hB8 hb9 HPw8 HPc8 ER8 ES8 eRQ e9 eN'
          go_wp2_with fail
          refine eR'.out.mono ?_
          rintro e w10 ⟨a10, c10, rfl, e10, hb10⟩
          have ER10 := Lib.hid (ER9.out.go hb10)
          have ES10 := Lib.hid (ES9.out.go hb10)
          have HPw10 := Lib.hid (HPw9.out.below hb10)
          have HPc10 := Lib.hid (HPc9.out.below hb10)
          have hB10 := hB9.trans (hb10.mono hB9.size)
          have eI' := Lib.hid (eIQ.out _ _ cr c10 w10 ER10.out e10)
          clear hB9 hb10 HPw9 HPc9 ER9 ES9 eR' e10 eIQ ER10
          go_wp2_with fail
          refine eI'.out.mono ?_
          rintro e w11 ⟨rfl, hb11⟩
          have ES11 := Lib.hid (ES10.out.go hb11)
          have HPw11 := Lib.hid (HPw10.out.below hb11)
          have HPc11 := Lib.hid (HPc10.out.below hb11)
          have hB11 := hB10.trans (hb11.mono hB10.size)
          clear hB10 hb11 HPw10 HPc10 ES10 eI'
          go_wp2_with fail
          refine (eP2.out _).mono ?_
          rintro e w12 ⟨a12, c12, rfl, e12, hb12⟩
          have ES12 := Lib.hid (ES11.out.go hb12)
          have HPw12 := Lib.hid (HPw11.out.below hb12)
          have HPc12 := Lib.hid (HPc11.out.below hb12)
          have hB12 := hB11.trans (hb12.mono hB11.size)
          have eP3' := Lib.hid (eP3.out a12 c12 w12 e12)
          clear hB11 hb12 HPw11 HPc11 ES11 eP2 eP3 e12
          go_wp2_with fail
          refine eP3'.out.mono ?_
          rintro e w13 ⟨a13, c13, rfl, e13, hb13⟩
          have ES13 := Lib.hid (ES12.out.go hb13)
          have HPw13 := Lib.hid (HPw12.out.below hb13)
          have HPc13 := Lib.hid (HPc12.out.below hb13)
          have hB13 := hB12.trans (hb13.mono hB12.size)
          have eI7' := Lib.hid (eI7.out _ _ c8 c13 w13 ES13.out e13)
          clear hB12 hb13 HPw12 HPc12 ES12 eP3' e13 eI7 ES13
          go_wp2_with fail
          refine eI7'.out.mono ?_
          rintro e w14 ⟨rfl, hb14⟩
          obtain ⟨_, _, hv1, hc1⟩ := (HPw13.out.below hb14).general
          obtain ⟨_, _, hv2, hc2⟩ := (HPc13.out.below hb14).general
          injection hv1 with h1 h2 h3
          subst h1
          injection hv2 with k1 k2 k3
          subst k1
          have HC1 := Lib.hid hc1
          have HC2 := Lib.hid hc2
          have hB14 := hB13.trans (hb14.mono hB13.size)
          clear hB13 hb14 HPw13 HPc13 eI7' hc1 hc2
          go_wp2
          obtain ⟨wo, hwo⟩ : ∃ wo : World, wo = w14 := ⟨_, rfl⟩
          subst hwo
          go_loopw [24] (fun i W => ∃ j : Nat, i = .int .i64 j ∧ j ≤ L.length ∧ Below wo.heap.size wo W)
            (fun i _ => L.length - (intOf i).toNat)
          case atStart => exact ⟨0, rfl, Nat.zero_le _, Below.refl _ _⟩
          case round =>
            obtain ⟨j, rfl, hj, hBl⟩ := hrel
            by_cases hlt2 : j < L.length
            · obtain ⟨g1, o1, rfl, hg1, c11, c12⟩ := HC1.out j hlt2
              obtain ⟨g2, o2, rfl, hg2, c21, c22⟩ := HC2.out j hlt2
              replace c11 := (hBl.cell (p := ⟨g1, o1 + j * 2, none⟩) hg1).trans c11
              replace c12 := (hBl.cell (p := ⟨g1, o1 + j * 2 + 1, none⟩) hg1).trans c12
              replace c21 := (hBl.cell (p := ⟨g2, o2 + j * 2, none⟩) hg2).trans c21
              replace c22 := (hBl.cell (p := ⟨g2, o2 + j * 2 + 1, none⟩) hg2).trans c22
              generalize (L[j]?.getD (0, 0)).1 = e1 at *
              generalize (L[j]?.getD (0, 0)).2 = e2 at *
              have hgt : Tryd.prog.eqGuardType Tryd.prog.depth 29 = false := by kernel_rfl
              have hEq := fun W => neA e1 e2 e1 e2 W
              simp only [beq_self_eq_true, Bool.and_self, Bool.not_true] at hEq
              go_wp2
              go_quiet (fail)
              go_wp2
              go_roundw
              case rel => exact ⟨j + 1, by go_num, by omega, hBl.trans ⟨rfl, rfl, rfl, Nat.le_refl _, fun _ _ => rfl⟩⟩
              case measure => simp [intOf]; omega
            · have hBe : Below w.heap.size w wr := hB2.trans ((hB14.trans (hBl.mono hB14.size)).mono (Nat.le_of_lt hs2))
              have haw := Lib.hid (awake_any wr (hT.below hBe hw) (by have := hBe.size; omega))
              go_wp2_with (go_at_call 19; refine haw.out.mono ?_; rintro e w15 ⟨rfl, hb15⟩)
              go_ret
              exact ⟨rfl, hBe.trans (hb15.mono hBe.size)⟩

end Go.Proofs.YtdlogklhekopgaaDoor
