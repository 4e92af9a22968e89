/- Walk: graph.New. -/
import Derived.Test.YtljihclpgpmfeaaDoorGe
namespace Go.Proofs.YtljihclpgpmfeaaDoor
set_option maxRecDepth 100000
open Go.RowKit Go.Sort Go.Shelf

/-- An edge, the lesser end first. -/
def normE (e : Int × Int) : Int × Int := (min e.1 e.2, max e.1 e.2)
/-- Are the edges, put the right way round, right ones for so many vertices, none met before? -/
def okN (n : Int) : List (Int × Int) → List (Int × Int) → Bool
  | _, [] => true
  | S, e :: r => (decide (0 ≤ (normE e).1) && decide ((normE e).1 ≠ (normE e).2) && decide ((normE e).2 < n)) && !S.contains (normE e) && okN n (S ++ [normE e]) r
def newO (n : Int) (E : List (Int × Int)) : Except Int (List (Int × Int)) :=
  if 200 < n ∨ 594 < E.length then .error 21 else if n < 0 then .error 20 else if okN n [] E = true then .ok (riseE (E.map normE)) else .error 20
theorem okN_step {n : Int} {E : List (Int × Int)} {k : Nat} {e : Int × Int} (h : E[k]? = some e) : okN n ((E.take k).map normE) (E.drop k) = ((decide (0 ≤ (normE e).1) && decide ((normE e).1 ≠ (normE e).2) && decide ((normE e).2 < n)) && !((E.take k).map normE).contains (normE e) && okN n ((E.take (k + 1)).map normE) (E.drop (k + 1))) := by
  obtain ⟨hl, he⟩ := List.getElem?_eq_some_iff.1 h
  rw [List.drop_eq_getElem_cons hl, he, List.take_add_one, h, List.map_append]
  rfl
theorem okN_end {n : Int} {E S : List (Int × Int)} {k : Nat} (h : E.length ≤ k) : okN n S (E.drop k) = true := by
  rw [List.drop_eq_nil_of_le h]; rfl
/-- A graph in new memory, or an error. -/
def GrE (w : World) (n : Int) (o : Except Int (List (Int × Int))) (e : Ending) (w' : World) : Prop :=
  match o with
  | .error c => e = .returned (.tuple #[.agg #[.int .i64 0, .slice none 0 0], .int .i64 c]) ∧ Below w.heap.size w w'
  | .ok l => ∃ v, e = .returned (.tuple #[.agg #[.int .i64 n, v], .int .i64 0]) ∧ RowE w.heap.size w' v l ∧ Below w.heap.size w w'
theorem MapE.same {w w' : World} {B k : Nat} {S : List (Int × Int)} (h : MapE w B k S) (hs : w'.heap[B]? = w.heap[B]?) : MapE w' B k S := by
  obtain ⟨D, ⟨es, clock, hb, r⟩, hD⟩ := h
  exact ⟨D, ⟨es, clock, hs.trans hb, r⟩, hD⟩
theorem RowE.far {W W' : World} {v : Value} {l : List (Int × Int)} {B m : Nat} (h : RowE B W v l) (hg : W.grownBy W' (some m)) (hm : m < B) : RowE B W' v l := by
  rcases h with h | ⟨g, cap, more, e, hgb, ho, h⟩
  · exact .inl h
  · exact .inr ⟨g, cap, more, e, hgb, ho.grown hg (by intro e; injection e with e; omega), h⟩
set_option maxRecDepth 100000 in
set_option maxHeartbeats 8000000 in
theorem newG_any (N : Int) (A : Option Addr) (n c : Nat) (E : List (Int × Int)) (w : World) (h : ArgE w A n c E) :
    Calls Tryd.prog 22 #[.int .i64 N, .slice A n c] w (GrE w N (newO N E)) := by
  have H := Lib.hid h
  have hle := h.le
  clear h
  by_cases h1 : 200 < N
  · have HR := Lib.hid (show newO N E = .error 21 from if_pos (.inl h1))
    have d1 : decide (200 < N) = true := decide_eq_true h1
    rw [HR.out]
    clear HR h1
    go_enter Tryd.func22, Tryd.ntmps22
    go_wp2
    have hO := Own.new' (t := 26) (w := w) (vs := [.int .i64 0, .slice none 0 0]) rfl
    have q0 := hO.cell 0
    have q1 := hO.cell 1
    simp only [List.getElem?_cons_zero, List.getElem?_cons_succ] at q0 q1
    exact bodyPost_ret (v := .tuple #[.agg #[.int .i64 0, .slice none 0 0], .int .i64 21]) (by simp [results, Tryd.results22, go_sem, q0, q1]) rfl ⟨rfl, alloc_below w _⟩
  have d1 : decide (200 < N) = false := by rw [decide_eq_false_iff_not]; exact h1
  by_cases h2 : 594 < n
  · have HR := Lib.hid (show newO N E = .error 21 from if_pos (.inr (by have := H.out.len; omega)))
    have d2 : decide (594 < (n : Int)) = true := by rw [decide_eq_true_eq]; omega
    rw [HR.out]
    clear HR h1 h2
    go_enter Tryd.func22, Tryd.ntmps22
    go_wp2
    have hO := Own.new' (t := 26) (w := w) (vs := [.int .i64 0, .slice none 0 0]) rfl
    have q0 := hO.cell 0
    have q1 := hO.cell 1
    simp only [List.getElem?_cons_zero, List.getElem?_cons_succ] at q0 q1
    exact bodyPost_ret (v := .tuple #[.agg #[.int .i64 0, .slice none 0 0], .int .i64 21]) (by simp [results, Tryd.results22, go_sem, q0, q1]) rfl ⟨rfl, alloc_below w _⟩
  have d2 : decide (594 < (n : Int)) = false := by rw [decide_eq_false_iff_not]; omega
  by_cases h3 : N < 0
  · have HR := Lib.hid (show newO N E = .error 20 from (if_neg (by have := H.out.len; omega)).trans (if_pos h3))
    have d3 : decide (N < 0) = true := decide_eq_true h3
    rw [HR.out]
    clear HR h1 h2 h3
    go_enter Tryd.func22, Tryd.ntmps22
    go_wp2
    have hO := Own.new' (t := 26) (w := w) (vs := [.int .i64 0, .slice none 0 0]) rfl
    have q0 := hO.cell 0
    have q1 := hO.cell 1
    simp only [List.getElem?_cons_zero, List.getElem?_cons_succ] at q0 q1
    exact bodyPost_ret (v := .tuple #[.agg #[.int .i64 0, .slice none 0 0], .int .i64 20]) (by simp [results, Tryd.results22, go_sem, q0, q1]) rfl ⟨rfl, alloc_below w _⟩
  have d3 : decide (N < 0) = false := by rw [decide_eq_false_iff_not]; exact h3
  have HBAD := Lib.hid (show ∀ S R, okN N [] E = (S && R) → (S = false ∨ R = false) → newO N E = .error 20 from fun S R he hs => (if_neg (by have := H.out.len; omega)).trans ((if_neg h3).trans (if_neg (by rw [he]; rcases hs with h | h <;> simp [h]))))
  have HGOOD := Lib.hid (show okN N [] E = true → newO N E = .ok (riseE (E.map normE)) from fun he => (if_neg (by have := H.out.len; omega)).trans ((if_neg h3).trans (if_pos he)))
  have hn : n ≤ 594 := by omega
  have HN200 := Lib.hid (show N ≤ 200 by omega)
  have HMK := Lib.hid (fun W => mk_edges 0 n (Nat.zero_le _) (by omega) W)
  have hmk := HMK.out
  have hmm := @run_makeMap Tryd.prog
  rw [show ((0 : Nat) : Int) = 0 from rfl] at hmk
  clear h1 h2 h3 HMK
  have hW1 := alloc_below w (.cells #[.int .i64 0, .slice none 0 0] 26)
  have hW2 := alloc_below (w.alloc (.cells #[.int .i64 0, .slice none 0 0] 26)) (.map #[] 0)
  have hW3 := alloc_below ((w.alloc (.cells #[.int .i64 0, .slice none 0 0] 26)).alloc (.map #[] 0)) (.cells (cellsE (List.replicate n (0, 0))).toArray 49)
  have HS0 := Lib.hid (show okN N [] E = okN N ((E.take 0).map normE) (E.drop 0) from rfl)
  have HM0 := Lib.hid (show MapE (((w.alloc (.cells #[.int .i64 0, .slice none 0 0] 26)).alloc (.map #[] 0)).alloc (.cells (cellsE (List.replicate n (0, 0))).toArray 49)) (w.heap.size + 1) 0 ((E.take 0).map normE) from (by have h := (MapE.made (w.alloc (.cells #[.int .i64 0, .slice none 0 0] 26))).below hW3; rw [World.size_alloc] at h; exact h))
  have HR0 := Lib.hid (show RowE (w.heap.size + 2) (((w.alloc (.cells #[.int .i64 0, .slice none 0 0] 26)).alloc (.map #[] 0)).alloc (.cells (cellsE (List.replicate n (0, 0))).toArray 49)) (.slice (some ⟨w.heap.size + 2, 0, none⟩) 0 n) ((E.take 0).map normE) from (by have h := RowE.room ((w.alloc (.cells #[.int .i64 0, .slice none 0 0] 26)).alloc (.map #[] 0)) (w.heap.size + 2) n (by omega) (by simp); rw [World.size_alloc, World.size_alloc] at h; exact h))
  have HG0 := Lib.hid (((Own.new' (t := 26) (w := w) (vs := [.int .i64 0, .slice none 0 0]) rfl).below' hW2).below' hW3)
  have HB0 := Lib.hid ((hW1.trans (hW2.mono (by simp))).trans (hW3.mono (by simp; omega)))
  clear hW1 hW2 hW3
  go_enter Tryd.func22, Tryd.ntmps22
  go_wp2
  go_loopw [7, 8, 9, 10, 11, 12, 30] (fun v7 _ _ _ _ _ i wr => ∃ k : Nat, k ≤ n ∧ i = .int .i64 (k : Int) ∧ Hid (okN N [] E = okN N ((E.take k).map normE) (E.drop k)) ∧ Hid (MapE wr (w.heap.size + 1) k ((E.take k).map normE)) ∧ Hid (RowE (w.heap.size + 2) wr v7 ((E.take k).map normE)) ∧ Hid (Own wr w.heap.size 26 [.int .i64 0, .slice none 0 0]) ∧ Hid (Below w.heap.size w wr) ∧ Hid (v7 ≠ .slice none 0 0)) (fun _ _ _ _ _ _ i _ => n - (intOf i).toNat)
  case atStart => exact ⟨0, Nat.zero_le _, rfl, HS0, HM0, HR0, HG0, HB0, Lib.hid (by simp)⟩
  case round =>
    obtain ⟨k, hk, rfl, hS, hM, hR, hG, hB, hNE⟩ := hrel
    by_cases hlt : k < n
    · obtain ⟨b, off, rfl, hb, hc⟩ := rd_edge H.out.rd (by have := H.out.len; omega)
      obtain ⟨e, he⟩ : ∃ x, E[k]? = some x := ⟨_, List.getElem?_eq_getElem (by have := H.out.len; omega)⟩
      have hst := Lib.hid (hS.out.trans (okN_step he))
      obtain ⟨x0, x1⟩ := e
      obtain ⟨q0, q1⟩ := hc wr hB.out k _ he
      have hbw : b < wr.heap.size := Nat.lt_of_lt_of_le hb hB.out.size
      clear hc
      clear hmk hmm
      obtain ⟨p0, hp0⟩ : ∃ p, min x0 x1 = p := ⟨_, rfl⟩
      obtain ⟨p1, hp1⟩ : ∃ p, max x0 x1 = p := ⟨_, rfl⟩
      have HN := Lib.hid (show normE (x0, x1) = (p0, p1) by unfold normE; rw [← hp0, ← hp1])
      have BV0 := Lib.hid (((alloc_below wr (.cells #[.int .i64 x0, .int .i64 x1] 49)).trans ((alloc_below (wr.alloc (.cells #[.int .i64 x0, .int .i64 x1] 49)) (.cells #[.int .i64 p0, .int .i64 p1] 49)).mono (by simp))))
      have BV := Lib.hid (hB.out.trans (BV0.out.mono hB.out.size))
      have OV := Lib.hid (hG.out.below' BV0.out)
      have yR := OV.out.lt; have fR := OV.out.frozen; have qR := OV.out.cell
      rw [HN.out] at hst
      by_cases c0 : p0 < 0
      · have HX := Lib.hid (HBAD.out _ _ hst.out (.inl (by simp [show ¬ (0 ≤ p0) from by omega])))
        have k0 : decide (p0 < 0) = true := decide_eq_true c0
        clear hst hS he c0
        rw [HX.out]
        go_wp2
        have hF := (OV.out.set 0 (.int .i64 0)).set 1 (.slice none 0 0)
        have r0 := hF.cell 0
        have r1 := hF.cell 1
        simp only [List.set_cons_zero, List.set_cons_succ, List.getElem?_cons_zero, List.getElem?_cons_succ] at r0 r1
        exact bodyPost_ret (v := .tuple #[.agg #[.int .i64 0, .slice none 0 0], .int .i64 20]) (by simp [results, Tryd.results22, go_sem, r0, r1]) rfl ⟨rfl, (BV.out.setCell (by simp; try omega) _).setCell (by simp; try omega) _⟩
      have k0 : decide (p0 < 0) = false := by rw [decide_eq_false_iff_not]; exact c0
      by_cases c1 : p0 = p1
      · have HX := Lib.hid (HBAD.out _ _ hst.out (.inl (by simp [c1])))
        have k1 : (p0 == p1) = true := by rw [beq_iff_eq]; exact c1
        clear hst hS he c0 c1
        rw [HX.out]
        go_wp2
        have hF := (OV.out.set 0 (.int .i64 0)).set 1 (.slice none 0 0)
        have r0 := hF.cell 0
        have r1 := hF.cell 1
        simp only [List.set_cons_zero, List.set_cons_succ, List.getElem?_cons_zero, List.getElem?_cons_succ] at r0 r1
        exact bodyPost_ret (v := .tuple #[.agg #[.int .i64 0, .slice none 0 0], .int .i64 20]) (by simp [results, Tryd.results22, go_sem, r0, r1]) rfl ⟨rfl, (BV.out.setCell (by simp; try omega) _).setCell (by simp; try omega) _⟩
      have k1 : (p0 == p1) = false := by rw [beq_eq_false_iff_ne]; exact c1
      by_cases c2 : N ≤ p1
      · have HX := Lib.hid (HBAD.out _ _ hst.out (.inl (by simp [show ¬ (p1 < N) from by omega])))
        have k2 : decide (N ≤ p1) = true := decide_eq_true c2
        clear hst hS he c0 c1
        rw [HX.out]
        go_wp2
        have hF := (OV.out.set 0 (.int .i64 0)).set 1 (.slice none 0 0)
        have r0 := hF.cell 0
        have r1 := hF.cell 1
        simp only [List.set_cons_zero, List.set_cons_succ, List.getElem?_cons_zero, List.getElem?_cons_succ] at r0 r1
        exact bodyPost_ret (v := .tuple #[.agg #[.int .i64 0, .slice none 0 0], .int .i64 20]) (by simp [results, Tryd.results22, go_sem, r0, r1]) rfl ⟨rfl, (BV.out.setCell (by simp; try omega) _).setCell (by simp; try omega) _⟩
      have k2 : decide (N ≤ p1) = false := by rw [decide_eq_false_iff_not]; exact c2
      have HP := Lib.hid (show 0 ≤ p0 ∧ p0 ≤ 200 ∧ 0 ≤ p1 ∧ p1 ≤ 200 by have := HN200.out; omega)
      have HW := Lib.hid (show wfE (p0, p1) from ⟨WalkArith.wf_i64 (by have := HP.out; omega), WalkArith.wf_i64 (by have := HP.out; omega)⟩)
      have MV := Lib.hid (hM.out.below BV0.out)
      obtain ⟨c5, hlook⟩ := MV.out.look Tryd.underlying79 HW.out
      simp only [] at hlook
      have HNX := Lib.hid (show (E.take k).map normE ++ [(p0, p1)] = (E.take (k + 1)).map normE by rw [List.take_add_one, he, List.map_append, ← HN.out]; rfl)
      clear he c0 c1 c2 hS
      cases hct : ((E.take k).map normE).contains (p0, p1) with
      | true =>
        rw [hct] at hlook
        have HX := Lib.hid (HBAD.out _ _ hst.out (.inl (by rw [hct]; simp)))
        clear hst hct
        rw [HX.out]
        go_wp2
        have hF := (OV.out.set 0 (.int .i64 0)).set 1 (.slice none 0 0)
        have r0 := hF.cell 0
        have r1 := hF.cell 1
        simp only [List.set_cons_zero, List.set_cons_succ, List.getElem?_cons_zero, List.getElem?_cons_succ] at r0 r1
        exact bodyPost_ret (v := .tuple #[.agg #[.int .i64 0, .slice none 0 0], .int .i64 20]) (by simp [results, Tryd.results22, go_sem, r0, r1]) rfl ⟨rfl, (BV.out.setCell (by simp; try omega) _).setCell (by simp; try omega) _⟩
      | false =>
        rw [hct] at hlook
        have hst2 := Lib.hid (hst.out.trans (show _ = okN N ((E.take (k + 1)).map normE) (E.drop (k + 1)) by
          rw [hct, show decide (0 ≤ (p0, p1).1) = true from decide_eq_true (by have := HP.out; show 0 ≤ p0; omega), show decide ((p0, p1).1 ≠ (p0, p1).2) = true from decide_eq_true (by show p0 ≠ p1; rw [beq_eq_false_iff_ne] at k1; exact k1), show decide ((p0, p1).2 < N) = true from decide_eq_true (by show p1 < N; rw [decide_eq_false_iff_not] at k2; omega)]
          rfl))
        clear hst hct
        have hml := hM.out.lt
        have OP := Lib.hid (Own.new' (t := 49) (w := wr.alloc (.cells #[.int .i64 x0, .int .i64 x1] 49)) (g := wr.heap.size + 1) (vs := [.int .i64 p0, .int .i64 p1]) (by simp))
        have RV := Lib.hid (hR.out.below BV0.out)
        have LS := Lib.hid (show ((E.take k).map normE).length = k by rw [List.length_map, List.length_take]; have := H.out.len; omega)
        go_wp2_with (first
          | (at_mapUpdate; refine wpList_put_edge Tryd.underlying79 rfl _ _ _ rfl rfl MV.out (by omega) (p0, p1) rfl _ rfl (WalkArith.wf_i64 (by omega)) HW.out ?_; intro w5 hM5 hg5
             have hs5 := hg5.size
             have OP5 := Lib.hid (OP.out.grown hg5 (by intro e; injection e with e; omega))
             have r0 := OP5.out.cell 0
             have r1 := OP5.out.cell 1
             have rz := OP5.out.lt
             have hP5 := Lib.hid (alloc_below w5 (.cells #[.int .i64 p0, .int .i64 p1] 49))
             have HRA := Lib.hid ((RV.out.far hg5 (by omega)).below hP5.out)
             have HRd := Lib.hid (show Rd (w5.alloc (.cells #[.int .i64 p0, .int .i64 p1] 49)) (some ⟨w5.heap.size, 0, none⟩) (cellsE [(p0, p1)]) from (Own.new' (t := 49) (w := w5) (vs := [.int .i64 p0, .int .i64 p1]) rfl).rd)
             have GV5 := Lib.hid (OV.out.grown hg5 (by intro e; injection e with e; omega))
             have B5 := Lib.hid ((BV.out.trans (grown_below hg5 (by omega) BV.out.size)).trans (hP5.out.mono (by have := BV.out.size; omega)))
             have M5 := Lib.hid (hM5.below hP5.out)
             have s5 : w.heap.size + 2 ≤ (w5.alloc (.cells #[.int .i64 p0, .int .i64 p1] 49)).heap.size := by simp; simp at hs5; omega
             have S5 := Lib.hid s5
             clear hM5 hg5 s5 hs5)
          | (at_builtin; refine wpList_append_edges rfl (.tmp 74) (.tmp 76) rfl (some ⟨w5.heap.size, 0, none⟩) 1 1 (k := [(p0, p1)]) rfl rfl HRA.out rfl HRd.out (by rw [LS.out]; omega) S5.out ?_
             intro v6 w6 hR6 hB6 _
             have R6 := Lib.hid hR6; have B6 := Lib.hid hB6
             clear hR6 hB6))
        refine ⟨⟨k + 1, by omega, by simp, hst2, Lib.hid ?_, Lib.hid ?_, Lib.hid ?_, Lib.hid ?_, Lib.hid ?_⟩, by simp [intOf]; omega⟩
        · have h := M5.out.same (B6.out.block _ (by omega))
          rw [HNX.out] at h
          exact h
        · have h := R6.out
          rw [HNX.out] at h
          exact h
        · exact (B6.out.block _ (by omega)).trans (GV5.out.below' hP5.out)
        · exact B5.out.trans (B6.out.mono (by omega))
        · intro e
          subst e
          rcases R6.out with ⟨h, _⟩ | ⟨g, cap, more, h, _⟩
          · simp at h
          · simp at h
    · obtain rfl : n = k := by omega
      have HX := Lib.hid (HGOOD.out (hS.out.trans (okN_end (by have := H.out.len; omega))))
      have LS := Lib.hid (show ((E.take n).map normE).length = n by rw [List.length_map, List.length_take]; have := H.out.len; omega)
      have TK := Lib.hid (show (E.take n).map normE = E.map normE by rw [List.take_of_length_le (by have := H.out.len; omega)])
      rcases hR.out with ⟨_, e⟩ | ⟨g, cap, more, e, hgb, ho, h1, h2, h3⟩
      · exact absurd e hNE.out
      rw [LS.out] at e h1
      subst e
      rw [TK.out] at ho h3
      have HSo := Lib.hid (sortE_any g n cap (E.map normE) more wr ho (by rw [← TK.out, LS.out]) (by omega))
      have HGR := Lib.hid hgb
      have HH := Lib.hid (show n ≤ cap ∧ cap ≤ maxLen ∧ (cellsE (E.map normE) ++ more).length = cap * 2 ∧ (E.map normE).length = n from ⟨h1, h2, h3, by rw [← TK.out, LS.out]⟩)
      clear hmk hmm ho h1 h2 h3 hR hM hS
      rw [HX.out]
      go_wp2_with fail
      refine HSo.out.mono ?_
      rintro e w' ⟨rfl, hO2, hg2⟩
      have OG := Lib.hid (hG.out.grown hg2 (by intro e; injection e with e; omega))
      have yR := OG.out.lt; have fR := OG.out.frozen; have qR := OG.out.cell
      have BF := Lib.hid (hB.out.trans (grown_below hg2 (by omega) hB.out.size))
      have HO2 := Lib.hid hO2
      clear hO2 hg2
      go_wp2
      have hF := (OG.out.set 0 (.int .i64 N)).set 1 (.slice (some ⟨g, 0, none⟩) n cap)
      have r0 := hF.cell 0
      have r1 := hF.cell 1
      simp only [List.set_cons_zero, List.set_cons_succ, List.getElem?_cons_zero, List.getElem?_cons_succ] at r0 r1
      have LR : (riseE (E.map normE)).length = n := (length_rise _).trans HH.out.2.2.2
      exact bodyPost_ret (v := .tuple #[.agg #[.int .i64 N, .slice (some ⟨g, 0, none⟩) n cap], .int .i64 0]) (by simp [results, Tryd.results22, go_sem, r0, r1]) rfl
        (by show GrE w N (newO N E) _ _
            rw [HX.out]
            exact ⟨_, rfl, .inr ⟨g, cap, more, by rw [LR], by have := HGR.out; omega, (HO2.out.far (by intro e; simp at e; have := HGR.out; omega) _).far (by intro e; simp at e; have := HGR.out; omega) _, by rw [LR]; exact HH.out.1, HH.out.2.1, by have := HH.out.2.2.1; rw [List.length_append, length_cellsE] at this ⊢; rw [LR]; rw [HH.out.2.2.2] at this; exact this⟩, (BF.out.setCell (by simp; try omega) _).setCell (by simp; try omega) _⟩)
end Go.Proofs.YtljihclpgpmfeaaDoor
