/- Walk: fretworklaw03.awake. -/
import Derived.Test.YtccaagildkgfeaaJc
namespace Go.Proofs.Ytccaagildkgfeaa
open Go.RowKit

theorem app_awake : appO 3 [(0, 1), (1, 2)] [1, 2, 0] = .ok [(0, 2), (1, 2)] := by
  have h : riseE [(1, 2), (0, 2)] = [(0, 2), (1, 2)] := by
    simp [riseE, List.mergeSort, List.MergeSort.Internal.splitInTwo, List.merge, ltE]
    decide
  show newO 3 [(1, 2), (2, 0)] = _
  show Except.ok (riseE [(1, 2), (0, 2)]) = _
  rw [h]
set_option maxRecDepth 100000 in
set_option maxHeartbeats 8000000 in
theorem awakeP_true (w : World) : Calls Try.prog 10 #[] w fun e w' => e = .returned (.bool true) ∧ Below w.heap.size w w' := by
  go_enter Try.func10, Try.ntmps10
  have hb := Lib.hid (Below.refl w.heap.size w)
  have hP := Lib.hid (litI (W := w) (g := w.heap.size) (n := 3) [1, 2, 0] rfl rfl (by decide))
  go_wp2_with fail
  refine (compose_any _ _ 3 3 3 3 [1, 2, 0] [1, 0, 2] _ (hP.out.keep (alloc_below _ _)) (litI [1, 0, 2] (by simp) rfl (by decide))).mono ?_
  intro e w1 he
  rw [show compO [1, 2, 0] [1, 0, 2] = some [0, 2, 1] from by decide] at he
  obtain ⟨A1, c1, rfl, hr1, ha1, hbk⟩ := he.some (by decide)
  clear hr1
  have hP' := Lib.hid ((hP.out.keep (alloc_below _ _)).keep hbk); clear hP; have hP := hP'; clear hP'
  have hb' := Lib.hid (below_chain (bel_alloc (bel_alloc hb.out _) _) hbk); clear hb hbk; have hb := hb'; clear hb'
  have h1 := Lib.hid ha1; clear ha1
  go_wp2_with fail
  refine (invert_any _ 3 3 [1, 2, 0] _ hP.out).mono ?_
  intro e w2 he
  rw [show invO [1, 2, 0] = some [2, 0, 1] from by decide] at he
  obtain ⟨A2, c2, rfl, hr2, ha2, hbk⟩ := he.some (by decide)
  clear hr2
  have hP' := Lib.hid (hP.out.keep hbk)
  have h1' := Lib.hid (h1.out.keep hbk)
  have hb' := Lib.hid (below_chain hb.out hbk)
  clear hb hbk hP h1
  have hb := hb'; clear hb'
  have hP := hP'; clear hP'
  have h1 := h1'; clear h1'
  have h2 := Lib.hid ha2; clear ha2
  go_wp2_with fail
  refine (power_any _ 3 3 2 [1, 2, 0] _ hP.out).mono ?_
  intro e w3 he
  rw [show powO [1, 2, 0] 2 = some [2, 0, 1] from by decide] at he
  obtain ⟨A3, c3, rfl, hr3, ha3, hbk⟩ := he.some (by decide)
  clear hr3
  have hP' := Lib.hid (hP.out.keep hbk)
  have h1' := Lib.hid (h1.out.keep hbk)
  have h2' := Lib.hid (h2.out.keep hbk)
  have hb' := Lib.hid (below_chain hb.out hbk)
  clear hb hbk hP h1 h2
  have hb := hb'; clear hb'
  have hP := hP'; clear hP'
  have h1 := h1'; clear h1'
  have h2 := h2'; clear h2'
  have h3 := Lib.hid ha3; clear ha3
  go_wp2_with fail
  refine (cyclesP_any _ 4 4 [1, 2, 0, 3] _ (litI (W := _) [1, 2, 0, 3] (by simp) rfl (by decide))).mono ?_
  intro e w4 he
  rw [show cycO [1, 2, 0, 3] = some [[0, 1, 2], [3]] from by decide] at he
  obtain ⟨g4, c4, rfl, hr4, ha4, hbk⟩ := he.some (by decide) (by decide)
  clear hr4
  have hP' := Lib.hid ((hP.out.keep (alloc_below _ _)).keep hbk)
  have h1' := Lib.hid ((h1.out.keep (alloc_below _ _)).keep hbk)
  have h2' := Lib.hid ((h2.out.keep (alloc_below _ _)).keep hbk)
  have h3' := Lib.hid ((h3.out.keep (alloc_below _ _)).keep hbk)
  have hb' := Lib.hid (below_chain (bel_alloc hb.out _) hbk)
  clear hb hbk hP h1 h2 h3
  have hb := hb'; clear hb'
  have hP := hP'; clear hP'
  have h1 := h1'; clear h1'
  have h2 := h2'; clear h2'
  have h3 := h3'; clear h3'
  have h4 := Lib.hid ha4; clear ha4
  go_wp2_with fail
  refine (order_any _ 4 4 [1, 2, 0, 3] _ (litI (W := _) [1, 2, 0, 3] (by simp) rfl (by decide))).mono ?_
  intro e w5 he
  rw [show ordO [1, 2, 0, 3] = some 3 from by decide] at he
  obtain ⟨rfl, hbk⟩ := he
  have hP' := Lib.hid ((hP.out.keep (alloc_below _ _)).keep hbk)
  have h1' := Lib.hid ((h1.out.keep (alloc_below _ _)).keep hbk)
  have h2' := Lib.hid ((h2.out.keep (alloc_below _ _)).keep hbk)
  have h3' := Lib.hid ((h3.out.keep (alloc_below _ _)).keep hbk)
  have h4' := Lib.hid ((h4.out.keep (alloc_below _ _)).keep hbk)
  have hb' := Lib.hid (below_chain (bel_alloc hb.out _) hbk)
  clear hb hbk hP h1 h2 h3 h4
  have hb := hb'; clear hb'
  have hP := hP'; clear hP'
  have h1 := h1'; clear h1'
  have h2 := h2'; clear h2'
  have h3 := h3'; clear h3'
  have h4 := h4'; clear h4'
  go_wp2_with fail
  refine (order_any none 0 0 [] _ ⟨Rd.nil, rfl, by decide, Nat.le_refl _⟩).mono ?_
  intro e w6 he
  rw [show ordO [] = some 1 from by decide] at he
  obtain ⟨rfl, hbk⟩ := he
  have hP' := Lib.hid (hP.out.keep hbk)
  have h1' := Lib.hid (h1.out.keep hbk)
  have h2' := Lib.hid (h2.out.keep hbk)
  have h3' := Lib.hid (h3.out.keep hbk)
  have h4' := Lib.hid (h4.out.keep hbk)
  have hb' := Lib.hid (below_chain hb.out hbk)
  clear hb hbk hP h1 h2 h3 h4
  have hb := hb'; clear hb'
  have hP := hP'; clear hP'
  have h1 := h1'; clear h1'
  have h2 := h2'; clear h2'
  have h3 := h3'; clear h3'
  have h4 := h4'; clear h4'
  go_wp2_with fail
  refine (invert_any _ 2 2 [0, 0] _ (litI (W := _) [0, 0] (by simp) rfl (by decide))).mono ?_
  intro e w7 he
  rw [show invO [0, 0] = none from by decide] at he
  obtain ⟨A7, c7, rfl, hr7, ha7, hbk⟩ := he.none
  clear hr7 ha7
  have hP' := Lib.hid ((hP.out.keep (alloc_below _ _)).keep hbk)
  have h1' := Lib.hid ((h1.out.keep (alloc_below _ _)).keep hbk)
  have h2' := Lib.hid ((h2.out.keep (alloc_below _ _)).keep hbk)
  have h3' := Lib.hid ((h3.out.keep (alloc_below _ _)).keep hbk)
  have h4' := Lib.hid ((h4.out.keep (alloc_below _ _)).keep hbk)
  have hb' := Lib.hid (below_chain (bel_alloc hb.out _) hbk)
  clear hb hbk hP h1 h2 h3 h4
  have hb := hb'; clear hb'
  have hP := hP'; clear hP'
  have h1 := h1'; clear h1'
  have h2 := h2'; clear h2'
  have h3 := h3'; clear h3'
  have h4 := h4'; clear h4'
  go_wp2_with fail
  refine (apply_any 3 _ _ 2 2 3 3 [(0, 1), (1, 2)] [1, 2, 0] _ (litEE [(0, 1), (1, 2)] (by simp) rfl (by decide)) (hP.out.keep (alloc_below _ _))).mono ?_
  intro e w8 he
  rw [app_awake] at he
  obtain ⟨v8, rfl, hr8, hbk⟩ := he
  obtain ⟨A8, c8, rfl, ha8⟩ := hr8.arg (by decide)
  clear hr8
  have hP' := Lib.hid ((hP.out.keep (alloc_below _ _)).keep hbk)
  have h1' := Lib.hid ((h1.out.keep (alloc_below _ _)).keep hbk)
  have h2' := Lib.hid ((h2.out.keep (alloc_below _ _)).keep hbk)
  have h3' := Lib.hid ((h3.out.keep (alloc_below _ _)).keep hbk)
  have h4' := Lib.hid ((h4.out.keep (alloc_below _ _)).keep hbk)
  have hb' := Lib.hid (below_chain (bel_alloc hb.out _) hbk)
  clear hb hbk hP h1 h2 h3 h4
  have hb := hb'; clear hb'
  have hP := hP'; clear hP'
  have h1 := h1'; clear h1'
  have h2 := h2'; clear h2'
  have h3 := h3'; clear h3'
  have h4 := h4'; clear h4'
  have h8 := Lib.hid ha8; clear ha8
  have OB := Lib.hid (Own.new' (w := w8) (t := 34) (vs := [.int .i64 3, .slice A8 2 c8]) rfl)
  have hb' := Lib.hid (hb.out.alloc hb.out.size (.cells #[.int .i64 3, .slice A8 2 c8] 34)); clear hb; have hb := hb'; clear hb'
  have hP' := Lib.hid (hP.out.keep (alloc_below _ (.cells #[.int .i64 3, .slice A8 2 c8] 34))); clear hP; have hP := hP'; clear hP'
  have h1' := Lib.hid (h1.out.keep (alloc_below _ (.cells #[.int .i64 3, .slice A8 2 c8] 34))); clear h1; have h1 := h1'; clear h1'
  have h2' := Lib.hid (h2.out.keep (alloc_below _ (.cells #[.int .i64 3, .slice A8 2 c8] 34))); clear h2; have h2 := h2'; clear h2'
  have h3' := Lib.hid (h3.out.keep (alloc_below _ (.cells #[.int .i64 3, .slice A8 2 c8] 34))); clear h3; have h3 := h3'; clear h3'
  have h4' := Lib.hid (h4.out.keep (alloc_below _ (.cells #[.int .i64 3, .slice A8 2 c8] 34))); clear h4; have h4 := h4'; clear h4'
  have h8' := Lib.hid (h8.out.keep (alloc_below _ (.cells #[.int .i64 3, .slice A8 2 c8] 34))); clear h8; have h8 := h8'; clear h8'
  go_wp2_with fail
  refine (sameInts_any _ _ c1 3 3 3 [0, 2, 1] [0, 2, 1] _ (h1.out.keep (alloc_below _ _)) (litI (W := _) [0, 2, 1] (by simp) rfl (by decide))).mono ?_
  rintro e w9 ⟨rfl, hbk⟩
  rw [show (([0, 2, 1] : List Int) == [0, 2, 1]) = true from by decide]
  have hP' := Lib.hid ((hP.out.keep (alloc_below _ _)).keep hbk)
  have h1' := Lib.hid ((h1.out.keep (alloc_below _ _)).keep hbk)
  have h2' := Lib.hid ((h2.out.keep (alloc_below _ _)).keep hbk)
  have h3' := Lib.hid ((h3.out.keep (alloc_below _ _)).keep hbk)
  have h4' := Lib.hid ((h4.out.keep (alloc_below _ _)).keep hbk)
  have h8' := Lib.hid ((h8.out.keep (alloc_below _ _)).keep hbk)
  have OB' := Lib.hid ((OB.out.alloc _).below' hbk)
  have hb' := Lib.hid (below_chain (bel_alloc hb.out _) hbk)
  clear hb hbk hP h1 h2 h3 h4 h8 OB
  have hb := hb'; clear hb'
  have hP := hP'; clear hP'
  have h1 := h1'; clear h1'
  have h2 := h2'; clear h2'
  have h3 := h3'; clear h3'
  have h4 := h4'; clear h4'
  have h8 := h8'; clear h8'
  have OB := OB'; clear OB'
  go_wp2_with fail
  refine (sameInts_any _ _ c2 3 3 3 [2, 0, 1] [2, 0, 1] _ (h2.out.keep (alloc_below _ _)) (litI (W := _) [2, 0, 1] (by simp) rfl (by decide))).mono ?_
  rintro e w10 ⟨rfl, hbk⟩
  rw [show (([2, 0, 1] : List Int) == [2, 0, 1]) = true from by decide]
  have hP' := Lib.hid ((hP.out.keep (alloc_below _ _)).keep hbk)
  have h1' := Lib.hid ((h1.out.keep (alloc_below _ _)).keep hbk)
  have h2' := Lib.hid ((h2.out.keep (alloc_below _ _)).keep hbk)
  have h3' := Lib.hid ((h3.out.keep (alloc_below _ _)).keep hbk)
  have h4' := Lib.hid ((h4.out.keep (alloc_below _ _)).keep hbk)
  have h8' := Lib.hid ((h8.out.keep (alloc_below _ _)).keep hbk)
  have OB' := Lib.hid ((OB.out.alloc _).below' hbk)
  have hb' := Lib.hid (below_chain (bel_alloc hb.out _) hbk)
  clear hb hbk hP h1 h2 h3 h4 h8 OB
  have hb := hb'; clear hb'
  have hP := hP'; clear hP'
  have h1 := h1'; clear h1'
  have h2 := h2'; clear h2'
  have h3 := h3'; clear h3'
  have h4 := h4'; clear h4'
  have h8 := h8'; clear h8'
  have OB := OB'; clear OB'
  go_wp2_with fail
  refine (sameInts_any _ _ c3 c2 3 3 [2, 0, 1] [2, 0, 1] _ h3.out h2.out).mono ?_
  rintro e w11 ⟨rfl, hbk⟩
  rw [show (([2, 0, 1] : List Int) == [2, 0, 1]) = true from by decide]
  have hP' := Lib.hid (hP.out.keep hbk)
  have h1' := Lib.hid (h1.out.keep hbk)
  have h2' := Lib.hid (h2.out.keep hbk)
  have h3' := Lib.hid (h3.out.keep hbk)
  have h4' := Lib.hid (h4.out.keep hbk)
  have h8' := Lib.hid (h8.out.keep hbk)
  have OB' := Lib.hid (OB.out.below' hbk)
  have hb' := Lib.hid (below_chain hb.out hbk)
  clear hb hbk hP h1 h2 h3 h4 h8 OB
  have hb := hb'; clear hb'
  have hP := hP'; clear hP'
  have h1 := h1'; clear h1'
  have h2 := h2'; clear h2'
  have h3 := h3'; clear h3'
  have h4 := h4'; clear h4'
  have h8 := h8'; clear h8'
  have OB := OB'; clear OB'
  go_wp2_with fail
  refine (sameLists_any _ _ c4 2 2 2 [[0, 1, 2], [3]] [[0, 1, 2], [3]] _ (((h4.out.keep (alloc_below _ _)).keep (alloc_below _ _)).keep (alloc_below _ _)) (litL2 [0, 1, 2] [3] (by simp) (by simp) (by simp) rfl rfl (by decide) (by decide))).mono ?_
  rintro e w12 ⟨rfl, hbk⟩
  rw [show (([[0, 1, 2], [3]] : List (List Int)) == [[0, 1, 2], [3]]) = true from by decide]
  have hP' := Lib.hid ((((hP.out.keep (alloc_below _ _)).keep (alloc_below _ _)).keep (alloc_below _ _)).keep hbk)
  have h1' := Lib.hid ((((h1.out.keep (alloc_below _ _)).keep (alloc_below _ _)).keep (alloc_below _ _)).keep hbk)
  have h2' := Lib.hid ((((h2.out.keep (alloc_below _ _)).keep (alloc_below _ _)).keep (alloc_below _ _)).keep hbk)
  have h3' := Lib.hid ((((h3.out.keep (alloc_below _ _)).keep (alloc_below _ _)).keep (alloc_below _ _)).keep hbk)
  have h4' := Lib.hid ((((h4.out.keep (alloc_below _ _)).keep (alloc_below _ _)).keep (alloc_below _ _)).keep hbk)
  have h8' := Lib.hid ((((h8.out.keep (alloc_below _ _)).keep (alloc_below _ _)).keep (alloc_below _ _)).keep hbk)
  have OB' := Lib.hid ((((OB.out.alloc _).alloc _).alloc _).below' hbk)
  have hb' := Lib.hid (below_chain (bel_alloc (bel_alloc (bel_alloc hb.out _) _) _) hbk)
  clear hb hbk hP h1 h2 h3 h4 h8 OB
  have hb := hb'; clear hb'
  have hP := hP'; clear hP'
  have h1 := h1'; clear h1'
  have h2 := h2'; clear h2'
  have h3 := h3'; clear h3'
  have h4 := h4'; clear h4'
  have h8 := h8'; clear h8'
  have OB := OB'; clear OB'
  have qOB := OB.out.cell; have zOB := OB.out.lt
  go_wp2_with fail
  refine (samePairs_any _ _ c8 2 2 2 [(0, 2), (1, 2)] [(0, 2), (1, 2)] _ (h8.out.keep (alloc_below _ _)) (litEE [(0, 2), (1, 2)] (by simp) rfl (by decide))).mono ?_
  rintro e w13 ⟨rfl, hbk⟩
  rw [show (([(0, 2), (1, 2)] : List (Int × Int)) == [(0, 2), (1, 2)]) = true from by decide]
  have hP' := Lib.hid ((hP.out.keep (alloc_below _ _)).keep hbk)
  have h1' := Lib.hid ((h1.out.keep (alloc_below _ _)).keep hbk)
  have h2' := Lib.hid ((h2.out.keep (alloc_below _ _)).keep hbk)
  have h3' := Lib.hid ((h3.out.keep (alloc_below _ _)).keep hbk)
  have h4' := Lib.hid ((h4.out.keep (alloc_below _ _)).keep hbk)
  have h8' := Lib.hid ((h8.out.keep (alloc_below _ _)).keep hbk)
  have OB' := Lib.hid ((OB.out.alloc _).below' hbk)
  clear qOB zOB
  have hb' := Lib.hid (below_chain (bel_alloc hb.out _) hbk)
  clear hb hbk hP h1 h2 h3 h4 h8 OB
  have hb := hb'; clear hb'
  have hP := hP'; clear hP'
  have h1 := h1'; clear h1'
  have h2 := h2'; clear h2'
  have h3 := h3'; clear h3'
  have h4 := h4'; clear h4'
  have h8 := h8'; clear h8'
  have OB := OB'; clear OB'
  go_wp2
  go_ret
  exact ⟨rfl, hb.out⟩
end Go.Proofs.Ytccaagildkgfeaa
