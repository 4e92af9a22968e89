/- Walk: fretworklaw01.StrandTells. -/
import Derived.Test.YtnhlenagojbigaaTells0
import Derived.Test.YtnhlenagojbigaaStrCp
import Derived.Test.YtnhlenagojbigaaStrZ0
import Derived.Test.YtnhlenagojbigaaStrN
namespace Go.Proofs.Ytnhlenagojbigaa
open Go.RowKit

set_option maxRecDepth 100000 in
set_option maxHeartbeats 8000000 in
theorem strandTells_true (A A' B : Option Addr) (n c n' c' m cB x : Nat) (L L' wd p q : Int) (f f' h : Nat → Bool) (w : World) (hs : ArgS w A n L f) (ht : ArgS w A' n' L' f') (hb : Rd w B (cellsF h m)) (hx : x < 18446744073709551616)
   (hw0 : -9223372036854775808 ≤ wd) (hw1 : wd ≤ 9223372036854775807) :
    Calls Try.prog 9 #[.agg #[.slice A n c, .int .i64 L], .agg #[.slice A' n' c', .int .i64 L'], .agg #[.int .u64 x, .int .i64 wd, .int .i64 p, .int .i64 q, .slice B m cB]] w fun e w' => e = .returned (.bool true) ∧ Below w.heap.size w w' := by
  have HS := Lib.hid hs; have HT := Lib.hid ht; have HB := Lib.hid hb
  clear hs ht hb
  have hb := Lib.hid (Below.refl w.heap.size w)
  go_enter Try.func9, Try.ntmps9
  go_wp2_with fail
  refine (great_any A n c L _).mono ?_
  rintro e w1 ⟨rfl, hbk⟩
  have HS' := Lib.hid ((((HS.out.alloc _).alloc _).alloc _).keep hbk)
  have HT' := Lib.hid ((((HT.out.alloc _).alloc _).alloc _).keep hbk)
  have HB' := Lib.hid ((((HB.out.alloc _).alloc _).alloc _).below hbk)
  have O3' := Lib.hid (Own.below' (((Own.new' (g := w.heap.size) (w := w) (t := 24) (vs := [.slice A n c, .int .i64 L]) rfl).alloc (.cells #[.slice A' n' c', .int .i64 L'] 24)).alloc (.cells #[.int .u64 (x : Nat), .int .i64 wd, .int .i64 p, .int .i64 q, .slice B m cB] 61)) hbk)
  have O4' := Lib.hid (Own.below' ((Own.new' (g := w.heap.size + 1) (t := 24) (vs := [.slice A' n' c', .int .i64 L']) (w := w.alloc (.cells #[.slice A n c, .int .i64 L] 24)) (by simp)).alloc (.cells #[.int .u64 (x : Nat), .int .i64 wd, .int .i64 p, .int .i64 q, .slice B m cB] 61)) hbk)
  have O5' := Lib.hid (Own.below' (Own.new' (g := w.heap.size + 2) (t := 61) (vs := [.int .u64 (x : Nat), .int .i64 wd, .int .i64 p, .int .i64 q, .slice B m cB]) (w := (w.alloc (.cells #[.slice A n c, .int .i64 L] 24)).alloc (.cells #[.slice A' n' c', .int .i64 L'] 24)) (by simp)) hbk)
  have hb' := Lib.hid ((((hb.out.alloc (by have := hb.out.size; simp; try omega) _).alloc (by have := hb.out.size; simp; try omega) _).alloc (by have := hb.out.size; simp; try omega) _).trans (hbk.mono (by have := hb.out.size; simp; try omega)))
  have hs1 := hbk.size
  simp only [World.size_alloc] at hs1
  clear hb hbk HS HT HB
  have hb := hb'; clear hb'
  have HS := HS'; clear HS'
  have HT := HT'; clear HT'
  have HB := HB'; clear HB'
  have O3 := O3'; clear O3'
  have O4 := O4'; clear O4'
  have O5 := O5'; clear O5'
  have qO3 := O3.out.cell; have zO3 := O3.out.lt
  have qO4 := O4.out.cell; have zO4 := O4.out.lt
  have qO5 := O5.out.cell; have zO5 := O5.out.lt
  cases h1 : greatB n L with
  | true =>
    have h1' := Lib.hid h1; clear h1; have h1 := h1'; clear h1'
    go_wp2_with fail
    refine (awake_true _).mono ?_
    rintro e w2 ⟨rfl, hbk⟩
    have O3' := Lib.hid (O3.out.below' hbk)
    have O4' := Lib.hid (O4.out.below' hbk)
    have O5' := Lib.hid (O5.out.below' hbk)
    have HS' := Lib.hid (HS.out.keep hbk)
    have HT' := Lib.hid (HT.out.keep hbk)
    have HB' := Lib.hid (HB.out.below hbk)
    have hb' := Lib.hid (hb.out.trans (hbk.mono (by have := hb.out.size; simp; try omega)))
    have hs2 := hbk.size
    clear qO3 zO3 qO4 zO4 qO5 zO5
    clear hb hbk O3 O4 O5 HS HT HB
    have hb := hb'; clear hb'
    have O3 := O3'; clear O3'
    have O4 := O4'; clear O4'
    have O5 := O5'; clear O5'
    have HS := HS'; clear HS'
    have HT := HT'; clear HT'
    have HB := HB'; clear HB'
    go_wp2
    go_ret
    exact ⟨rfl, hb.out⟩
  | false =>
    have h1' := Lib.hid h1; clear h1; have h1 := h1'; clear h1'
    skip
    go_wp2_with fail
    refine (great_any A' n' c' L' _).mono ?_
    rintro e w2 ⟨rfl, hbk⟩
    have O3' := Lib.hid (O3.out.below' hbk)
    have O4' := Lib.hid (O4.out.below' hbk)
    have O5' := Lib.hid (O5.out.below' hbk)
    have HS' := Lib.hid (HS.out.keep hbk)
    have HT' := Lib.hid (HT.out.keep hbk)
    have HB' := Lib.hid (HB.out.below hbk)
    have hb' := Lib.hid (hb.out.trans (hbk.mono (by have := hb.out.size; simp; try omega)))
    have hs2 := hbk.size
    clear qO3 zO3 qO4 zO4 qO5 zO5
    clear hb hbk O3 O4 O5 HS HT HB
    have hb := hb'; clear hb'
    have O3 := O3'; clear O3'
    have O4 := O4'; clear O4'
    have O5 := O5'; clear O5'
    have HS := HS'; clear HS'
    have HT := HT'; clear HT'
    have HB := HB'; clear HB'
    have qO3 := O3.out.cell; have zO3 := O3.out.lt
    have qO4 := O4.out.cell; have zO4 := O4.out.lt
    have qO5 := O5.out.cell; have zO5 := O5.out.lt
    cases h2 : greatB n' L' with
    | true =>
      have h2' := Lib.hid h2; clear h2; have h2 := h2'; clear h2'
      go_wp2_with fail
      refine (awake_true _).mono ?_
      rintro e w3 ⟨rfl, hbk⟩
      have O3' := Lib.hid (O3.out.below' hbk)
      have O4' := Lib.hid (O4.out.below' hbk)
      have O5' := Lib.hid (O5.out.below' hbk)
      have HS' := Lib.hid (HS.out.keep hbk)
      have HT' := Lib.hid (HT.out.keep hbk)
      have HB' := Lib.hid (HB.out.below hbk)
      have hb' := Lib.hid (hb.out.trans (hbk.mono (by have := hb.out.size; simp; try omega)))
      have hs3 := hbk.size
      clear qO3 zO3 qO4 zO4 qO5 zO5
      clear hb hbk O3 O4 O5 HS HT HB
      have hb := hb'; clear hb'
      have O3 := O3'; clear O3'
      have O4 := O4'; clear O4'
      have O5 := O5'; clear O5'
      have HS := HS'; clear HS'
      have HT := HT'; clear HT'
      have HB := HB'; clear HB'
      go_wp2
      go_ret
      exact ⟨rfl, hb.out⟩
    | false =>
      by_cases hm : 250 < m
      · have d1 : decide (250 < (m : Int)) = true := by rw [decide_eq_true_eq]; omega
        have d2 : decide (250 < m) = true := by rw [decide_eq_true_eq]; exact hm
        go_wp2_with fail
        refine (awake_true _).mono ?_
        rintro e w3 ⟨rfl, hbk⟩
        have O3' := Lib.hid (O3.out.below' hbk)
        have O4' := Lib.hid (O4.out.below' hbk)
        have O5' := Lib.hid (O5.out.below' hbk)
        have HS' := Lib.hid (HS.out.keep hbk)
        have HT' := Lib.hid (HT.out.keep hbk)
        have HB' := Lib.hid (HB.out.below hbk)
        have hb' := Lib.hid (hb.out.trans (hbk.mono (by have := hb.out.size; simp; try omega)))
        have hs3 := hbk.size
        clear qO3 zO3 qO4 zO4 qO5 zO5
        clear hb hbk O3 O4 O5 HS HT HB
        have hb := hb'; clear hb'
        have O3 := O3'; clear O3'
        have O4 := O4'; clear O4'
        have O5 := O5'; clear O5'
        have HS := HS'; clear HS'
        have HT := HT'; clear HT'
        have HB := HB'; clear HB'
        go_wp2
        go_ret
        exact ⟨rfl, hb.out⟩
      · skip
        have d1 : decide (250 < (m : Int)) = false := by rw [decide_eq_false_iff_not]; omega
        have d2 : decide (250 < m) = false := by rw [decide_eq_false_iff_not]; omega
        have hn : n ≤ 140737488351232 := by have := great_false h1.out; omega
        have hn' : n' ≤ 140737488351232 := by have := great_false h2; omega
        go_upto_region 3 with (fail)
        go_cut [7, 8] (fun s7 s8 V => Two w2 n L f n' L' f' s7 s8 V)
        case first =>
          refine region_invA (by kernel_rfl) (RegI w2 n L f n' L' f' (.agg #[.slice A n c, .int .i64 L]) (.agg #[.slice A' n' c', .int .i64 L'])) ?_ ?_ ?_
          · exact ⟨false, false, false, false, false, false, false, false, undef, undef, undef, undef, undef, undef, rfl, six_self rfl rfl rfl rfl rfl rfl, I3.start _ _ (below_drewN (Below.refl _ _) 1)⟩
          · intro l a V i ⟨b0, b1, b2, b3, b4, b5, b6, b7, v38, v39, v40, v41, v7, v8, hl, ha, hI⟩ hi
            subst hl ha
            have hi8 : i < 8 := (ready_mem hi).1
            have hrd := (ready_mem hi).2.2
            have hlf := (ready_mem hi).2.1
            clear hi
            rcases (show i = 0 ∨ i = 1 ∨ i = 2 ∨ i = 3 ∨ i = 4 ∨ i = 5 ∨ i = 6 ∨ i = 7 by omega) with rfl | rfl | rfl | rfl | rfl | rfl | rfl | rfl
            · unfold wpOp
              simp only [List.getElem?_toArray, List.getElem?_cons_zero]
              refine (if_pos (show Region.wanted _ _ = true from rfl)).mpr (.inl ?_)
              have e0 := hI.bel
              clear hrd hlf
              have c0 : V.cell? ⟨w.heap.size, 0, none⟩ = some (.slice A n c) := (e0.cell (p := ⟨w.heap.size, 0, none⟩) zO3).trans (qO3 0)
              have c1 : V.cell? ⟨w.heap.size, 1, none⟩ = some (.int .i64 L) := (e0.cell (p := ⟨w.heap.size, 1, none⟩) zO3).trans (qO3 1)
              have HI := Lib.hid hI
              clear hI e0 qO3 qO4 qO5 h2 hm d1 d2 hx hw0 hw1
              generalize ha1 : ((((((Act.put _ (some 38) v38).put (some 39) v39).put (some 40) v40).put (some 41) v41).put (some 7) v7).put (some 8) v8) = a1
              have e3b : a1.tmps[3]? = some (.pointer (some ⟨w.heap.size, 0, none⟩)) := six_other ha1 rfl (by decide) (by decide) (by decide) (by decide) (by decide) (by decide)
              have e3 : a1.tmps.getD 3 undef = .pointer (some ⟨w.heap.size, 0, none⟩) := getD_of e3b
              have HA := Lib.hid ha1
              clear ha1
              refine hideK (fun a' V' => a' = a1.put (some 38) (.agg #[.slice A n c, .int .i64 L]) ∧ V' = V) ?_ ?_
              · rintro _ _ ⟨rfl, rfl⟩
                exact ⟨true, b1, b2, b3, b4, b5, b6, b7, _, v39, v40, v41, v7, v8, rfl, by rw [← HA.out]; exact put_at38, HI.out.s0⟩
              · intro K' Q' hK
                clear HI HA
                go_wp2
            · unfold wpOp
              simp only [List.getElem?_toArray, List.getElem?_cons_zero, List.getElem?_cons_succ]
              refine (if_pos (show Region.wanted _ _ = true from rfl)).mpr (.inl ?_)
              have f0 : b0 = true := ready_dep (md := .any) hrd rfl 0 rfl rfl
              clear hrd hlf
              subst f0
              have ev := hI.i0 rfl
              subst ev
              generalize ha1 : ((((((Act.put _ (some 38) (.agg #[.slice A n c, .int .i64 L])).put (some 39) v39).put (some 40) v40).put (some 41) v41).put (some 7) v7).put (some 8) v8) = a1
              have e3b : a1.tmps[38]? = some (.agg #[.slice A n c, .int .i64 L]) := six_38 ha1 (by simp)
              have e3 : a1.tmps.getD 38 undef = .agg #[.slice A n c, .int .i64 L] := getD_of e3b
              have HA := Lib.hid ha1
              have HI := Lib.hid hI
              clear ha1 hI
              have HV := Lib.hid ((HS.out.keep HI.out.bel).rd)
              go_wp2_with fail
              refine (copy_any A n c L f _ HV.out hn).mono ?_
              rintro e V' ⟨g, cap, more, rfl, hg, hO, hbk⟩
              have H4 := Lib.hid (HI.out.s1 hbk ⟨g, cap, more, rfl, Nat.le_trans HI.out.bel.size hg, hO⟩)
              clear hg hO hbk
              go_wp2
              exact ⟨true, true, b2, b3, b4, b5, b6, b7, _, _, v40, v41, v7, v8, rfl, by rw [← HA.out]; exact put_at39, H4.out⟩
            · unfold wpOp
              simp only [List.getElem?_toArray, List.getElem?_cons_zero, List.getElem?_cons_succ]
              refine (if_pos (show Region.wanted _ _ = true from rfl)).mpr (.inl ?_)
              have e0 := hI.bel
              clear hrd hlf
              have c0 : V.cell? ⟨w.heap.size + 1, 0, none⟩ = some (.slice A' n' c') := (e0.cell (p := ⟨w.heap.size + 1, 0, none⟩) zO4).trans (qO4 0)
              have c1 : V.cell? ⟨w.heap.size + 1, 1, none⟩ = some (.int .i64 L') := (e0.cell (p := ⟨w.heap.size + 1, 1, none⟩) zO4).trans (qO4 1)
              have HI := Lib.hid hI
              clear hI e0 qO3 qO4 qO5 h2 hm d1 d2 hx hw0 hw1
              generalize ha1 : ((((((Act.put _ (some 38) v38).put (some 39) v39).put (some 40) v40).put (some 41) v41).put (some 7) v7).put (some 8) v8) = a1
              have e3b : a1.tmps[4]? = some (.pointer (some ⟨w.heap.size + 1, 0, none⟩)) := six_other ha1 rfl (by decide) (by decide) (by decide) (by decide) (by decide) (by decide)
              have e3 : a1.tmps.getD 4 undef = .pointer (some ⟨w.heap.size + 1, 0, none⟩) := getD_of e3b
              have HA := Lib.hid ha1
              clear ha1
              refine hideK (fun a' V' => a' = a1.put (some 40) (.agg #[.slice A' n' c', .int .i64 L']) ∧ V' = V) ?_ ?_
              · rintro _ _ ⟨rfl, rfl⟩
                exact ⟨b0, b1, true, b3, b4, b5, b6, b7, v38, v39, _, v41, v7, v8, rfl, by rw [← HA.out]; exact put_at40, HI.out.s2⟩
              · intro K' Q' hK
                clear HI HA
                go_wp2
            · unfold wpOp
              simp only [List.getElem?_toArray, List.getElem?_cons_zero, List.getElem?_cons_succ]
              refine (if_pos (show Region.wanted _ _ = true from rfl)).mpr (.inl ?_)
              have f2 : b2 = true := ready_dep (md := .any) hrd rfl 0 rfl rfl
              clear hrd hlf
              subst f2
              have ev := hI.i2 rfl
              subst ev
              generalize ha1 : ((((((Act.put _ (some 38) v38).put (some 39) v39).put (some 40) (.agg #[.slice A' n' c', .int .i64 L'])).put (some 41) v41).put (some 7) v7).put (some 8) v8) = a1
              have e3b : a1.tmps[40]? = some (.agg #[.slice A' n' c', .int .i64 L']) := six_40 ha1 (by simp)
              have e3 : a1.tmps.getD 40 undef = .agg #[.slice A' n' c', .int .i64 L'] := getD_of e3b
              have HA := Lib.hid ha1
              have HI := Lib.hid hI
              clear ha1 hI
              have HV := Lib.hid ((HT.out.keep HI.out.bel).rd)
              go_wp2_with fail
              refine (copy_any A' n' c' L' f' _ HV.out hn').mono ?_
              rintro e V' ⟨g, cap, more, rfl, hg, hO, hbk⟩
              have H4 := Lib.hid (HI.out.s3 hbk ⟨g, cap, more, rfl, Nat.le_trans HI.out.bel.size hg, hO⟩)
              clear hg hO hbk
              go_wp2
              exact ⟨b0, b1, true, true, b4, b5, b6, b7, v38, v39, _, _, v7, v8, rfl, by rw [← HA.out]; exact put_at41, H4.out⟩
            · unfold wpOp
              simp only [List.getElem?_toArray, List.getElem?_cons_zero, List.getElem?_cons_succ]
              refine (if_pos (show Region.wanted _ _ = true from rfl)).mpr (.inl ?_)
              have f4 : b4 = false := hlf
              clear hrd hlf
              subst f4
              generalize ha1 : ((((((Act.put _ (some 38) v38).put (some 39) v39).put (some 40) v40).put (some 41) v41).put (some 7) v7).put (some 8) v8) = a1
              have HA := Lib.hid ha1
              have HI := Lib.hid hI
              clear ha1 hI
              go_wp2
              exact ⟨b0, b1, b2, b3, true, b5, b6, b7, v38, v39, v40, v41, _, v8, rfl, by rw [← HA.out]; exact put_at7, HI.out.s4 _ _⟩
            · unfold wpOp
              simp only [List.getElem?_toArray, List.getElem?_cons_zero, List.getElem?_cons_succ]
              refine (if_pos (show Region.wanted _ _ = true from rfl)).mpr (.inl ?_)
              have f5 : b5 = false := hlf
              clear hrd hlf
              subst f5
              generalize ha1 : ((((((Act.put _ (some 38) v38).put (some 39) v39).put (some 40) v40).put (some 41) v41).put (some 7) v7).put (some 8) v8) = a1
              have HA := Lib.hid ha1
              have HI := Lib.hid hI
              clear ha1 hI
              go_wp2
              exact ⟨b0, b1, b2, b3, b4, true, b6, b7, v38, v39, v40, v41, v7, _, rfl, by rw [← HA.out]; exact put_at8, HI.out.s5 _ _⟩
            · unfold wpOp
              simp only [List.getElem?_toArray, List.getElem?_cons_zero, List.getElem?_cons_succ]
              refine (if_pos (show Region.wanted _ _ = true from rfl)).mpr (.inl ?_)
              have f4 : b4 = true := ready_dep (md := .any) hrd rfl 0 rfl rfl
              have f1 : b1 = true := ready_dep (md := .any) hrd rfl 1 rfl rfl
              clear hrd hlf
              subst f4
              subst f1
              refine hI.get6 ?_
              intro b x0 x1 g cap ep ev z1 c0 c1 k0 k1 H4
              subst ev ep
              clear hI qO3 qO4 qO5 h2 hm d1 d2 hx hw0 hw1
              generalize ha1 : ((((((Act.put _ (some 38) v38).put (some 39) (.agg #[.slice (some ⟨g, 0, none⟩) n cap, .int .i64 L])).put (some 40) v40).put (some 41) v41).put (some 7) (.pointer (some ⟨b, 0, none⟩))).put (some 8) v8) = a1
              have e3b : a1.tmps[7]? = some (.pointer (some ⟨b, 0, none⟩)) := six_7 ha1 (by simp)
              have e3 : a1.tmps.getD 7 undef = .pointer (some ⟨b, 0, none⟩) := getD_of e3b
              have e4b : a1.tmps[39]? = some (.agg #[.slice (some ⟨g, 0, none⟩) n cap, .int .i64 L]) := six_39 ha1 (by simp)
              have e4 : a1.tmps.getD 39 undef = .agg #[.slice (some ⟨g, 0, none⟩) n cap, .int .i64 L] := getD_of e4b
              have HA := Lib.hid ha1
              clear ha1
              go_wp2
              exact ⟨b0, true, b2, b3, true, b5, true, b7, v38, _, v40, v41, _, v8, rfl, by rw [← HA.out], H4.out⟩
            · unfold wpOp
              simp only [List.getElem?_toArray, List.getElem?_cons_zero, List.getElem?_cons_succ]
              refine (if_pos (show Region.wanted _ _ = true from rfl)).mpr (.inl ?_)
              have f5 : b5 = true := ready_dep (md := .any) hrd rfl 0 rfl rfl
              have f3 : b3 = true := ready_dep (md := .any) hrd rfl 1 rfl rfl
              clear hrd hlf
              subst f5
              subst f3
              refine hI.get7 ?_
              intro b x0 x1 g cap ep ev z1 c0 c1 k0 k1 H4
              subst ev ep
              clear hI qO3 qO4 qO5 h2 hm d1 d2 hx hw0 hw1
              generalize ha1 : ((((((Act.put _ (some 38) v38).put (some 39) v39).put (some 40) v40).put (some 41) (.agg #[.slice (some ⟨g, 0, none⟩) n' cap, .int .i64 L'])).put (some 7) v7).put (some 8) (.pointer (some ⟨b, 0, none⟩))) = a1
              have e3b : a1.tmps[8]? = some (.pointer (some ⟨b, 0, none⟩)) := six_8 ha1 (by simp)
              have e3 : a1.tmps.getD 8 undef = .pointer (some ⟨b, 0, none⟩) := getD_of e3b
              have e4b : a1.tmps[41]? = some (.agg #[.slice (some ⟨g, 0, none⟩) n' cap, .int .i64 L']) := six_41 ha1 (by simp)
              have e4 : a1.tmps.getD 41 undef = .agg #[.slice (some ⟨g, 0, none⟩) n' cap, .int .i64 L'] := getD_of e4b
              have HA := Lib.hid ha1
              clear ha1
              go_wp2
              exact ⟨b0, b1, b2, true, b4, true, b6, true, v38, v39, v40, _, v7, _, rfl, by rw [← HA.out], H4.out⟩
          · intro l a V ⟨b0, b1, b2, b3, b4, b5, b6, b7, v38, v39, v40, v41, v7, v8, hl, ha, hI⟩ hd
            subst hl ha
            have hall := all_listed (md := .any) (by kernel_rfl) (by rfl) hd
            obtain rfl : b0 = true := hall 0 (by decide)
            obtain rfl : b1 = true := hall 1 (by decide)
            obtain rfl : b2 = true := hall 2 (by decide)
            obtain rfl : b3 = true := hall 3 (by decide)
            obtain rfl : b4 = true := hall 4 (by decide)
            obtain rfl : b5 = true := hall 5 (by decide)
            obtain rfl : b6 = true := hall 6 (by decide)
            obtain rfl : b7 = true := hall 7 (by decide)
            have HT2 := Lib.hid hI.done
            clear hall hd hI
            go_wp2_with fail
            simp only [Act.put, List.setIfInBounds_toArray, List.set_cons_zero, List.set_cons_succ]
            go_meet
            exact HT2.out
        case rest =>
          obtain ⟨b, b9, rfl, rfl, hb1, hb2, hne, hx1, hx2, hbk⟩ := hcut
          obtain ⟨g1, cap1, more1, hg1, og1, ob1⟩ := hx1
          obtain ⟨g2, cap2, more2, hg2, og2, ob2⟩ := hx2
          have HI := Lib.hid (show ArgS wc (some ⟨g1, 0, none⟩) n L f from ⟨rd_front og1, HS.out.zero, HS.out.lo, HS.out.hi⟩)
          have HO := Lib.hid (show ArgS wc (some ⟨g2, 0, none⟩) n' L' f' from ⟨rd_front og2, HT.out.zero, HT.out.lo, HT.out.hi⟩)
          have P7 := Lib.hid ob1; have P8 := Lib.hid ob2
          have HS' := Lib.hid (HS.out.keep hbk); have HT' := Lib.hid (HT.out.keep hbk); have HB' := Lib.hid (HB.out.below hbk)
          have O3' := Lib.hid (O3.out.below' hbk); have O4' := Lib.hid (O4.out.below' hbk); have O5' := Lib.hid (O5.out.below' hbk)
          have hb' := Lib.hid (hb.out.trans (hbk.mono (by have := hb.out.size; omega)))
          have gm : m ≤ 250 := by omega
          clear qO3 zO3 qO4 zO4 qO5 zO5 hb hbk O3 O4 O5 HS HT HB hg1 og1 ob1 hg2 og2 ob2 hb1 hb2 hne hm d1 d2 hs1 hs2
          have hb := hb'; clear hb'
          have O3 := O3'; clear O3'
          have O4 := O4'; clear O4'
          have O5 := O5'; clear O5'
          have HS := HS'; clear HS'
          have HT := HT'; clear HT'
          have HB := HB'; clear HB'
          have zO3 := O3.out.lt; have zO4 := O4.out.lt; have zO5 := O5.out.lt; have zP7 := P7.out.lt; have zP8 := P8.out.lt
          have g1a := great_false h1.out; have g2a := great_false h2
          clear h1 h2
          obtain ⟨gn, gL⟩ : n ≤ 250 ∧ L ≤ 2000 := ⟨g1a.2, g1a.1⟩
          obtain ⟨gn', gL'⟩ : n' ≤ 250 ∧ L' ≤ 2000 := ⟨g2a.2, g2a.1⟩
          clear g1a g2a
          have hbc := Lib.hid (Below.refl wc.heap.size wc)
          have qO3 := (O3.out.below hbc.out zO3).cell; have yO3 := (O3.out.below hbc.out zO3).lt
          go_wp2_with fail
          refine (text_any A n c L f _ (HS.out.keep hbc.out) (by omega)).mono ?_
          rintro e w4 ⟨rfl, hbk⟩
          clear qO3 yO3
          have hbc' := Lib.hid (hbc.out.trans (hbk.mono hbc.out.size)); clear hbc; have hbc := hbc'; clear hbc'
          clear hbk
          obtain ⟨mj, lj, Fj, kj, HJ0⟩ := join_both (f := f) (f' := f') gn gn' gL gL'
          have HJ := Lib.hid HJ0; clear HJ0
          have qP7 := (P7.out.below hbc.out zP7).cell; have yP7 := (P7.out.below hbc.out zP7).lt
          have qP8 := (P8.out.below hbc.out zP8).cell; have yP8 := (P8.out.below hbc.out zP8).lt
          go_wp2_with fail
          refine ((HJ.out _ _ _ _ _ (HI.out.keep hbc.out) (HO.out.keep hbc.out)).1).mono ?_
          rintro e w5 ⟨A1, c1, rfl, hra, hbk⟩
          clear qP7 yP7
          clear qP8 yP8
          have hbc' := Lib.hid (hbc.out.trans (hbk.mono hbc.out.size)); clear hbc; have hbc := hbc'; clear hbc'
          clear hbk
          have B5 := hbc.out.size
          have RA := Lib.hid hra; clear hra
          go_upto_region 6 with (fail)
          have O11 := Lib.hid (Own.new' (g := w5.heap.size) (w := w5) (t := 24) (vs := [.slice A1 mj c1, .int .i64 (lj : Nat)]) rfl)
          have RA' := Lib.hid (RA.out.alloc (.cells #[.slice A1 mj c1, .int .i64 (lj : Nat)] 24)); clear RA; have RA := RA'; clear RA'
          have hbc' := Lib.hid (hbc.out.alloc hbc.out.size (.cells #[.slice A1 mj c1, .int .i64 (lj : Nat)] 24)); clear hbc; have hbc := hbc'; clear hbc'
          have bO11 : wc.heap.size ≤ w5.heap.size := B5
          have qO3 := (O3.out.below hbc.out zO3).cell; have yO3 := (O3.out.below hbc.out zO3).lt
          have qO4 := (O4.out.below hbc.out zO4).cell; have yO4 := (O4.out.below hbc.out zO4).lt
          go_wp2_with fail
          refine ((HJ.out _ _ _ _ _ (HS.out.keep hbc.out) (HT.out.keep hbc.out)).2).mono ?_
          rintro e w6 ⟨A2, c2, rfl, hra, hbk⟩
          clear qO3 yO3
          clear qO4 yO4
          have RA' := Lib.hid (RA.out.below' hbk); clear RA; have RA := RA'; clear RA'
          have O11' := Lib.hid (O11.out.below' hbk); clear O11; have O11 := O11'; clear O11'
          have hbc' := Lib.hid (hbc.out.trans (hbk.mono hbc.out.size)); clear hbc; have hbc := hbc'; clear hbc'
          clear hbk
          have B6 := hbc.out.size
          have RB := Lib.hid hra; clear hra HJ
          go_upto_region 7 with (fail)
          have O13 := Lib.hid (Own.new' (g := w6.heap.size) (w := w6) (t := 24) (vs := [.slice A2 mj c2, .int .i64 (lj : Nat)]) rfl)
          have nO11O13 := Nat.ne_of_lt O11.out.lt
          have RA' := Lib.hid (RA.out.alloc (.cells #[.slice A2 mj c2, .int .i64 (lj : Nat)] 24)); clear RA; have RA := RA'; clear RA'
          have O11' := Lib.hid (O11.out.alloc (.cells #[.slice A2 mj c2, .int .i64 (lj : Nat)] 24)); clear O11; have O11 := O11'; clear O11'
          have RB' := Lib.hid (RB.out.alloc (.cells #[.slice A2 mj c2, .int .i64 (lj : Nat)] 24)); clear RB; have RB := RB'; clear RB'
          have hbc' := Lib.hid (hbc.out.alloc hbc.out.size (.cells #[.slice A2 mj c2, .int .i64 (lj : Nat)] 24)); clear hbc; have hbc := hbc'; clear hbc'
          have bO13 : wc.heap.size ≤ w6.heap.size := B6
          have qP7 := (P7.out.below hbc.out zP7).cell; have yP7 := (P7.out.below hbc.out zP7).lt
          have qO11 := O11.out.cell; have fO11 := O11.out.frozen; have zO11 := O11.out.lt
          have qO13 := O13.out.cell; have fO13 := O13.out.frozen; have zO13 := O13.out.lt
          go_wp2_with fail
          refine (right_any' _ n cap1 L f _ (HI.out.keep hbc.out) (by omega)).mono ?_
          rintro e w7 ⟨rfl, hbk⟩
          clear qP7 yP7
          clear qO11 fO11 zO11
          clear qO13 fO13 zO13
          have RA' := Lib.hid (RA.out.below' hbk); clear RA; have RA := RA'; clear RA'
          have O11' := Lib.hid (O11.out.below' hbk); clear O11; have O11 := O11'; clear O11'
          have RB' := Lib.hid (RB.out.below' hbk); clear RB; have RB := RB'; clear RB'
          have O13' := Lib.hid (O13.out.below' hbk); clear O13; have O13 := O13'; clear O13'
          have hbc' := Lib.hid (hbc.out.trans (hbk.mono hbc.out.size)); clear hbc; have hbc := hbc'; clear hbc'
          clear hbk
          have qO11 := O11.out.cell; have fO11 := O11.out.frozen; have zO11 := O11.out.lt
          have qO13 := O13.out.cell; have fO13 := O13.out.frozen; have zO13 := O13.out.lt
          go_wp2_with fail
          refine (same_same A1 A2 mj c1 c2 lj Fj _ RA.out.rd RB.out.rd).mono ?_
          rintro e w8 ⟨rfl, hbk⟩
          clear qO11 fO11 zO11
          clear qO13 fO13 zO13
          have RA' := Lib.hid (RA.out.below' hbk); clear RA; have RA := RA'; clear RA'
          have O11' := Lib.hid (O11.out.below' hbk); clear O11; have O11 := O11'; clear O11'
          have RB' := Lib.hid (RB.out.below' hbk); clear RB; have RB := RB'; clear RB'
          have O13' := Lib.hid (O13.out.below' hbk); clear O13; have O13 := O13'; clear O13'
          have hbc' := Lib.hid (hbc.out.trans (hbk.mono hbc.out.size)); clear hbc; have hbc := hbc'; clear hbc'
          clear hbk
          clear RA RB
          obtain ⟨mc, lc, Fc, kc, HJ0⟩ := cut_both (f := f) p q gn gL
          have HJ := Lib.hid HJ0; clear HJ0
          have qP7 := (P7.out.below hbc.out zP7).cell; have yP7 := (P7.out.below hbc.out zP7).lt
          have qO5 := (O5.out.below hbc.out zO5).cell; have yO5 := (O5.out.below hbc.out zO5).lt
          go_wp2_with fail
          refine ((HJ.out _ _ _ (HI.out.keep hbc.out)).1).mono ?_
          rintro e w9 ⟨A3, c3, rfl, hra, hbk⟩
          clear qP7 yP7
          clear qO5 yO5
          have O11' := Lib.hid (O11.out.below' hbk); clear O11; have O11 := O11'; clear O11'
          have O13' := Lib.hid (O13.out.below' hbk); clear O13; have O13 := O13'; clear O13'
          have hbc' := Lib.hid (hbc.out.trans (hbk.mono hbc.out.size)); clear hbc; have hbc := hbc'; clear hbc'
          clear hbk
          have B9 := hbc.out.size
          have RA := Lib.hid hra; clear hra
          have qO11 := O11.out.cell; have fO11 := O11.out.frozen; have zO11 := O11.out.lt
          go_upto_region 10 with (fail)
          clear qO11 fO11 zO11
          have O11' := Lib.hid ((O11.out.set 0 (.slice A3 mc c3)).set 1 (.int .i64 (lc : Nat)))
          simp only [List.set_cons_zero, List.set_cons_succ] at O11'
          have M0 := O11.out; have M1 := O11.out.set 0 (.slice A3 mc c3)
          have O13' := Lib.hid ((O13.out.far (p := ⟨w5.heap.size, 0, none⟩) nO11O13.symm (.slice A3 mc c3)).far (p := ⟨w5.heap.size, 1, none⟩) nO11O13.symm (.int .i64 (lc : Nat))); clear O13; have O13 := O13'; clear O13'
          have RA' := Lib.hid ((RA.out.far M0 0 (.slice A3 mc c3)).far M1 1 (.int .i64 (lc : Nat))); clear RA; have RA := RA'; clear RA'
          have hbc' := Lib.hid ((hbc.out.setCell (p := ⟨w5.heap.size, 0, none⟩) bO11 (.slice A3 mc c3)).setCell (p := ⟨w5.heap.size, 1, none⟩) bO11 (.int .i64 (lc : Nat))); clear hbc; have hbc := hbc'; clear hbc'
          clear O11 M0 M1; have O11 := O11'; clear O11'
          have qO3 := (O3.out.below hbc.out zO3).cell; have yO3 := (O3.out.below hbc.out zO3).lt
          have qO5 := (O5.out.below hbc.out zO5).cell; have yO5 := (O5.out.below hbc.out zO5).lt
          go_wp2_with fail
          refine ((HJ.out _ _ _ (HS.out.keep hbc.out)).2).mono ?_
          rintro e w10 ⟨A4, c4, rfl, hra, hbk⟩
          clear qO3 yO3
          clear qO5 yO5
          have O11' := Lib.hid (O11.out.below' hbk); clear O11; have O11 := O11'; clear O11'
          have O13' := Lib.hid (O13.out.below' hbk); clear O13; have O13 := O13'; clear O13'
          have RA' := Lib.hid (RA.out.below' hbk); clear RA; have RA := RA'; clear RA'
          have hbc' := Lib.hid (hbc.out.trans (hbk.mono hbc.out.size)); clear hbc; have hbc := hbc'; clear hbc'
          clear hbk
          have B10 := hbc.out.size
          have RB := Lib.hid hra; clear hra HJ
          have qO13 := O13.out.cell; have fO13 := O13.out.frozen; have zO13 := O13.out.lt
          go_upto_region 11 with (fail)
          clear qO13 fO13 zO13
          have O13' := Lib.hid ((O13.out.set 0 (.slice A4 mc c4)).set 1 (.int .i64 (lc : Nat)))
          simp only [List.set_cons_zero, List.set_cons_succ] at O13'
          have M0 := O13.out; have M1 := O13.out.set 0 (.slice A4 mc c4)
          have O11' := Lib.hid ((O11.out.far (p := ⟨w6.heap.size, 0, none⟩) nO11O13 (.slice A4 mc c4)).far (p := ⟨w6.heap.size, 1, none⟩) nO11O13 (.int .i64 (lc : Nat))); clear O11; have O11 := O11'; clear O11'
          have RA' := Lib.hid ((RA.out.far M0 0 (.slice A4 mc c4)).far M1 1 (.int .i64 (lc : Nat))); clear RA; have RA := RA'; clear RA'
          have RB' := Lib.hid ((RB.out.far M0 0 (.slice A4 mc c4)).far M1 1 (.int .i64 (lc : Nat))); clear RB; have RB := RB'; clear RB'
          have hbc' := Lib.hid ((hbc.out.setCell (p := ⟨w6.heap.size, 0, none⟩) bO13 (.slice A4 mc c4)).setCell (p := ⟨w6.heap.size, 1, none⟩) bO13 (.int .i64 (lc : Nat))); clear hbc; have hbc := hbc'; clear hbc'
          clear O13 M0 M1; have O13 := O13'; clear O13'
          obtain ⟨mf, lf, Ff, kf, HJ0⟩ := field_both (f := f) wd x hx hw0 hw1 gn gL
          have HJ := Lib.hid HJ0; clear HJ0
          have qP7 := (P7.out.below hbc.out zP7).cell; have yP7 := (P7.out.below hbc.out zP7).lt
          have qO5 := (O5.out.below hbc.out zO5).cell; have yO5 := (O5.out.below hbc.out zO5).lt
          go_wp2_with fail
          refine ((HJ.out _ _ _ (HI.out.keep hbc.out)).1).mono ?_
          rintro e w11 ⟨A5, c5, rfl, hra, hbk⟩
          clear qP7 yP7
          clear qO5 yO5
          have O11' := Lib.hid (O11.out.below' hbk); clear O11; have O11 := O11'; clear O11'
          have O13' := Lib.hid (O13.out.below' hbk); clear O13; have O13 := O13'; clear O13'
          have RA' := Lib.hid (RA.out.below' hbk); clear RA; have RA := RA'; clear RA'
          have RB' := Lib.hid (RB.out.below' hbk); clear RB; have RB := RB'; clear RB'
          have hbc' := Lib.hid (hbc.out.trans (hbk.mono hbc.out.size)); clear hbc; have hbc := hbc'; clear hbc'
          clear hbk
          have B11 := hbc.out.size
          have RC := Lib.hid hra; clear hra
          go_upto_region 12 with (fail)
          have O15 := Lib.hid (Own.new' (g := w11.heap.size) (w := w11) (t := 24) (vs := [.slice A5 mf c5, .int .i64 (lf : Nat)]) rfl)
          have nO11O15 := Nat.ne_of_lt O11.out.lt
          have nO13O15 := Nat.ne_of_lt O13.out.lt
          have O11' := Lib.hid (O11.out.alloc (.cells #[.slice A5 mf c5, .int .i64 (lf : Nat)] 24)); clear O11; have O11 := O11'; clear O11'
          have O13' := Lib.hid (O13.out.alloc (.cells #[.slice A5 mf c5, .int .i64 (lf : Nat)] 24)); clear O13; have O13 := O13'; clear O13'
          have RA' := Lib.hid (RA.out.alloc (.cells #[.slice A5 mf c5, .int .i64 (lf : Nat)] 24)); clear RA; have RA := RA'; clear RA'
          have RB' := Lib.hid (RB.out.alloc (.cells #[.slice A5 mf c5, .int .i64 (lf : Nat)] 24)); clear RB; have RB := RB'; clear RB'
          have RC' := Lib.hid (RC.out.alloc (.cells #[.slice A5 mf c5, .int .i64 (lf : Nat)] 24)); clear RC; have RC := RC'; clear RC'
          have hbc' := Lib.hid (hbc.out.alloc hbc.out.size (.cells #[.slice A5 mf c5, .int .i64 (lf : Nat)] 24)); clear hbc; have hbc := hbc'; clear hbc'
          have bO15 : wc.heap.size ≤ w11.heap.size := B11
          have qO3 := (O3.out.below hbc.out zO3).cell; have yO3 := (O3.out.below hbc.out zO3).lt
          have qO5 := (O5.out.below hbc.out zO5).cell; have yO5 := (O5.out.below hbc.out zO5).lt
          go_wp2_with fail
          refine ((HJ.out _ _ _ (HS.out.keep hbc.out)).2).mono ?_
          rintro e w12 ⟨A6, c6, rfl, hra, hbk⟩
          clear qO3 yO3
          clear qO5 yO5
          have O11' := Lib.hid (O11.out.below' hbk); clear O11; have O11 := O11'; clear O11'
          have O13' := Lib.hid (O13.out.below' hbk); clear O13; have O13 := O13'; clear O13'
          have RA' := Lib.hid (RA.out.below' hbk); clear RA; have RA := RA'; clear RA'
          have RB' := Lib.hid (RB.out.below' hbk); clear RB; have RB := RB'; clear RB'
          have RC' := Lib.hid (RC.out.below' hbk); clear RC; have RC := RC'; clear RC'
          have O15' := Lib.hid (O15.out.below' hbk); clear O15; have O15 := O15'; clear O15'
          have hbc' := Lib.hid (hbc.out.trans (hbk.mono hbc.out.size)); clear hbc; have hbc := hbc'; clear hbc'
          clear hbk
          have B12 := hbc.out.size
          have RD := Lib.hid hra; clear hra HJ
          go_upto_region 13 with (fail)
          have O17 := Lib.hid (Own.new' (g := w12.heap.size) (w := w12) (t := 24) (vs := [.slice A6 mf c6, .int .i64 (lf : Nat)]) rfl)
          have nO11O17 := Nat.ne_of_lt O11.out.lt
          have nO13O17 := Nat.ne_of_lt O13.out.lt
          have nO15O17 := Nat.ne_of_lt O15.out.lt
          have O11' := Lib.hid (O11.out.alloc (.cells #[.slice A6 mf c6, .int .i64 (lf : Nat)] 24)); clear O11; have O11 := O11'; clear O11'
          have O13' := Lib.hid (O13.out.alloc (.cells #[.slice A6 mf c6, .int .i64 (lf : Nat)] 24)); clear O13; have O13 := O13'; clear O13'
          have RA' := Lib.hid (RA.out.alloc (.cells #[.slice A6 mf c6, .int .i64 (lf : Nat)] 24)); clear RA; have RA := RA'; clear RA'
          have RB' := Lib.hid (RB.out.alloc (.cells #[.slice A6 mf c6, .int .i64 (lf : Nat)] 24)); clear RB; have RB := RB'; clear RB'
          have RC' := Lib.hid (RC.out.alloc (.cells #[.slice A6 mf c6, .int .i64 (lf : Nat)] 24)); clear RC; have RC := RC'; clear RC'
          have O15' := Lib.hid (O15.out.alloc (.cells #[.slice A6 mf c6, .int .i64 (lf : Nat)] 24)); clear O15; have O15 := O15'; clear O15'
          have RD' := Lib.hid (RD.out.alloc (.cells #[.slice A6 mf c6, .int .i64 (lf : Nat)] 24)); clear RD; have RD := RD'; clear RD'
          have hbc' := Lib.hid (hbc.out.alloc hbc.out.size (.cells #[.slice A6 mf c6, .int .i64 (lf : Nat)] 24)); clear hbc; have hbc := hbc'; clear hbc'
          have bO17 : wc.heap.size ≤ w12.heap.size := B12
          have qO11 := O11.out.cell; have fO11 := O11.out.frozen; have zO11 := O11.out.lt
          have qO13 := O13.out.cell; have fO13 := O13.out.frozen; have zO13 := O13.out.lt
          go_wp2_with fail
          refine (same_same A3 A4 mc c3 c4 lc Fc _ RA.out.rd RB.out.rd).mono ?_
          rintro e w13 ⟨rfl, hbk⟩
          clear qO11 fO11 zO11
          clear qO13 fO13 zO13
          have O11' := Lib.hid (O11.out.below' hbk); clear O11; have O11 := O11'; clear O11'
          have O13' := Lib.hid (O13.out.below' hbk); clear O13; have O13 := O13'; clear O13'
          have RA' := Lib.hid (RA.out.below' hbk); clear RA; have RA := RA'; clear RA'
          have RB' := Lib.hid (RB.out.below' hbk); clear RB; have RB := RB'; clear RB'
          have RC' := Lib.hid (RC.out.below' hbk); clear RC; have RC := RC'; clear RC'
          have O15' := Lib.hid (O15.out.below' hbk); clear O15; have O15 := O15'; clear O15'
          have RD' := Lib.hid (RD.out.below' hbk); clear RD; have RD := RD'; clear RD'
          have O17' := Lib.hid (O17.out.below' hbk); clear O17; have O17 := O17'; clear O17'
          have hbc' := Lib.hid (hbc.out.trans (hbk.mono hbc.out.size)); clear hbc; have hbc := hbc'; clear hbc'
          clear hbk
          have qO15 := O15.out.cell; have fO15 := O15.out.frozen; have zO15 := O15.out.lt
          have qO17 := O17.out.cell; have fO17 := O17.out.frozen; have zO17 := O17.out.lt
          go_wp2_with fail
          refine (same_same A5 A6 mf c5 c6 lf Ff _ RC.out.rd RD.out.rd).mono ?_
          rintro e w14 ⟨rfl, hbk⟩
          clear qO15 fO15 zO15
          clear qO17 fO17 zO17
          have O11' := Lib.hid (O11.out.below' hbk); clear O11; have O11 := O11'; clear O11'
          have O13' := Lib.hid (O13.out.below' hbk); clear O13; have O13 := O13'; clear O13'
          have RA' := Lib.hid (RA.out.below' hbk); clear RA; have RA := RA'; clear RA'
          have RB' := Lib.hid (RB.out.below' hbk); clear RB; have RB := RB'; clear RB'
          have RC' := Lib.hid (RC.out.below' hbk); clear RC; have RC := RC'; clear RC'
          have O15' := Lib.hid (O15.out.below' hbk); clear O15; have O15 := O15'; clear O15'
          have RD' := Lib.hid (RD.out.below' hbk); clear RD; have RD := RD'; clear RD'
          have O17' := Lib.hid (O17.out.below' hbk); clear O17; have O17 := O17'; clear O17'
          have hbc' := Lib.hid (hbc.out.trans (hbk.mono hbc.out.size)); clear hbc; have hbc := hbc'; clear hbc'
          clear hbk
          clear RA RB RC RD
          obtain ⟨mk, lk, Fk, kk, HJ0⟩ := knot_both (f := f) x hx gn gL
          have HJ := Lib.hid HJ0; clear HJ0
          have qP7 := (P7.out.below hbc.out zP7).cell; have yP7 := (P7.out.below hbc.out zP7).lt
          have qO5 := (O5.out.below hbc.out zO5).cell; have yO5 := (O5.out.below hbc.out zO5).lt
          go_wp2_with fail
          refine ((HJ.out _ _ _ (HI.out.keep hbc.out)).1).mono ?_
          rintro e w15 ⟨A7, c7, rfl, hra, hbk⟩
          clear qP7 yP7
          clear qO5 yO5
          have O11' := Lib.hid (O11.out.below' hbk); clear O11; have O11 := O11'; clear O11'
          have O13' := Lib.hid (O13.out.below' hbk); clear O13; have O13 := O13'; clear O13'
          have O15' := Lib.hid (O15.out.below' hbk); clear O15; have O15 := O15'; clear O15'
          have O17' := Lib.hid (O17.out.below' hbk); clear O17; have O17 := O17'; clear O17'
          have hbc' := Lib.hid (hbc.out.trans (hbk.mono hbc.out.size)); clear hbc; have hbc := hbc'; clear hbc'
          clear hbk
          have B15 := hbc.out.size
          have RA := Lib.hid hra; clear hra
          have qO11 := O11.out.cell; have fO11 := O11.out.frozen; have zO11 := O11.out.lt
          go_upto_region 16 with (fail)
          clear qO11 fO11 zO11
          have O11' := Lib.hid ((O11.out.set 0 (.slice A7 mk c7)).set 1 (.int .i64 (lk : Nat)))
          simp only [List.set_cons_zero, List.set_cons_succ] at O11'
          have M0 := O11.out; have M1 := O11.out.set 0 (.slice A7 mk c7)
          have O13' := Lib.hid ((O13.out.far (p := ⟨w5.heap.size, 0, none⟩) nO11O13.symm (.slice A7 mk c7)).far (p := ⟨w5.heap.size, 1, none⟩) nO11O13.symm (.int .i64 (lk : Nat))); clear O13; have O13 := O13'; clear O13'
          have O15' := Lib.hid ((O15.out.far (p := ⟨w5.heap.size, 0, none⟩) nO11O15.symm (.slice A7 mk c7)).far (p := ⟨w5.heap.size, 1, none⟩) nO11O15.symm (.int .i64 (lk : Nat))); clear O15; have O15 := O15'; clear O15'
          have O17' := Lib.hid ((O17.out.far (p := ⟨w5.heap.size, 0, none⟩) nO11O17.symm (.slice A7 mk c7)).far (p := ⟨w5.heap.size, 1, none⟩) nO11O17.symm (.int .i64 (lk : Nat))); clear O17; have O17 := O17'; clear O17'
          have RA' := Lib.hid ((RA.out.far M0 0 (.slice A7 mk c7)).far M1 1 (.int .i64 (lk : Nat))); clear RA; have RA := RA'; clear RA'
          have hbc' := Lib.hid ((hbc.out.setCell (p := ⟨w5.heap.size, 0, none⟩) bO11 (.slice A7 mk c7)).setCell (p := ⟨w5.heap.size, 1, none⟩) bO11 (.int .i64 (lk : Nat))); clear hbc; have hbc := hbc'; clear hbc'
          clear O11 M0 M1; have O11 := O11'; clear O11'
          have qO3 := (O3.out.below hbc.out zO3).cell; have yO3 := (O3.out.below hbc.out zO3).lt
          have qO5 := (O5.out.below hbc.out zO5).cell; have yO5 := (O5.out.below hbc.out zO5).lt
          go_wp2_with fail
          refine ((HJ.out _ _ _ (HS.out.keep hbc.out)).2).mono ?_
          rintro e w16 ⟨A8, c8, rfl, hra, hbk⟩
          clear qO3 yO3
          clear qO5 yO5
          have O11' := Lib.hid (O11.out.below' hbk); clear O11; have O11 := O11'; clear O11'
          have O13' := Lib.hid (O13.out.below' hbk); clear O13; have O13 := O13'; clear O13'
          have O15' := Lib.hid (O15.out.below' hbk); clear O15; have O15 := O15'; clear O15'
          have O17' := Lib.hid (O17.out.below' hbk); clear O17; have O17 := O17'; clear O17'
          have RA' := Lib.hid (RA.out.below' hbk); clear RA; have RA := RA'; clear RA'
          have hbc' := Lib.hid (hbc.out.trans (hbk.mono hbc.out.size)); clear hbc; have hbc := hbc'; clear hbc'
          clear hbk
          have B16 := hbc.out.size
          have RB := Lib.hid hra; clear hra HJ
          have qO13 := O13.out.cell; have fO13 := O13.out.frozen; have zO13 := O13.out.lt
          go_upto_region 17 with (fail)
          clear qO13 fO13 zO13
          have O13' := Lib.hid ((O13.out.set 0 (.slice A8 mk c8)).set 1 (.int .i64 (lk : Nat)))
          simp only [List.set_cons_zero, List.set_cons_succ] at O13'
          have M0 := O13.out; have M1 := O13.out.set 0 (.slice A8 mk c8)
          have O11' := Lib.hid ((O11.out.far (p := ⟨w6.heap.size, 0, none⟩) nO11O13 (.slice A8 mk c8)).far (p := ⟨w6.heap.size, 1, none⟩) nO11O13 (.int .i64 (lk : Nat))); clear O11; have O11 := O11'; clear O11'
          have O15' := Lib.hid ((O15.out.far (p := ⟨w6.heap.size, 0, none⟩) nO13O15.symm (.slice A8 mk c8)).far (p := ⟨w6.heap.size, 1, none⟩) nO13O15.symm (.int .i64 (lk : Nat))); clear O15; have O15 := O15'; clear O15'
          have O17' := Lib.hid ((O17.out.far (p := ⟨w6.heap.size, 0, none⟩) nO13O17.symm (.slice A8 mk c8)).far (p := ⟨w6.heap.size, 1, none⟩) nO13O17.symm (.int .i64 (lk : Nat))); clear O17; have O17 := O17'; clear O17'
          have RA' := Lib.hid ((RA.out.far M0 0 (.slice A8 mk c8)).far M1 1 (.int .i64 (lk : Nat))); clear RA; have RA := RA'; clear RA'
          have RB' := Lib.hid ((RB.out.far M0 0 (.slice A8 mk c8)).far M1 1 (.int .i64 (lk : Nat))); clear RB; have RB := RB'; clear RB'
          have hbc' := Lib.hid ((hbc.out.setCell (p := ⟨w6.heap.size, 0, none⟩) bO13 (.slice A8 mk c8)).setCell (p := ⟨w6.heap.size, 1, none⟩) bO13 (.int .i64 (lk : Nat))); clear hbc; have hbc := hbc'; clear hbc'
          clear O13 M0 M1; have O13 := O13'; clear O13'
          obtain ⟨mu, lu, Fu, ku, HJ0⟩ := unpack_both (f := h) gm
          have HJ := Lib.hid HJ0; clear HJ0
          have qO5 := (O5.out.below hbc.out zO5).cell; have yO5 := (O5.out.below hbc.out zO5).lt
          go_wp2_with fail
          refine ((HJ.out _ _ _ (HB.out.below hbc.out)).1).mono ?_
          rintro e w17 ⟨A9, c9, rfl, hra, hbk⟩
          clear qO5 yO5
          have O11' := Lib.hid (O11.out.below' hbk); clear O11; have O11 := O11'; clear O11'
          have O13' := Lib.hid (O13.out.below' hbk); clear O13; have O13 := O13'; clear O13'
          have O15' := Lib.hid (O15.out.below' hbk); clear O15; have O15 := O15'; clear O15'
          have O17' := Lib.hid (O17.out.below' hbk); clear O17; have O17 := O17'; clear O17'
          have RA' := Lib.hid (RA.out.below' hbk); clear RA; have RA := RA'; clear RA'
          have RB' := Lib.hid (RB.out.below' hbk); clear RB; have RB := RB'; clear RB'
          have hbc' := Lib.hid (hbc.out.trans (hbk.mono hbc.out.size)); clear hbc; have hbc := hbc'; clear hbc'
          clear hbk
          have B17 := hbc.out.size
          have RC := Lib.hid hra; clear hra
          have qO15 := O15.out.cell; have fO15 := O15.out.frozen; have zO15 := O15.out.lt
          go_upto_region 18 with (fail)
          clear qO15 fO15 zO15
          have O15' := Lib.hid ((O15.out.set 0 (.slice A9 mu c9)).set 1 (.int .i64 (lu : Nat)))
          simp only [List.set_cons_zero, List.set_cons_succ] at O15'
          have M0 := O15.out; have M1 := O15.out.set 0 (.slice A9 mu c9)
          have O11' := Lib.hid ((O11.out.far (p := ⟨w11.heap.size, 0, none⟩) nO11O15 (.slice A9 mu c9)).far (p := ⟨w11.heap.size, 1, none⟩) nO11O15 (.int .i64 (lu : Nat))); clear O11; have O11 := O11'; clear O11'
          have O13' := Lib.hid ((O13.out.far (p := ⟨w11.heap.size, 0, none⟩) nO13O15 (.slice A9 mu c9)).far (p := ⟨w11.heap.size, 1, none⟩) nO13O15 (.int .i64 (lu : Nat))); clear O13; have O13 := O13'; clear O13'
          have O17' := Lib.hid ((O17.out.far (p := ⟨w11.heap.size, 0, none⟩) nO15O17.symm (.slice A9 mu c9)).far (p := ⟨w11.heap.size, 1, none⟩) nO15O17.symm (.int .i64 (lu : Nat))); clear O17; have O17 := O17'; clear O17'
          have RA' := Lib.hid ((RA.out.far M0 0 (.slice A9 mu c9)).far M1 1 (.int .i64 (lu : Nat))); clear RA; have RA := RA'; clear RA'
          have RB' := Lib.hid ((RB.out.far M0 0 (.slice A9 mu c9)).far M1 1 (.int .i64 (lu : Nat))); clear RB; have RB := RB'; clear RB'
          have RC' := Lib.hid ((RC.out.far M0 0 (.slice A9 mu c9)).far M1 1 (.int .i64 (lu : Nat))); clear RC; have RC := RC'; clear RC'
          have hbc' := Lib.hid ((hbc.out.setCell (p := ⟨w11.heap.size, 0, none⟩) bO15 (.slice A9 mu c9)).setCell (p := ⟨w11.heap.size, 1, none⟩) bO15 (.int .i64 (lu : Nat))); clear hbc; have hbc := hbc'; clear hbc'
          clear O15 M0 M1; have O15 := O15'; clear O15'
          have qO5 := (O5.out.below hbc.out zO5).cell; have yO5 := (O5.out.below hbc.out zO5).lt
          go_wp2_with fail
          refine ((HJ.out _ _ _ (HB.out.below hbc.out)).2).mono ?_
          rintro e w18 ⟨A10, c10, rfl, hra, hbk⟩
          clear qO5 yO5
          have O11' := Lib.hid (O11.out.below' hbk); clear O11; have O11 := O11'; clear O11'
          have O13' := Lib.hid (O13.out.below' hbk); clear O13; have O13 := O13'; clear O13'
          have O15' := Lib.hid (O15.out.below' hbk); clear O15; have O15 := O15'; clear O15'
          have O17' := Lib.hid (O17.out.below' hbk); clear O17; have O17 := O17'; clear O17'
          have RA' := Lib.hid (RA.out.below' hbk); clear RA; have RA := RA'; clear RA'
          have RB' := Lib.hid (RB.out.below' hbk); clear RB; have RB := RB'; clear RB'
          have RC' := Lib.hid (RC.out.below' hbk); clear RC; have RC := RC'; clear RC'
          have hbc' := Lib.hid (hbc.out.trans (hbk.mono hbc.out.size)); clear hbc; have hbc := hbc'; clear hbc'
          clear hbk
          have B18 := hbc.out.size
          have RD := Lib.hid hra; clear hra HJ
          have qO17 := O17.out.cell; have fO17 := O17.out.frozen; have zO17 := O17.out.lt
          go_upto_region 19 with (fail)
          clear qO17 fO17 zO17
          have O17' := Lib.hid ((O17.out.set 0 (.slice A10 mu c10)).set 1 (.int .i64 (lu : Nat)))
          simp only [List.set_cons_zero, List.set_cons_succ] at O17'
          have M0 := O17.out; have M1 := O17.out.set 0 (.slice A10 mu c10)
          have O11' := Lib.hid ((O11.out.far (p := ⟨w12.heap.size, 0, none⟩) nO11O17 (.slice A10 mu c10)).far (p := ⟨w12.heap.size, 1, none⟩) nO11O17 (.int .i64 (lu : Nat))); clear O11; have O11 := O11'; clear O11'
          have O13' := Lib.hid ((O13.out.far (p := ⟨w12.heap.size, 0, none⟩) nO13O17 (.slice A10 mu c10)).far (p := ⟨w12.heap.size, 1, none⟩) nO13O17 (.int .i64 (lu : Nat))); clear O13; have O13 := O13'; clear O13'
          have O15' := Lib.hid ((O15.out.far (p := ⟨w12.heap.size, 0, none⟩) nO15O17 (.slice A10 mu c10)).far (p := ⟨w12.heap.size, 1, none⟩) nO15O17 (.int .i64 (lu : Nat))); clear O15; have O15 := O15'; clear O15'
          have RA' := Lib.hid ((RA.out.far M0 0 (.slice A10 mu c10)).far M1 1 (.int .i64 (lu : Nat))); clear RA; have RA := RA'; clear RA'
          have RB' := Lib.hid ((RB.out.far M0 0 (.slice A10 mu c10)).far M1 1 (.int .i64 (lu : Nat))); clear RB; have RB := RB'; clear RB'
          have RC' := Lib.hid ((RC.out.far M0 0 (.slice A10 mu c10)).far M1 1 (.int .i64 (lu : Nat))); clear RC; have RC := RC'; clear RC'
          have RD' := Lib.hid ((RD.out.far M0 0 (.slice A10 mu c10)).far M1 1 (.int .i64 (lu : Nat))); clear RD; have RD := RD'; clear RD'
          have hbc' := Lib.hid ((hbc.out.setCell (p := ⟨w12.heap.size, 0, none⟩) bO17 (.slice A10 mu c10)).setCell (p := ⟨w12.heap.size, 1, none⟩) bO17 (.int .i64 (lu : Nat))); clear hbc; have hbc := hbc'; clear hbc'
          clear O17 M0 M1; have O17 := O17'; clear O17'
          have qO11 := O11.out.cell; have fO11 := O11.out.frozen; have zO11 := O11.out.lt
          have qO13 := O13.out.cell; have fO13 := O13.out.frozen; have zO13 := O13.out.lt
          go_wp2_with fail
          refine (same_same A7 A8 mk c7 c8 lk Fk _ RA.out.rd RB.out.rd).mono ?_
          rintro e w19 ⟨rfl, hbk⟩
          clear qO11 fO11 zO11
          clear qO13 fO13 zO13
          have O11' := Lib.hid (O11.out.below' hbk); clear O11; have O11 := O11'; clear O11'
          have O13' := Lib.hid (O13.out.below' hbk); clear O13; have O13 := O13'; clear O13'
          have O15' := Lib.hid (O15.out.below' hbk); clear O15; have O15 := O15'; clear O15'
          have O17' := Lib.hid (O17.out.below' hbk); clear O17; have O17 := O17'; clear O17'
          have RA' := Lib.hid (RA.out.below' hbk); clear RA; have RA := RA'; clear RA'
          have RB' := Lib.hid (RB.out.below' hbk); clear RB; have RB := RB'; clear RB'
          have RC' := Lib.hid (RC.out.below' hbk); clear RC; have RC := RC'; clear RC'
          have RD' := Lib.hid (RD.out.below' hbk); clear RD; have RD := RD'; clear RD'
          have hbc' := Lib.hid (hbc.out.trans (hbk.mono hbc.out.size)); clear hbc; have hbc := hbc'; clear hbc'
          clear hbk
          have qO15 := O15.out.cell; have fO15 := O15.out.frozen; have zO15 := O15.out.lt
          have qO17 := O17.out.cell; have fO17 := O17.out.frozen; have zO17 := O17.out.lt
          go_wp2_with fail
          refine (same_same A9 A10 mu c9 c10 lu Fu _ RC.out.rd RD.out.rd).mono ?_
          rintro e w20 ⟨rfl, hbk⟩
          clear qO15 fO15 zO15
          clear qO17 fO17 zO17
          have O11' := Lib.hid (O11.out.below' hbk); clear O11; have O11 := O11'; clear O11'
          have O13' := Lib.hid (O13.out.below' hbk); clear O13; have O13 := O13'; clear O13'
          have O15' := Lib.hid (O15.out.below' hbk); clear O15; have O15 := O15'; clear O15'
          have O17' := Lib.hid (O17.out.below' hbk); clear O17; have O17 := O17'; clear O17'
          have RA' := Lib.hid (RA.out.below' hbk); clear RA; have RA := RA'; clear RA'
          have RB' := Lib.hid (RB.out.below' hbk); clear RB; have RB := RB'; clear RB'
          have RC' := Lib.hid (RC.out.below' hbk); clear RC; have RC := RC'; clear RC'
          have RD' := Lib.hid (RD.out.below' hbk); clear RD; have RD := RD'; clear RD'
          have hbc' := Lib.hid (hbc.out.trans (hbk.mono hbc.out.size)); clear hbc; have hbc := hbc'; clear hbc'
          clear hbk
          clear RA RB RC RD
          obtain ⟨mg, pg, kg, HJ0⟩ := getField_both (f := f) p wd gn gL
          have HJ := Lib.hid HJ0; clear HJ0
          have qP7 := (P7.out.below hbc.out zP7).cell; have yP7 := (P7.out.below hbc.out zP7).lt
          have qO5 := (O5.out.below hbc.out zO5).cell; have yO5 := (O5.out.below hbc.out zO5).lt
          go_wp2_with fail
          refine ((HJ.out _ _ _ (HI.out.keep hbc.out)).1).mono ?_
          rintro e w21 ⟨rfl, hbk⟩
          clear qP7 yP7
          clear qO5 yO5
          have O11' := Lib.hid (O11.out.below' hbk); clear O11; have O11 := O11'; clear O11'
          have O13' := Lib.hid (O13.out.below' hbk); clear O13; have O13 := O13'; clear O13'
          have O15' := Lib.hid (O15.out.below' hbk); clear O15; have O15 := O15'; clear O15'
          have O17' := Lib.hid (O17.out.below' hbk); clear O17; have O17 := O17'; clear O17'
          have hbc' := Lib.hid (hbc.out.trans (hbk.mono hbc.out.size)); clear hbc; have hbc := hbc'; clear hbc'
          clear hbk
          have qO3 := (O3.out.below hbc.out zO3).cell; have yO3 := (O3.out.below hbc.out zO3).lt
          have qO5 := (O5.out.below hbc.out zO5).cell; have yO5 := (O5.out.below hbc.out zO5).lt
          go_wp2_with fail
          refine ((HJ.out _ _ _ (HS.out.keep hbc.out)).2).mono ?_
          rintro e w22 ⟨rfl, hbk⟩
          clear qO3 yO3
          clear qO5 yO5
          have O11' := Lib.hid (O11.out.below' hbk); clear O11; have O11 := O11'; clear O11'
          have O13' := Lib.hid (O13.out.below' hbk); clear O13; have O13 := O13'; clear O13'
          have O15' := Lib.hid (O15.out.below' hbk); clear O15; have O15 := O15'; clear O15'
          have O17' := Lib.hid (O17.out.below' hbk); clear O17; have O17 := O17'; clear O17'
          have hbc' := Lib.hid (hbc.out.trans (hbk.mono hbc.out.size)); clear hbc; have hbc := hbc'; clear hbc'
          clear hbk
          clear HJ
          obtain ⟨mh, ph, kh, HJ0⟩ := getKnot_both (f := f) p gn gL
          have HJ := Lib.hid HJ0; clear HJ0
          have qP7 := (P7.out.below hbc.out zP7).cell; have yP7 := (P7.out.below hbc.out zP7).lt
          have qO5 := (O5.out.below hbc.out zO5).cell; have yO5 := (O5.out.below hbc.out zO5).lt
          go_wp2_with fail
          refine ((HJ.out _ _ _ (HI.out.keep hbc.out)).1).mono ?_
          rintro e w23 ⟨rfl, hbk⟩
          clear qP7 yP7
          clear qO5 yO5
          have O11' := Lib.hid (O11.out.below' hbk); clear O11; have O11 := O11'; clear O11'
          have O13' := Lib.hid (O13.out.below' hbk); clear O13; have O13 := O13'; clear O13'
          have O15' := Lib.hid (O15.out.below' hbk); clear O15; have O15 := O15'; clear O15'
          have O17' := Lib.hid (O17.out.below' hbk); clear O17; have O17 := O17'; clear O17'
          have hbc' := Lib.hid (hbc.out.trans (hbk.mono hbc.out.size)); clear hbc; have hbc := hbc'; clear hbc'
          clear hbk
          have qO3 := (O3.out.below hbc.out zO3).cell; have yO3 := (O3.out.below hbc.out zO3).lt
          have qO5 := (O5.out.below hbc.out zO5).cell; have yO5 := (O5.out.below hbc.out zO5).lt
          go_wp2_with fail
          refine ((HJ.out _ _ _ (HS.out.keep hbc.out)).2).mono ?_
          rintro e w24 ⟨rfl, hbk⟩
          clear qO3 yO3
          clear qO5 yO5
          have O11' := Lib.hid (O11.out.below' hbk); clear O11; have O11 := O11'; clear O11'
          have O13' := Lib.hid (O13.out.below' hbk); clear O13; have O13 := O13'; clear O13'
          have O15' := Lib.hid (O15.out.below' hbk); clear O15; have O15 := O15'; clear O15'
          have O17' := Lib.hid (O17.out.below' hbk); clear O17; have O17 := O17'; clear O17'
          have hbc' := Lib.hid (hbc.out.trans (hbk.mono hbc.out.size)); clear hbc; have hbc := hbc'; clear hbc'
          clear hbk
          clear HJ
          obtain ⟨mp, Fp, kp, HJ0⟩ := pack_both (f := f) gn gL
          have HJ := Lib.hid HJ0; clear HJ0
          have qP7 := (P7.out.below hbc.out zP7).cell; have yP7 := (P7.out.below hbc.out zP7).lt
          go_wp2_with fail
          refine ((HJ.out _ _ _ (HI.out.keep hbc.out)).1).mono ?_
          rintro e w25 ⟨A11, c11, rfl, hra, hbk⟩
          clear qP7 yP7
          have O11' := Lib.hid (O11.out.below' hbk); clear O11; have O11 := O11'; clear O11'
          have O13' := Lib.hid (O13.out.below' hbk); clear O13; have O13 := O13'; clear O13'
          have O15' := Lib.hid (O15.out.below' hbk); clear O15; have O15 := O15'; clear O15'
          have O17' := Lib.hid (O17.out.below' hbk); clear O17; have O17 := O17'; clear O17'
          have hbc' := Lib.hid (hbc.out.trans (hbk.mono hbc.out.size)); clear hbc; have hbc := hbc'; clear hbc'
          clear hbk
          have RA := Lib.hid hra; clear hra
          have qO3 := (O3.out.below hbc.out zO3).cell; have yO3 := (O3.out.below hbc.out zO3).lt
          go_wp2_with fail
          refine ((HJ.out _ _ _ (HS.out.keep hbc.out)).2).mono ?_
          rintro e w26 ⟨A12, c12, rfl, hrb, hbk⟩
          have RA' := Lib.hid (RA.out.below hbk); clear RA; have RA := RA'; clear RA'
          clear qO3 yO3
          have O11' := Lib.hid (O11.out.below' hbk); clear O11; have O11 := O11'; clear O11'
          have O13' := Lib.hid (O13.out.below' hbk); clear O13; have O13 := O13'; clear O13'
          have O15' := Lib.hid (O15.out.below' hbk); clear O15; have O15 := O15'; clear O15'
          have O17' := Lib.hid (O17.out.below' hbk); clear O17; have O17 := O17'; clear O17'
          have hbc' := Lib.hid (hbc.out.trans (hbk.mono hbc.out.size)); clear hbc; have hbc := hbc'; clear hbc'
          clear hbk
          clear HJ
          have RB := Lib.hid hrb; clear hrb
          go_wp2_with fail
          refine (sameBytes_same A11 A12 mp c11 c12 Fp _ RA.out RB.out).mono ?_
          rintro e _ ⟨rfl, rfl⟩
          have qP7 := (P7.out.below hbc.out zP7).cell; have yP7 := (P7.out.below hbc.out zP7).lt
          have qO3 := (O3.out.below hbc.out zO3).cell; have yO3 := (O3.out.below hbc.out zO3).lt
          go_wp2_with fail
          refine (same_same _ A n cap1 c L f _ (HI.out.keep hbc.out).rd (HS.out.keep hbc.out).rd).mono ?_
          rintro e w27 ⟨rfl, hbk⟩
          clear qP7 yP7
          clear qO3 yO3
          have O11' := Lib.hid (O11.out.below' hbk); clear O11; have O11 := O11'; clear O11'
          have O13' := Lib.hid (O13.out.below' hbk); clear O13; have O13 := O13'; clear O13'
          have O15' := Lib.hid (O15.out.below' hbk); clear O15; have O15 := O15'; clear O15'
          have O17' := Lib.hid (O17.out.below' hbk); clear O17; have O17 := O17'; clear O17'
          have hbc' := Lib.hid (hbc.out.trans (hbk.mono hbc.out.size)); clear hbc; have hbc := hbc'; clear hbc'
          clear hbk
          have qP8 := (P8.out.below hbc.out zP8).cell; have yP8 := (P8.out.below hbc.out zP8).lt
          have qO4 := (O4.out.below hbc.out zO4).cell; have yO4 := (O4.out.below hbc.out zO4).lt
          go_wp2_with fail
          refine (same_same _ A' n' cap2 c' L' f' _ (HO.out.keep hbc.out).rd (HT.out.keep hbc.out).rd).mono ?_
          rintro e w28 ⟨rfl, hbk⟩
          clear qP8 yP8
          clear qO4 yO4
          have O11' := Lib.hid (O11.out.below' hbk); clear O11; have O11 := O11'; clear O11'
          have O13' := Lib.hid (O13.out.below' hbk); clear O13; have O13 := O13'; clear O13'
          have O15' := Lib.hid (O15.out.below' hbk); clear O15; have O15 := O15'; clear O15'
          have O17' := Lib.hid (O17.out.below' hbk); clear O17; have O17 := O17'; clear O17'
          have hbc' := Lib.hid (hbc.out.trans (hbk.mono hbc.out.size)); clear hbc; have hbc := hbc'; clear hbc'
          clear hbk
          go_wp2_with fail
          refine (awake_true _).mono ?_
          rintro e w29 ⟨rfl, hbk⟩
          have O11' := Lib.hid (O11.out.below' hbk); clear O11; have O11 := O11'; clear O11'
          have O13' := Lib.hid (O13.out.below' hbk); clear O13; have O13 := O13'; clear O13'
          have O15' := Lib.hid (O15.out.below' hbk); clear O15; have O15 := O15'; clear O15'
          have O17' := Lib.hid (O17.out.below' hbk); clear O17; have O17 := O17'; clear O17'
          have hbc' := Lib.hid (hbc.out.trans (hbk.mono hbc.out.size)); clear hbc; have hbc := hbc'; clear hbc'
          clear hbk
          go_wp2
          go_ret
          exact ⟨by simp, hb.out.trans (hbc.out.mono hb.out.size)⟩
end Go.Proofs.Ytnhlenagojbigaa
