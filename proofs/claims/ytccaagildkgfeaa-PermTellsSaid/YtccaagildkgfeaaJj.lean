/- Walk: fretworklaw03.PermApply. -/
import Derived.Test.YtccaagildkgfeaaGn
import Derived.Test.YtccaagildkgfeaaJe
namespace Go.Proofs.Ytccaagildkgfeaa
open Go.RowKit

theorem GrE.at {w w' : World} {N : Int} {l : List (Int × Int)} {e : Ending} {n : Nat} (h : GrE w N (.ok l) e w') (hn : l.length = n) (hl : n ≤ 100000) : ∃ A c, e = .returned (.tuple #[.agg #[.int .i64 N, .slice A n c], .int .i64 0]) ∧ ArgE w' A n c l ∧ Below w.heap.size w w' := by
  subst hn
  obtain ⟨v, rfl, hr, hb⟩ := h
  obtain ⟨A, c, rfl, ha⟩ := hr.arg hl
  exact ⟨A, c, rfl, ha, hb⟩
def tblPA (k : Nat) (A : Option Addr) (n : Nat) (c : Nat) (A7 : Option Addr) (c7 : Nat) (bp : Nat) (offp : Nat) (d : Nat) (ai : Nat) (b : Nat) (x : Nat) (y : Nat) (s : Bool) : List Pst := [Pst.val (.agg #[.int .i64 (k : Nat), .slice A n c]), Pst.val (.int .i64 (ai : Nat)), Pst.val (.int .i64 (b : Nat)), Pst.val (.bool s), Pst.val (.agg #[.int .i64 (k : Nat), .slice A7 n c7]), Pst.val (.slice (some ⟨bp, offp, none⟩) k d), Pst.val (.int .i64 (ai : Nat)), Pst.val (.pointer (some ⟨bp, offp + ai, none⟩)), Pst.val (.int .i64 (x : Nat)), Pst.val (.slice (some ⟨bp, offp, none⟩) k d), Pst.val (.int .i64 (b : Nat)), Pst.val (.pointer (some ⟨bp, offp + b, none⟩)), Pst.val (.int .i64 (y : Nat)), Pst.val (.bool s), Pst.val (.bool false)]
set_option maxRecDepth 100000 in
set_option maxHeartbeats 8000000 in
theorem permApply_true (N : Int) (A B C : Option Addr) (n m k c d e0 : Nat) (E : List (Int × Int)) (p q : List Int) (w : World) (he : ArgE w A n c E) (hp : ArgI w B m d p) (hq : ArgI w C k e0 q) :
    Calls Try.prog 8 #[.agg #[.int .i64 N, .slice A n c], .slice B m d, .slice C k e0] w fun e w' => e = .returned (.bool true) ∧ Below w.heap.size w w' := by
  have hm0 := hp.le; have hk0 := hq.le; have hn0 := he.le
  have hb := Lib.hid (alloc_below w (.cells #[.int .i64 N, .slice A n c] 34))
  have HE := Lib.hid (he.keep hb.out); have HP := Lib.hid (hp.keep hb.out); have HQ := Lib.hid (hq.keep hb.out)
  have OG := Lib.hid (Own.new' (t := 34) (w := w) (vs := [.int .i64 N, .slice A n c]) rfl)
  clear he hp hq
  go_enter Try.func8, Try.ntmps8
  have qOG := OG.out.cell; have zOG := OG.out.lt
  go_wp2_with fail
  refine (rightG_any N A n c E _ HE.out).mono ?_
  rintro e w1 ⟨rfl, hbk⟩
  clear qOG zOG
  have HE' := Lib.hid (HE.out.keep hbk)
  have HP' := Lib.hid (HP.out.keep hbk)
  have HQ' := Lib.hid (HQ.out.keep hbk)
  have OG' := Lib.hid (OG.out.below' hbk)
  have hb' := Lib.hid (below_chain hb.out hbk)
  clear hb hbk HE HP HQ OG
  have hb := hb'; clear hb'
  have HE := HE'; clear HE'
  have HP := HP'; clear HP'
  have HQ := HQ'; clear HQ'
  have OG := OG'; clear OG'
  cases hg : rightG N E with
  | false =>
    have kk := Lib.hid hg; clear hg
    go_wp2_with fail
    refine (awakeP_true _).mono ?_
    rintro e w2 ⟨rfl, hbk⟩
    have hb' := Lib.hid (below_chain hb.out hbk)
    go_wp2
    go_ret
    exact ⟨rfl, hb'.out⟩
  | true =>
    have RG := Lib.hid (rightG_iff.1 hg); clear hg
    by_cases h40 : 40 < N
    · have d40 : decide (40 < N) = true := decide_eq_true h40
      have qOG := OG.out.cell; have zOG := OG.out.lt
      go_wp2_with fail
      refine (awakeP_true _).mono ?_
      rintro e w2 ⟨rfl, hbk⟩
      have hb' := Lib.hid (below_chain hb.out hbk)
      go_wp2
      go_ret
      exact ⟨rfl, hb'.out⟩
    have d40 : decide (40 < N) = false := decide_eq_false h40
    have qOG := OG.out.cell; have zOG := OG.out.lt
    go_wp2_with fail
    refine (right_any B m d p _ HP.out).mono ?_
    rintro e w2 ⟨rfl, hbk⟩
    clear qOG zOG
    have HE' := Lib.hid (HE.out.keep hbk)
    have HP' := Lib.hid (HP.out.keep hbk)
    have HQ' := Lib.hid (HQ.out.keep hbk)
    have OG' := Lib.hid (OG.out.below' hbk)
    have hb' := Lib.hid (below_chain hb.out hbk)
    clear hb hbk HE HP HQ OG
    have hb := hb'; clear hb'
    have HE := HE'; clear HE'
    have HP := HP'; clear HP'
    have HQ := HQ'; clear HQ'
    have OG := OG'; clear OG'
    cases hp : rightP p with
    | false =>
      have kk := Lib.hid hp; clear hp
      have qOG := OG.out.cell; have zOG := OG.out.lt
      go_wp2_with fail
      refine (awakeP_true _).mono ?_
      rintro e w3 ⟨rfl, hbk⟩
      have hb' := Lib.hid (below_chain hb.out hbk)
      go_wp2
      go_ret
      exact ⟨rfl, hb'.out⟩
    | true =>
      have Rp := Lib.hid hp; clear hp
      have qOG := OG.out.cell; have zOG := OG.out.lt
      go_wp2_with fail
      refine (right_any C k e0 q _ HQ.out).mono ?_
      rintro e w3 ⟨rfl, hbk⟩
      clear qOG zOG
      have HE' := Lib.hid (HE.out.keep hbk)
      have HP' := Lib.hid (HP.out.keep hbk)
      have HQ' := Lib.hid (HQ.out.keep hbk)
      have OG' := Lib.hid (OG.out.below' hbk)
      have hb' := Lib.hid (below_chain hb.out hbk)
      clear hb hbk HE HP HQ OG
      have hb := hb'; clear hb'
      have HE := HE'; clear HE'
      have HP := HP'; clear HP'
      have HQ := HQ'; clear HQ'
      have OG := OG'; clear OG'
      cases hq : rightP q with
      | false =>
        have kk := Lib.hid hq; clear hq
        have qOG := OG.out.cell; have zOG := OG.out.lt
        go_wp2_with fail
        refine (awakeP_true _).mono ?_
        rintro e w4 ⟨rfl, hbk⟩
        have hb' := Lib.hid (below_chain hb.out hbk)
        go_wp2
        go_ret
        exact ⟨rfl, hb'.out⟩
      | true =>
        have Rq := Lib.hid hq; clear hq
        have L1 := Lib.hid HP.out.len; have L2 := Lib.hid HQ.out.len; have L0 := Lib.hid HE.out.len
        by_cases hmN : (m : Int) = N
        · subst hmN
          by_cases hkN : (k : Int) = (m : Int)
          · obtain rfl : k = m := by omega
            have k1 : ((k : Int) != (k : Int)) = false := by simp
            have hk40 : k ≤ 40 := by omega
            have hn594 : n ≤ 594 := by have := RG.out.len; have := L0.out; omega
            have hn1 : n ≤ 100000 := by omega
            have hk1 : k ≤ 100000 := by omega
            have LP := Lib.hid (show p.length = k from L1.out.symm)
            have LPN := Lib.hid (show (p.length : Int) = (k : Int) from by rw [LP.out])
            have LQN := Lib.hid (show (q.length : Int) = (k : Int) from by rw [← L2.out])
            have LPQ := Lib.hid (show p.length = q.length from by rw [← L1.out, ← L2.out])
            have RG1 := Lib.hid (new_right Rp.out LPN.out RG.out)
            have EN := Lib.hid (show ∀ r, (newE r E).length = n from fun r => by rw [length_newE]; exact L0.out.symm)
            have EN2 := Lib.hid (show (newE q (newE p E)).length = n from by rw [length_newE]; exact EN.out p)
            have E0 := Lib.hid (show E.length = n from L0.out.symm)
            have qOG := OG.out.cell; have zOG := OG.out.lt
            go_wp2_with fail
            refine (apply_any (k : Int) A B n c k d E p _ HE.out HP.out).mono ?_
            intro e w4 he
            rw [appO_ok Rp.out LPN.out RG.out] at he
            obtain ⟨A7, c7, rfl, ha7, hbk⟩ := he.at (EN.out p) hn1
            clear qOG zOG
            have HE' := Lib.hid (HE.out.keep hbk)
            have HP' := Lib.hid (HP.out.keep hbk)
            have HQ' := Lib.hid (HQ.out.keep hbk)
            have OG' := Lib.hid (OG.out.below' hbk)
            have hb' := Lib.hid (below_chain hb.out hbk)
            clear hb hbk HE HP HQ OG
            have hb := hb'; clear hb'
            have HE := HE'; clear HE'
            have HP := HP'; clear HP'
            have HQ := HQ'; clear HQ'
            have OG := OG'; clear OG'
            have H7 := Lib.hid ha7; clear ha7
            have hb' := Lib.hid (bel_alloc hb.out (.cells #[.int .i64 k, .slice A7 n c7] 34)); clear hb; have hb := hb'; clear hb'
            have HE' := Lib.hid (HE.out.keep (alloc_below _ (.cells #[.int .i64 k, .slice A7 n c7] 34))); clear HE; have HE := HE'; clear HE'
            have HP' := Lib.hid (HP.out.keep (alloc_below _ (.cells #[.int .i64 k, .slice A7 n c7] 34))); clear HP; have HP := HP'; clear HP'
            have HQ' := Lib.hid (HQ.out.keep (alloc_below _ (.cells #[.int .i64 k, .slice A7 n c7] 34))); clear HQ; have HQ := HQ'; clear HQ'
            have OG' := Lib.hid (OG.out.alloc (.cells #[.int .i64 k, .slice A7 n c7] 34)); clear OG; have OG := OG'; clear OG'
            have H7' := Lib.hid (H7.out.keep (alloc_below _ (.cells #[.int .i64 k, .slice A7 n c7] 34))); clear H7; have H7 := H7'; clear H7'
            have O7 := Lib.hid (Own.new' (w := w4) (t := 34) (vs := [.int .i64 k, .slice A7 n c7]) rfl)
            have qO7 := O7.out.cell; have zO7 := O7.out.lt
            go_wp2_with fail
            refine (apply_any (k : Int) A7 C n c7 k e0 (newE p E) q _ H7.out HQ.out).mono ?_
            intro e w5 he
            rw [appO_ok Rq.out LQN.out RG1.out] at he
            obtain ⟨A9, c9, rfl, ha9, hbk⟩ := he.at (EN2.out) hn1
            clear qO7 zO7
            have HE' := Lib.hid (HE.out.keep hbk)
            have HP' := Lib.hid (HP.out.keep hbk)
            have HQ' := Lib.hid (HQ.out.keep hbk)
            have OG' := Lib.hid (OG.out.below' hbk)
            have H7' := Lib.hid (H7.out.keep hbk)
            have O7' := Lib.hid (O7.out.below' hbk)
            have hb' := Lib.hid (below_chain hb.out hbk)
            clear hb hbk HE HP HQ OG H7 O7
            have hb := hb'; clear hb'
            have HE := HE'; clear HE'
            have HP := HP'; clear HP'
            have HQ := HQ'; clear HQ'
            have OG := OG'; clear OG'
            have H7 := H7'; clear H7'
            have O7 := O7'; clear O7'
            have H9 := Lib.hid ha9; clear ha9
            have hb' := Lib.hid (bel_alloc hb.out (.cells #[.int .i64 k, .slice A9 n c9] 34)); clear hb; have hb := hb'; clear hb'
            have HE' := Lib.hid (HE.out.keep (alloc_below _ (.cells #[.int .i64 k, .slice A9 n c9] 34))); clear HE; have HE := HE'; clear HE'
            have HP' := Lib.hid (HP.out.keep (alloc_below _ (.cells #[.int .i64 k, .slice A9 n c9] 34))); clear HP; have HP := HP'; clear HP'
            have HQ' := Lib.hid (HQ.out.keep (alloc_below _ (.cells #[.int .i64 k, .slice A9 n c9] 34))); clear HQ; have HQ := HQ'; clear HQ'
            have OG' := Lib.hid (OG.out.alloc (.cells #[.int .i64 k, .slice A9 n c9] 34)); clear OG; have OG := OG'; clear OG'
            have H7' := Lib.hid (H7.out.keep (alloc_below _ (.cells #[.int .i64 k, .slice A9 n c9] 34))); clear H7; have H7 := H7'; clear H7'
            have O7' := Lib.hid (O7.out.alloc (.cells #[.int .i64 k, .slice A9 n c9] 34)); clear O7; have O7 := O7'; clear O7'
            have H9' := Lib.hid (H9.out.keep (alloc_below _ (.cells #[.int .i64 k, .slice A9 n c9] 34))); clear H9; have H9 := H9'; clear H9'
            have O9 := Lib.hid (Own.new' (w := w5) (t := 34) (vs := [.int .i64 k, .slice A9 n c9]) rfl)
            go_wp2_with fail
            refine (both_any B C k k d e0 p q _ HP.out HQ.out).mono ?_
            intro e w6 he
            obtain ⟨A11, c11, rfl, ha11, hbk⟩ := he.at (compO_some Rp.out Rq.out LPQ.out) (by rw [length_compP]; exact LP.out) hk1
            have HE' := Lib.hid (HE.out.keep hbk)
            have HP' := Lib.hid (HP.out.keep hbk)
            have HQ' := Lib.hid (HQ.out.keep hbk)
            have OG' := Lib.hid (OG.out.below' hbk)
            have H7' := Lib.hid (H7.out.keep hbk)
            have O7' := Lib.hid (O7.out.below' hbk)
            have H9' := Lib.hid (H9.out.keep hbk)
            have O9' := Lib.hid (O9.out.below' hbk)
            have hb' := Lib.hid (below_chain hb.out hbk)
            clear hb hbk HE HP HQ OG H7 O7 H9 O9
            have hb := hb'; clear hb'
            have HE := HE'; clear HE'
            have HP := HP'; clear HP'
            have HQ := HQ'; clear HQ'
            have OG := OG'; clear OG'
            have H7 := H7'; clear H7'
            have O7 := O7'; clear O7'
            have H9 := H9'; clear H9'
            have O9 := O9'; clear O9'
            have H11 := Lib.hid ha11; clear ha11
            have RC := Lib.hid (right_compP Rp.out Rq.out LPQ.out); have LCN := Lib.hid (show ((compP p q).length : Int) = (k : Int) from by rw [length_compP]; exact LPN.out)
            have qOG := OG.out.cell; have zOG := OG.out.lt
            go_wp2_with fail
            refine (apply_any (k : Int) A A11 n c k c11 E (compP p q) _ HE.out H11.out).mono ?_
            intro e w7 he
            rw [show appO (k : Int) E (compP p q) = .ok (newE q (newE p E)) from by rw [appO_ok RC.out LCN.out RG.out, new_comp Rp.out Rq.out LPN.out LPQ.out RG.out]] at he
            obtain ⟨A13, c13, rfl, ha13, hbk⟩ := he.at (EN2.out) hn1
            clear qOG zOG
            have HE' := Lib.hid (HE.out.keep hbk)
            have HP' := Lib.hid (HP.out.keep hbk)
            have HQ' := Lib.hid (HQ.out.keep hbk)
            have OG' := Lib.hid (OG.out.below' hbk)
            have H7' := Lib.hid (H7.out.keep hbk)
            have O7' := Lib.hid (O7.out.below' hbk)
            have H9' := Lib.hid (H9.out.keep hbk)
            have O9' := Lib.hid (O9.out.below' hbk)
            have H11' := Lib.hid (H11.out.keep hbk)
            have hb' := Lib.hid (below_chain hb.out hbk)
            clear hb hbk HE HP HQ OG H7 O7 H9 O9 H11
            have hb := hb'; clear hb'
            have HE := HE'; clear HE'
            have HP := HP'; clear HP'
            have HQ := HQ'; clear HQ'
            have OG := OG'; clear OG'
            have H7 := H7'; clear H7'
            have O7 := O7'; clear O7'
            have H9 := H9'; clear H9'
            have O9 := O9'; clear O9'
            have H11 := H11'; clear H11'
            have H13 := Lib.hid ha13; clear ha13
            have hb' := Lib.hid (bel_alloc hb.out (.cells #[.int .i64 k, .slice A13 n c13] 34)); clear hb; have hb := hb'; clear hb'
            have HE' := Lib.hid (HE.out.keep (alloc_below _ (.cells #[.int .i64 k, .slice A13 n c13] 34))); clear HE; have HE := HE'; clear HE'
            have HP' := Lib.hid (HP.out.keep (alloc_below _ (.cells #[.int .i64 k, .slice A13 n c13] 34))); clear HP; have HP := HP'; clear HP'
            have HQ' := Lib.hid (HQ.out.keep (alloc_below _ (.cells #[.int .i64 k, .slice A13 n c13] 34))); clear HQ; have HQ := HQ'; clear HQ'
            have OG' := Lib.hid (OG.out.alloc (.cells #[.int .i64 k, .slice A13 n c13] 34)); clear OG; have OG := OG'; clear OG'
            have H7' := Lib.hid (H7.out.keep (alloc_below _ (.cells #[.int .i64 k, .slice A13 n c13] 34))); clear H7; have H7 := H7'; clear H7'
            have O7' := Lib.hid (O7.out.alloc (.cells #[.int .i64 k, .slice A13 n c13] 34)); clear O7; have O7 := O7'; clear O7'
            have H9' := Lib.hid (H9.out.keep (alloc_below _ (.cells #[.int .i64 k, .slice A13 n c13] 34))); clear H9; have H9 := H9'; clear H9'
            have O9' := Lib.hid (O9.out.alloc (.cells #[.int .i64 k, .slice A13 n c13] 34)); clear O9; have O9 := O9'; clear O9'
            have H11' := Lib.hid (H11.out.keep (alloc_below _ (.cells #[.int .i64 k, .slice A13 n c13] 34))); clear H11; have H11 := H11'; clear H11'
            have H13' := Lib.hid (H13.out.keep (alloc_below _ (.cells #[.int .i64 k, .slice A13 n c13] 34))); clear H13; have H13 := H13'; clear H13'
            have O13 := Lib.hid (Own.new' (w := w7) (t := 34) (vs := [.int .i64 k, .slice A13 n c13]) rfl)
            go_wp2_with fail
            refine (invert_any B k d p _ HP.out).mono ?_
            intro e w8 he
            obtain ⟨A15, c15, rfl, ha15, hbk⟩ := he.at (invO_some Rp.out) (by rw [length_invP]; exact LP.out) hk1
            have HE' := Lib.hid (HE.out.keep hbk)
            have HP' := Lib.hid (HP.out.keep hbk)
            have HQ' := Lib.hid (HQ.out.keep hbk)
            have OG' := Lib.hid (OG.out.below' hbk)
            have H7' := Lib.hid (H7.out.keep hbk)
            have O7' := Lib.hid (O7.out.below' hbk)
            have H9' := Lib.hid (H9.out.keep hbk)
            have O9' := Lib.hid (O9.out.below' hbk)
            have H11' := Lib.hid (H11.out.keep hbk)
            have H13' := Lib.hid (H13.out.keep hbk)
            have O13' := Lib.hid (O13.out.below' hbk)
            have hb' := Lib.hid (below_chain hb.out hbk)
            clear hb hbk HE HP HQ OG H7 O7 H9 O9 H11 H13 O13
            have hb := hb'; clear hb'
            have HE := HE'; clear HE'
            have HP := HP'; clear HP'
            have HQ := HQ'; clear HQ'
            have OG := OG'; clear OG'
            have H7 := H7'; clear H7'
            have O7 := O7'; clear O7'
            have H9 := H9'; clear H9'
            have O9 := O9'; clear O9'
            have H11 := H11'; clear H11'
            have H13 := H13'; clear H13'
            have O13 := O13'; clear O13'
            have H15 := Lib.hid ha15; clear ha15
            have qO7 := O7.out.cell; have zO7 := O7.out.lt
            go_wp2_with fail
            refine (apply_any (k : Int) A7 A15 n c7 k c15 (newE p E) (invP p) _ H7.out H15.out).mono ?_
            intro e w9 he
            rw [show appO (k : Int) (newE p E) (invP p) = .ok E from by rw [appO_ok (right_invP Rp.out) (by rw [length_invP]; exact LPN.out) RG1.out, new_inv Rp.out LPN.out RG.out]] at he
            obtain ⟨A17, c17, rfl, ha17, hbk⟩ := he.at (E0.out) hn1
            clear qO7 zO7
            have HE' := Lib.hid (HE.out.keep hbk)
            have HP' := Lib.hid (HP.out.keep hbk)
            have HQ' := Lib.hid (HQ.out.keep hbk)
            have OG' := Lib.hid (OG.out.below' hbk)
            have H7' := Lib.hid (H7.out.keep hbk)
            have O7' := Lib.hid (O7.out.below' hbk)
            have H9' := Lib.hid (H9.out.keep hbk)
            have O9' := Lib.hid (O9.out.below' hbk)
            have H11' := Lib.hid (H11.out.keep hbk)
            have H13' := Lib.hid (H13.out.keep hbk)
            have O13' := Lib.hid (O13.out.below' hbk)
            have H15' := Lib.hid (H15.out.keep hbk)
            have hb' := Lib.hid (below_chain hb.out hbk)
            clear hb hbk HE HP HQ OG H7 O7 H9 O9 H11 H13 O13 H15
            have hb := hb'; clear hb'
            have HE := HE'; clear HE'
            have HP := HP'; clear HP'
            have HQ := HQ'; clear HQ'
            have OG := OG'; clear OG'
            have H7 := H7'; clear H7'
            have O7 := O7'; clear O7'
            have H9 := H9'; clear H9'
            have O9 := O9'; clear O9'
            have H11 := H11'; clear H11'
            have H13 := H13'; clear H13'
            have O13 := O13'; clear O13'
            have H15 := H15'; clear H15'
            have H17 := Lib.hid ha17; clear ha17
            have hb' := Lib.hid (bel_alloc hb.out (.cells #[.int .i64 k, .slice A17 n c17] 34)); clear hb; have hb := hb'; clear hb'
            have HE' := Lib.hid (HE.out.keep (alloc_below _ (.cells #[.int .i64 k, .slice A17 n c17] 34))); clear HE; have HE := HE'; clear HE'
            have HP' := Lib.hid (HP.out.keep (alloc_below _ (.cells #[.int .i64 k, .slice A17 n c17] 34))); clear HP; have HP := HP'; clear HP'
            have HQ' := Lib.hid (HQ.out.keep (alloc_below _ (.cells #[.int .i64 k, .slice A17 n c17] 34))); clear HQ; have HQ := HQ'; clear HQ'
            have OG' := Lib.hid (OG.out.alloc (.cells #[.int .i64 k, .slice A17 n c17] 34)); clear OG; have OG := OG'; clear OG'
            have H7' := Lib.hid (H7.out.keep (alloc_below _ (.cells #[.int .i64 k, .slice A17 n c17] 34))); clear H7; have H7 := H7'; clear H7'
            have O7' := Lib.hid (O7.out.alloc (.cells #[.int .i64 k, .slice A17 n c17] 34)); clear O7; have O7 := O7'; clear O7'
            have H9' := Lib.hid (H9.out.keep (alloc_below _ (.cells #[.int .i64 k, .slice A17 n c17] 34))); clear H9; have H9 := H9'; clear H9'
            have O9' := Lib.hid (O9.out.alloc (.cells #[.int .i64 k, .slice A17 n c17] 34)); clear O9; have O9 := O9'; clear O9'
            have H11' := Lib.hid (H11.out.keep (alloc_below _ (.cells #[.int .i64 k, .slice A17 n c17] 34))); clear H11; have H11 := H11'; clear H11'
            have H13' := Lib.hid (H13.out.keep (alloc_below _ (.cells #[.int .i64 k, .slice A17 n c17] 34))); clear H13; have H13 := H13'; clear H13'
            have O13' := Lib.hid (O13.out.alloc (.cells #[.int .i64 k, .slice A17 n c17] 34)); clear O13; have O13 := O13'; clear O13'
            have H15' := Lib.hid (H15.out.keep (alloc_below _ (.cells #[.int .i64 k, .slice A17 n c17] 34))); clear H15; have H15 := H15'; clear H15'
            have H17' := Lib.hid (H17.out.keep (alloc_below _ (.cells #[.int .i64 k, .slice A17 n c17] 34))); clear H17; have H17 := H17'; clear H17'
            have O17 := Lib.hid (Own.new' (w := w9) (t := 34) (vs := [.int .i64 k, .slice A17 n c17]) rfl)
            have qO7 := O7.out.cell; have zO7 := O7.out.lt
            go_wp2_with fail
            refine (rightG_any (k : Int) A7 n c7 (newE p E) _ H7.out).mono ?_
            rintro e w10 ⟨rfl, hbk⟩
            rw [rightG_iff.2 RG1.out]
            clear qO7 zO7
            have HE' := Lib.hid (HE.out.keep hbk)
            have HP' := Lib.hid (HP.out.keep hbk)
            have HQ' := Lib.hid (HQ.out.keep hbk)
            have OG' := Lib.hid (OG.out.below' hbk)
            have H7' := Lib.hid (H7.out.keep hbk)
            have O7' := Lib.hid (O7.out.below' hbk)
            have H9' := Lib.hid (H9.out.keep hbk)
            have O9' := Lib.hid (O9.out.below' hbk)
            have H11' := Lib.hid (H11.out.keep hbk)
            have H13' := Lib.hid (H13.out.keep hbk)
            have O13' := Lib.hid (O13.out.below' hbk)
            have H15' := Lib.hid (H15.out.keep hbk)
            have H17' := Lib.hid (H17.out.keep hbk)
            have O17' := Lib.hid (O17.out.below' hbk)
            have hb' := Lib.hid (below_chain hb.out hbk)
            clear hb hbk HE HP HQ OG H7 O7 H9 O9 H11 H13 O13 H15 H17 O17
            have hb := hb'; clear hb'
            have HE := HE'; clear HE'
            have HP := HP'; clear HP'
            have HQ := HQ'; clear HQ'
            have OG := OG'; clear OG'
            have H7 := H7'; clear H7'
            have O7 := O7'; clear O7'
            have H9 := H9'; clear H9'
            have O9 := O9'; clear O9'
            have H11 := H11'; clear H11'
            have H13 := H13'; clear H13'
            have O13 := O13'; clear O13'
            have H15 := H15'; clear H15'
            have H17 := H17'; clear H17'
            have O17 := O17'; clear O17'
            have qO9 := O9.out.cell; have zO9 := O9.out.lt
            have qO13 := O13.out.cell; have zO13 := O13.out.lt
            go_wp2_with fail
            refine (sameGraph_any (k : Int) (k : Int) A9 A13 c9 c13 n n (newE q (newE p E)) (newE q (newE p E)) _ H9.out H13.out).mono ?_
            rintro e w11 ⟨rfl, hbk⟩
            rw [beq_self_eq_true, beq_self_eq_true, Bool.true_and]
            clear qO9 zO9
            clear qO13 zO13
            have HE' := Lib.hid (HE.out.keep hbk)
            have HP' := Lib.hid (HP.out.keep hbk)
            have HQ' := Lib.hid (HQ.out.keep hbk)
            have OG' := Lib.hid (OG.out.below' hbk)
            have H7' := Lib.hid (H7.out.keep hbk)
            have O7' := Lib.hid (O7.out.below' hbk)
            have H9' := Lib.hid (H9.out.keep hbk)
            have O9' := Lib.hid (O9.out.below' hbk)
            have H11' := Lib.hid (H11.out.keep hbk)
            have H13' := Lib.hid (H13.out.keep hbk)
            have O13' := Lib.hid (O13.out.below' hbk)
            have H15' := Lib.hid (H15.out.keep hbk)
            have H17' := Lib.hid (H17.out.keep hbk)
            have O17' := Lib.hid (O17.out.below' hbk)
            have hb' := Lib.hid (below_chain hb.out hbk)
            clear hb hbk HE HP HQ OG H7 O7 H9 O9 H11 H13 O13 H15 H17 O17
            have hb := hb'; clear hb'
            have HE := HE'; clear HE'
            have HP := HP'; clear HP'
            have HQ := HQ'; clear HQ'
            have OG := OG'; clear OG'
            have H7 := H7'; clear H7'
            have O7 := O7'; clear O7'
            have H9 := H9'; clear H9'
            have O9 := O9'; clear O9'
            have H11 := H11'; clear H11'
            have H13 := H13'; clear H13'
            have O13 := O13'; clear O13'
            have H15 := H15'; clear H15'
            have H17 := H17'; clear H17'
            have O17 := O17'; clear O17'
            have qO17 := O17.out.cell; have zO17 := O17.out.lt
            have qOG := OG.out.cell; have zOG := OG.out.lt
            go_wp2_with fail
            refine (sameGraph_any (k : Int) (k : Int) A17 A c17 c n n E E _ H17.out HE.out).mono ?_
            rintro e w12 ⟨rfl, hbk⟩
            rw [beq_self_eq_true, beq_self_eq_true, Bool.true_and]
            clear qO17 zO17
            clear qOG zOG
            have HE' := Lib.hid (HE.out.keep hbk)
            have HP' := Lib.hid (HP.out.keep hbk)
            have HQ' := Lib.hid (HQ.out.keep hbk)
            have OG' := Lib.hid (OG.out.below' hbk)
            have H7' := Lib.hid (H7.out.keep hbk)
            have O7' := Lib.hid (O7.out.below' hbk)
            have H9' := Lib.hid (H9.out.keep hbk)
            have O9' := Lib.hid (O9.out.below' hbk)
            have H11' := Lib.hid (H11.out.keep hbk)
            have H13' := Lib.hid (H13.out.keep hbk)
            have O13' := Lib.hid (O13.out.below' hbk)
            have H15' := Lib.hid (H15.out.keep hbk)
            have H17' := Lib.hid (H17.out.keep hbk)
            have O17' := Lib.hid (O17.out.below' hbk)
            have hb' := Lib.hid (below_chain hb.out hbk)
            clear hb hbk HE HP HQ OG H7 O7 H9 O9 H11 H13 O13 H15 H17 O17
            have hb := hb'; clear hb'
            have HE := HE'; clear HE'
            have HP := HP'; clear HP'
            have HQ := HQ'; clear HQ'
            have OG := OG'; clear OG'
            have H7 := H7'; clear H7'
            have O7 := O7'; clear O7'
            have H9 := H9'; clear H9'
            have O9 := O9'; clear O9'
            have H11 := H11'; clear H11'
            have H13 := H13'; clear H13'
            have O13 := O13'; clear O13'
            have H15 := H15'; clear H15'
            have H17 := H17'; clear H17'
            have O17 := O17'; clear O17'
            have qO7 := O7.out.cell; have zO7 := O7.out.lt
            have qOG := OG.out.cell; have zOG := OG.out.lt
            go_wp2_with fail
            go_loopw [6, 19, 20, 131] (fun _ _ _ i V => ∃ ai : Nat, ai ≤ k ∧ i = .int .i64 (ai : Int) ∧ Hid (Below w12.heap.size w12 V)) (fun _ _ _ i _ => k - (intOf i).toNat)
            case atStart => exact ⟨0, Nat.zero_le _, rfl, Lib.hid (Below.refl _ _)⟩
            case round =>
              obtain ⟨ai, ha, rfl, HBa⟩ := hrel
              by_cases hlt : ai < k
              · go_wp2_with fail
                go_loopw [6, 20, 135] (fun _ _ i V => ∃ b : Nat, b ≤ ai ∧ i = .int .i64 (b : Int) ∧ Hid (Below w12.heap.size w12 V)) (fun _ _ i _ => ai - (intOf i).toNat)
                case atStart => exact ⟨0, Nat.zero_le _, rfl, HBa⟩
                case round =>
                  obtain ⟨b, hba, rfl, HB⟩ := hrel
                  by_cases hlt2 : b < ai
                  · obtain ⟨bp, offp, rfl, hbp, hcp⟩ := rd_int HP.out.rd (by have := LP.out; omega)
                    have e1 := at0_eq Rp.out (i := ai) (by have := LP.out; omega)
                    have e2 := at0_eq Rp.out (i := b) (by have := LP.out; omega)
                    have CP1 := Lib.hid (fun V (hV : Below wr.heap.size wr V) => hcp V (below_chain HB.out hV) ai _ e1)
                    have CP2 := Lib.hid (fun V (hV : Below wr.heap.size wr V) => hcp V (below_chain HB.out hV) b _ e2)
                    have f1 : atI p (ai : Int) = ((at0 p ai : Nat) : Int) := (atI_nat Rp.out (by omega) (by have := LP.out; omega)).1
                    have f2 : atI p (b : Int) = ((at0 p b : Nat) : Int) := (atI_nat Rp.out (by omega) (by have := LP.out; omega)).1
                    have hh := has_new Rp.out LPN.out RG.out (a := (ai : Int)) (b := (b : Int)) (by omega) (by omega) (by omega) (by omega) (by omega)
                    rw [f1, f2] at hh
                    obtain ⟨x, hx⟩ : ∃ x, at0 p ai = x := ⟨_, rfl⟩
                    obtain ⟨y, hy⟩ : ∃ x, at0 p b = x := ⟨_, rfl⟩
                    obtain ⟨s, hs⟩ : ∃ s, hasG (k : Int) E (ai : Int) (b : Int) = s := ⟨_, rfl⟩
                    rw [hx] at CP1 hh
                    rw [hy] at CP2 hh
                    rw [hs] at hh
                    have HS1 := Lib.hid hs; have HS2 := Lib.hid hh.symm
                    have CG := Lib.hid (fun V (hV : Below wr.heap.size wr V) => OG.out.below' (below_chain HB.out hV))
                    have C7 := Lib.hid (fun V (hV : Below wr.heap.size wr V) => O7.out.below' (below_chain HB.out hV))
                    have AG := Lib.hid (fun V (hV : Below wr.heap.size wr V) => HE.out.keep (below_chain HB.out hV))
                    have A7' := Lib.hid (fun V (hV : Below wr.heap.size wr V) => H7.out.keep (below_chain HB.out hV))
                    have HLa := Lib.hid hlt; have HLb := Lib.hid (show b < k by omega)
                    clear hcp e1 e2 f1 f2 hh hx hy hs
                    go_wp2_with fail
                    refine region_posts (by kernel_rfl) (tblPA k A n c A7 c7 bp offp d ai b x y s) (by kernel_rfl) ?_ ?_
                    · skip
                      refine .yes rfl (fun a W Q hB hO hD => ?_) ?_
                      · have e3 : a.tmps.getD 3 undef = .pointer (some ⟨w.heap.size, 0, none⟩) := hO.slot 3 _ rfl rfl
                        clear hO hD
                        have hO := CG.out W hB
                        have q := hO.cell
                        have z := hO.lt
                        go_wp2
                        exact ⟨_, rfl, Below.refl _ _, rfl⟩
                      refine .yes rfl (fun a W Q hB hO hD => ?_) ?_
                      · have e19 : a.tmps.getD 19 undef = .int .i64 (ai : Nat) := hO.slot 19 _ rfl rfl
                        clear hO hD
                        go_wp2
                        exact ⟨_, rfl, Below.refl _ _, rfl⟩
                      refine .yes rfl (fun a W Q hB hO hD => ?_) ?_
                      · have e20 : a.tmps.getD 20 undef = .int .i64 (b : Nat) := hO.slot 20 _ rfl rfl
                        clear hO hD
                        go_wp2
                        exact ⟨_, rfl, Below.refl _ _, rfl⟩
                      refine .yes rfl (fun a W Q hB hO hD => ?_) ?_
                      · have e138 : a.tmps.getD 138 undef = .agg #[.int .i64 (k : Nat), .slice A n c] := hD 0 rfl
                        have e139 : a.tmps.getD 139 undef = .int .i64 (ai : Nat) := hD 1 rfl
                        have e140 : a.tmps.getD 140 undef = .int .i64 (b : Nat) := hD 2 rfl
                        clear hO hD
                        have K := Lib.hid (has_any (k : Int) A n c E (ai : Int) (b : Int) W (AG.out W hB))
                        go_wp2_with fail
                        refine K.out.mono ?_
                        rintro e W1 ⟨rfl, hb1⟩
                        rw [HS1.out]
                        go_wp2
                        exact ⟨_, rfl, hb1, rfl⟩
                      refine .yes rfl (fun a W Q hB hO hD => ?_) ?_
                      · have e7 : a.tmps.getD 7 undef = .pointer (some ⟨w4.heap.size, 0, none⟩) := hO.slot 7 _ rfl rfl
                        clear hO hD
                        have hO := C7.out W hB
                        have q := hO.cell
                        have z := hO.lt
                        go_wp2
                        exact ⟨_, rfl, Below.refl _ _, rfl⟩
                      refine .yes rfl (fun a W Q hB hO hD => ?_) ?_
                      · have e1 : a.tmps.getD 1 undef = .slice (some ⟨bp, offp, none⟩) k d := hO.slot 1 _ rfl rfl
                        clear hO hD
                        go_wp2
                        exact ⟨_, rfl, Below.refl _ _, rfl⟩
                      refine .yes rfl (fun a W Q hB hO hD => ?_) ?_
                      · have e19 : a.tmps.getD 19 undef = .int .i64 (ai : Nat) := hO.slot 19 _ rfl rfl
                        clear hO hD
                        go_wp2
                        exact ⟨_, rfl, Below.refl _ _, rfl⟩
                      refine .yes rfl (fun a W Q hB hO hD => ?_) ?_
                      · have e143 : a.tmps.getD 143 undef = .slice (some ⟨bp, offp, none⟩) k d := hD 5 rfl
                        have e144 : a.tmps.getD 144 undef = .int .i64 (ai : Nat) := hD 6 rfl
                        clear hO hD
                        have h1 := HLa.out
                        go_wp2
                        exact ⟨_, rfl, Below.refl _ _, rfl⟩
                      refine .yes rfl (fun a W Q hB hO hD => ?_) ?_
                      · have e145 : a.tmps.getD 145 undef = .pointer (some ⟨bp, offp + ai, none⟩) := hD 7 rfl
                        clear hO hD
                        have hc := CP1.out W hB
                        go_wp2
                        exact ⟨_, rfl, Below.refl _ _, rfl⟩
                      refine .yes rfl (fun a W Q hB hO hD => ?_) ?_
                      · have e1 : a.tmps.getD 1 undef = .slice (some ⟨bp, offp, none⟩) k d := hO.slot 1 _ rfl rfl
                        clear hO hD
                        go_wp2
                        exact ⟨_, rfl, Below.refl _ _, rfl⟩
                      refine .yes rfl (fun a W Q hB hO hD => ?_) ?_
                      · have e20 : a.tmps.getD 20 undef = .int .i64 (b : Nat) := hO.slot 20 _ rfl rfl
                        clear hO hD
                        go_wp2
                        exact ⟨_, rfl, Below.refl _ _, rfl⟩
                      refine .yes rfl (fun a W Q hB hO hD => ?_) ?_
                      · have e147 : a.tmps.getD 147 undef = .slice (some ⟨bp, offp, none⟩) k d := hD 9 rfl
                        have e148 : a.tmps.getD 148 undef = .int .i64 (b : Nat) := hD 10 rfl
                        clear hO hD
                        have h1 := HLb.out
                        go_wp2
                        exact ⟨_, rfl, Below.refl _ _, rfl⟩
                      refine .yes rfl (fun a W Q hB hO hD => ?_) ?_
                      · have e149 : a.tmps.getD 149 undef = .pointer (some ⟨bp, offp + b, none⟩) := hD 11 rfl
                        clear hO hD
                        have hc := CP2.out W hB
                        go_wp2
                        exact ⟨_, rfl, Below.refl _ _, rfl⟩
                      refine .yes rfl (fun a W Q hB hO hD => ?_) ?_
                      · have e142 : a.tmps.getD 142 undef = .agg #[.int .i64 (k : Nat), .slice A7 n c7] := hD 4 rfl
                        have e146 : a.tmps.getD 146 undef = .int .i64 (x : Nat) := hD 8 rfl
                        have e150 : a.tmps.getD 150 undef = .int .i64 (y : Nat) := hD 12 rfl
                        clear hO hD
                        have K := Lib.hid (has_any (k : Int) A7 n c7 (newE p E) (x : Int) (y : Int) W (A7'.out W hB))
                        go_wp2_with fail
                        refine K.out.mono ?_
                        rintro e W1 ⟨rfl, hb1⟩
                        rw [HS2.out]
                        go_wp2
                        exact ⟨_, rfl, hb1, rfl⟩
                      refine .yes rfl (fun a W Q hB hO hD => ?_) ?_
                      · have e141 : a.tmps.getD 141 undef = .bool s := hD 3 rfl
                        have e151 : a.tmps.getD 151 undef = .bool s := hD 13 rfl
                        clear hO hD
                        have hx : (s != s) = false := by simp
                        go_wp2
                        exact ⟨_, rfl, Below.refl _ _, rfl⟩
                      exact .nil
                    · intro f V hBz hR
                      have e1 : f 14 = .bool false := hR 14 (by decide)
                      have HB2 := Lib.hid (below_chain HB.out hBz)
                      clear hR hBz
                      simp only [putAll, Nat.zero_add, Nat.reduceAdd, Act.put, List.setIfInBounds_toArray, List.set_cons_zero, List.set_cons_succ, e1]
                      go_wp2
                      go_roundw
                      case rel => exact ⟨b + 1, by omega, by go_num, HB2⟩
                      case measure => simp [intOf]; omega
                  · obtain rfl : b = ai := by omega
                    go_wp2
                    go_roundw
                    case rel => exact ⟨b + 1, by omega, by go_num, HB⟩
                    case measure => simp [intOf]; omega
              · obtain rfl : ai = k := by omega
                go_wp2_with fail
                refine (awakeP_true _).mono ?_
                rintro e w90 ⟨rfl, hbk⟩
                have hbf := Lib.hid (below_chain (below_chain hb.out HBa.out) hbk)
                go_wp2
                go_ret
                exact ⟨rfl, hbf.out⟩
          · have k2 : ((k : Int) != (m : Int)) = true := by rw [bne_iff_ne]; exact hkN
            have k3 : ((m : Int) != (m : Int)) = false := by simp
            have qOG := OG.out.cell; have zOG := OG.out.lt
            go_wp2_with fail
            refine (awakeP_true _).mono ?_
            rintro e w50 ⟨rfl, hbk⟩
            have hb' := Lib.hid (below_chain hb.out hbk)
            go_wp2
            go_ret
            exact ⟨rfl, hb'.out⟩
        · have k2 : ((m : Int) != N) = true := by rw [bne_iff_ne]; exact hmN
          have qOG := OG.out.cell; have zOG := OG.out.lt
          go_wp2_with fail
          refine (awakeP_true _).mono ?_
          rintro e w50 ⟨rfl, hbk⟩
          have hb' := Lib.hid (below_chain hb.out hbk)
          go_wp2
          go_ret
          exact ⟨rfl, hb'.out⟩
end Go.Proofs.Ytccaagildkgfeaa
