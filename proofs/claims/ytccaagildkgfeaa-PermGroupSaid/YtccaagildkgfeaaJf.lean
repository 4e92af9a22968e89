/- Walk: fretworklaw03.PermGroup. -/
import Derived.Test.YtccaagildkgfeaaJe
namespace Go.Proofs.Ytccaagildkgfeaa
open Go.RowKit

set_option maxRecDepth 100000 in
set_option maxHeartbeats 8000000 in
theorem permGroup_true (A B C : Option Addr) (n m k c d e0 : Nat) (p q r : List Int) (w : World) (hp : ArgI w A n c p) (hq : ArgI w B m d q) (hr : ArgI w C k e0 r) :
    Calls Try.prog 5 #[.slice A n c, .slice B m d, .slice C k e0] w fun e w' => e = .returned (.bool true) ∧ Below w.heap.size w w' := by
  have HP := Lib.hid hp; have HQ := Lib.hid hq; have HR := Lib.hid hr
  have hn0 := hp.le; have hm0 := hq.le; have hk0 := hr.le
  clear hp hq hr
  go_enter Try.func5, Try.ntmps5
  have hb := Lib.hid (Below.refl w.heap.size w)
  go_wp2_with fail
  refine (right_any A n c p _ HP.out).mono ?_
  rintro e w1 ⟨rfl, hbk⟩
  have HP' := Lib.hid (HP.out.keep hbk)
  have HQ' := Lib.hid (HQ.out.keep hbk)
  have HR' := Lib.hid (HR.out.keep hbk)
  have hb' := Lib.hid (below_chain hb.out hbk)
  clear hb hbk HP HQ HR
  have hb := hb'; clear hb'
  have HP := HP'; clear HP'
  have HQ := HQ'; clear HQ'
  have HR := HR'; clear HR'
  cases hp : rightP p with
  | false =>
    have k := Lib.hid hp; clear hp
    go_wp2_with fail
    refine (awakeP_true _).mono ?_
    rintro e w2 ⟨rfl, hbk⟩
    have hb' := Lib.hid (below_chain hb.out hbk)
    go_wp2
    go_ret
    exact ⟨rfl, hb'.out⟩
  | true =>
    have Rp := Lib.hid hp; clear hp
    go_wp2_with fail
    refine (right_any B m d q _ HQ.out).mono ?_
    rintro e w2 ⟨rfl, hbk⟩
    have HP' := Lib.hid (HP.out.keep hbk)
    have HQ' := Lib.hid (HQ.out.keep hbk)
    have HR' := Lib.hid (HR.out.keep hbk)
    have hb' := Lib.hid (below_chain hb.out hbk)
    clear hb hbk HP HQ HR
    have hb := hb'; clear hb'
    have HP := HP'; clear HP'
    have HQ := HQ'; clear HQ'
    have HR := HR'; clear HR'
    cases hq : rightP q with
    | false =>
      have k := Lib.hid hq; clear hq
      go_wp2_with fail
      refine (awakeP_true _).mono ?_
      rintro e w3 ⟨rfl, hbk⟩
      have hb' := Lib.hid (below_chain hb.out hbk)
      go_wp2
      go_ret
      exact ⟨rfl, hb'.out⟩
    | true =>
      have Rq := Lib.hid hq; clear hq
      go_wp2_with fail
      refine (right_any C k e0 r _ HR.out).mono ?_
      rintro e w3 ⟨rfl, hbk⟩
      have HP' := Lib.hid (HP.out.keep hbk)
      have HQ' := Lib.hid (HQ.out.keep hbk)
      have HR' := Lib.hid (HR.out.keep hbk)
      have hb' := Lib.hid (below_chain hb.out hbk)
      clear hb hbk HP HQ HR
      have hb := hb'; clear hb'
      have HP := HP'; clear HP'
      have HQ := HQ'; clear HQ'
      have HR := HR'; clear HR'
      cases hr : rightP r with
      | false =>
        have k := Lib.hid hr; clear hr
        go_wp2_with fail
        refine (awakeP_true _).mono ?_
        rintro e w4 ⟨rfl, hbk⟩
        have hb' := Lib.hid (below_chain hb.out hbk)
        go_wp2
        go_ret
        exact ⟨rfl, hb'.out⟩
      | true =>
        have Rr := Lib.hid hr; clear hr
        by_cases hnm : n = m
        · subst hnm
          by_cases hmk : n = k
          · subst hmk
            have e1 : ((n : Int) != (n : Int)) = false := by simp
            have lp := HP.out.len; have lq := HQ.out.len; have lr := HR.out.len
            have hn2 : n ≤ 200 := by have := right_le Rp.out; omega
            have hn1 : n ≤ 100000 := by omega
            have L1 := Lib.hid (show p.length = n from lp.symm); have L2 := Lib.hid (show q.length = n from lq.symm); have L3 := Lib.hid (show r.length = n from lr.symm)
            have HID := Lib.hid (show (if (0 : Int) ≤ (n : Int) ∧ (n : Int) ≤ 200 then idP (n : Int).toNat else []) = idP n from if_pos ⟨by omega, by omega⟩)
            have Ri := Lib.hid (right_idP hn2)
            clear lp lq lr hn2
            go_wp2_with fail
            refine (identity_any n _).mono ?_
            intro e w4 he
            rw [HID.out] at he
            obtain ⟨A1, c1, rfl, ha1, hbk⟩ := he.at (length_idP n) hn1
            have HP' := Lib.hid (HP.out.keep hbk)
            have HQ' := Lib.hid (HQ.out.keep hbk)
            have HR' := Lib.hid (HR.out.keep hbk)
            have hb' := Lib.hid (below_chain hb.out hbk)
            clear hb hbk HP HQ HR
            have hb := hb'; clear hb'
            have HP := HP'; clear HP'
            have HQ := HQ'; clear HQ'
            have HR := HR'; clear HR'
            have h1 := Lib.hid ha1; clear ha1
            go_wp2_with fail
            refine (invert_any A n c p _ HP.out).mono ?_
            intro e w5 he
            obtain ⟨A2, c2, rfl, ha2, hbk⟩ := he.at (invO_some Rp.out) (by rw [length_invP]; exact L1.out) hn1
            have HP' := Lib.hid (HP.out.keep hbk)
            have HQ' := Lib.hid (HQ.out.keep hbk)
            have HR' := Lib.hid (HR.out.keep hbk)
            have h1' := Lib.hid (h1.out.keep hbk)
            have hb' := Lib.hid (below_chain hb.out hbk)
            clear hb hbk HP HQ HR h1
            have hb := hb'; clear hb'
            have HP := HP'; clear HP'
            have HQ := HQ'; clear HQ'
            have HR := HR'; clear HR'
            have h1 := h1'; clear h1'
            have h2 := Lib.hid ha2; clear ha2
            have Rv := Lib.hid (right_invP Rp.out); have Lv := Lib.hid (show (invP p).length = n from (length_invP p).trans L1.out)
            go_wp2_with fail
            refine (both_any A A2 n n c c2 p (invP p) _ HP.out h2.out).mono ?_
            intro e w6 he
            obtain ⟨A3, c3, rfl, ha3, hbk⟩ := he.at (l := (idP n)) (by rw [compO_some Rp.out Rv.out (by rw [L1.out, Lv.out]), comp_inv Rp.out, L1.out]) (length_idP n) hn1
            have HP' := Lib.hid (HP.out.keep hbk)
            have HQ' := Lib.hid (HQ.out.keep hbk)
            have HR' := Lib.hid (HR.out.keep hbk)
            have h1' := Lib.hid (h1.out.keep hbk)
            have h2' := Lib.hid (h2.out.keep hbk)
            have hb' := Lib.hid (below_chain hb.out hbk)
            clear hb hbk HP HQ HR h1 h2
            have hb := hb'; clear hb'
            have HP := HP'; clear HP'
            have HQ := HQ'; clear HQ'
            have HR := HR'; clear HR'
            have h1 := h1'; clear h1'
            have h2 := h2'; clear h2'
            have h3 := Lib.hid ha3; clear ha3
            go_wp2_with fail
            refine (both_any A2 A n n c2 c (invP p) p _ h2.out HP.out).mono ?_
            intro e w7 he
            obtain ⟨A4, c4, rfl, ha4, hbk⟩ := he.at (l := (idP n)) (by rw [compO_some Rv.out Rp.out (by rw [L1.out, Lv.out]), inv_comp Rp.out, L1.out]) (length_idP n) hn1
            have HP' := Lib.hid (HP.out.keep hbk)
            have HQ' := Lib.hid (HQ.out.keep hbk)
            have HR' := Lib.hid (HR.out.keep hbk)
            have h1' := Lib.hid (h1.out.keep hbk)
            have h2' := Lib.hid (h2.out.keep hbk)
            have h3' := Lib.hid (h3.out.keep hbk)
            have hb' := Lib.hid (below_chain hb.out hbk)
            clear hb hbk HP HQ HR h1 h2 h3
            have hb := hb'; clear hb'
            have HP := HP'; clear HP'
            have HQ := HQ'; clear HQ'
            have HR := HR'; clear HR'
            have h1 := h1'; clear h1'
            have h2 := h2'; clear h2'
            have h3 := h3'; clear h3'
            have h4 := Lib.hid ha4; clear ha4
            go_wp2_with fail
            refine (both_any A A1 n n c c1 p (idP n) _ HP.out h1.out).mono ?_
            intro e w8 he
            obtain ⟨A5, c5, rfl, ha5, hbk⟩ := he.at (l := p) (by rw [compO_some Rp.out Ri.out (by rw [L1.out, length_idP]), ← L1.out, comp_id Rp.out]) (L1.out) hn1
            have HP' := Lib.hid (HP.out.keep hbk)
            have HQ' := Lib.hid (HQ.out.keep hbk)
            have HR' := Lib.hid (HR.out.keep hbk)
            have h1' := Lib.hid (h1.out.keep hbk)
            have h2' := Lib.hid (h2.out.keep hbk)
            have h3' := Lib.hid (h3.out.keep hbk)
            have h4' := Lib.hid (h4.out.keep hbk)
            have hb' := Lib.hid (below_chain hb.out hbk)
            clear hb hbk HP HQ HR h1 h2 h3 h4
            have hb := hb'; clear hb'
            have HP := HP'; clear HP'
            have HQ := HQ'; clear HQ'
            have HR := HR'; clear HR'
            have h1 := h1'; clear h1'
            have h2 := h2'; clear h2'
            have h3 := h3'; clear h3'
            have h4 := h4'; clear h4'
            have h5 := Lib.hid ha5; clear ha5
            go_wp2_with fail
            refine (both_any A1 A n n c1 c (idP n) p _ h1.out HP.out).mono ?_
            intro e w9 he
            obtain ⟨A6, c6, rfl, ha6, hbk⟩ := he.at (l := p) (by rw [compO_some Ri.out Rp.out (by rw [L1.out, length_idP]), ← L1.out, id_comp Rp.out]) (L1.out) hn1
            have HP' := Lib.hid (HP.out.keep hbk)
            have HQ' := Lib.hid (HQ.out.keep hbk)
            have HR' := Lib.hid (HR.out.keep hbk)
            have h1' := Lib.hid (h1.out.keep hbk)
            have h2' := Lib.hid (h2.out.keep hbk)
            have h3' := Lib.hid (h3.out.keep hbk)
            have h4' := Lib.hid (h4.out.keep hbk)
            have h5' := Lib.hid (h5.out.keep hbk)
            have hb' := Lib.hid (below_chain hb.out hbk)
            clear hb hbk HP HQ HR h1 h2 h3 h4 h5
            have hb := hb'; clear hb'
            have HP := HP'; clear HP'
            have HQ := HQ'; clear HQ'
            have HR := HR'; clear HR'
            have h1 := h1'; clear h1'
            have h2 := h2'; clear h2'
            have h3 := h3'; clear h3'
            have h4 := h4'; clear h4'
            have h5 := h5'; clear h5'
            have h6 := Lib.hid ha6; clear ha6
            go_wp2_with fail
            refine (sameInts_any A3 A1 c3 c1 n n (idP n) (idP n) _ h3.out h1.out).mono ?_
            rintro e w10 ⟨rfl, hbk⟩
            rw [beq_self_eq_true]
            have HP' := Lib.hid (HP.out.keep hbk)
            have HQ' := Lib.hid (HQ.out.keep hbk)
            have HR' := Lib.hid (HR.out.keep hbk)
            have h1' := Lib.hid (h1.out.keep hbk)
            have h2' := Lib.hid (h2.out.keep hbk)
            have h3' := Lib.hid (h3.out.keep hbk)
            have h4' := Lib.hid (h4.out.keep hbk)
            have h5' := Lib.hid (h5.out.keep hbk)
            have h6' := Lib.hid (h6.out.keep hbk)
            have hb' := Lib.hid (below_chain hb.out hbk)
            clear hb hbk HP HQ HR h1 h2 h3 h4 h5 h6
            have hb := hb'; clear hb'
            have HP := HP'; clear HP'
            have HQ := HQ'; clear HQ'
            have HR := HR'; clear HR'
            have h1 := h1'; clear h1'
            have h2 := h2'; clear h2'
            have h3 := h3'; clear h3'
            have h4 := h4'; clear h4'
            have h5 := h5'; clear h5'
            have h6 := h6'; clear h6'
            go_wp2_with fail
            refine (sameInts_any A4 A1 c4 c1 n n (idP n) (idP n) _ h4.out h1.out).mono ?_
            rintro e w11 ⟨rfl, hbk⟩
            rw [beq_self_eq_true]
            have HP' := Lib.hid (HP.out.keep hbk)
            have HQ' := Lib.hid (HQ.out.keep hbk)
            have HR' := Lib.hid (HR.out.keep hbk)
            have h1' := Lib.hid (h1.out.keep hbk)
            have h2' := Lib.hid (h2.out.keep hbk)
            have h3' := Lib.hid (h3.out.keep hbk)
            have h4' := Lib.hid (h4.out.keep hbk)
            have h5' := Lib.hid (h5.out.keep hbk)
            have h6' := Lib.hid (h6.out.keep hbk)
            have hb' := Lib.hid (below_chain hb.out hbk)
            clear hb hbk HP HQ HR h1 h2 h3 h4 h5 h6
            have hb := hb'; clear hb'
            have HP := HP'; clear HP'
            have HQ := HQ'; clear HQ'
            have HR := HR'; clear HR'
            have h1 := h1'; clear h1'
            have h2 := h2'; clear h2'
            have h3 := h3'; clear h3'
            have h4 := h4'; clear h4'
            have h5 := h5'; clear h5'
            have h6 := h6'; clear h6'
            go_wp2_with fail
            refine (sameInts_any A5 A c5 c n n p p _ h5.out HP.out).mono ?_
            rintro e w12 ⟨rfl, hbk⟩
            rw [beq_self_eq_true]
            have HP' := Lib.hid (HP.out.keep hbk)
            have HQ' := Lib.hid (HQ.out.keep hbk)
            have HR' := Lib.hid (HR.out.keep hbk)
            have h1' := Lib.hid (h1.out.keep hbk)
            have h2' := Lib.hid (h2.out.keep hbk)
            have h3' := Lib.hid (h3.out.keep hbk)
            have h4' := Lib.hid (h4.out.keep hbk)
            have h5' := Lib.hid (h5.out.keep hbk)
            have h6' := Lib.hid (h6.out.keep hbk)
            have hb' := Lib.hid (below_chain hb.out hbk)
            clear hb hbk HP HQ HR h1 h2 h3 h4 h5 h6
            have hb := hb'; clear hb'
            have HP := HP'; clear HP'
            have HQ := HQ'; clear HQ'
            have HR := HR'; clear HR'
            have h1 := h1'; clear h1'
            have h2 := h2'; clear h2'
            have h3 := h3'; clear h3'
            have h4 := h4'; clear h4'
            have h5 := h5'; clear h5'
            have h6 := h6'; clear h6'
            go_wp2_with fail
            refine (sameInts_any A6 A c6 c n n p p _ h6.out HP.out).mono ?_
            rintro e w13 ⟨rfl, hbk⟩
            rw [beq_self_eq_true]
            have HP' := Lib.hid (HP.out.keep hbk)
            have HQ' := Lib.hid (HQ.out.keep hbk)
            have HR' := Lib.hid (HR.out.keep hbk)
            have h1' := Lib.hid (h1.out.keep hbk)
            have h2' := Lib.hid (h2.out.keep hbk)
            have h3' := Lib.hid (h3.out.keep hbk)
            have h4' := Lib.hid (h4.out.keep hbk)
            have h5' := Lib.hid (h5.out.keep hbk)
            have h6' := Lib.hid (h6.out.keep hbk)
            have hb' := Lib.hid (below_chain hb.out hbk)
            clear hb hbk HP HQ HR h1 h2 h3 h4 h5 h6
            have hb := hb'; clear hb'
            have HP := HP'; clear HP'
            have HQ := HQ'; clear HQ'
            have HR := HR'; clear HR'
            have h1 := h1'; clear h1'
            have h2 := h2'; clear h2'
            have h3 := h3'; clear h3'
            have h4 := h4'; clear h4'
            have h5 := h5'; clear h5'
            have h6 := h6'; clear h6'
            have Rpq := Lib.hid (right_compP Rp.out Rq.out (by rw [L1.out, L2.out])); have Rqr := Lib.hid (right_compP Rq.out Rr.out (by rw [L2.out, L3.out]))
            have Lpq := Lib.hid (show (compP p q).length = n from (length_compP p q).trans L1.out); have Lqr := Lib.hid (show (compP q r).length = n from (length_compP q r).trans L2.out)
            go_wp2_with fail
            refine (both_any A B n n c d p q _ HP.out HQ.out).mono ?_
            intro e w14 he
            obtain ⟨A7, c7, rfl, ha7, hbk⟩ := he.at (l := (compP p q)) (compO_some Rp.out Rq.out (by rw [L1.out, L2.out])) (Lpq.out) hn1
            have HP' := Lib.hid (HP.out.keep hbk)
            have HQ' := Lib.hid (HQ.out.keep hbk)
            have HR' := Lib.hid (HR.out.keep hbk)
            have h1' := Lib.hid (h1.out.keep hbk)
            have h2' := Lib.hid (h2.out.keep hbk)
            have h3' := Lib.hid (h3.out.keep hbk)
            have h4' := Lib.hid (h4.out.keep hbk)
            have h5' := Lib.hid (h5.out.keep hbk)
            have h6' := Lib.hid (h6.out.keep hbk)
            have hb' := Lib.hid (below_chain hb.out hbk)
            clear hb hbk HP HQ HR h1 h2 h3 h4 h5 h6
            have hb := hb'; clear hb'
            have HP := HP'; clear HP'
            have HQ := HQ'; clear HQ'
            have HR := HR'; clear HR'
            have h1 := h1'; clear h1'
            have h2 := h2'; clear h2'
            have h3 := h3'; clear h3'
            have h4 := h4'; clear h4'
            have h5 := h5'; clear h5'
            have h6 := h6'; clear h6'
            have h7 := Lib.hid ha7; clear ha7
            go_wp2_with fail
            refine (both_any B C n n d e0 q r _ HQ.out HR.out).mono ?_
            intro e w15 he
            obtain ⟨A8, c8, rfl, ha8, hbk⟩ := he.at (l := (compP q r)) (compO_some Rq.out Rr.out (by rw [L2.out, L3.out])) (Lqr.out) hn1
            have HP' := Lib.hid (HP.out.keep hbk)
            have HQ' := Lib.hid (HQ.out.keep hbk)
            have HR' := Lib.hid (HR.out.keep hbk)
            have h1' := Lib.hid (h1.out.keep hbk)
            have h2' := Lib.hid (h2.out.keep hbk)
            have h3' := Lib.hid (h3.out.keep hbk)
            have h4' := Lib.hid (h4.out.keep hbk)
            have h5' := Lib.hid (h5.out.keep hbk)
            have h6' := Lib.hid (h6.out.keep hbk)
            have h7' := Lib.hid (h7.out.keep hbk)
            have hb' := Lib.hid (below_chain hb.out hbk)
            clear hb hbk HP HQ HR h1 h2 h3 h4 h5 h6 h7
            have hb := hb'; clear hb'
            have HP := HP'; clear HP'
            have HQ := HQ'; clear HQ'
            have HR := HR'; clear HR'
            have h1 := h1'; clear h1'
            have h2 := h2'; clear h2'
            have h3 := h3'; clear h3'
            have h4 := h4'; clear h4'
            have h5 := h5'; clear h5'
            have h6 := h6'; clear h6'
            have h7 := h7'; clear h7'
            have h8 := Lib.hid ha8; clear ha8
            go_wp2_with fail
            refine (both_any A7 C n n c7 e0 (compP p q) r _ h7.out HR.out).mono ?_
            intro e w16 he
            obtain ⟨A9, c9, rfl, ha9, hbk⟩ := he.at (l := (compP (compP p q) r)) (compO_some Rpq.out Rr.out (by rw [Lpq.out, L3.out])) ((length_compP _ _).trans Lpq.out) hn1
            have HP' := Lib.hid (HP.out.keep hbk)
            have HQ' := Lib.hid (HQ.out.keep hbk)
            have HR' := Lib.hid (HR.out.keep hbk)
            have h1' := Lib.hid (h1.out.keep hbk)
            have h2' := Lib.hid (h2.out.keep hbk)
            have h3' := Lib.hid (h3.out.keep hbk)
            have h4' := Lib.hid (h4.out.keep hbk)
            have h5' := Lib.hid (h5.out.keep hbk)
            have h6' := Lib.hid (h6.out.keep hbk)
            have h7' := Lib.hid (h7.out.keep hbk)
            have h8' := Lib.hid (h8.out.keep hbk)
            have hb' := Lib.hid (below_chain hb.out hbk)
            clear hb hbk HP HQ HR h1 h2 h3 h4 h5 h6 h7 h8
            have hb := hb'; clear hb'
            have HP := HP'; clear HP'
            have HQ := HQ'; clear HQ'
            have HR := HR'; clear HR'
            have h1 := h1'; clear h1'
            have h2 := h2'; clear h2'
            have h3 := h3'; clear h3'
            have h4 := h4'; clear h4'
            have h5 := h5'; clear h5'
            have h6 := h6'; clear h6'
            have h7 := h7'; clear h7'
            have h8 := h8'; clear h8'
            have h9 := Lib.hid ha9; clear ha9
            go_wp2_with fail
            refine (both_any A A8 n n c c8 p (compP q r) _ HP.out h8.out).mono ?_
            intro e w17 he
            obtain ⟨A10, c10, rfl, ha10, hbk⟩ := he.at (l := (compP (compP p q) r)) (by rw [compO_some Rp.out Rqr.out (by rw [L1.out, Lqr.out]), comp_assoc Rp.out (by rw [L1.out, L2.out])]) ((length_compP _ _).trans Lpq.out) hn1
            have HP' := Lib.hid (HP.out.keep hbk)
            have HQ' := Lib.hid (HQ.out.keep hbk)
            have HR' := Lib.hid (HR.out.keep hbk)
            have h1' := Lib.hid (h1.out.keep hbk)
            have h2' := Lib.hid (h2.out.keep hbk)
            have h3' := Lib.hid (h3.out.keep hbk)
            have h4' := Lib.hid (h4.out.keep hbk)
            have h5' := Lib.hid (h5.out.keep hbk)
            have h6' := Lib.hid (h6.out.keep hbk)
            have h7' := Lib.hid (h7.out.keep hbk)
            have h8' := Lib.hid (h8.out.keep hbk)
            have h9' := Lib.hid (h9.out.keep hbk)
            have hb' := Lib.hid (below_chain hb.out hbk)
            clear hb hbk HP HQ HR h1 h2 h3 h4 h5 h6 h7 h8 h9
            have hb := hb'; clear hb'
            have HP := HP'; clear HP'
            have HQ := HQ'; clear HQ'
            have HR := HR'; clear HR'
            have h1 := h1'; clear h1'
            have h2 := h2'; clear h2'
            have h3 := h3'; clear h3'
            have h4 := h4'; clear h4'
            have h5 := h5'; clear h5'
            have h6 := h6'; clear h6'
            have h7 := h7'; clear h7'
            have h8 := h8'; clear h8'
            have h9 := h9'; clear h9'
            have h10 := Lib.hid ha10; clear ha10
            go_wp2_with fail
            refine (sameInts_any A9 A10 c9 c10 n n (compP (compP p q) r) (compP (compP p q) r) _ h9.out h10.out).mono ?_
            rintro e w18 ⟨rfl, hbk⟩
            rw [beq_self_eq_true]
            have HP' := Lib.hid (HP.out.keep hbk)
            have HQ' := Lib.hid (HQ.out.keep hbk)
            have HR' := Lib.hid (HR.out.keep hbk)
            have h1' := Lib.hid (h1.out.keep hbk)
            have h2' := Lib.hid (h2.out.keep hbk)
            have h3' := Lib.hid (h3.out.keep hbk)
            have h4' := Lib.hid (h4.out.keep hbk)
            have h5' := Lib.hid (h5.out.keep hbk)
            have h6' := Lib.hid (h6.out.keep hbk)
            have h7' := Lib.hid (h7.out.keep hbk)
            have h8' := Lib.hid (h8.out.keep hbk)
            have h9' := Lib.hid (h9.out.keep hbk)
            have h10' := Lib.hid (h10.out.keep hbk)
            have hb' := Lib.hid (below_chain hb.out hbk)
            clear hb hbk HP HQ HR h1 h2 h3 h4 h5 h6 h7 h8 h9 h10
            have hb := hb'; clear hb'
            have HP := HP'; clear HP'
            have HQ := HQ'; clear HQ'
            have HR := HR'; clear HR'
            have h1 := h1'; clear h1'
            have h2 := h2'; clear h2'
            have h3 := h3'; clear h3'
            have h4 := h4'; clear h4'
            have h5 := h5'; clear h5'
            have h6 := h6'; clear h6'
            have h7 := h7'; clear h7'
            have h8 := h8'; clear h8'
            have h9 := h9'; clear h9'
            have h10 := h10'; clear h10'
            go_wp2_with fail
            refine (invert_any A7 n c7 (compP p q) _ h7.out).mono ?_
            intro e w19 he
            obtain ⟨A11, c11, rfl, ha11, hbk⟩ := he.at (l := invP (compP p q)) (invO_some Rpq.out) (by rw [length_invP]; exact Lpq.out) hn1
            have HP' := Lib.hid (HP.out.keep hbk)
            have HQ' := Lib.hid (HQ.out.keep hbk)
            have HR' := Lib.hid (HR.out.keep hbk)
            have h1' := Lib.hid (h1.out.keep hbk)
            have h2' := Lib.hid (h2.out.keep hbk)
            have h3' := Lib.hid (h3.out.keep hbk)
            have h4' := Lib.hid (h4.out.keep hbk)
            have h5' := Lib.hid (h5.out.keep hbk)
            have h6' := Lib.hid (h6.out.keep hbk)
            have h7' := Lib.hid (h7.out.keep hbk)
            have h8' := Lib.hid (h8.out.keep hbk)
            have h9' := Lib.hid (h9.out.keep hbk)
            have h10' := Lib.hid (h10.out.keep hbk)
            have hb' := Lib.hid (below_chain hb.out hbk)
            clear hb hbk HP HQ HR h1 h2 h3 h4 h5 h6 h7 h8 h9 h10
            have hb := hb'; clear hb'
            have HP := HP'; clear HP'
            have HQ := HQ'; clear HQ'
            have HR := HR'; clear HR'
            have h1 := h1'; clear h1'
            have h2 := h2'; clear h2'
            have h3 := h3'; clear h3'
            have h4 := h4'; clear h4'
            have h5 := h5'; clear h5'
            have h6 := h6'; clear h6'
            have h7 := h7'; clear h7'
            have h8 := h8'; clear h8'
            have h9 := h9'; clear h9'
            have h10 := h10'; clear h10'
            have h11 := Lib.hid ha11; clear ha11
            go_wp2_with fail
            refine (invert_any B n d q _ HQ.out).mono ?_
            intro e w20 he
            obtain ⟨A12, c12, rfl, ha12, hbk⟩ := he.at (invO_some Rq.out) (by rw [length_invP]; exact L2.out) hn1
            have HP' := Lib.hid (HP.out.keep hbk)
            have HQ' := Lib.hid (HQ.out.keep hbk)
            have HR' := Lib.hid (HR.out.keep hbk)
            have h1' := Lib.hid (h1.out.keep hbk)
            have h2' := Lib.hid (h2.out.keep hbk)
            have h3' := Lib.hid (h3.out.keep hbk)
            have h4' := Lib.hid (h4.out.keep hbk)
            have h5' := Lib.hid (h5.out.keep hbk)
            have h6' := Lib.hid (h6.out.keep hbk)
            have h7' := Lib.hid (h7.out.keep hbk)
            have h8' := Lib.hid (h8.out.keep hbk)
            have h9' := Lib.hid (h9.out.keep hbk)
            have h10' := Lib.hid (h10.out.keep hbk)
            have h11' := Lib.hid (h11.out.keep hbk)
            have hb' := Lib.hid (below_chain hb.out hbk)
            clear hb hbk HP HQ HR h1 h2 h3 h4 h5 h6 h7 h8 h9 h10 h11
            have hb := hb'; clear hb'
            have HP := HP'; clear HP'
            have HQ := HQ'; clear HQ'
            have HR := HR'; clear HR'
            have h1 := h1'; clear h1'
            have h2 := h2'; clear h2'
            have h3 := h3'; clear h3'
            have h4 := h4'; clear h4'
            have h5 := h5'; clear h5'
            have h6 := h6'; clear h6'
            have h7 := h7'; clear h7'
            have h8 := h8'; clear h8'
            have h9 := h9'; clear h9'
            have h10 := h10'; clear h10'
            have h11 := h11'; clear h11'
            have h12 := Lib.hid ha12; clear ha12
            go_wp2_with fail
            refine (both_any A12 A2 n n c12 c2 (invP q) (invP p) _ h12.out h2.out).mono ?_
            intro e w21 he
            obtain ⟨A13, c13, rfl, ha13, hbk⟩ := he.at (l := (invP (compP p q))) (by rw [compO_some (right_invP Rq.out) Rv.out (by rw [length_invP, L2.out, Lv.out]), inv_of_comp Rp.out Rq.out (by rw [L1.out, L2.out])]) ((length_invP _).trans Lpq.out) hn1
            have HP' := Lib.hid (HP.out.keep hbk)
            have HQ' := Lib.hid (HQ.out.keep hbk)
            have HR' := Lib.hid (HR.out.keep hbk)
            have h1' := Lib.hid (h1.out.keep hbk)
            have h2' := Lib.hid (h2.out.keep hbk)
            have h3' := Lib.hid (h3.out.keep hbk)
            have h4' := Lib.hid (h4.out.keep hbk)
            have h5' := Lib.hid (h5.out.keep hbk)
            have h6' := Lib.hid (h6.out.keep hbk)
            have h7' := Lib.hid (h7.out.keep hbk)
            have h8' := Lib.hid (h8.out.keep hbk)
            have h9' := Lib.hid (h9.out.keep hbk)
            have h10' := Lib.hid (h10.out.keep hbk)
            have h11' := Lib.hid (h11.out.keep hbk)
            have h12' := Lib.hid (h12.out.keep hbk)
            have hb' := Lib.hid (below_chain hb.out hbk)
            clear hb hbk HP HQ HR h1 h2 h3 h4 h5 h6 h7 h8 h9 h10 h11 h12
            have hb := hb'; clear hb'
            have HP := HP'; clear HP'
            have HQ := HQ'; clear HQ'
            have HR := HR'; clear HR'
            have h1 := h1'; clear h1'
            have h2 := h2'; clear h2'
            have h3 := h3'; clear h3'
            have h4 := h4'; clear h4'
            have h5 := h5'; clear h5'
            have h6 := h6'; clear h6'
            have h7 := h7'; clear h7'
            have h8 := h8'; clear h8'
            have h9 := h9'; clear h9'
            have h10 := h10'; clear h10'
            have h11 := h11'; clear h11'
            have h12 := h12'; clear h12'
            have h13 := Lib.hid ha13; clear ha13
            go_wp2_with fail
            refine (sameInts_any A11 A13 c11 c13 n n (invP (compP p q)) (invP (compP p q)) _ h11.out h13.out).mono ?_
            rintro e w22 ⟨rfl, hbk⟩
            rw [beq_self_eq_true]
            have HP' := Lib.hid (HP.out.keep hbk)
            have HQ' := Lib.hid (HQ.out.keep hbk)
            have HR' := Lib.hid (HR.out.keep hbk)
            have h1' := Lib.hid (h1.out.keep hbk)
            have h2' := Lib.hid (h2.out.keep hbk)
            have h3' := Lib.hid (h3.out.keep hbk)
            have h4' := Lib.hid (h4.out.keep hbk)
            have h5' := Lib.hid (h5.out.keep hbk)
            have h6' := Lib.hid (h6.out.keep hbk)
            have h7' := Lib.hid (h7.out.keep hbk)
            have h8' := Lib.hid (h8.out.keep hbk)
            have h9' := Lib.hid (h9.out.keep hbk)
            have h10' := Lib.hid (h10.out.keep hbk)
            have h11' := Lib.hid (h11.out.keep hbk)
            have h12' := Lib.hid (h12.out.keep hbk)
            have h13' := Lib.hid (h13.out.keep hbk)
            have hb' := Lib.hid (below_chain hb.out hbk)
            clear hb hbk HP HQ HR h1 h2 h3 h4 h5 h6 h7 h8 h9 h10 h11 h12 h13
            have hb := hb'; clear hb'
            have HP := HP'; clear HP'
            have HQ := HQ'; clear HQ'
            have HR := HR'; clear HR'
            have h1 := h1'; clear h1'
            have h2 := h2'; clear h2'
            have h3 := h3'; clear h3'
            have h4 := h4'; clear h4'
            have h5 := h5'; clear h5'
            have h6 := h6'; clear h6'
            have h7 := h7'; clear h7'
            have h8 := h8'; clear h8'
            have h9 := h9'; clear h9'
            have h10 := h10'; clear h10'
            have h11 := h11'; clear h11'
            have h12 := h12'; clear h12'
            have h13 := h13'; clear h13'
            go_wp2_with fail
            refine (awakeP_true _).mono ?_
            rintro e w23 ⟨rfl, hbk⟩
            have HP' := Lib.hid (HP.out.keep hbk)
            have HQ' := Lib.hid (HQ.out.keep hbk)
            have HR' := Lib.hid (HR.out.keep hbk)
            have h1' := Lib.hid (h1.out.keep hbk)
            have h2' := Lib.hid (h2.out.keep hbk)
            have h3' := Lib.hid (h3.out.keep hbk)
            have h4' := Lib.hid (h4.out.keep hbk)
            have h5' := Lib.hid (h5.out.keep hbk)
            have h6' := Lib.hid (h6.out.keep hbk)
            have h7' := Lib.hid (h7.out.keep hbk)
            have h8' := Lib.hid (h8.out.keep hbk)
            have h9' := Lib.hid (h9.out.keep hbk)
            have h10' := Lib.hid (h10.out.keep hbk)
            have h11' := Lib.hid (h11.out.keep hbk)
            have h12' := Lib.hid (h12.out.keep hbk)
            have h13' := Lib.hid (h13.out.keep hbk)
            have hb' := Lib.hid (below_chain hb.out hbk)
            clear hb hbk HP HQ HR h1 h2 h3 h4 h5 h6 h7 h8 h9 h10 h11 h12 h13
            have hb := hb'; clear hb'
            have HP := HP'; clear HP'
            have HQ := HQ'; clear HQ'
            have HR := HR'; clear HR'
            have h1 := h1'; clear h1'
            have h2 := h2'; clear h2'
            have h3 := h3'; clear h3'
            have h4 := h4'; clear h4'
            have h5 := h5'; clear h5'
            have h6 := h6'; clear h6'
            have h7 := h7'; clear h7'
            have h8 := h8'; clear h8'
            have h9 := h9'; clear h9'
            have h10 := h10'; clear h10'
            have h11 := h11'; clear h11'
            have h12 := h12'; clear h12'
            have h13 := h13'; clear h13'
            go_wp2
            go_ret
            exact ⟨rfl, hb.out⟩
          · have e2 : ((n : Int) != (k : Int)) = true := by rw [bne_iff_ne]; omega
            have e3 : ((n : Int) != (n : Int)) = false := by simp
            go_wp2_with fail
            refine (awakeP_true _).mono ?_
            rintro e w20 ⟨rfl, hbk⟩
            have hb' := Lib.hid (below_chain hb.out hbk)
            go_wp2
            go_ret
            exact ⟨rfl, hb'.out⟩
        · have e2 : ((n : Int) != (m : Int)) = true := by rw [bne_iff_ne]; omega
          go_wp2_with fail
          refine (awakeP_true _).mono ?_
          rintro e w20 ⟨rfl, hbk⟩
          have hb' := Lib.hid (below_chain hb.out hbk)
          go_wp2
          go_ret
          exact ⟨rfl, hb'.out⟩
end Go.Proofs.Ytccaagildkgfeaa
