/- Walk: fretworklaw03.PermPowers. -/
import Derived.Test.YtccaagildkgfeaaJe
namespace Go.Proofs.Ytccaagildkgfeaa
open Go.RowKit

def tblPP (A7 : Option Addr) (A6 : Option Addr) (A1 : Option Addr) (c7 : Nat) (c6 : Nat) (c1 : Nat) (n : Nat) (N : Nat) (j : Int) (s : Bool) : List Pst := [Pst.val (.int .i64 0), Pst.val (.bool true), Pst.val (.bool true), Pst.val (.slice A7 n c7), Pst.val (.slice A6 n c6), Pst.val (.bool true), Pst.val (.bool true), Pst.val (.bool true), Pst.val (.slice A1 n c1), Pst.val (.slice A6 n c6), Pst.val (.bool s), Pst.val (.int .i32 j), Pst.val (.int .i64 j), Pst.val (.int .i64 (N : Nat)), Pst.val (.int .i64 (j.tmod (N : Nat))), Pst.val (.bool s), Pst.val (.bool true), Pst.val (.bool true), Pst.val (.bool true), Pst.val (.bool true), Pst.val (.bool true), Pst.val (.bool true)]
set_option maxRecDepth 100000 in
set_option maxHeartbeats 8000000 in
theorem permPowers_true (A : Option Addr) (n c : Nat) (j k : Int) (p : List Int) (w : World) (hp : ArgI w A n c p) (hj0 : -2147483648 ≤ j) (hj1 : j ≤ 2147483647) (hk0 : -2147483648 ≤ k) (hk1 : k ≤ 2147483647) :
    Calls Try.prog 6 #[.slice A n c, .int .i32 j, .int .i32 k] w fun e w' => e = .returned (.bool true) ∧ Below w.heap.size w w' := by
  have HP := Lib.hid hp
  have hn0 := hp.le
  clear hp
  go_enter Try.func6, Try.ntmps6
  have hb := Lib.hid (Below.refl w.heap.size w)
  go_wp2_with fail
  refine (right_any A n c p _ HP.out).mono ?_
  rintro e w1 ⟨rfl, hbk⟩
  have HP' := Lib.hid (HP.out.keep hbk)
  have hb' := Lib.hid (below_chain hb.out hbk)
  clear hb hbk HP
  have hb := hb'; clear hb'
  have HP := HP'; clear HP'
  cases hr : rightP p with
  | false =>
    have k2 := Lib.hid hr; clear hr
    go_wp2_with fail
    refine (awakeP_true _).mono ?_
    rintro e w2 ⟨rfl, hbk⟩
    have hb' := Lib.hid (below_chain hb.out hbk)
    go_wp2
    go_ret
    exact ⟨rfl, hb'.out⟩
  | true =>
    have Rp := Lib.hid hr; clear hr
    have lp := HP.out.len
    have hn2 : n ≤ 200 := by have := right_le Rp.out; omega
    have hn1 : n ≤ 100000 := by omega
    have L1 := Lib.hid (show p.length = n from lp.symm)
    have HID := Lib.hid (show (if (0 : Int) ≤ (n : Int) ∧ (n : Int) ≤ 200 then idP (n : Int).toNat else []) = idP n from if_pos ⟨by omega, by omega⟩)
    clear lp hn2
    obtain ⟨N, hN⟩ : ∃ N, ordK p p.length = N := ⟨_, rfl⟩
    have hNb := ordK_bound Rp.out (Nat.le_refl _)
    rw [hN] at hNb
    have HNN := Lib.hid hN
    clear hN
    obtain ⟨hN0, hN9⟩ := hNb
    have hN1 : decide ((N : Int) < 1) = false := by rw [decide_eq_false_iff_not]; omega
    obtain ⟨s, hs⟩ : ∃ s, (powP p j == idP n) = s := ⟨_, rfl⟩
    have HS := Lib.hid hs
    have HT := Lib.hid (show (j.tmod (N : Int) == 0) = s by
      rw [← hs]
      have h := pow_id_iff Rp.out j
      rw [HNN.out, L1.out] at h
      rw [Bool.eq_iff_iff, beq_iff_eq, beq_iff_eq, h]
      exact ⟨fun h => Int.dvd_of_tmod_eq_zero h, fun h => Int.tmod_eq_zero_of_dvd h⟩)
    clear hs
    have LW := Lib.hid (fun k => (show (powP p k).length = n from (length_powP k).trans L1.out))
    go_wp2_with fail
    refine (power_any A n c j p _ HP.out).mono ?_
    intro e w2 he
    obtain ⟨A1, c1, rfl, ha1, hbk⟩ := he.at (l := (powP p j)) (powO_some Rp.out _) (LW.out _) hn1
    have HP' := Lib.hid (HP.out.keep hbk)
    have hb' := Lib.hid (below_chain hb.out hbk)
    clear hb hbk HP
    have hb := hb'; clear hb'
    have HP := HP'; clear HP'
    have h1 := Lib.hid ha1; clear ha1
    go_wp2_with fail
    refine (power_any A n c k p _ HP.out).mono ?_
    intro e w3 he
    obtain ⟨A2, c2, rfl, ha2, hbk⟩ := he.at (l := (powP p k)) (powO_some Rp.out _) (LW.out _) hn1
    have HP' := Lib.hid (HP.out.keep hbk)
    have h1' := Lib.hid (h1.out.keep hbk)
    have hb' := Lib.hid (below_chain hb.out hbk)
    clear hb hbk HP h1
    have hb := hb'; clear hb'
    have HP := HP'; clear HP'
    have h1 := h1'; clear h1'
    have h2 := Lib.hid ha2; clear ha2
    go_wp2_with fail
    refine (power_any A n c (j + k) p _ HP.out).mono ?_
    intro e w4 he
    obtain ⟨A3, c3, rfl, ha3, hbk⟩ := he.at (l := (powP p (j + k))) (powO_some Rp.out _) (LW.out _) hn1
    have HP' := Lib.hid (HP.out.keep hbk)
    have h1' := Lib.hid (h1.out.keep hbk)
    have h2' := Lib.hid (h2.out.keep hbk)
    have hb' := Lib.hid (below_chain hb.out hbk)
    clear hb hbk HP h1 h2
    have hb := hb'; clear hb'
    have HP := HP'; clear HP'
    have h1 := h1'; clear h1'
    have h2 := h2'; clear h2'
    have h3 := Lib.hid ha3; clear ha3
    go_wp2_with fail
    refine (both_any A1 A2 n n c1 c2 (powP p j) (powP p k) _ h1.out h2.out).mono ?_
    intro e w5 he
    obtain ⟨A4, c4, rfl, ha4, hbk⟩ := he.at (l := (powP p (j + k))) (by rw [compO_some (right_powP Rp.out j) (right_powP Rp.out k) (by rw [LW.out, LW.out]), pow_add Rp.out]) (LW.out _) hn1
    have HP' := Lib.hid (HP.out.keep hbk)
    have h1' := Lib.hid (h1.out.keep hbk)
    have h2' := Lib.hid (h2.out.keep hbk)
    have h3' := Lib.hid (h3.out.keep hbk)
    have hb' := Lib.hid (below_chain hb.out hbk)
    clear hb hbk HP h1 h2 h3
    have hb := hb'; clear hb'
    have HP := HP'; clear HP'
    have h1 := h1'; clear h1'
    have h2 := h2'; clear h2'
    have h3 := h3'; clear h3'
    have h4 := Lib.hid ha4; clear ha4
    go_wp2_with fail
    refine (power_any A n c 1 p _ HP.out).mono ?_
    intro e w6 he
    obtain ⟨A5, c5, rfl, ha5, hbk⟩ := he.at (l := p) (by rw [powO_some Rp.out, pow_one Rp.out]) (L1.out) hn1
    have HP' := Lib.hid (HP.out.keep hbk)
    have h1' := Lib.hid (h1.out.keep hbk)
    have h2' := Lib.hid (h2.out.keep hbk)
    have h3' := Lib.hid (h3.out.keep hbk)
    have h4' := Lib.hid (h4.out.keep hbk)
    have hb' := Lib.hid (below_chain hb.out hbk)
    clear hb hbk HP h1 h2 h3 h4
    have hb := hb'; clear hb'
    have HP := HP'; clear HP'
    have h1 := h1'; clear h1'
    have h2 := h2'; clear h2'
    have h3 := h3'; clear h3'
    have h4 := h4'; clear h4'
    have h5 := Lib.hid ha5; clear ha5
    go_wp2_with fail
    refine (order_any A n c p _ HP.out).mono ?_
    intro e w7 he
    rw [show ordO p = some N from by unfold ordO; rw [if_pos Rp.out, HNN.out]] at he
    obtain ⟨rfl, hbk⟩ := he
    have HP' := Lib.hid (HP.out.keep hbk)
    have h1' := Lib.hid (h1.out.keep hbk)
    have h2' := Lib.hid (h2.out.keep hbk)
    have h3' := Lib.hid (h3.out.keep hbk)
    have h4' := Lib.hid (h4.out.keep hbk)
    have h5' := Lib.hid (h5.out.keep hbk)
    have hb' := Lib.hid (below_chain hb.out hbk)
    clear hb hbk HP h1 h2 h3 h4 h5
    have hb := hb'; clear hb'
    have HP := HP'; clear HP'
    have h1 := h1'; clear h1'
    have h2 := h2'; clear h2'
    have h3 := h3'; clear h3'
    have h4 := h4'; clear h4'
    have h5 := h5'; clear h5'
    go_wp2_with fail
    refine (sameInts_any A3 A4 c3 c4 n n (powP p (j + k)) (powP p (j + k)) _ h3.out h4.out).mono ?_
    rintro e w8 ⟨rfl, hbk⟩
    rw [beq_self_eq_true]
    have HP' := Lib.hid (HP.out.keep hbk)
    have h1' := Lib.hid (h1.out.keep hbk)
    have h2' := Lib.hid (h2.out.keep hbk)
    have h3' := Lib.hid (h3.out.keep hbk)
    have h4' := Lib.hid (h4.out.keep hbk)
    have h5' := Lib.hid (h5.out.keep hbk)
    have hb' := Lib.hid (below_chain hb.out hbk)
    clear hb hbk HP h1 h2 h3 h4 h5
    have hb := hb'; clear hb'
    have HP := HP'; clear HP'
    have h1 := h1'; clear h1'
    have h2 := h2'; clear h2'
    have h3 := h3'; clear h3'
    have h4 := h4'; clear h4'
    have h5 := h5'; clear h5'
    go_wp2_with fail
    refine (sameInts_any A5 A c5 c n n p p _ h5.out HP.out).mono ?_
    rintro e w9 ⟨rfl, hbk⟩
    rw [beq_self_eq_true]
    have HP' := Lib.hid (HP.out.keep hbk)
    have h1' := Lib.hid (h1.out.keep hbk)
    have h2' := Lib.hid (h2.out.keep hbk)
    have h3' := Lib.hid (h3.out.keep hbk)
    have h4' := Lib.hid (h4.out.keep hbk)
    have h5' := Lib.hid (h5.out.keep hbk)
    have hb' := Lib.hid (below_chain hb.out hbk)
    clear hb hbk HP h1 h2 h3 h4 h5
    have hb := hb'; clear hb'
    have HP := HP'; clear HP'
    have h1 := h1'; clear h1'
    have h2 := h2'; clear h2'
    have h3 := h3'; clear h3'
    have h4 := h4'; clear h4'
    have h5 := h5'; clear h5'
    go_wp2_with fail
    refine (identity_any n _).mono ?_
    intro e w10 he
    rw [HID.out] at he
    obtain ⟨A6, c6, rfl, ha6, hbk⟩ := he.at (length_idP n) hn1
    have HP' := Lib.hid (HP.out.keep hbk)
    have h1' := Lib.hid (h1.out.keep hbk)
    have h2' := Lib.hid (h2.out.keep hbk)
    have h3' := Lib.hid (h3.out.keep hbk)
    have h4' := Lib.hid (h4.out.keep hbk)
    have h5' := Lib.hid (h5.out.keep hbk)
    have hb' := Lib.hid (below_chain hb.out hbk)
    clear hb hbk HP h1 h2 h3 h4 h5
    have hb := hb'; clear hb'
    have HP := HP'; clear HP'
    have h1 := h1'; clear h1'
    have h2 := h2'; clear h2'
    have h3 := h3'; clear h3'
    have h4 := h4'; clear h4'
    have h5 := h5'; clear h5'
    have h6 := Lib.hid ha6; clear ha6
    go_wp2_with fail
    refine (power_any A n c (N : Nat) p _ HP.out).mono ?_
    intro e w11 he
    obtain ⟨A7, c7, rfl, ha7, hbk⟩ := he.at (l := (idP n)) (by rw [powO_some Rp.out, ← HNN.out, pow_ord Rp.out, L1.out]) (length_idP n) hn1
    have HP' := Lib.hid (HP.out.keep hbk)
    have h1' := Lib.hid (h1.out.keep hbk)
    have h2' := Lib.hid (h2.out.keep hbk)
    have h3' := Lib.hid (h3.out.keep hbk)
    have h4' := Lib.hid (h4.out.keep hbk)
    have h5' := Lib.hid (h5.out.keep hbk)
    have h6' := Lib.hid (h6.out.keep hbk)
    have hb' := Lib.hid (below_chain hb.out hbk)
    clear hb hbk HP h1 h2 h3 h4 h5 h6
    have hb := hb'; clear hb'
    have HP := HP'; clear HP'
    have h1 := h1'; clear h1'
    have h2 := h2'; clear h2'
    have h3 := h3'; clear h3'
    have h4 := h4'; clear h4'
    have h5 := h5'; clear h5'
    have h6 := h6'; clear h6'
    have h7 := Lib.hid ha7; clear ha7
    have hLz : ((N : Int) == 0) = false := by rw [beq_eq_false_iff_ne]; omega
    have HLz := Lib.hid hLz
    clear hLz
    go_wp2_with fail
    refine region_last (by kernel_rfl) (tblPP A7 A6 A1 c7 c6 c1 n N j s) (by kernel_rfl) ?_ ?_
    · skip
      refine .yes rfl (fun a W Q hB hO hD => ?_) ?_
      · have e8 : a.tmps.getD 8 undef = .int .i64 0 := hO.slot 8 _ rfl rfl
        clear hO hD
        go_wp2
        exact ⟨_, rfl, Below.refl _ _, rfl⟩
      refine .yes rfl (fun a W Q hB hO hD => ?_) ?_
      · have e104 : a.tmps.getD 104 undef = .int .i64 0 := hD 0 rfl
        clear hO hD
        go_wp2
        exact ⟨_, rfl, Below.refl _ _, rfl⟩
      refine .yes rfl (fun a W Q hB hO hD => ?_) ?_
      · have e105 : a.tmps.getD 105 undef = .bool true := hD 1 rfl
        clear hO hD
        go_wp2
        exact ⟨_, rfl, Below.refl _ _, rfl⟩
      refine .yes rfl (fun a W Q hB hO hD => ?_) ?_
      · have e20 : a.tmps.getD 20 undef = .slice A7 n c7 := hO.slot 20 _ rfl rfl
        clear hO hD
        go_wp2
        exact ⟨_, rfl, Below.refl _ _, rfl⟩
      refine .yes rfl (fun a W Q hB hO hD => ?_) ?_
      · have e19 : a.tmps.getD 19 undef = .slice A6 n c6 := hO.slot 19 _ rfl rfl
        clear hO hD
        go_wp2
        exact ⟨_, rfl, Below.refl _ _, rfl⟩
      refine .yes rfl (fun a W Q hB hO hD => ?_) ?_
      · have e107 : a.tmps.getD 107 undef = .slice A7 n c7 := hD 3 rfl
        have e108 : a.tmps.getD 108 undef = .slice A6 n c6 := hD 4 rfl
        clear hO hD
        have K := Lib.hid (sameInts_any A7 A6 c7 c6 n n (idP n) (idP n) W (h7.out.keep hB) (h6.out.keep hB))
        go_wp2_with fail
        refine K.out.mono ?_
        rintro e W1 ⟨rfl, hb1⟩
        rw [beq_self_eq_true]
        go_wp2
        exact ⟨_, rfl, hb1, rfl⟩
      refine .yes rfl (fun a W Q hB hO hD => ?_) ?_
      · have e106 : a.tmps.getD 106 undef = .bool true := hD 2 rfl
        have e109 : a.tmps.getD 109 undef = .bool true := hD 5 rfl
        clear hO hD
        go_wp2
        exact ⟨_, rfl, Below.refl _ _, rfl⟩
      refine .yes rfl (fun a W Q hB hO hD => ?_) ?_
      · have e110 : a.tmps.getD 110 undef = .bool true := hD 6 rfl
        clear hO hD
        go_wp2
        exact ⟨_, rfl, Below.refl _ _, rfl⟩
      refine .yes rfl (fun a W Q hB hO hD => ?_) ?_
      · have e7 : a.tmps.getD 7 undef = .slice A1 n c1 := hO.slot 7 _ rfl rfl
        clear hO hD
        go_wp2
        exact ⟨_, rfl, Below.refl _ _, rfl⟩
      refine .yes rfl (fun a W Q hB hO hD => ?_) ?_
      · have e19 : a.tmps.getD 19 undef = .slice A6 n c6 := hO.slot 19 _ rfl rfl
        clear hO hD
        go_wp2
        exact ⟨_, rfl, Below.refl _ _, rfl⟩
      refine .yes rfl (fun a W Q hB hO hD => ?_) ?_
      · have e112 : a.tmps.getD 112 undef = .slice A1 n c1 := hD 8 rfl
        have e113 : a.tmps.getD 113 undef = .slice A6 n c6 := hD 9 rfl
        clear hO hD
        have K := Lib.hid (sameInts_any A1 A6 c1 c6 n n (powP p j) (idP n) W (h1.out.keep hB) (h6.out.keep hB))
        go_wp2_with fail
        refine K.out.mono ?_
        rintro e W1 ⟨rfl, hb1⟩
        rw [HS.out]
        go_wp2
        exact ⟨_, rfl, hb1, rfl⟩
      refine .yes rfl (fun a W Q hB hO hD => ?_) ?_
      · have e1 : a.tmps.getD 1 undef = .int .i32 j := hO.slot 1 _ rfl rfl
        clear hO hD
        go_wp2
        exact ⟨_, rfl, Below.refl _ _, rfl⟩
      refine .yes rfl (fun a W Q hB hO hD => ?_) ?_
      · have e115 : a.tmps.getD 115 undef = .int .i32 j := hD 11 rfl
        clear hO hD
        go_wp2
        exact ⟨_, rfl, Below.refl _ _, rfl⟩
      refine .yes rfl (fun a W Q hB hO hD => ?_) ?_
      · have e17 : a.tmps.getD 17 undef = .int .i64 (N : Nat) := hO.slot 17 _ rfl rfl
        clear hO hD
        go_wp2
        exact ⟨_, rfl, Below.refl _ _, rfl⟩
      refine .yes rfl (fun a W Q hB hO hD => ?_) ?_
      · have e116 : a.tmps.getD 116 undef = .int .i64 j := hD 12 rfl
        have e117 : a.tmps.getD 117 undef = .int .i64 (N : Nat) := hD 13 rfl
        clear hO hD
        have hz := HLz.out
        go_wp2
        exact ⟨_, rfl, Below.refl _ _, rfl⟩
      refine .yes rfl (fun a W Q hB hO hD => ?_) ?_
      · have e118 : a.tmps.getD 118 undef = .int .i64 (j.tmod (N : Nat)) := hD 14 rfl
        clear hO hD
        have ht := HT.out
        go_wp2
        exact ⟨_, rfl, Below.refl _ _, rfl⟩
      refine .yes rfl (fun a W Q hB hO hD => ?_) ?_
      · have e114 : a.tmps.getD 114 undef = .bool s := hD 10 rfl
        have e119 : a.tmps.getD 119 undef = .bool s := hD 15 rfl
        clear hO hD
        go_wp2
        exact ⟨_, rfl, Below.refl _ _, rfl⟩
      refine .yes rfl (fun a W Q hB hO hD => ?_) ?_
      · have e111 : a.tmps.getD 111 undef = .bool true := hD 7 rfl
        have e120 : a.tmps.getD 120 undef = .bool true := hD 16 rfl
        clear hO hD
        go_wp2
        exact ⟨_, rfl, Below.refl _ _, rfl⟩
      refine .yes rfl (fun a W Q hB hO hD => ?_) ?_
      · have e121 : a.tmps.getD 121 undef = .bool true := hD 17 rfl
        clear hO hD
        go_wp2
        exact ⟨_, rfl, Below.refl _ _, rfl⟩
      refine .yes rfl (fun a W Q hB hO hD => ?_) ?_
      · clear hO hD
        have K := Lib.hid (awakeP_true W)
        go_wp2_with fail
        refine K.out.mono ?_
        rintro e W1 ⟨rfl, hb1⟩
        go_wp2
        exact ⟨_, rfl, hb1, rfl⟩
      refine .yes rfl (fun a W Q hB hO hD => ?_) ?_
      · have e122 : a.tmps.getD 122 undef = .bool true := hD 18 rfl
        have e123 : a.tmps.getD 123 undef = .bool true := hD 19 rfl
        clear hO hD
        go_wp2
        exact ⟨_, rfl, Below.refl _ _, rfl⟩
      refine .yes rfl (fun a W Q hB hO hD => ?_) ?_
      · have e124 : a.tmps.getD 124 undef = .bool true := hD 20 rfl
        clear hO hD
        go_wp2
        exact ⟨_, rfl, Below.refl _ _, rfl⟩
      exact .nil
    · intro T W hB hO hR
      have hl : T.getD 6 undef = .bool true := hR 21 (by decide)
      clear hR hO
      have HB2 := Lib.hid (below_chain hb.out hB)
      clear hB
      go_wp2
      go_ret
      exact ⟨congrArg Ending.returned hl, HB2.out⟩
end Go.Proofs.Ytccaagildkgfeaa
