/- Walk: fretworkref03.Power. -/
import Derived.Test.YtccaagildkgfeaaJm
import Derived.Test.YtccaagildkgfeaaJk
namespace Go.Proofs.Ytccaagildkgfeaa
open Go.RowKit

section
variable {p : List Int}
theorem pow_zero (hp : rightP p = true) : powP p 0 = idP p.length := (pow_id_iff hp 0).2 ⟨0, by simp⟩
theorem pow_neg_one (hp : rightP p = true) : powP p (-1) = invP p := by
  have hr := right_powP hp (-1)
  have h1 : compP p (powP p (-1)) = idP p.length := by
    have h := pow_add hp 1 (-1)
    rw [pow_one hp] at h
    rw [← h]
    exact pow_zero hp
  have h2 := congrArg (compP (invP p)) h1
  rw [← comp_assoc (right_invP hp) (length_invP p), inv_comp hp] at h2
  have h3 := id_comp hr
  rw [length_powP] at h3
  have h4 := comp_id (right_invP hp)
  rw [length_invP] at h4
  rw [h3, h4] at h2
  exact h2
theorem pow_inv (hp : rightP p = true) : ∀ m : Nat, powP (invP p) (m : Nat) = powP p (-(m : Int))
  | 0 => by
    have h := pow_zero (right_invP hp)
    rw [length_invP] at h
    show powP (invP p) 0 = powP p 0
    rw [h, pow_zero hp]
  | m + 1 => by
    rw [Int.natCast_add, show -((m : Int) + ((1 : Nat) : Int)) = -(m : Int) + -1 from by omega, pow_add hp, pow_neg_one hp]
    show powP (invP p) ((m : Int) + 1) = _
    rw [pow_add (right_invP hp), pow_one (right_invP hp), pow_inv hp m]
end
theorem neg_parts {k : Int} (h : k < 0) (h0 : -9223372036854775808 ≤ k) : ∃ (h : Nat) (b : Bool), wrap64 (-k.tdiv 2) = (h : Int) ∧ (k.tmod 2 != 0) = b ∧ h < k.natAbs ∧ (h : Int) ≤ 9223372036854775807 ∧ -k = (h : Int) + (h : Int) + (if b then 1 else 0) := by
  obtain ⟨j, rfl⟩ : ∃ j : Nat, k = -(j : Int) := ⟨k.natAbs, by omega⟩
  have e1 : (-(j : Int)).tdiv 2 = -((j / 2 : Nat) : Int) := by rw [Int.neg_tdiv]; rfl
  have e2 : (-(j : Int)).tmod 2 = -((j % 2 : Nat) : Int) := by rw [Int.neg_tmod]; rfl
  refine ⟨j / 2, decide (j % 2 = 1), ?_, ?_, by omega, by omega, ?_⟩
  · rw [e1]; unfold wrap64; omega
  · rw [e2]
    by_cases h1 : j % 2 = 1
    · rw [h1]; rfl
    · rw [show j % 2 = 0 by omega]; rfl
  · by_cases h1 : j % 2 = 1
    · rw [if_pos (by simpa using h1)]; omega
    · rw [if_neg (by simpa using h1)]; omega
theorem pos_parts {k : Int} (h : 0 < k) : ∃ (h : Nat) (b : Bool), k / 2 = (h : Int) ∧ (k % 2 != 0) = b ∧ h < k.natAbs ∧ k = (h : Int) + (h : Int) + (if b then 1 else 0) := by
  obtain ⟨j, rfl⟩ := Int.eq_ofNat_of_zero_le (show 0 ≤ k by omega)
  refine ⟨j / 2, decide (j % 2 = 1), by simp, ?_, by omega, ?_⟩
  · rw [show ((j : Int) % 2) = ((j % 2 : Nat) : Int) by simp]
    by_cases h1 : j % 2 = 1
    · rw [h1]; rfl
    · rw [show j % 2 = 0 by omega]; rfl
  · by_cases h1 : j % 2 = 1
    · rw [if_pos (by simpa using h1)]; omega
    · rw [if_neg (by simpa using h1)]; omega
set_option maxRecDepth 100000 in
set_option maxHeartbeats 4000000 in
theorem powerR_ind : ∀ (m : Nat) (k : Int), k.natAbs < m → -9223372036854775808 ≤ k → k ≤ 9223372036854775807 → ∀ (A : Option Addr) (n c : Nat) (p : List Int) (w : World), ArgI w A n c p →
    Calls Try.prog 24 #[.slice A n c, .int .i64 k] w (ErrI w (powO p k)) := by
  intro m
  induction m with
  | zero => intro k hk; omega
  | succ m ih =>
    intro k hk hk0 hk1 A n c p w h1
    have H1 := Lib.hid h1
    have hn0 := h1.le
    clear h1
    have HP := Lib.hid (rightR_any A n c p w H1.out)
    obtain ⟨r, hr⟩ : ∃ r, rightP p = r := ⟨_, rfl⟩
    rw [hr] at HP
    have RP := Lib.hid hr
    clear hr
    have IH := Lib.hid ih
    clear ih
    go_enter Try.func24, Try.ntmps24
    go_wp2_with fail
    refine HP.out.mono ?_
    rintro e w1 ⟨rfl, hbk⟩
    have hb := Lib.hid hbk
    have HA := Lib.hid (H1.out.keep hbk)
    clear hbk
    cases r with
    | false =>
      have HC := Lib.hid (show powO p k = none from if_neg (by rw [RP.out]; simp))
      go_wp2
      go_ret2
      exact ⟨.slice none 0 0, by rw [HC.out]; rfl, .inl ⟨by rw [HC.out]; rfl, rfl⟩, hb.out⟩
    | true =>
      have L1 := Lib.hid HA.out.len
      have hn2 : n ≤ 200 := by have := right_le RP.out; have := L1.out; omega
      have hn1 : n ≤ 100000 := by omega
      have HC := Lib.hid (powO_some RP.out k)
      rw [HC.out]
      by_cases hneg : k < 0
      · have d0 : (k == 0) = false := by rw [beq_eq_false_iff_ne]; omega
        have d1 : decide (k < 0) = true := decide_eq_true hneg
        obtain ⟨h, b, hw, hm, hh, hh9, hkk⟩ := neg_parts hneg hk0
        have HW := Lib.hid hw; have HKK := Lib.hid hkk
        have hhm : (h : Int).natAbs < m := by omega
        clear hw hkk
        go_wp2_with fail
        refine (invertR_any A n c p _ HA.out).mono ?_
        intro e w2 he
        obtain ⟨A2, c2, rfl, ha2, hbk⟩ := he.at (invO_some RP.out) (by rw [length_invP]; exact L1.out.symm) hn1
        have hb' := Lib.hid (below_chain hb.out hbk)
        have h2 := Lib.hid ha2
        clear hb hbk ha2 he
        have hb := hb'; clear hb'
        have RV := Lib.hid (right_invP RP.out)
        have LV := Lib.hid (fun j => (show (powP (invP p) j).length = n from by rw [length_powP, length_invP]; exact L1.out.symm))
        go_wp2_with fail
        rw [HW.out]
        refine (IH.out (h : Int) hhm (by omega) hh9 A2 n c2 (invP p) _ h2.out).mono ?_
        intro e w3 he
        obtain ⟨A3, c3, rfl, ha3, hbk⟩ := he.at (powO_some RV.out (h : Int)) (LV.out _) hn1
        have hb' := Lib.hid (below_chain hb.out hbk)
        have h2' := Lib.hid (h2.out.keep hbk)
        have h3 := Lib.hid ha3
        clear hb hbk ha3 he h2
        have hb := hb'; clear hb'
        have h2 := h2'; clear h2'
        go_wp2_with fail
        refine (composeR_any A3 A3 n n c3 c3 (powP (invP p) h) (powP (invP p) h) _ h3.out h3.out).mono ?_
        intro e w4 he
        obtain ⟨A4, c4, rfl, hr4, ha4, hbk⟩ := he.atR (l := powP (invP p) ((h : Int) + (h : Int))) (by rw [compO_some (right_powP RV.out _) (right_powP RV.out _) rfl, pow_add RV.out]) (LV.out _) hn1
        have hb' := Lib.hid (below_chain hb.out hbk)
        have h2' := Lib.hid (h2.out.keep hbk)
        have h4 := Lib.hid ha4
        have R4 := Lib.hid (hr4.base (show w.heap.size ≤ w3.heap.size from hb.out.size))
        clear hb hbk ha4 hr4 he h2
        have hb := hb'; clear hb'
        have h2 := h2'; clear h2'
        cases b with
        | false =>
          have HR := Lib.hid (show powP (invP p) ((h : Int) + (h : Int)) = powP p k from by
            have h := pow_inv RP.out (h + h)
            rw [Int.natCast_add] at h
            rw [h]
            congr 1
            have := HKK.out
            simp at this
            omega)
          rw [HR.out] at R4
          go_wp2
          go_ret2
          exact ⟨_, by rw [HC.out]; rfl, by rw [HC.out]; exact R4.out, hb.out⟩
        | true =>
          go_wp2_with fail
          refine (composeR_any A4 A2 n n c4 c2 _ _ _ h4.out h2.out).mono ?_
          intro e w5 he
          obtain ⟨A5, c5, rfl, hr5, ha5, hbk⟩ := he.atR (l := powP p k) (by
            rw [compO_some (right_powP RV.out _) RV.out (by rw [length_powP])]
            have h1 := pow_add RV.out ((h : Int) + (h : Int)) 1
            rw [pow_one RV.out] at h1
            rw [← h1]
            have h3 := pow_inv RP.out (h + h + 1)
            rw [Int.natCast_add, Int.natCast_add] at h3
            refine congrArg some (h3.trans ?_)
            congr 1
            have := HKK.out
            simp at this
            omega) (by rw [length_powP]; exact L1.out.symm) hn1
          have hb' := Lib.hid (below_chain hb.out hbk)
          have R5 := Lib.hid (hr5.base (show w.heap.size ≤ w4.heap.size from hb.out.size))
          clear hb hbk ha5 hr5 he
          go_wp2
          go_ret2
          exact ⟨_, by rw [HC.out]; rfl, by rw [HC.out]; exact R5.out, hb'.out⟩
      · by_cases hz : k = 0
        · have HR := Lib.hid (show powP p k = idP n from by rw [hz, pow_zero RP.out, L1.out])
          have d0 : (k == 0) = true := by rw [beq_iff_eq]; exact hz
          have HID := Lib.hid (show (if (0 : Int) ≤ (n : Int) ∧ (n : Int) ≤ 200 then idP (n : Int).toNat else []) = idP n from if_pos ⟨by omega, by omega⟩)
          clear hz hneg
          go_wp2_with fail
          refine (identityR_any n _).mono ?_
          intro e w2 he
          rw [HID.out] at he
          obtain ⟨A2, c2, rfl, hr2, ha2, hbk⟩ := he.atR (length_idP n) hn1
          have hb' := Lib.hid (below_chain hb.out hbk)
          have R2 := Lib.hid (hr2.base (show w.heap.size ≤ w1.heap.size from hb.out.size))
          clear hbk ha2 hr2 he
          go_wp2
          go_ret2
          exact ⟨_, by rw [HC.out]; rfl, by rw [HC.out]; show RowI _ _ _ (powP p k); rw [HR.out]; exact R2.out, hb'.out⟩
        · have d0 : (k == 0) = false := by rw [beq_eq_false_iff_ne]; omega
          have d1 : decide (k < 0) = false := decide_eq_false hneg
          obtain ⟨h, b, hw, hm, hh, hkk⟩ := pos_parts (show 0 < k by omega)
          have HW := Lib.hid hw; have HKK := Lib.hid hkk
          have hhm : (h : Int).natAbs < m := by omega
          have LV := Lib.hid (fun j => (show (powP p j).length = n from by rw [length_powP]; exact L1.out.symm))
          clear hw hkk
          go_wp2_with fail
          rw [HW.out]
          refine (IH.out (h : Int) hhm (by omega) (by omega) A n c p _ HA.out).mono ?_
          intro e w3 he
          obtain ⟨A3, c3, rfl, ha3, hbk⟩ := he.at (powO_some RP.out (h : Int)) (LV.out _) hn1
          have hb' := Lib.hid (below_chain hb.out hbk)
          have HA' := Lib.hid (HA.out.keep hbk)
          have h3 := Lib.hid ha3
          clear hb hbk ha3 he HA
          have hb := hb'; clear hb'
          have HA := HA'; clear HA'
          go_wp2_with fail
          refine (composeR_any A3 A3 n n c3 c3 (powP p h) (powP p h) _ h3.out h3.out).mono ?_
          intro e w4 he
          obtain ⟨A4, c4, rfl, hr4, ha4, hbk⟩ := he.atR (l := powP p ((h : Int) + (h : Int))) (by rw [compO_some (right_powP RP.out _) (right_powP RP.out _) rfl, pow_add RP.out]) (LV.out _) hn1
          have hb' := Lib.hid (below_chain hb.out hbk)
          have HA' := Lib.hid (HA.out.keep hbk)
          have h4 := Lib.hid ha4
          have R4 := Lib.hid (hr4.base (show w.heap.size ≤ w3.heap.size from hb.out.size))
          clear hb hbk ha4 hr4 he HA
          have hb := hb'; clear hb'
          have HA := HA'; clear HA'
          cases b with
          | false =>
            have HR := Lib.hid (show powP p ((h : Int) + (h : Int)) = powP p k from by
              congr 1
              have := HKK.out
              simp at this
              omega)
            rw [HR.out] at R4
            go_wp2
            go_ret2
            exact ⟨_, by rw [HC.out]; rfl, by rw [HC.out]; exact R4.out, hb.out⟩
          | true =>
            go_wp2_with fail
            refine (composeR_any A4 A n n c4 c _ _ _ h4.out HA.out).mono ?_
            intro e w5 he
            obtain ⟨A5, c5, rfl, hr5, ha5, hbk⟩ := he.atR (l := powP p k) (by
              rw [compO_some (right_powP RP.out _) RP.out (by rw [length_powP])]
              have h1 := pow_add RP.out ((h : Int) + (h : Int)) 1
              rw [pow_one RP.out] at h1
              rw [← h1]
              congr 2
              have := HKK.out
              simp at this
              omega) (by rw [length_powP]; exact L1.out.symm) hn1
            have hb' := Lib.hid (below_chain hb.out hbk)
            have R5 := Lib.hid (hr5.base (show w.heap.size ≤ w4.heap.size from hb.out.size))
            clear hb hbk ha5 hr5 he
            go_wp2
            go_ret2
            exact ⟨_, by rw [HC.out]; rfl, by rw [HC.out]; exact R5.out, hb'.out⟩
theorem powerR_any (A : Option Addr) (n c : Nat) (k : Int) (p : List Int) (w : World) (h : ArgI w A n c p) (hk0 : -9223372036854775808 ≤ k) (hk1 : k ≤ 9223372036854775807) :
    Calls Try.prog 24 #[.slice A n c, .int .i64 k] w (ErrI w (powO p k)) := powerR_ind (k.natAbs + 1) k (Nat.lt_succ_self _) hk0 hk1 A n c p w h
end Go.Proofs.Ytccaagildkgfeaa
