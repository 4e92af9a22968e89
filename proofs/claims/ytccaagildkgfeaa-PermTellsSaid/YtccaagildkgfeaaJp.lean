/- Walks: fretworkref03.Same, Order. -/
import Derived.Test.YtccaagildkgfeaaJo
namespace Go.Proofs.Ytccaagildkgfeaa
open Go.RowKit

def tblSm (b : Nat) (off : Nat) (c : Nat) (d : Nat) (n : Nat) (k : Nat) (q : Nat) (e : Nat) (x : Int) (y : Int) (t : Bool) : List Pst := [Pst.val (.slice (some ⟨b, off, none⟩) n c), Pst.val (.int .i64 (k : Nat)), Pst.val (.pointer (some ⟨b, off + k, none⟩)), Pst.val (.int .i64 x), Pst.val (.slice (some ⟨q, e, none⟩) n d), Pst.val (.int .i64 (k : Nat)), Pst.val (.pointer (some ⟨q, e + k, none⟩)), Pst.val (.int .i64 y), Pst.val (.bool t)]
set_option maxRecDepth 100000 in
set_option maxHeartbeats 8000000 in
theorem sameR_any (A B : Option Addr) (c d n m : Nat) (us vs : List Int) (w : World) (h1 : ArgI w A n c us) (h2 : ArgI w B m d vs) :
    Calls Try.prog 37 #[.slice A n c, .slice B m d] w fun e w' => e = .returned (.bool (us == vs)) ∧ Below w.heap.size w w' := by
  have H1 := Lib.hid h1; have H2 := Lib.hid h2
  have hn := h1.le
  have hm := h2.le
  clear h1 h2
  by_cases hnm : n = m
  · subst hnm
    have k0 : ((n : Int) != n) = false := by simp
    go_enter Try.func37, Try.ntmps37
    go_wp2
    go_loopw [4, 5] (fun _ i wr => ∃ k : Nat, k ≤ n ∧ i = .int .i64 (k : Int) ∧ Hid ((us == vs) = (us.drop k == vs.drop k)) ∧ Hid (Below w.heap.size w wr)) (fun _ i _ => n - (intOf i).toNat)
    case atStart => exact ⟨0, Nat.zero_le _, rfl, Lib.hid rfl, Lib.hid (Below.refl _ w)⟩
    case round =>
      obtain ⟨k, hk, rfl, hS, hBw⟩ := hrel
      by_cases hlt : k < n
      · obtain ⟨b, off, rfl, hb, hc1⟩ := rd_int H1.out.rd (by have := H1.out.len; omega)
        obtain ⟨q, e, rfl, hb2, hc2⟩ := rd_int H2.out.rd (by have := H2.out.len; omega)
        obtain ⟨x, hx⟩ : ∃ x, us[k]? = some x := ⟨_, List.getElem?_eq_getElem (by have := H1.out.len; omega)⟩
        obtain ⟨y, hy⟩ : ∃ x, vs[k]? = some x := ⟨_, List.getElem?_eq_getElem (by have := H2.out.len; omega)⟩
        have hst := Lib.hid (hS.out.trans (drop_step hx hy))
        have C1 := Lib.hid (fun V (hV : Below wr.heap.size wr V) => hc1 V (below_chain hBw.out hV) k x hx)
        have C2 := Lib.hid (fun V (hV : Below wr.heap.size wr V) => hc2 V (below_chain hBw.out hV) k y hy)
        obtain ⟨t, ht⟩ : ∃ t, (x != y) = t := ⟨_, rfl⟩
        have HQ := Lib.hid ht; have HH := Lib.hid hlt
        have hst2 := Lib.hid (hst.out.trans (show _ = (!t && us.drop (k + 1) == vs.drop (k + 1)) by rw [← ht, bne, Bool.not_not]))
        clear ht hst hc1 hc2 hx hy hS
        go_wp2_with fail
        refine region_posts (by kernel_rfl) (tblSm b off c d n k q e x y t) (by kernel_rfl) ?_ ?_
        · skip
          refine .yes rfl (fun a W Q hB hO hD => ?_) ?_
          · have e0 : a.tmps.getD 0 undef = .slice (some ⟨b, off, none⟩) n c := hO.slot 0 _ rfl rfl
            clear hO hD
            go_wp2
            exact ⟨_, rfl, Below.refl _ _, rfl⟩
          refine .yes rfl (fun a W Q hB hO hD => ?_) ?_
          · have e5 : a.tmps.getD 5 undef = .int .i64 (k : Nat) := hO.slot 5 _ rfl rfl
            clear hO hD
            go_wp2
            exact ⟨_, rfl, Below.refl _ _, rfl⟩
          refine .yes rfl (fun a W Q hB hO hD => ?_) ?_
          · have e17 : a.tmps.getD 17 undef = .slice (some ⟨b, off, none⟩) n c := hD 0 rfl
            have e18 : a.tmps.getD 18 undef = .int .i64 (k : Nat) := hD 1 rfl
            clear hO hD
            have hh := HH.out
            go_wp2
            exact ⟨_, rfl, Below.refl _ _, rfl⟩
          refine .yes rfl (fun a W Q hB hO hD => ?_) ?_
          · have e19 : a.tmps.getD 19 undef = .pointer (some ⟨b, off + k, none⟩) := hD 2 rfl
            clear hO hD
            have hc := C1.out W hB
            go_wp2
            exact ⟨_, rfl, Below.refl _ _, rfl⟩
          refine .yes rfl (fun a W Q hB hO hD => ?_) ?_
          · have e1 : a.tmps.getD 1 undef = .slice (some ⟨q, e, none⟩) n d := hO.slot 1 _ rfl rfl
            clear hO hD
            go_wp2
            exact ⟨_, rfl, Below.refl _ _, rfl⟩
          refine .yes rfl (fun a W Q hB hO hD => ?_) ?_
          · have e5 : a.tmps.getD 5 undef = .int .i64 (k : Nat) := hO.slot 5 _ rfl rfl
            clear hO hD
            go_wp2
            exact ⟨_, rfl, Below.refl _ _, rfl⟩
          refine .yes rfl (fun a W Q hB hO hD => ?_) ?_
          · have e21 : a.tmps.getD 21 undef = .slice (some ⟨q, e, none⟩) n d := hD 4 rfl
            have e22 : a.tmps.getD 22 undef = .int .i64 (k : Nat) := hD 5 rfl
            clear hO hD
            have hh := HH.out
            go_wp2
            exact ⟨_, rfl, Below.refl _ _, rfl⟩
          refine .yes rfl (fun a W Q hB hO hD => ?_) ?_
          · have e23 : a.tmps.getD 23 undef = .pointer (some ⟨q, e + k, none⟩) := hD 6 rfl
            clear hO hD
            have hc := C2.out W hB
            go_wp2
            exact ⟨_, rfl, Below.refl _ _, rfl⟩
          refine .yes rfl (fun a W Q hB hO hD => ?_) ?_
          · have e20 : a.tmps.getD 20 undef = .int .i64 x := hD 3 rfl
            have e24 : a.tmps.getD 24 undef = .int .i64 y := hD 7 rfl
            clear hO hD
            have hq := HQ.out
            go_wp2
            exact ⟨_, rfl, Below.refl _ _, rfl⟩
          exact .nil
        · intro f V hBz hR
          have e8 : f 8 = .bool t := hR 8 (by decide)
          have HB2 := Lib.hid (below_chain hBw.out hBz)
          clear hR hBz
          simp only [putAll, Nat.zero_add, Nat.reduceAdd, Act.put, List.setIfInBounds_toArray, List.set_cons_zero, List.set_cons_succ, e8]
          cases t with
          | true =>
            go_wp2
            go_ret
            exact ⟨by rw [hst2.out]; rfl, HB2.out⟩
          | false =>
            go_wp2
            go_roundw
            case rel => exact ⟨k + 1, by omega, by go_num, Lib.hid (hst2.out.trans (by rw [Bool.not_false, Bool.true_and])), HB2⟩
            case measure => simp [intOf]; omega
      · obtain rfl : n = k := by omega
        have hS2 := Lib.hid (hS.out.trans (show _ = true by rw [List.drop_eq_nil_of_le (by have := H1.out.len; omega), List.drop_eq_nil_of_le (by have := H2.out.len; omega)]; rfl))
        clear hS
        go_wp2
        go_ret
        exact ⟨by rw [hS2.out]; rfl, hBw.out⟩
  · have k0 : ((n : Int) != m) = true := by rw [bne_iff_ne]; omega
    have HR := Lib.hid (show (us == vs) = false by
      rw [beq_eq_false_iff_ne]
      intro e
      have a := H1.out.len; have b := H2.out.len
      rw [e] at a
      omega)
    go_enter Try.func37, Try.ntmps37
    go_wp2
    go_ret
    exact ⟨by rw [HR.out]; rfl, Below.refl _ _⟩
set_option maxRecDepth 100000 in
set_option maxHeartbeats 8000000 in
theorem orderR_any (A : Option Addr) (n c : Nat) (p : List Int) (w : World) (h1 : ArgI w A n c p) :
    Calls Try.prog 27 #[.slice A n c] w (ErrN w (ordO p)) := by
  have H1 := Lib.hid h1
  have hn0 := h1.le
  clear h1
  have HP := Lib.hid (rightR_any A n c p w H1.out)
  obtain ⟨r, hr⟩ : ∃ r, rightP p = r := ⟨_, rfl⟩
  rw [hr] at HP
  have RP := Lib.hid hr
  clear hr
  go_enter Try.func27, Try.ntmps27
  go_wp2_with fail
  refine HP.out.mono ?_
  rintro e w2 ⟨rfl, hb1⟩
  have HB2 := Lib.hid hb1
  clear hb1
  cases r with
  | false =>
    have HC := Lib.hid (show ordO p = none from if_neg (by rw [RP.out]; simp))
    go_wp2
    go_ret2
    exact ⟨by rw [HC.out]; rfl, HB2.out⟩
  | true =>
    have HC := Lib.hid (show ordO p = some (ordK p p.length) from if_pos RP.out)
    have L1 := Lib.hid (show p.length = n from H1.out.len.symm)
    have hn : n ≤ 200 := by have := right_le RP.out; have := L1.out; omega
    have hn1 : n ≤ 100000 := by omega
    have H1' := Lib.hid (H1.out.keep HB2.out)
    obtain ⟨N, hN⟩ : ∃ N, ordK p p.length = N := ⟨_, rfl⟩
    have hNb := ordK_bound RP.out (Nat.le_refl _)
    rw [hN] at hNb HC
    have HNN := Lib.hid hN
    clear hN
    obtain ⟨hN0, hN9⟩ := hNb
    have HID := Lib.hid (show (if (0 : Int) ≤ (n : Int) ∧ (n : Int) ≤ 200 then idP (n : Int).toNat else []) = idP n from if_pos ⟨by omega, by omega⟩)
    have HQ0 := Lib.hid (show ArgI w2 A n c (powP p (1 : Nat)) from by rw [show ((1 : Nat) : Int) = 1 from rfl, pow_one RP.out]; exact H1'.out)
    go_wp2_with fail
    go_loopw [4, 5] (fun s4 i wr => ∃ (k : Nat) (A' : Option Addr) (c' : Nat), 1 ≤ k ∧ k ≤ N ∧ i = .int .i64 (k : Int) ∧ s4 = .slice A' n c' ∧ Hid (ArgI wr A' n c' (powP p (k : Nat))) ∧ Hid (Below w2.heap.size w2 wr)) (fun _ i _ => N - (intOf i).toNat)
    case atStart => exact ⟨1, A, c, Nat.le_refl _, hN0, rfl, rfl, HQ0, Lib.hid (Below.refl _ _)⟩
    case round =>
      obtain ⟨k, A', c', hk1, hk, rfl, rfl, HA, HB⟩ := hrel
      obtain ⟨s, hs⟩ : ∃ s, (powP p (k : Nat) == idP n) = s := ⟨_, rfl⟩
      have HS := Lib.hid hs
      have hsk : s = true ↔ k = N := by
        rw [← hs, beq_iff_eq]
        have h := pow_id_iff RP.out (k : Int)
        rw [HNN.out, L1.out] at h
        rw [h, Int.natCast_dvd_natCast]
        exact ⟨fun h => Nat.le_antisymm hk (Nat.le_of_dvd hk1 h), fun h => h ▸ Nat.dvd_refl _⟩
      have HSK := Lib.hid hsk
      clear hs hsk
      go_wp2_with fail
      refine (identityR_any n _).mono ?_
      intro e w4 he
      rw [HID.out] at he
      obtain ⟨A6, c6, rfl, ha6, hbk⟩ := he.at (length_idP n) hn1
      have HB4 := Lib.hid (below_chain HB.out hbk)
      have HA4 := Lib.hid (HA.out.keep hbk); have H6 := Lib.hid ha6
      clear he ha6 hbk HA HB
      go_wp2_with fail
      refine (sameR_any A' A6 c' c6 n n (powP p (k : Nat)) (idP n) _ HA4.out H6.out).mono ?_
      rintro e w5 ⟨rfl, hbk⟩
      rw [HS.out]
      have HB5 := Lib.hid (below_chain HB4.out hbk)
      have HA5 := Lib.hid (HA4.out.keep hbk)
      clear hbk HA4 HB4 H6
      cases s with
      | true =>
        have HKN := Lib.hid (HSK.out.1 rfl)
        have HB6 := Lib.hid (below_chain HB2.out HB5.out)
        go_wp2
        go_ret2
        exact ⟨by rw [HC.out, HKN.out]; rfl, HB6.out⟩
      | false =>
        have hkN : k < N := by
          have h : ¬ k = N := fun h => Bool.false_ne_true (HSK.out.2 h)
          omega
        have H1k := Lib.hid (H1'.out.keep HB5.out)
        go_wp2_with fail
        refine (composeR_any A' A n n c' c (powP p (k : Nat)) p _ HA5.out H1k.out).mono ?_
        intro e w6 he
        obtain ⟨A7, c7, rfl, ha7, hbk⟩ := he.at (l := powP p ((k + 1 : Nat) : Int)) (by
          rw [compO_some (right_powP RP.out _) RP.out (by rw [length_powP])]
          have h1 := pow_add RP.out (k : Int) 1
          rw [pow_one RP.out] at h1
          rw [← h1, Int.natCast_add]
          rfl) (by rw [length_powP]; exact L1.out) hn1
        have HB6 := Lib.hid (below_chain HB5.out hbk); have HA7 := Lib.hid ha7
        clear he ha7 hbk
        go_wp2
        go_roundw
        case rel => exact ⟨k + 1, A7, c7, by omega, by omega, by go_num, rfl, HA7, HB6⟩
        case measure => simp [intOf]; omega
end Go.Proofs.Ytccaagildkgfeaa
