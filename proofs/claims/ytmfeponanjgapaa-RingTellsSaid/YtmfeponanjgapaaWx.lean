/- Walks: fretworkref16.Compare, Least. -/
import Derived.Test.YtmfeponanjgapaaWv
namespace Go.Proofs.Ytmfeponanjgapaa
open Go.RowKit

def tblRC (b : Nat) (off : Nat) (n : Nat) (c : Nat) (b' : Nat) (off' : Nat) (m : Nat) (d : Nat) (j : Nat) (A2 : Option Addr) (p : Nat) (q : Nat) (B2 : Option Addr) (p' : Nat) (q' : Nat) (r : Int) : List Pst := [Pst.val (.slice (some ⟨b, off, none⟩) n c), Pst.val (.int .i64 (j : Nat)), Pst.val (.pointer (some ⟨b, off + j, none⟩)), Pst.val (.slice A2 p q), Pst.val (.slice (some ⟨b', off', none⟩) m d), Pst.val (.int .i64 (j : Nat)), Pst.val (.pointer (some ⟨b', off' + j, none⟩)), Pst.val (.slice B2 p' q'), Pst.val (.int .i64 r), Pst.val (.int .i64 r)]
set_option maxRecDepth 100000 in
set_option maxHeartbeats 4000000 in
theorem refCompare_any (A B : Option Addr) (c d n m : Nat) (us vs : List (List UInt8)) (w : World) (hr : RdW w A us) (hs : RdW w B vs) (hl : n = us.length) (hk : m = vs.length) (hn : n ≤ 1000) (hm : m ≤ 1000) (h1 : ∀ l ∈ us, l.length ≤ 1000) (h2 : ∀ l ∈ vs, l.length ≤ 1000) :
    Calls Try.prog 17 #[.slice A n c, .slice B m d] w fun e w' => e = .returned (.int .i64 (cmpW us vs)) ∧ Below w.heap.size w w' := by
  have HR := Lib.hid hr; have HS := Lib.hid hs
  have HL := Lib.hid hl; have KL := Lib.hid hk
  have H1 := Lib.hid h1; have H2 := Lib.hid h2
  clear hr hl hs hk h1 h2
  go_enter Try.func17, Try.ntmps17
  go_wp2
  go_loopw [5, 6] (fun i _ wr => ∃ j : Nat, j ≤ n ∧ j ≤ m ∧ i = .int .i64 (j : Int) ∧ Hid (cmpW us vs = cmpW (us.drop j) (vs.drop j)) ∧ Hid (Below w.heap.size w wr)) (fun i _ _ => n - (intOf i).toNat)
  case atStart => exact ⟨0, Nat.zero_le _, Nat.zero_le _, rfl, Lib.hid rfl, Lib.hid (Below.refl _ w)⟩
  case round =>
    obtain ⟨j, hj, hjm, rfl, hS, hBw⟩ := hrel
    by_cases hlt : j < n
    · by_cases hltm : j < m
      · obtain ⟨b, off, A2, q, x, rfl, hbl, hx, hc1, hr1⟩ := HR.out.word (j := j) (by have := HL.out; omega)
        obtain ⟨b', off', B2, q', y, rfl, hbl', hy, hc2, hr2⟩ := HS.out.word (j := j) (by have := KL.out; omega)
        have hst := Lib.hid (hS.out.trans (cmpW_step hx hy))
        have HX1 := Lib.hid (H1.out x (List.mem_of_getElem? hx)); have HY1 := Lib.hid (H2.out y (List.mem_of_getElem? hy))
        obtain ⟨p, hp⟩ : ∃ p, p = x.length := ⟨_, rfl⟩
        obtain ⟨p', hp'⟩ : ∃ p, p = y.length := ⟨_, rfl⟩
        rw [← hp] at hc1
        rw [← hp'] at hc2
        have HP := Lib.hid hp; have HP' := Lib.hid hp'
        obtain ⟨r, hr⟩ : ∃ r, Lib.compareBytes x y = r := ⟨_, rfl⟩
        have HRR := Lib.hid hr
        have C1 := Lib.hid (fun V (hV : Below wr.heap.size wr V) => hc1 V (hBw.out.trans (hV.mono hBw.out.size)))
        have C2 := Lib.hid (fun V (hV : Below wr.heap.size wr V) => hc2 V (hBw.out.trans (hV.mono hBw.out.size)))
        have R1 := Lib.hid hr1; have R2 := Lib.hid hr2
        clear hx hy hc1 hc2 hr1 hr2 hr hp hp' hS
        go_wp2_with fail
        refine region_posts (by kernel_rfl) (tblRC b off n c b' off' m d j A2 p q B2 p' q' r) (by kernel_rfl) ?_ ?_
        · skip
          refine .yes rfl (fun a W Q hB hO hD => ?_) ?_
          · have e0 : a.tmps.getD 0 undef = .slice (some ⟨b, off, none⟩) n c := hO.slot 0 _ rfl rfl
            clear hO hD
            go_wp2
            exact ⟨_, rfl, Below.refl _ _, rfl⟩
          refine .yes rfl (fun a W Q hB hO hD => ?_) ?_
          · have e5 : a.tmps.getD 5 undef = .int .i64 (j : Nat) := hO.slot 5 _ rfl rfl
            clear hO hD
            go_wp2
            exact ⟨_, rfl, Below.refl _ _, rfl⟩
          refine .yes rfl (fun a W Q hB hO hD => ?_) ?_
          · have e19 : a.tmps.getD 19 undef = .slice (some ⟨b, off, none⟩) n c := hD 0 rfl
            have e20 : a.tmps.getD 20 undef = .int .i64 (j : Nat) := hD 1 rfl
            clear hO hD
            go_wp2
            exact ⟨_, rfl, Below.refl _ _, rfl⟩
          refine .yes rfl (fun a W Q hB hO hD => ?_) ?_
          · have e21 : a.tmps.getD 21 undef = .pointer (some ⟨b, off + j, none⟩) := hD 2 rfl
            clear hO hD
            have hc := C1.out W hB
            go_wp2
            exact ⟨_, rfl, Below.refl _ _, rfl⟩
          refine .yes rfl (fun a W Q hB hO hD => ?_) ?_
          · have e1 : a.tmps.getD 1 undef = .slice (some ⟨b', off', none⟩) m d := hO.slot 1 _ rfl rfl
            clear hO hD
            go_wp2
            exact ⟨_, rfl, Below.refl _ _, rfl⟩
          refine .yes rfl (fun a W Q hB hO hD => ?_) ?_
          · have e5 : a.tmps.getD 5 undef = .int .i64 (j : Nat) := hO.slot 5 _ rfl rfl
            clear hO hD
            go_wp2
            exact ⟨_, rfl, Below.refl _ _, rfl⟩
          refine .yes rfl (fun a W Q hB hO hD => ?_) ?_
          · have e23 : a.tmps.getD 23 undef = .slice (some ⟨b', off', none⟩) m d := hD 4 rfl
            have e24 : a.tmps.getD 24 undef = .int .i64 (j : Nat) := hD 5 rfl
            clear hO hD
            go_wp2
            exact ⟨_, rfl, Below.refl _ _, rfl⟩
          refine .yes rfl (fun a W Q hB hO hD => ?_) ?_
          · have e25 : a.tmps.getD 25 undef = .pointer (some ⟨b', off' + j, none⟩) := hD 6 rfl
            clear hO hD
            have hc := C2.out W hB
            go_wp2
            exact ⟨_, rfl, Below.refl _ _, rfl⟩
          refine .yes rfl (fun a W Q hB hO hD => ?_) ?_
          · have e22 : a.tmps.getD 22 undef = .slice A2 p q := hD 3 rfl
            have e26 : a.tmps.getD 26 undef = .slice B2 p' q' := hD 7 rfl
            clear hO hD
            go_wp2_with fail
            refine (word_any A2 B2 p q p' q' x y W HP.out HP'.out (R1.out.below (hBw.out.trans (hB.mono hBw.out.size))) (R2.out.below (hBw.out.trans (hB.mono hBw.out.size))) (by have := HP.out; have := HX1.out; omega) (by have := HP'.out; have := HY1.out; omega)).mono ?_
            rintro e W1 ⟨rfl, hb⟩
            rw [HRR.out]
            go_wp2
            exact ⟨_, rfl, hb, rfl⟩
          refine .yes rfl (fun a W Q hB hO hD => ?_) ?_
          · have e27 : a.tmps.getD 27 undef = .int .i64 r := hD 8 rfl
            clear hO hD
            go_wp2
            exact ⟨_, rfl, Below.refl _ _, rfl⟩
          exact .nil
        · intro f V hBz hR
          have e9 : f 9 = .int .i64 r := hR 9 (by decide)
          have HB2 := Lib.hid (hBw.out.trans (hBz.mono hBw.out.size))
          clear hR hBz
          simp only [putAll, Nat.zero_add, Nat.reduceAdd, Act.put, List.setIfInBounds_toArray, List.set_cons_zero, List.set_cons_succ, e9]
          by_cases hz : r = 0
          · subst hz
            have hs2 := Lib.hid (hst.out.trans (if_pos HRR.out))
            go_wp2
            go_roundw
            case rel => exact ⟨j + 1, by omega, by omega, by go_num, hs2, HB2⟩
            case measure => simp [intOf]; omega
          · have hs2 := Lib.hid (hst.out.trans ((if_neg (by rw [HRR.out]; exact hz)).trans HRR.out))
            have hz1 : (r == 0) = false := by simpa using hz
            have hz2 : (r != 0) = true := by simpa using hz
            clear hz
            go_wp2
            go_ret
            exact ⟨by rw [hs2.out]; rfl, HB2.out⟩
      · obtain rfl : m = j := by omega
        have hS2 := Lib.hid (hS.out.trans (cmpW_right (k := m) (by have := HL.out; omega) (by have := KL.out; omega)))
        have d1 : decide (n < m) = false := by rw [decide_eq_false_iff_not]; omega
        have d2 : decide (m < n) = true := by rw [decide_eq_true_eq]; omega
        go_wp2
        go_ret
        exact ⟨by rw [hS2.out]; rfl, hBw.out⟩
    · obtain rfl : n = j := by omega
      by_cases hm : n < m
      · have hS2 := Lib.hid (hS.out.trans (cmpW_left (k := n) (by have := HL.out; omega) (by have := KL.out; omega)))
        go_wp2
        go_ret
        exact ⟨by rw [hS2.out]; rfl, hBw.out⟩
      · have hS2 := Lib.hid (hS.out.trans (cmpW_none (k := n) (by have := HL.out; omega) (by have := KL.out; omega)))
        obtain rfl : n = m := by omega
        go_wp2
        go_ret
        exact ⟨by rw [hS2.out]; rfl, hBw.out⟩
end Go.Proofs.Ytmfeponanjgapaa
