/- Walk: fretworklaw02.GraphLimits. -/
import Derived.Test.YtljihclpgpmfeaaDoorBk
namespace Go.Proofs.YtljihclpgpmfeaaDoor
set_option maxRecDepth 100000
open Go.RowKit

/-- The edges of a vertex to the next ones. -/
def mRow (i : Nat) : Nat := min 3 (199 - i)
def rowL (i m : Nat) : List (Int × Int) := (List.range m).map fun (k : Nat) => ((i : Int), (i : Int) + ((k + 1 : Nat) : Int))
def outL (i : Nat) : List (Int × Int) := (List.range i).flatMap fun j => rowL j (mRow j)
def lenO (i : Nat) : Nat := if i ≤ 197 then 3 * i else if i = 198 then 593 else 594
theorem outL_succ (i : Nat) : outL (i + 1) = outL i ++ rowL i (mRow i) := by
  unfold outL
  rw [List.range_succ, List.flatMap_append]
  simp
theorem rowL_succ (i k : Nat) : rowL i (k + 1) = rowL i k ++ [((i : Int), (i : Int) + ((k + 1 : Nat) : Int))] := by
  unfold rowL
  rw [List.range_succ, List.map_append]
  rfl
theorem rowL_len (i m : Nat) : (rowL i m).length = m := by unfold rowL; simp
theorem lenO_succ {i : Nat} (h : i < 199) : lenO (i + 1) = lenO i + mRow i ∧ lenO (i + 1) ≤ 594 := by
  unfold lenO mRow
  split <;> split <;> (try split) <;> (try split) <;> omega
theorem outL_len : ∀ i, i ≤ 199 → (outL i).length = lenO i
  | 0, _ => rfl
  | i + 1, h => by rw [outL_succ, List.length_append, outL_len i (by omega), rowL_len, (lenO_succ (by omega)).1]
theorem lim_right : RightE 200 (outL 199) := rightG_iff.1 (by decide +kernel)
theorem lim_len : (outL 199).length = 594 := outL_len 199 (by decide)
theorem lim_more : newO 200 (outL 199 ++ [(0, 199)]) = .error 21 := if_pos (.inr (by rw [List.length_append, lim_len]; decide))
theorem lim_over : newO 201 (outL 199) = .error 21 := if_pos (.inl (by decide))
theorem lim_text {n m : Nat} (h : 200 < n ∨ 594 < m) (hn : n < 1000000000) (hm : m < 1000000000) : parO (lineB (n : Int) (m : Int)) = .error 21 := by
  have hp := pairG_line (a := n) (b := m) [] hn hm
  rw [List.append_nil] at hp
  unfold parO
  rw [hp]
  exact if_pos h
theorem rowE_cut {B m : Nat} {W : World} {v : Value} {l : List (Int × Int)} (h : RowE B W v l) (hm : l.length = m) : ∃ A c, v = .slice A m c ∧ RowE B W (.slice A m c) l := by
  obtain ⟨A, c, e, _⟩ := h.rd
  rw [hm] at e
  subst e
  exact ⟨A, c, rfl, h⟩
theorem RowE.toArg' {B : Nat} {W : World} {A : Option Addr} {n c : Nat} {l : List (Int × Int)} (h : RowE B W (.slice A n c) l) (hl : n ≤ 100000) : ArgE W A n c l := by
  rcases h with ⟨rfl, e⟩ | ⟨g, cap, more, e, _, ho, h1, _⟩
  · injection e with e0 e1 e2
    subst e0 e1 e2
    exact ⟨Rd.nil, rfl, by omega, Nat.le_refl _⟩
  · injection e with e0 e1 e2
    subst e0 e1 e2
    exact ⟨rd_front ho, rfl, by omega, h1⟩
set_option maxRecDepth 100000 in
set_option maxHeartbeats 16000000 in
theorem graphLimits_true (vt : Bool) (w : World) (ht : TabW w.heap.size w) :
    Calls Tryd.prog 8 #[.bool vt] w fun e w' => e = .returned (.bool true) ∧ Below w.heap.size w w' := by
  have HT := Lib.hid ht
  have hb := Lib.hid (Below.refl w.heap.size w)
  have HR0 := Lib.hid (show RowE w.heap.size w (.slice none 0 0) (outL 0) from .inl ⟨rfl, rfl⟩)
  clear ht
  go_enter Tryd.func8, Tryd.ntmps8
  go_wp2
  go_loopw [3, 4, 5] (fun s3 s4 _ wr => ∃ (i : Nat) (A : Option Addr) (c : Nat), i ≤ 199 ∧ s4 = .int .i64 (i : Int) ∧ s3 = .slice A (lenO i) c ∧ Hid (RowE w.heap.size wr (.slice A (lenO i) c) (outL i)) ∧ Hid (Below w.heap.size w wr)) (fun _ s4 _ _ => 199 - (intOf s4).toNat)
  case atStart => exact ⟨0, none, 0, by decide, rfl, rfl, HR0, hb⟩
  case round =>
    obtain ⟨i, A, c, hi, rfl, rfl, HR, HB⟩ := hrel
    by_cases hlt : i < 199
    · obtain ⟨s1, s2⟩ := lenO_succ hlt
      have HS1 := Lib.hid s1
      obtain ⟨m, hm⟩ : ∃ m, mRow i = m := ⟨_, rfl⟩
      have hm3 : m ≤ 3 ∧ i + m ≤ 199 ∧ (m = 3 ∨ i + m = 199) := by rw [← hm]; unfold mRow; omega
      have hm0 : 0 < m := by omega
      rw [hm] at s1 HS1
      obtain ⟨L, hL⟩ : ∃ L, lenO i = L := ⟨_, rfl⟩
      rw [hL] at HR s1 HS1 ⊢
      have d1 : decide ((L : Int) < 594) = true := decide_eq_true (by omega)
      have d1n : decide (L < 594) = true := decide_eq_true (by omega)
      have HM := Lib.hid hm
      have hLm : L + m ≤ 594 := by omega
      obtain ⟨hm31, hm32, hm33⟩ := hm3
      have HR1 := Lib.hid (show RowE w.heap.size wr (.slice A (L + 0) c) (outL i ++ rowL i 0) from by rw [show rowL i 0 = [] from rfl, List.append_nil]; exact HR.out)
      clear hL hm s1 s2
      go_wp2_with fail
      go_loopw [3, 5] (fun s3 s5 wr => ∃ (b : Nat) (A : Option Addr) (c : Nat), 1 ≤ b ∧ b ≤ m + 1 ∧ s5 = .int .i64 (b : Int) ∧ s3 = .slice A (L + (b - 1)) c ∧ Hid (RowE w.heap.size wr (.slice A (L + (b - 1)) c) (outL i ++ rowL i (b - 1))) ∧ Hid (Below w.heap.size w wr)) (fun _ s5 _ => 10 - (intOf s5).toNat)
      case atStart => exact ⟨1, A, c, by decide, by omega, rfl, rfl, HR1, HB⟩
      case round =>
        obtain ⟨b, A2, c2, hb1, hb2, rfl, rfl, HRb, HBb⟩ := hrel
        obtain ⟨q, hq⟩ : ∃ q, b - 1 = q := ⟨_, rfl⟩
        rw [hq] at HRb ⊢
        by_cases hbm : b ≤ m
        · have e1 : decide ((b : Int) ≤ 3) = true := decide_eq_true (by omega)
          have e1n : decide (b ≤ 3) = true := decide_eq_true (by omega)
          have e2 : decide ((i : Int) + (b : Int) < 200) = true := decide_eq_true (by omega)
          have e2n : decide (i + b < 200) = true := decide_eq_true (by omega)
          have e3 : decide (((L + q : Nat) : Int) < 594) = true := decide_eq_true (by omega)
          have e3n : decide (L + q < 594) = true := decide_eq_true (by omega)
          have e3i : decide ((L : Int) + (q : Int) < 594) = true := decide_eq_true (by omega)
          have hs := HBb.out.size
          have HRa := Lib.hid (HRb.out.below (alloc_below wr (.cells #[.int .i64 (i : Int), .int .i64 ((i : Int) + (b : Int))] 49)))
          have HNa := Lib.hid (show Own (wr.alloc (.cells #[.int .i64 (i : Int), .int .i64 ((i : Int) + (b : Int))] 49)) wr.heap.size 49 (cellsE [((i : Int), (i : Int) + (b : Int))]) from Own.new _ _ _)
          have HBa := Lib.hid (HBb.out.alloc hs (.cells #[.int .i64 (i : Int), .int .i64 ((i : Int) + (b : Int))] 49))
          have hLL := Lib.hid (show (outL i ++ rowL i q).length = L + q from by
            rcases HRb.out with ⟨e, e'⟩ | ⟨_, _, _, e, _⟩
            · injection e' with _ e' _; rw [e, e']; rfl
            · injection e with _ e _; exact e.symm)
          have HST := Lib.hid (show (outL i ++ rowL i q) ++ [((i : Int), (i : Int) + (b : Int))] = outL i ++ rowL i b from by
            rw [show b = q + 1 by omega, rowL_succ, List.append_assoc])
          go_wp2_with (at_builtin; refine wpList_append_edges rfl (.tmp 34) (.tmp 40) rfl (some ⟨wr.heap.size, 0, none⟩) 1 1 (k := [((i : Int), (i : Int) + (b : Int))]) rfl rfl HRa.out rfl HNa.out.rd (by rw [hLL.out]; omega) HBa.out.size ?_; intro v6 W6 hr6 hb6 _; have hex := rowE_cut hr6 (m := L + b) (by rw [HST.out, List.length_append, rowL_len]; have h := hLL.out; rw [List.length_append, rowL_len] at h; omega); rw [HST.out] at hex; obtain ⟨A6, c6, rfl, hr7⟩ := hex; have HR6 := Lib.hid hr7; have HB6 := Lib.hid (HBa.out.trans hb6); clear hr6 hr7 hb6)
          refine ⟨⟨b + 1, A6, c6, by omega, by omega, by go_num, by rw [Nat.add_sub_cancel], by rw [Nat.add_sub_cancel]; exact HR6, HB6⟩, ?_⟩
          simp [intOf]; omega
        · have hbe : b = m + 1 := by omega
          have hqm : q = m := by omega
          have HF := Lib.hid (show RowE w.heap.size wr (.slice A2 (lenO (i + 1)) c2) (outL (i + 1)) from by
            have h := HRb.out
            rw [hqm] at h
            rw [outL_succ, HM.out, HS1.out]
            exact h)
          have HLS := Lib.hid (show L + q = lenO (i + 1) from by rw [HS1.out, hqm])
          rw [HLS.out]
          by_cases hm4 : m = 3
          · have e1 : decide ((b : Int) ≤ 3) = false := decide_eq_false (by omega)
            have e1n : decide (b ≤ 3) = false := decide_eq_false (by omega)
            clear hm33 hbe hqm
            go_wp2
            refine ⟨⟨i + 1, A2, c2, by omega, by go_num, rfl, HF, HBb⟩, ?_⟩
            simp [intOf]; omega
          · have e1 : decide ((b : Int) ≤ 3) = true := decide_eq_true (by omega)
            have e1n : decide (b ≤ 3) = true := decide_eq_true (by omega)
            have e2 : decide ((i : Int) + (b : Int) < 200) = false := decide_eq_false (by omega)
            have e2n : decide (i + b < 200) = false := decide_eq_false (by omega)
            clear hm33 hbe hqm
            go_wp2
            refine ⟨⟨i + 1, A2, c2, by omega, by go_num, rfl, HF, HBb⟩, ?_⟩
            simp [intOf]; omega
    · obtain rfl : i = 199 := by omega
      have HRL := Lib.hid (show RowE w.heap.size wr (.slice A 594 c) (outL 199) from HR.out)
      have hLe : lenO 199 = 594 := rfl
      have HA := Lib.hid (HRL.out.toArg' (by decide))
      have hbq := Lib.hid HB.out
      clear hb
      have hb := hbq; clear hbq HR HR0 HB
      clear hlt hi
      rw [hLe]
      clear hLe
      have NWc := Lib.hid (newG_any 200 A 594 c (outL 199) wr HA.out)
      rw [newO_self lim_right] at NWc
      go_wp2_with fail
      refine (NWc.out).mono ?_
      rintro e w1 ⟨v1, rfl, hr1, hbk⟩
      have hbz := Lib.hid hbk; clear hbk
      have HR1 := Lib.hid (hr1)
      have HRL' := Lib.hid (HRL.out.below hbz.out)
      have HA' := Lib.hid (HA.out.keep hbz.out)
      have hb' := Lib.hid (below_chain hb.out hbz.out)
      clear hb HRL HA
      have hb := hb'; clear hb'
      have HRL := HRL'; clear HRL'
      have HA := HA'; clear HA'
      clear hbz
      clear hr1 NWc
      obtain ⟨A1, c1, rfl, ha⟩ : ∃ A c, v1 = .slice A 594 c ∧ ArgE w1 A 594 c (outL 199) := by
        obtain ⟨A, c, e, ha⟩ := HR1.out.arg (by rw [lim_len]; decide)
        rw [lim_len] at e ha
        exact ⟨A, c, e, ha⟩
      have HG := Lib.hid ha; clear ha
      clear HR1
      obtain ⟨V1, hV1⟩ : ∃ W, w1.alloc (.cells #[.int .i64 200, .slice A1 594 c1] 26) = W := ⟨_, rfl⟩
      have hbz := Lib.hid (show Below w1.heap.size w1 V1 from by rw [← hV1]; exact alloc_below _ _)
      have OG := Lib.hid (show Own V1 w1.heap.size 26 [.int .i64 200, .slice A1 594 c1] from by rw [← hV1]; exact Own.new _ _ _)
      have HRL' := Lib.hid (HRL.out.below hbz.out)
      have HA' := Lib.hid (HA.out.keep hbz.out)
      have HG' := Lib.hid (HG.out.keep hbz.out)
      have hb' := Lib.hid (below_chain hb.out hbz.out)
      clear hb HRL HA HG
      have hb := hb'; clear hb'
      have HRL := HRL'; clear HRL'
      have HA := HA'; clear HA'
      have HG := HG'; clear HG'
      clear hbz
      have htx := fun W (h : ArgE W A1 594 c1 (outL 199)) ht => text_any 200 A1 594 c1 (outL 199) W h ht
      rw [show textO 200 (outL 199) = some (textG 200 (outL 199)) from if_pos (rightG_iff.2 lim_right)] at htx
      simp only [TextV] at htx
      have hp1 := parO_right lim_right
      have hlt := textG_len lim_right
      obtain ⟨T1, hT1⟩ : ∃ T, textG 200 (outL 199) = T := ⟨_, rfl⟩
      rw [hT1] at htx hp1 hlt
      have TX := Lib.hid htx; have HP1 := Lib.hid hp1
      clear htx hp1 hT1
      have TXc := Lib.hid (TX.out _ HG.out ((HT.out.on hb.out).mono hb.out.size))
      have qOG := OG.out.cell; have zOG := OG.out.lt; have fOG := OG.out.frozen
      go_wp2_with fail
      refine (TXc.out).mono ?_
      rintro e w2 ⟨rfl, hbk⟩
      have hbz := Lib.hid hbk; clear hbk
      clear qOG zOG fOG
      have HRL' := Lib.hid (HRL.out.below hbz.out)
      have HA' := Lib.hid (HA.out.keep hbz.out)
      have HG' := Lib.hid (HG.out.keep hbz.out)
      have OG' := Lib.hid (OG.out.below' hbz.out)
      have hb' := Lib.hid (below_chain hb.out hbz.out)
      clear hb HRL HA HG OG
      have hb := hb'; clear hb'
      have HRL := HRL'; clear HRL'
      have HA := HA'; clear HA'
      have HG := HG'; clear HG'
      have OG := OG'; clear OG'
      clear hbz
      clear TXc TX
      have PRc := Lib.hid (parse_any T1 w2 hlt)
      rw [HP1.out.1, HP1.out.2] at PRc
      go_wp2_with fail
      refine (PRc.out).mono ?_
      rintro e w3 ⟨v3, rfl, hr3, hbk⟩
      have hbz := Lib.hid hbk; clear hbk
      have HR3 := Lib.hid (hr3)
      have HRL' := Lib.hid (HRL.out.below hbz.out)
      have HA' := Lib.hid (HA.out.keep hbz.out)
      have HG' := Lib.hid (HG.out.keep hbz.out)
      have OG' := Lib.hid (OG.out.below' hbz.out)
      have hb' := Lib.hid (below_chain hb.out hbz.out)
      clear hb HRL HA HG OG
      have hb := hb'; clear hb'
      have HRL := HRL'; clear HRL'
      have HA := HA'; clear HA'
      have HG := HG'; clear HG'
      have OG := OG'; clear OG'
      clear hbz
      clear hr3 PRc
      obtain ⟨A3, c3, rfl, ha⟩ : ∃ A c, v3 = .slice A 594 c ∧ ArgE w3 A 594 c (outL 199) := by
        obtain ⟨A, c, e, ha⟩ := HR3.out.arg (by rw [lim_len]; decide)
        rw [lim_len] at e ha
        exact ⟨A, c, e, ha⟩
      have HH := Lib.hid ha; clear ha
      clear HR3
      obtain ⟨V3, hV3⟩ : ∃ W, w3.alloc (.cells #[.int .i64 200, .slice A3 594 c3] 26) = W := ⟨_, rfl⟩
      have hbz := Lib.hid (show Below w3.heap.size w3 V3 from by rw [← hV3]; exact alloc_below _ _)
      have OH := Lib.hid (show Own V3 w3.heap.size 26 [.int .i64 200, .slice A3 594 c3] from by rw [← hV3]; exact Own.new _ _ _)
      have HRL' := Lib.hid (HRL.out.below hbz.out)
      have HA' := Lib.hid (HA.out.keep hbz.out)
      have HG' := Lib.hid (HG.out.keep hbz.out)
      have OG' := Lib.hid (OG.out.below' hbz.out)
      have HH' := Lib.hid (HH.out.keep hbz.out)
      have hb' := Lib.hid (below_chain hb.out hbz.out)
      clear hb HRL HA HG OG HH
      have hb := hb'; clear hb'
      have HRL := HRL'; clear HRL'
      have HA := HA'; clear HA'
      have HG := HG'; clear HG'
      have OG := OG'; clear OG'
      have HH := HH'; clear HH'
      clear hbz
      have SSc := Lib.hid (sameGraph_any 200 200 A1 A3 c1 c3 594 594 (outL 199) (outL 199) V3 HG.out HH.out)
      rw [self_same] at SSc
      have qOG := OG.out.cell; have zOG := OG.out.lt; have fOG := OG.out.frozen
      have qOH := OH.out.cell; have zOH := OH.out.lt; have fOH := OH.out.frozen
      go_wp2_with fail
      refine (SSc.out).mono ?_
      rintro e w4 ⟨rfl, hbk⟩
      have hbz := Lib.hid hbk; clear hbk
      clear qOG zOG fOG
      clear qOH zOH fOH
      have HRL' := Lib.hid (HRL.out.below hbz.out)
      have HA' := Lib.hid (HA.out.keep hbz.out)
      have HG' := Lib.hid (HG.out.keep hbz.out)
      have OG' := Lib.hid (OG.out.below' hbz.out)
      have HH' := Lib.hid (HH.out.keep hbz.out)
      have OH' := Lib.hid (OH.out.below' hbz.out)
      have hb' := Lib.hid (below_chain hb.out hbz.out)
      clear hb HRL HA HG OG HH OH
      have hb := hb'; clear hb'
      have HRL := HRL'; clear HRL'
      have HA := HA'; clear HA'
      have HG := HG'; clear HG'
      have OG := OG'; clear OG'
      have HH := HH'; clear HH'
      have OH := OH'; clear OH'
      clear hbz
      clear SSc
      have qOG := OG.out.cell; have zOG := OG.out.lt; have fOG := OG.out.frozen
      cases vt with
      | true =>
        have NWc := Lib.hid (newG_any 201 A 594 c (outL 199) w4 HA.out)
        rw [lim_over] at NWc
        go_wp2_with fail
        refine (NWc.out).mono ?_
        rintro e w5 ⟨rfl, hbk⟩
        have hbz := Lib.hid hbk; clear hbk
        clear qOG zOG fOG
        have HRL' := Lib.hid (HRL.out.below hbz.out)
        have HA' := Lib.hid (HA.out.keep hbz.out)
        have HG' := Lib.hid (HG.out.keep hbz.out)
        have OG' := Lib.hid (OG.out.below' hbz.out)
        have HH' := Lib.hid (HH.out.keep hbz.out)
        have OH' := Lib.hid (OH.out.below' hbz.out)
        have hb' := Lib.hid (below_chain hb.out hbz.out)
        clear hb HRL HA HG OG HH OH
        have hb := hb'; clear hb'
        have HRL := HRL'; clear HRL'
        have HA := HA'; clear HA'
        have HG := HG'; clear HG'
        have OG := OG'; clear OG'
        have HH := HH'; clear HH'
        have OH := OH'; clear OH'
        clear hbz
        clear NWc
        have I0 := Lib.hid (itoa_any 201 (by decide) (by decide) w5 ((HT.out.on hb.out).mono hb.out.size))
        obtain ⟨S0, hS0⟩ : ∃ S, strB (Lib.itoa 201) = S := ⟨_, rfl⟩
        obtain ⟨S1, hS1⟩ : ∃ S, strB (Lib.itoa 201 ++ [32]) = S := ⟨_, rfl⟩
        obtain ⟨S2, hS2⟩ : ∃ S, strB (Lib.itoa 594) = S := ⟨_, rfl⟩
        obtain ⟨S3, hS3⟩ : ∃ S, strB ((Lib.itoa 201 ++ [32]) ++ Lib.itoa 594) = S := ⟨_, rfl⟩
        have la := Lib.itoa_length_le 201 (by decide) (by decide)
        have lb := Lib.itoa_length_le 594 (by decide) (by decide)
        have z0 : S0.size = (Lib.itoa 201).length := by rw [← hS0]; exact strB_size _
        have z1 : S1.size = (Lib.itoa 201).length + 1 := by rw [← hS1, strB_size]; simp only [List.length_append, List.length_cons, List.length_nil]
        have z2 : S2.size = (Lib.itoa 594).length := by rw [← hS2]; exact strB_size _
        have z3 : S3.size = (Lib.itoa 201).length + 1 + (Lib.itoa 594).length := by rw [← hS3, strB_size]; simp only [List.length_append, List.length_cons, List.length_nil]
        have e1 : S0 ++ ⟨#[32]⟩ = S1 := by rw [← hS0, ← hS1]; exact strB_app _ [32]
        have e3 : S1 ++ S2 = S3 := by rw [← hS1, ← hS2, ← hS3]; exact strB_app _ _
        have e4 : S3 ++ ⟨#[10]⟩ = strB (lineB 201 594) := by rw [← hS3]; exact strB_app _ [10]
        have l1 : ¬ 9223372036854775807 < S0.size + 1 := by rw [z0]; omega
        have l3 : ¬ 9223372036854775807 < S1.size + S2.size := by rw [z1, z2]; omega
        have l4 : ¬ 9223372036854775807 < S3.size + 1 := by rw [z3]; omega
        have lt5 : (lineB 201 594).length ≤ 1000000000 := by have := lineB_len (a := 201) (b := 594) ⟨by decide, by decide⟩ ⟨by decide, by decide⟩; omega
        have ht5 := lim_text (n := 201) (m := 594) (by decide) (by decide) (by decide)
        have ht5 : parO (lineB 201 594) = .error 21 := ht5
        obtain ⟨T5, hT5⟩ : ∃ T, lineB 201 594 = T := ⟨_, rfl⟩
        rw [hT5] at e4 lt5 ht5
        rw [hS0] at I0
        have HS2 := Lib.hid hS2
        have HT5 := Lib.hid ht5
        clear hS0 hS1 hS2 hS3 la lb z0 z1 z2 z3 hT5 ht5
        go_wp2_with fail
        refine (I0.out).mono ?_
        rintro e w6 ⟨rfl, hbk⟩
        have hbz := Lib.hid hbk; clear hbk
        have HRL' := Lib.hid (HRL.out.below hbz.out)
        have HA' := Lib.hid (HA.out.keep hbz.out)
        have HG' := Lib.hid (HG.out.keep hbz.out)
        have OG' := Lib.hid (OG.out.below' hbz.out)
        have HH' := Lib.hid (HH.out.keep hbz.out)
        have OH' := Lib.hid (OH.out.below' hbz.out)
        have hb' := Lib.hid (below_chain hb.out hbz.out)
        clear hb HRL HA HG OG HH OH
        have hb := hb'; clear hb'
        have HRL := HRL'; clear HRL'
        have HA := HA'; clear HA'
        have HG := HG'; clear HG'
        have OG := OG'; clear OG'
        have HH := HH'; clear HH'
        have OH := OH'; clear OH'
        clear hbz
        clear I0
        have I1 := Lib.hid (itoa_any 594 (by decide) (by decide) w6 ((HT.out.on hb.out).mono hb.out.size))
        rw [HS2.out] at I1
        go_wp2_with fail
        refine (I1.out).mono ?_
        rintro e w7 ⟨rfl, hbk⟩
        have hbz := Lib.hid hbk; clear hbk
        have HRL' := Lib.hid (HRL.out.below hbz.out)
        have HA' := Lib.hid (HA.out.keep hbz.out)
        have HG' := Lib.hid (HG.out.keep hbz.out)
        have OG' := Lib.hid (OG.out.below' hbz.out)
        have HH' := Lib.hid (HH.out.keep hbz.out)
        have OH' := Lib.hid (OH.out.below' hbz.out)
        have hb' := Lib.hid (below_chain hb.out hbz.out)
        clear hb HRL HA HG OG HH OH
        have hb := hb'; clear hb'
        have HRL := HRL'; clear HRL'
        have HA := HA'; clear HA'
        have HG := HG'; clear HG'
        have OG := OG'; clear OG'
        have HH := HH'; clear HH'
        have OH := OH'; clear OH'
        clear hbz
        clear I1
        have P5 := Lib.hid (parse_any T5 w7 lt5)
        rw [HT5.out] at P5
        go_wp2_with fail
        refine (P5.out).mono ?_
        rintro e w8 ⟨rfl, hbk⟩
        have hbz := Lib.hid hbk; clear hbk
        have HRL' := Lib.hid (HRL.out.below hbz.out)
        have HA' := Lib.hid (HA.out.keep hbz.out)
        have HG' := Lib.hid (HG.out.keep hbz.out)
        have OG' := Lib.hid (OG.out.below' hbz.out)
        have HH' := Lib.hid (HH.out.keep hbz.out)
        have OH' := Lib.hid (OH.out.below' hbz.out)
        have hb' := Lib.hid (below_chain hb.out hbz.out)
        clear hb HRL HA HG OG HH OH
        have hb := hb'; clear hb'
        have HRL := HRL'; clear HRL'
        have HA := HA'; clear HA'
        have HG := HG'; clear HG'
        have OG := OG'; clear OG'
        have HH := HH'; clear HH'
        have OH := OH'; clear OH'
        clear hbz
        clear P5 e1 e3 e4 l1 l3 l4
        go_wp2_with fail
        refine (awakeG_any w8 ((HT.out.on hb.out).mono hb.out.size)).mono ?_
        rintro e w9 ⟨rfl, hbk⟩
        have hbz := Lib.hid hbk; clear hbk
        have HRL' := Lib.hid (HRL.out.below hbz.out)
        have HA' := Lib.hid (HA.out.keep hbz.out)
        have HG' := Lib.hid (HG.out.keep hbz.out)
        have OG' := Lib.hid (OG.out.below' hbz.out)
        have HH' := Lib.hid (HH.out.keep hbz.out)
        have OH' := Lib.hid (OH.out.below' hbz.out)
        have hb' := Lib.hid (below_chain hb.out hbz.out)
        clear hb HRL HA HG OG HH OH
        have hb := hb'; clear hb'
        have HRL := HRL'; clear HRL'
        have HA := HA'; clear HA'
        have HG := HG'; clear HG'
        have OG := OG'; clear OG'
        have HH := HH'; clear HH'
        have OH := OH'; clear OH'
        clear hbz
        go_wp2
        go_ret
        exact ⟨rfl, hb.out⟩
      | false =>
        have hs9 := hb.out.size
        have HRa := Lib.hid (HRL.out.below (alloc_below w4 (.cells #[.int .i64 0, .int .i64 199] 49)))
        have HNa := Lib.hid (show Own (w4.alloc (.cells #[.int .i64 0, .int .i64 199] 49)) w4.heap.size 49 (cellsE [(0, 199)]) from Own.new _ _ _)
        go_wp2_with (at_builtin; refine wpList_append_edges (B := w.heap.size) rfl (.tmp 78) (.tmp 80) rfl (some ⟨w4.heap.size, 0, none⟩) 1 1 (k := [(0, 199)]) rfl rfl HRa.out rfl HNa.out.rd (by rw [lim_len]; decide) (by simp; omega) ?_; intro v7 W7 hr7 hb7 _; obtain ⟨A7, c7, e7, _⟩ := hr7.rd; rw [List.length_append, lim_len] at e7; have e7 : v7 = .slice A7 595 c7 := e7; subst e7; have HR7 := Lib.hid hr7; have HB7 := Lib.hid hb7; clear hr7 hb7)
        have ha7 := HR7.out.toArg' (by decide)
        have HA7 := Lib.hid ha7
        have hbn := Lib.hid ((hb.out.trans ((alloc_below w4 (.cells #[.int .i64 0, .int .i64 199] 49)).mono hs9)).trans HB7.out)
        clear hb ha7 hs9
        have hb := hbn; clear hbn
        clear qOG zOG fOG
        have NWc := Lib.hid (newG_any 200 A7 595 c7 (outL 199 ++ [(0, 199)]) W7 HA7.out)
        rw [lim_more] at NWc
        go_wp2_with fail
        refine (NWc.out).mono ?_
        rintro e w5 ⟨rfl, hbk⟩
        have hbz := Lib.hid hbk; clear hbk
        have hb' := Lib.hid (below_chain hb.out hbz.out)
        clear hb 
        have hb := hb'; clear hb'
        clear hbz
        clear NWc
        have I0 := Lib.hid (itoa_any 200 (by decide) (by decide) w5 ((HT.out.on hb.out).mono hb.out.size))
        obtain ⟨S0, hS0⟩ : ∃ S, strB (Lib.itoa 200) = S := ⟨_, rfl⟩
        obtain ⟨S1, hS1⟩ : ∃ S, strB (Lib.itoa 200 ++ [32]) = S := ⟨_, rfl⟩
        obtain ⟨S2, hS2⟩ : ∃ S, strB (Lib.itoa 595) = S := ⟨_, rfl⟩
        obtain ⟨S3, hS3⟩ : ∃ S, strB ((Lib.itoa 200 ++ [32]) ++ Lib.itoa 595) = S := ⟨_, rfl⟩
        have la := Lib.itoa_length_le 200 (by decide) (by decide)
        have lb := Lib.itoa_length_le 595 (by decide) (by decide)
        have z0 : S0.size = (Lib.itoa 200).length := by rw [← hS0]; exact strB_size _
        have z1 : S1.size = (Lib.itoa 200).length + 1 := by rw [← hS1, strB_size]; simp only [List.length_append, List.length_cons, List.length_nil]
        have z2 : S2.size = (Lib.itoa 595).length := by rw [← hS2]; exact strB_size _
        have z3 : S3.size = (Lib.itoa 200).length + 1 + (Lib.itoa 595).length := by rw [← hS3, strB_size]; simp only [List.length_append, List.length_cons, List.length_nil]
        have e1 : S0 ++ ⟨#[32]⟩ = S1 := by rw [← hS0, ← hS1]; exact strB_app _ [32]
        have e3 : S1 ++ S2 = S3 := by rw [← hS1, ← hS2, ← hS3]; exact strB_app _ _
        have e4 : S3 ++ ⟨#[10]⟩ = strB (lineB 200 595) := by rw [← hS3]; exact strB_app _ [10]
        have l1 : ¬ 9223372036854775807 < S0.size + 1 := by rw [z0]; omega
        have l3 : ¬ 9223372036854775807 < S1.size + S2.size := by rw [z1, z2]; omega
        have l4 : ¬ 9223372036854775807 < S3.size + 1 := by rw [z3]; omega
        have lt5 : (lineB 200 595).length ≤ 1000000000 := by have := lineB_len (a := 200) (b := 595) ⟨by decide, by decide⟩ ⟨by decide, by decide⟩; omega
        have ht5 := lim_text (n := 200) (m := 595) (by decide) (by decide) (by decide)
        have ht5 : parO (lineB 200 595) = .error 21 := ht5
        obtain ⟨T5, hT5⟩ : ∃ T, lineB 200 595 = T := ⟨_, rfl⟩
        rw [hT5] at e4 lt5 ht5
        rw [hS0] at I0
        have HS2 := Lib.hid hS2
        have HT5 := Lib.hid ht5
        clear hS0 hS1 hS2 hS3 la lb z0 z1 z2 z3 hT5 ht5
        go_wp2_with fail
        refine (I0.out).mono ?_
        rintro e w6 ⟨rfl, hbk⟩
        have hbz := Lib.hid hbk; clear hbk
        have hb' := Lib.hid (below_chain hb.out hbz.out)
        clear hb 
        have hb := hb'; clear hb'
        clear hbz
        clear I0
        have I1 := Lib.hid (itoa_any 595 (by decide) (by decide) w6 ((HT.out.on hb.out).mono hb.out.size))
        rw [HS2.out] at I1
        go_wp2_with fail
        refine (I1.out).mono ?_
        rintro e w7 ⟨rfl, hbk⟩
        have hbz := Lib.hid hbk; clear hbk
        have hb' := Lib.hid (below_chain hb.out hbz.out)
        clear hb 
        have hb := hb'; clear hb'
        clear hbz
        clear I1
        have P5 := Lib.hid (parse_any T5 w7 lt5)
        rw [HT5.out] at P5
        go_wp2_with fail
        refine (P5.out).mono ?_
        rintro e w8 ⟨rfl, hbk⟩
        have hbz := Lib.hid hbk; clear hbk
        have hb' := Lib.hid (below_chain hb.out hbz.out)
        clear hb 
        have hb := hb'; clear hb'
        clear hbz
        clear P5 e1 e3 e4 l1 l3 l4
        go_wp2_with fail
        refine (awakeG_any w8 ((HT.out.on hb.out).mono hb.out.size)).mono ?_
        rintro e w9 ⟨rfl, hbk⟩
        have hbz := Lib.hid hbk; clear hbk
        have hb' := Lib.hid (below_chain hb.out hbz.out)
        clear hb 
        have hb := hb'; clear hb'
        clear hbz
        go_wp2
        go_ret
        exact ⟨rfl, hb.out⟩
end Go.Proofs.YtljihclpgpmfeaaDoor
