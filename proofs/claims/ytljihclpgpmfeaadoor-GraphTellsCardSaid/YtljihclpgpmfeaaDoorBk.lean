/- Walk: fretworklaw02.GraphBack. -/
import Derived.Test.YtljihclpgpmfeaaDoorShb
import Derived.Test.YtljihclpgpmfeaaDoorKa
import Derived.Test.YtljihclpgpmfeaaDoorUk
import Derived.Test.YtljihclpgpmfeaaDoorUw
import Derived.Test.YtljihclpgpmfeaaDoorUo
namespace Go.Proofs.YtljihclpgpmfeaaDoor
set_option maxRecDepth 100000
open Go.RowKit

theorem textG_len {N : Int} {E : List (Int × Int)} (h : RightE N E) : (textG N E).length ≤ 1000000000 := by
  have h1 := textS_len N E E.length ⟨by have := h.n0; omega, by have := h.n1; omega⟩ (right_few h) h.len
  rw [textK_all rfl] at h1
  omega
theorem shown_len {N : Int} {E : List (Int × Int)} (us : List Nat) (h : RightE N E) : (textG N (shufK us E E.length)).length ≤ 1000000000 := by
  have hp := shufK_perm us E E.length (Nat.le_refl _)
  have h1 := textS_len N (shufK us E E.length) E.length ⟨by have := h.n0; omega, by have := h.n1; omega⟩ (shuf_few h hp) (by rw [shufK_len]; exact h.len)
  rw [textK_all (shufK_len _ _ _).symm] at h1
  omega
theorem self_same (N : Int) (E : List (Int × Int)) : ((N == N) && (E == E)) = true := by simp
set_option maxRecDepth 100000 in
set_option maxHeartbeats 16000000 in
theorem graphBack_true (N M : Int) (A B U : Option Addr) (n c m d nu cu : Nat) (E F : List (Int × Int)) (us : List Nat) (w : World) (h : ArgE w A n c E) (h2 : ArgE w B m d F) (hu : ArgU w U nu cu us) (ht : TabW w.heap.size w) :
    Calls Tryd.prog 4 #[.agg #[.int .i64 N, .slice A n c], .agg #[.int .i64 M, .slice B m d], .slice U nu cu] w fun e w' => e = .returned (.bool true) ∧ Below w.heap.size w w' := by
  have HA0 := Lib.hid h; have HB0 := Lib.hid h2; have HU0 := Lib.hid hu
  have HT := Lib.hid ht
  have HL := Lib.hid h.len; have HL2 := Lib.hid h2.len
  clear h h2 hu ht
  obtain ⟨W1, hW1⟩ : ∃ W, (w.alloc (.cells #[.int .i64 N, .slice A n c] 26)).alloc (.cells #[.int .i64 M, .slice B m d] 26) = W := ⟨_, rfl⟩
  have hb := Lib.hid (show Below w.heap.size w W1 from by rw [← hW1]; exact (alloc_below _ _).trans ((alloc_below _ _).mono (by simp)))
  have OG := Lib.hid (show Own W1 w.heap.size 26 [.int .i64 N, .slice A n c] from by rw [← hW1]; exact (Own.new' rfl).alloc _)
  have OH := Lib.hid (show Own W1 (w.heap.size + 1) 26 [.int .i64 M, .slice B m d] from by rw [← hW1]; exact Own.new' (by simp))
  have HA := Lib.hid (HA0.out.keep hb.out); have HB := Lib.hid (HB0.out.keep hb.out); have HU := Lib.hid (HU0.out.keep hb.out)
  clear HA0 HB0 HU0
  go_enter Tryd.func4, Tryd.ntmps4
  have HR := Lib.hid (rightG_any N A n c E W1 HA.out)
  obtain ⟨r, hr⟩ : ∃ r, rightG N E = r := ⟨_, rfl⟩
  have R1 := Lib.hid hr
  rw [hr] at HR
  clear hr
  have qOG := OG.out.cell; have zOG := OG.out.lt; have fOG := OG.out.frozen
  go_wp2_with fail
  refine (HR.out).mono ?_
  rintro e w1 ⟨rfl, hbk⟩
  have hbz := Lib.hid hbk; clear hbk
  clear qOG zOG fOG
  have OG' := Lib.hid (OG.out.below' hbz.out)
  have OH' := Lib.hid (OH.out.below' hbz.out)
  have HA' := Lib.hid (HA.out.keep hbz.out)
  have HB' := Lib.hid (HB.out.keep hbz.out)
  have HU' := Lib.hid (HU.out.keep hbz.out)
  have hb' := Lib.hid (below_chain hb.out hbz.out)
  clear hb OG OH HA HB HU
  have hb := hb'; clear hb'
  have OG := OG'; clear OG'
  have OH := OH'; clear OH'
  have HA := HA'; clear HA'
  have HB := HB'; clear HB'
  have HU := HU'; clear HU'
  clear hbz
  clear HR
  cases r with
  | false =>
    go_wp2_with fail
    refine (awakeG_any w1 ((HT.out.on hb.out).mono hb.out.size)).mono ?_
    rintro e w2 ⟨rfl, hbk⟩
    have hbz := Lib.hid hbk; clear hbk
    have OG' := Lib.hid (OG.out.below' hbz.out)
    have OH' := Lib.hid (OH.out.below' hbz.out)
    have HA' := Lib.hid (HA.out.keep hbz.out)
    have HB' := Lib.hid (HB.out.keep hbz.out)
    have HU' := Lib.hid (HU.out.keep hbz.out)
    have hb' := Lib.hid (below_chain hb.out hbz.out)
    clear hb OG OH HA HB HU
    have hb := hb'; clear hb'
    have OG := OG'; clear OG'
    have OH := OH'; clear OH'
    have HA := HA'; clear HA'
    have HB := HB'; clear HB'
    have HU := HU'; clear HU'
    clear hbz
    go_wp2
    go_ret
    exact ⟨rfl, hb.out⟩
  | true =>
    have HR := Lib.hid (rightG_any M B m d F w1 HB.out)
    obtain ⟨r, hr⟩ : ∃ r, rightG M F = r := ⟨_, rfl⟩
    have R2 := Lib.hid hr
    rw [hr] at HR
    clear hr
    have qOH := OH.out.cell; have zOH := OH.out.lt; have fOH := OH.out.frozen
    go_wp2_with fail
    refine (HR.out).mono ?_
    rintro e w2 ⟨rfl, hbk⟩
    have hbz := Lib.hid hbk; clear hbk
    clear qOH zOH fOH
    have OG' := Lib.hid (OG.out.below' hbz.out)
    have OH' := Lib.hid (OH.out.below' hbz.out)
    have HA' := Lib.hid (HA.out.keep hbz.out)
    have HB' := Lib.hid (HB.out.keep hbz.out)
    have HU' := Lib.hid (HU.out.keep hbz.out)
    have hb' := Lib.hid (below_chain hb.out hbz.out)
    clear hb OG OH HA HB HU
    have hb := hb'; clear hb'
    have OG := OG'; clear OG'
    have OH := OH'; clear OH'
    have HA := HA'; clear HA'
    have HB := HB'; clear HB'
    have HU := HU'; clear HU'
    clear hbz
    clear HR
    cases r with
    | false =>
      go_wp2_with fail
      refine (awakeG_any w2 ((HT.out.on hb.out).mono hb.out.size)).mono ?_
      rintro e w3 ⟨rfl, hbk⟩
      have hbz := Lib.hid hbk; clear hbk
      have OG' := Lib.hid (OG.out.below' hbz.out)
      have OH' := Lib.hid (OH.out.below' hbz.out)
      have HA' := Lib.hid (HA.out.keep hbz.out)
      have HB' := Lib.hid (HB.out.keep hbz.out)
      have HU' := Lib.hid (HU.out.keep hbz.out)
      have hb' := Lib.hid (below_chain hb.out hbz.out)
      clear hb OG OH HA HB HU
      have hb := hb'; clear hb'
      have OG := OG'; clear OG'
      have OH := OH'; clear OH'
      have HA := HA'; clear HA'
      have HB := HB'; clear HB'
      have HU := HU'; clear HU'
      clear hbz
      go_wp2
      go_ret
      exact ⟨rfl, hb.out⟩
    | true =>
      have RG := Lib.hid (rightG_iff.1 R1.out); have RH := Lib.hid (rightG_iff.1 R2.out)
      have hn5 : n ≤ 594 := by have := RG.out.len; have := HL.out; omega
      have hby := fun W (h : ArgE W A n c E) => bytesG_any N A n c E W h
      have hbz := fun W (h : ArgE W B m d F) => bytesG_any M B m d F W h
      rw [bytesO_right RG.out] at hby
      rw [bytesO_right RH.out] at hbz
      have hrd := readO_back RG.out
      have hsm := bytes_same RG.out RH.out
      have hnb : (knotsS (numsG N E)).1 / 8 + 1 ≤ 140737488351232 := by have := (knotsG_RS RG.out).le; omega
      simp only [BytesPost] at hby hbz
      obtain ⟨fb, hfb⟩ : ∃ f, packF (knotsS (numsG N E)).2 (knotsS (numsG N E)).1 = f := ⟨_, rfl⟩
      obtain ⟨nb, hnb2⟩ : ∃ f, (knotsS (numsG N E)).1 / 8 + 1 = f := ⟨_, rfl⟩
      obtain ⟨fc, hfc⟩ : ∃ f, packF (knotsS (numsG M F)).2 (knotsS (numsG M F)).1 = f := ⟨_, rfl⟩
      obtain ⟨nc, hnc2⟩ : ∃ f, (knotsS (numsG M F)).1 / 8 + 1 = f := ⟨_, rfl⟩
      rw [hfb, hnb2] at hby hrd hsm
      rw [hfc, hnc2] at hbz hsm
      rw [hnb2] at hnb
      have htx := fun W (h : ArgE W A n c E) ht => text_any N A n c E W h ht
      have hty := fun W (h : ArgE W B m d F) ht => text_any M B m d F W h ht
      rw [show textO N E = some (textG N E) from if_pos R1.out] at htx
      rw [show textO M F = some (textG M F) from if_pos R2.out] at hty
      simp only [TextV] at htx hty
      have hp1 := parO_right RG.out
      have hlt := textG_len RG.out
      have hst : ((strB (textG N E)).toList == (strB (textG M F)).toList) = ((N == M) && (E == F)) := by rw [strB_toList, strB_toList]; exact text_same RG.out RH.out
      obtain ⟨T1, hT1⟩ : ∃ T, textG N E = T := ⟨_, rfl⟩
      obtain ⟨T2, hT2⟩ : ∃ T, textG M F = T := ⟨_, rfl⟩
      rw [hT1] at htx hp1 hst hlt
      rw [hT2] at hty hst
      have hsh := fun W (h : ArgE W A n c E) (hu : ArgU W U nu cu us) ht => shown_any N A U n c nu cu E us W h hu RG.out ht
      have hp3 := shown_parse us RG.out
      have hl3 := shown_len us RG.out
      rw [HL.out] at hsh
      obtain ⟨T3, hT3⟩ : ∃ T, textG N (shufK us E E.length) = T := ⟨_, rfl⟩
      rw [hT3] at hsh hp3 hl3
      rw [← HL.out] at hsh
      have hsg := fun W (h1 : ArgE W A n c E) (h2 : ArgE W B m d F) => sameGraph_any N M A B c d n m E F W h1 h2
      obtain ⟨sm, hsme⟩ : ∃ b, ((N == M) && (E == F)) = b := ⟨_, rfl⟩
      rw [hsme] at hsm hst hsg
      have BY := Lib.hid hby; have BZ := Lib.hid hbz; have HRD := Lib.hid hrd; have HSB := Lib.hid hsm
      have TX := Lib.hid htx; have TY := Lib.hid hty; have HP1 := Lib.hid hp1; have HST := Lib.hid hst
      have SH := Lib.hid hsh; have HP3 := Lib.hid hp3; have SG := Lib.hid hsg
      clear hby hbz hrd hsm htx hty hp1 hst hsh hp3 hsg hfb hnb2 hfc hnc2 hT1 hT2 hT3 hsme R1 R2
      have qOG := OG.out.cell; have zOG := OG.out.lt; have fOG := OG.out.frozen
      go_wp2_with fail
      refine (BY.out w2 HA.out).mono ?_
      rintro e w3 ⟨gb, rfl, hgb, hob, hbk⟩
      have hbz := Lib.hid hbk; clear hbk
      have OB := Lib.hid (hob)
      clear qOG zOG fOG
      have OG' := Lib.hid (OG.out.below' hbz.out)
      have OH' := Lib.hid (OH.out.below' hbz.out)
      have HA' := Lib.hid (HA.out.keep hbz.out)
      have HB' := Lib.hid (HB.out.keep hbz.out)
      have HU' := Lib.hid (HU.out.keep hbz.out)
      have hb' := Lib.hid (below_chain hb.out hbz.out)
      clear hb OG OH HA HB HU
      have hb := hb'; clear hb'
      have OG := OG'; clear OG'
      have OH := OH'; clear OH'
      have HA := HA'; clear HA'
      have HB := HB'; clear HB'
      have HU := HU'; clear HU'
      clear hbz
      clear hob hgb
      have TXc := Lib.hid (TX.out _ HA.out ((HT.out.on hb.out).mono hb.out.size))
      have qOG := OG.out.cell; have zOG := OG.out.lt; have fOG := OG.out.frozen
      go_wp2_with fail
      refine (TXc.out).mono ?_
      rintro e w4 ⟨rfl, hbk⟩
      have hbz := Lib.hid hbk; clear hbk
      clear qOG zOG fOG
      have OG' := Lib.hid (OG.out.below' hbz.out)
      have OH' := Lib.hid (OH.out.below' hbz.out)
      have HA' := Lib.hid (HA.out.keep hbz.out)
      have HB' := Lib.hid (HB.out.keep hbz.out)
      have HU' := Lib.hid (HU.out.keep hbz.out)
      have OB' := Lib.hid (OB.out.below' hbz.out)
      have hb' := Lib.hid (below_chain hb.out hbz.out)
      clear hb OG OH HA HB HU OB
      have hb := hb'; clear hb'
      have OG := OG'; clear OG'
      have OH := OH'; clear OH'
      have HA := HA'; clear HA'
      have HB := HB'; clear HB'
      have HU := HU'; clear HU'
      have OB := OB'; clear OB'
      clear hbz
      clear TXc
      have qOH := OH.out.cell; have zOH := OH.out.lt; have fOH := OH.out.frozen
      go_wp2_with fail
      refine (BZ.out w4 HB.out).mono ?_
      rintro e w5 ⟨gc, rfl, hgc, hoc, hbk⟩
      have hbz := Lib.hid hbk; clear hbk
      have OC := Lib.hid (hoc)
      clear qOH zOH fOH
      have OG' := Lib.hid (OG.out.below' hbz.out)
      have OH' := Lib.hid (OH.out.below' hbz.out)
      have HA' := Lib.hid (HA.out.keep hbz.out)
      have HB' := Lib.hid (HB.out.keep hbz.out)
      have HU' := Lib.hid (HU.out.keep hbz.out)
      have OB' := Lib.hid (OB.out.below' hbz.out)
      have hb' := Lib.hid (below_chain hb.out hbz.out)
      clear hb OG OH HA HB HU OB
      have hb := hb'; clear hb'
      have OG := OG'; clear OG'
      have OH := OH'; clear OH'
      have HA := HA'; clear HA'
      have HB := HB'; clear HB'
      have HU := HU'; clear HU'
      have OB := OB'; clear OB'
      clear hbz
      clear hoc hgc
      have TYc := Lib.hid (TY.out _ HB.out ((HT.out.on hb.out).mono hb.out.size))
      have qOH := OH.out.cell; have zOH := OH.out.lt; have fOH := OH.out.frozen
      go_wp2_with fail
      refine (TYc.out).mono ?_
      rintro e w6 ⟨rfl, hbk⟩
      have hbz := Lib.hid hbk; clear hbk
      clear qOH zOH fOH
      have OG' := Lib.hid (OG.out.below' hbz.out)
      have OH' := Lib.hid (OH.out.below' hbz.out)
      have HA' := Lib.hid (HA.out.keep hbz.out)
      have HB' := Lib.hid (HB.out.keep hbz.out)
      have HU' := Lib.hid (HU.out.keep hbz.out)
      have OB' := Lib.hid (OB.out.below' hbz.out)
      have OC' := Lib.hid (OC.out.below' hbz.out)
      have hb' := Lib.hid (below_chain hb.out hbz.out)
      clear hb OG OH HA HB HU OB OC
      have hb := hb'; clear hb'
      have OG := OG'; clear OG'
      have OH := OH'; clear OH'
      have HA := HA'; clear HA'
      have HB := HB'; clear HB'
      have HU := HU'; clear HU'
      have OB := OB'; clear OB'
      have OC := OC'; clear OC'
      clear hbz
      clear TYc
      have qOG := OG.out.cell; have zOG := OG.out.lt; have fOG := OG.out.frozen
      have qOH := OH.out.cell; have zOH := OH.out.lt; have fOH := OH.out.frozen
      go_wp2_with fail
      refine (SG.out _ HA.out HB.out).mono ?_
      rintro e w7 ⟨rfl, hbk⟩
      have hbz := Lib.hid hbk; clear hbk
      clear qOG zOG fOG
      clear qOH zOH fOH
      have OG' := Lib.hid (OG.out.below' hbz.out)
      have OH' := Lib.hid (OH.out.below' hbz.out)
      have HA' := Lib.hid (HA.out.keep hbz.out)
      have HB' := Lib.hid (HB.out.keep hbz.out)
      have HU' := Lib.hid (HU.out.keep hbz.out)
      have OB' := Lib.hid (OB.out.below' hbz.out)
      have OC' := Lib.hid (OC.out.below' hbz.out)
      have hb' := Lib.hid (below_chain hb.out hbz.out)
      clear hb OG OH HA HB HU OB OC
      have hb := hb'; clear hb'
      have OG := OG'; clear OG'
      have OH := OH'; clear OH'
      have HA := HA'; clear HA'
      have HB := HB'; clear HB'
      have HU := HU'; clear HU'
      have OB := OB'; clear OB'
      have OC := OC'; clear OC'
      clear hbz
      have RDc := Lib.hid (read_any (some ⟨gb, 0, none⟩) nb nb fb w7 OB.out.rd hnb)
      obtain ⟨hx1, hx2⟩ := readX_some HRD.out
      rw [hx1, hx2] at RDc
      clear hx1 hx2
      go_wp2_with fail
      refine (RDc.out).mono ?_
      rintro e w8 ⟨v5, rfl, hr5, hbk⟩
      have hbz := Lib.hid hbk; clear hbk
      have HR5 := Lib.hid (hr5)
      have OG' := Lib.hid (OG.out.below' hbz.out)
      have OH' := Lib.hid (OH.out.below' hbz.out)
      have HA' := Lib.hid (HA.out.keep hbz.out)
      have HB' := Lib.hid (HB.out.keep hbz.out)
      have HU' := Lib.hid (HU.out.keep hbz.out)
      have OB' := Lib.hid (OB.out.below' hbz.out)
      have OC' := Lib.hid (OC.out.below' hbz.out)
      have hb' := Lib.hid (below_chain hb.out hbz.out)
      clear hb OG OH HA HB HU OB OC
      have hb := hb'; clear hb'
      have OG := OG'; clear OG'
      have OH := OH'; clear OH'
      have HA := HA'; clear HA'
      have HB := HB'; clear HB'
      have HU := HU'; clear HU'
      have OB := OB'; clear OB'
      have OC := OC'; clear OC'
      clear hbz
      clear hr5 RDc
      obtain ⟨A5, c5, rfl, ha⟩ : ∃ A c, v5 = .slice A n c ∧ ArgE w8 A n c E := by
        obtain ⟨A, c, e, ha⟩ := HR5.out.arg (by have := RG.out.len; omega)
        rw [← HL.out] at e ha
        exact ⟨A, c, e, ha⟩
      have HX := Lib.hid ha; clear ha
      clear HR5
      obtain ⟨V1, hV1⟩ : ∃ W, w8.alloc (.cells #[.int .i64 N, .slice A5 n c5] 26) = W := ⟨_, rfl⟩
      have hbz := Lib.hid (show Below w8.heap.size w8 V1 from by rw [← hV1]; exact alloc_below _ _)
      have OX := Lib.hid (show Own V1 w8.heap.size 26 [.int .i64 N, .slice A5 n c5] from by rw [← hV1]; exact Own.new _ _ _)
      have OG' := Lib.hid (OG.out.below' hbz.out)
      have OH' := Lib.hid (OH.out.below' hbz.out)
      have HA' := Lib.hid (HA.out.keep hbz.out)
      have HB' := Lib.hid (HB.out.keep hbz.out)
      have HU' := Lib.hid (HU.out.keep hbz.out)
      have OB' := Lib.hid (OB.out.below' hbz.out)
      have OC' := Lib.hid (OC.out.below' hbz.out)
      have HX' := Lib.hid (HX.out.keep hbz.out)
      have hb' := Lib.hid (below_chain hb.out hbz.out)
      clear hb OG OH HA HB HU OB OC HX
      have hb := hb'; clear hb'
      have OG := OG'; clear OG'
      have OH := OH'; clear OH'
      have HA := HA'; clear HA'
      have HB := HB'; clear HB'
      have HU := HU'; clear HU'
      have OB := OB'; clear OB'
      have OC := OC'; clear OC'
      have HX := HX'; clear HX'
      clear hbz
      have PRc := Lib.hid (parse_any T1 V1 hlt)
      rw [HP1.out.1, HP1.out.2] at PRc
      have qOX := OX.out.cell; have zOX := OX.out.lt; have fOX := OX.out.frozen
      go_wp2_with fail
      refine (PRc.out).mono ?_
      rintro e w9 ⟨v6, rfl, hr6, hbk⟩
      have hbz := Lib.hid hbk; clear hbk
      have HR6 := Lib.hid (hr6)
      clear qOX zOX fOX
      have OG' := Lib.hid (OG.out.below' hbz.out)
      have OH' := Lib.hid (OH.out.below' hbz.out)
      have HA' := Lib.hid (HA.out.keep hbz.out)
      have HB' := Lib.hid (HB.out.keep hbz.out)
      have HU' := Lib.hid (HU.out.keep hbz.out)
      have OB' := Lib.hid (OB.out.below' hbz.out)
      have OC' := Lib.hid (OC.out.below' hbz.out)
      have HX' := Lib.hid (HX.out.keep hbz.out)
      have OX' := Lib.hid (OX.out.below' hbz.out)
      have hb' := Lib.hid (below_chain hb.out hbz.out)
      clear hb OG OH HA HB HU OB OC HX OX
      have hb := hb'; clear hb'
      have OG := OG'; clear OG'
      have OH := OH'; clear OH'
      have HA := HA'; clear HA'
      have HB := HB'; clear HB'
      have HU := HU'; clear HU'
      have OB := OB'; clear OB'
      have OC := OC'; clear OC'
      have HX := HX'; clear HX'
      have OX := OX'; clear OX'
      clear hbz
      clear hr6 PRc
      obtain ⟨A6, c6, rfl, ha⟩ : ∃ A c, v6 = .slice A n c ∧ ArgE w9 A n c E := by
        obtain ⟨A, c, e, ha⟩ := HR6.out.arg (by have := RG.out.len; omega)
        rw [← HL.out] at e ha
        exact ⟨A, c, e, ha⟩
      have HY := Lib.hid ha; clear ha
      clear HR6
      obtain ⟨V2, hV2⟩ : ∃ W, w9.alloc (.cells #[.int .i64 N, .slice A6 n c6] 26) = W := ⟨_, rfl⟩
      have hbz := Lib.hid (show Below w9.heap.size w9 V2 from by rw [← hV2]; exact alloc_below _ _)
      have OY := Lib.hid (show Own V2 w9.heap.size 26 [.int .i64 N, .slice A6 n c6] from by rw [← hV2]; exact Own.new _ _ _)
      have OG' := Lib.hid (OG.out.below' hbz.out)
      have OH' := Lib.hid (OH.out.below' hbz.out)
      have HA' := Lib.hid (HA.out.keep hbz.out)
      have HB' := Lib.hid (HB.out.keep hbz.out)
      have HU' := Lib.hid (HU.out.keep hbz.out)
      have OB' := Lib.hid (OB.out.below' hbz.out)
      have OC' := Lib.hid (OC.out.below' hbz.out)
      have HX' := Lib.hid (HX.out.keep hbz.out)
      have OX' := Lib.hid (OX.out.below' hbz.out)
      have HY' := Lib.hid (HY.out.keep hbz.out)
      have hb' := Lib.hid (below_chain hb.out hbz.out)
      clear hb OG OH HA HB HU OB OC HX OX HY
      have hb := hb'; clear hb'
      have OG := OG'; clear OG'
      have OH := OH'; clear OH'
      have HA := HA'; clear HA'
      have HB := HB'; clear HB'
      have HU := HU'; clear HU'
      have OB := OB'; clear OB'
      have OC := OC'; clear OC'
      have HX := HX'; clear HX'
      have OX := OX'; clear OX'
      have HY := HY'; clear HY'
      clear hbz
      have SHc := Lib.hid (SH.out _ HA.out HU.out ((HT.out.on hb.out).mono hb.out.size))
      have qOY := OY.out.cell; have zOY := OY.out.lt; have fOY := OY.out.frozen
      have qOG := OG.out.cell; have zOG := OG.out.lt; have fOG := OG.out.frozen
      go_wp2_with fail
      refine (SHc.out).mono ?_
      rintro e w10 ⟨rfl, hbk⟩
      have hbz := Lib.hid hbk; clear hbk
      clear qOY zOY fOY
      clear qOG zOG fOG
      have OG' := Lib.hid (OG.out.below' hbz.out)
      have OH' := Lib.hid (OH.out.below' hbz.out)
      have HA' := Lib.hid (HA.out.keep hbz.out)
      have HB' := Lib.hid (HB.out.keep hbz.out)
      have HU' := Lib.hid (HU.out.keep hbz.out)
      have OB' := Lib.hid (OB.out.below' hbz.out)
      have OC' := Lib.hid (OC.out.below' hbz.out)
      have HX' := Lib.hid (HX.out.keep hbz.out)
      have OX' := Lib.hid (OX.out.below' hbz.out)
      have HY' := Lib.hid (HY.out.keep hbz.out)
      have OY' := Lib.hid (OY.out.below' hbz.out)
      have hb' := Lib.hid (below_chain hb.out hbz.out)
      clear hb OG OH HA HB HU OB OC HX OX HY OY
      have hb := hb'; clear hb'
      have OG := OG'; clear OG'
      have OH := OH'; clear OH'
      have HA := HA'; clear HA'
      have HB := HB'; clear HB'
      have HU := HU'; clear HU'
      have OB := OB'; clear OB'
      have OC := OC'; clear OC'
      have HX := HX'; clear HX'
      have OX := OX'; clear OX'
      have HY := HY'; clear HY'
      have OY := OY'; clear OY'
      clear hbz
      clear SHc
      have PSc := Lib.hid (parse_any T3 w10 hl3)
      rw [HP3.out.1, HP3.out.2] at PSc
      go_wp2_with fail
      refine (PSc.out).mono ?_
      rintro e w11 ⟨v8, rfl, hr8, hbk⟩
      have hbz := Lib.hid hbk; clear hbk
      have HR8 := Lib.hid (hr8)
      have OG' := Lib.hid (OG.out.below' hbz.out)
      have OH' := Lib.hid (OH.out.below' hbz.out)
      have HA' := Lib.hid (HA.out.keep hbz.out)
      have HB' := Lib.hid (HB.out.keep hbz.out)
      have HU' := Lib.hid (HU.out.keep hbz.out)
      have OB' := Lib.hid (OB.out.below' hbz.out)
      have OC' := Lib.hid (OC.out.below' hbz.out)
      have HX' := Lib.hid (HX.out.keep hbz.out)
      have OX' := Lib.hid (OX.out.below' hbz.out)
      have HY' := Lib.hid (HY.out.keep hbz.out)
      have OY' := Lib.hid (OY.out.below' hbz.out)
      have hb' := Lib.hid (below_chain hb.out hbz.out)
      clear hb OG OH HA HB HU OB OC HX OX HY OY
      have hb := hb'; clear hb'
      have OG := OG'; clear OG'
      have OH := OH'; clear OH'
      have HA := HA'; clear HA'
      have HB := HB'; clear HB'
      have HU := HU'; clear HU'
      have OB := OB'; clear OB'
      have OC := OC'; clear OC'
      have HX := HX'; clear HX'
      have OX := OX'; clear OX'
      have HY := HY'; clear HY'
      have OY := OY'; clear OY'
      clear hbz
      clear hr8 PSc
      obtain ⟨A8, c8, rfl, ha⟩ : ∃ A c, v8 = .slice A n c ∧ ArgE w11 A n c E := by
        obtain ⟨A, c, e, ha⟩ := HR8.out.arg (by have := RG.out.len; omega)
        rw [← HL.out] at e ha
        exact ⟨A, c, e, ha⟩
      have HZ := Lib.hid ha; clear ha
      clear HR8
      obtain ⟨V3, hV3⟩ : ∃ W, w11.alloc (.cells #[.int .i64 N, .slice A8 n c8] 26) = W := ⟨_, rfl⟩
      have hbz := Lib.hid (show Below w11.heap.size w11 V3 from by rw [← hV3]; exact alloc_below _ _)
      have OZ := Lib.hid (show Own V3 w11.heap.size 26 [.int .i64 N, .slice A8 n c8] from by rw [← hV3]; exact Own.new _ _ _)
      have OG' := Lib.hid (OG.out.below' hbz.out)
      have OH' := Lib.hid (OH.out.below' hbz.out)
      have HA' := Lib.hid (HA.out.keep hbz.out)
      have HB' := Lib.hid (HB.out.keep hbz.out)
      have HU' := Lib.hid (HU.out.keep hbz.out)
      have OB' := Lib.hid (OB.out.below' hbz.out)
      have OC' := Lib.hid (OC.out.below' hbz.out)
      have HX' := Lib.hid (HX.out.keep hbz.out)
      have OX' := Lib.hid (OX.out.below' hbz.out)
      have HY' := Lib.hid (HY.out.keep hbz.out)
      have OY' := Lib.hid (OY.out.below' hbz.out)
      have HZ' := Lib.hid (HZ.out.keep hbz.out)
      have hb' := Lib.hid (below_chain hb.out hbz.out)
      clear hb OG OH HA HB HU OB OC HX OX HY OY HZ
      have hb := hb'; clear hb'
      have OG := OG'; clear OG'
      have OH := OH'; clear OH'
      have HA := HA'; clear HA'
      have HB := HB'; clear HB'
      have HU := HU'; clear HU'
      have OB := OB'; clear OB'
      have OC := OC'; clear OC'
      have HX := HX'; clear HX'
      have OX := OX'; clear OX'
      have HY := HY'; clear HY'
      have OY := OY'; clear OY'
      have HZ := HZ'; clear HZ'
      clear hbz
      have SSc := Lib.hid (sameGraph_any N N A5 A c5 c n n E E V3 HX.out HA.out)
      rw [self_same] at SSc
      have qOZ := OZ.out.cell; have zOZ := OZ.out.lt; have fOZ := OZ.out.frozen
      have qOX := OX.out.cell; have zOX := OX.out.lt; have fOX := OX.out.frozen
      have qOG := OG.out.cell; have zOG := OG.out.lt; have fOG := OG.out.frozen
      go_wp2_with fail
      refine (SSc.out).mono ?_
      rintro e w12 ⟨rfl, hbk⟩
      have hbz := Lib.hid hbk; clear hbk
      clear qOZ zOZ fOZ
      clear qOX zOX fOX
      clear qOG zOG fOG
      have OG' := Lib.hid (OG.out.below' hbz.out)
      have OH' := Lib.hid (OH.out.below' hbz.out)
      have HA' := Lib.hid (HA.out.keep hbz.out)
      have HB' := Lib.hid (HB.out.keep hbz.out)
      have HU' := Lib.hid (HU.out.keep hbz.out)
      have OB' := Lib.hid (OB.out.below' hbz.out)
      have OC' := Lib.hid (OC.out.below' hbz.out)
      have HX' := Lib.hid (HX.out.keep hbz.out)
      have OX' := Lib.hid (OX.out.below' hbz.out)
      have HY' := Lib.hid (HY.out.keep hbz.out)
      have OY' := Lib.hid (OY.out.below' hbz.out)
      have HZ' := Lib.hid (HZ.out.keep hbz.out)
      have OZ' := Lib.hid (OZ.out.below' hbz.out)
      have hb' := Lib.hid (below_chain hb.out hbz.out)
      clear hb OG OH HA HB HU OB OC HX OX HY OY HZ OZ
      have hb := hb'; clear hb'
      have OG := OG'; clear OG'
      have OH := OH'; clear OH'
      have HA := HA'; clear HA'
      have HB := HB'; clear HB'
      have HU := HU'; clear HU'
      have OB := OB'; clear OB'
      have OC := OC'; clear OC'
      have HX := HX'; clear HX'
      have OX := OX'; clear OX'
      have HY := HY'; clear HY'
      have OY := OY'; clear OY'
      have HZ := HZ'; clear HZ'
      have OZ := OZ'; clear OZ'
      clear hbz
      clear SSc
      have SSc := Lib.hid (sameGraph_any N N A6 A c6 c n n E E w12 HY.out HA.out)
      rw [self_same] at SSc
      have qOY := OY.out.cell; have zOY := OY.out.lt; have fOY := OY.out.frozen
      have qOG := OG.out.cell; have zOG := OG.out.lt; have fOG := OG.out.frozen
      go_wp2_with fail
      refine (SSc.out).mono ?_
      rintro e w13 ⟨rfl, hbk⟩
      have hbz := Lib.hid hbk; clear hbk
      clear qOY zOY fOY
      clear qOG zOG fOG
      have OG' := Lib.hid (OG.out.below' hbz.out)
      have OH' := Lib.hid (OH.out.below' hbz.out)
      have HA' := Lib.hid (HA.out.keep hbz.out)
      have HB' := Lib.hid (HB.out.keep hbz.out)
      have HU' := Lib.hid (HU.out.keep hbz.out)
      have OB' := Lib.hid (OB.out.below' hbz.out)
      have OC' := Lib.hid (OC.out.below' hbz.out)
      have HX' := Lib.hid (HX.out.keep hbz.out)
      have OX' := Lib.hid (OX.out.below' hbz.out)
      have HY' := Lib.hid (HY.out.keep hbz.out)
      have OY' := Lib.hid (OY.out.below' hbz.out)
      have HZ' := Lib.hid (HZ.out.keep hbz.out)
      have OZ' := Lib.hid (OZ.out.below' hbz.out)
      have hb' := Lib.hid (below_chain hb.out hbz.out)
      clear hb OG OH HA HB HU OB OC HX OX HY OY HZ OZ
      have hb := hb'; clear hb'
      have OG := OG'; clear OG'
      have OH := OH'; clear OH'
      have HA := HA'; clear HA'
      have HB := HB'; clear HB'
      have HU := HU'; clear HU'
      have OB := OB'; clear OB'
      have OC := OC'; clear OC'
      have HX := HX'; clear HX'
      have OX := OX'; clear OX'
      have HY := HY'; clear HY'
      have OY := OY'; clear OY'
      have HZ := HZ'; clear HZ'
      have OZ := OZ'; clear OZ'
      clear hbz
      clear SSc
      have SSc := Lib.hid (sameGraph_any N N A8 A c8 c n n E E w13 HZ.out HA.out)
      rw [self_same] at SSc
      have qOZ := OZ.out.cell; have zOZ := OZ.out.lt; have fOZ := OZ.out.frozen
      have qOG := OG.out.cell; have zOG := OG.out.lt; have fOG := OG.out.frozen
      go_wp2_with fail
      refine (SSc.out).mono ?_
      rintro e w14 ⟨rfl, hbk⟩
      have hbz := Lib.hid hbk; clear hbk
      clear qOZ zOZ fOZ
      clear qOG zOG fOG
      have OG' := Lib.hid (OG.out.below' hbz.out)
      have OH' := Lib.hid (OH.out.below' hbz.out)
      have HA' := Lib.hid (HA.out.keep hbz.out)
      have HB' := Lib.hid (HB.out.keep hbz.out)
      have HU' := Lib.hid (HU.out.keep hbz.out)
      have OB' := Lib.hid (OB.out.below' hbz.out)
      have OC' := Lib.hid (OC.out.below' hbz.out)
      have HX' := Lib.hid (HX.out.keep hbz.out)
      have OX' := Lib.hid (OX.out.below' hbz.out)
      have HY' := Lib.hid (HY.out.keep hbz.out)
      have OY' := Lib.hid (OY.out.below' hbz.out)
      have HZ' := Lib.hid (HZ.out.keep hbz.out)
      have OZ' := Lib.hid (OZ.out.below' hbz.out)
      have hb' := Lib.hid (below_chain hb.out hbz.out)
      clear hb OG OH HA HB HU OB OC HX OX HY OY HZ OZ
      have hb := hb'; clear hb'
      have OG := OG'; clear OG'
      have OH := OH'; clear OH'
      have HA := HA'; clear HA'
      have HB := HB'; clear HB'
      have HU := HU'; clear HU'
      have OB := OB'; clear OB'
      have OC := OC'; clear OC'
      have HX := HX'; clear HX'
      have OX := OX'; clear OX'
      have HY := HY'; clear HY'
      have OY := OY'; clear OY'
      have HZ := HZ'; clear HZ'
      have OZ := OZ'; clear OZ'
      clear hbz
      clear SSc
      have SBc := Lib.hid (sameBytes_any (some ⟨gb, 0, none⟩) (some ⟨gc, 0, none⟩) nb nb nc nc fb fc w14 OB.out.rd OC.out.rd)
      rw [HSB.out] at SBc
      have hst := HST.out
      go_wp2_with fail
      refine SBc.out.mono ?_
      rintro e _ ⟨rfl, rfl⟩
      go_wp2_with fail
      refine (awakeG_any w14 ((HT.out.on hb.out).mono hb.out.size)).mono ?_
      rintro e w15 ⟨rfl, hbk⟩
      have hbz := Lib.hid hbk; clear hbk
      have OG' := Lib.hid (OG.out.below' hbz.out)
      have OH' := Lib.hid (OH.out.below' hbz.out)
      have HA' := Lib.hid (HA.out.keep hbz.out)
      have HB' := Lib.hid (HB.out.keep hbz.out)
      have HU' := Lib.hid (HU.out.keep hbz.out)
      have OB' := Lib.hid (OB.out.below' hbz.out)
      have OC' := Lib.hid (OC.out.below' hbz.out)
      have HX' := Lib.hid (HX.out.keep hbz.out)
      have OX' := Lib.hid (OX.out.below' hbz.out)
      have HY' := Lib.hid (HY.out.keep hbz.out)
      have OY' := Lib.hid (OY.out.below' hbz.out)
      have HZ' := Lib.hid (HZ.out.keep hbz.out)
      have OZ' := Lib.hid (OZ.out.below' hbz.out)
      have hb' := Lib.hid (below_chain hb.out hbz.out)
      clear hb OG OH HA HB HU OB OC HX OX HY OY HZ OZ
      have hb := hb'; clear hb'
      have OG := OG'; clear OG'
      have OH := OH'; clear OH'
      have HA := HA'; clear HA'
      have HB := HB'; clear HB'
      have HU := HU'; clear HU'
      have OB := OB'; clear OB'
      have OC := OC'; clear OC'
      have HX := HX'; clear HX'
      have OX := OX'; clear OX'
      have HY := HY'; clear HY'
      have OY := OY'; clear OY'
      have HZ := HZ'; clear HZ'
      have OZ := OZ'; clear OZ'
      clear hbz
      go_wp2
      go_ret
      exact ⟨rfl, hb.out⟩
end Go.Proofs.YtljihclpgpmfeaaDoor
