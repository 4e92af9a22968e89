/- Walk: fretworklaw02.GraphMade. -/
import Derived.Test.YtljihclpgpmfeaaDoorMa
import Derived.Test.YtljihclpgpmfeaaDoorBk
namespace Go.Proofs.YtljihclpgpmfeaaDoor
set_option maxRecDepth 100000
open Go.RowKit
attribute [local go_sem] Oper.semAt_some

def tblM7 (gb : Nat) (N : Int) (kk : Int) (pk : Int) (B : Nat) : List Pst := [Pst.val (.pointer (some ⟨gb, 0, none⟩)), Pst.val (.int .i64 N), Pst.val (.agg #[.int .i64 N, .int .i64 0]), Pst.val (.pointer (some ⟨gb, 0, none⟩)), Pst.val (.int .i64 N), Pst.val (.agg #[.int .i64 0, .int .i64 N]), Pst.val (.agg #[.int .i64 (-1), .int .i64 0]), Pst.val (.int .i64 kk), Pst.val (.pointer (some ⟨gb, 0, none⟩)), Pst.val (.int .i64 N), Pst.val (.int .i64 pk), Pst.val (.int .i64 kk), Pst.val (.pointer (some ⟨gb, 0, none⟩)), Pst.val (.int .i64 N), Pst.val (.int .i64 pk), Pst.val (.agg #[.int .i64 pk, .int .i64 pk]), Pst.own2 B 4 (cellsE (wrong4 N pk)), Pst.own2 B 4 (cellsE (wrong4 N pk))]
def tblM9 (gb : Nat) (A : Option Addr) (ba : Nat) (oa : Nat) (n : Nat) (c : Nat) (p2 : Nat) (e0 : Int) (e1 : Int) (kk : Int) (B : Nat) : List Pst := [Pst.val (.pointer (some ⟨gb, 1, none⟩)), Pst.val (.slice A n c), Pst.val (.int .i64 kk), Pst.val (.pointer (some ⟨gb, 1, none⟩)), Pst.val (.slice A n c), Pst.val (.int .i64 (n : Nat)), Pst.val (.int .i64 (p2 : Nat)), Pst.val (.pointer (some ⟨ba, oa + p2 * 2, none⟩)), Pst.val (.agg #[.int .i64 e0, .int .i64 e1]), Pst.ebox B]
def tblM14 (gb : Nat) (N : Int) (A : Option Addr) (n : Nat) (c : Nat) (E : List (Int × Int)) (x0 : Int) (x1 : Int) (B : Nat) : List Pst := [Pst.val (.pointer (some ⟨gb, 0, none⟩)), Pst.val (.int .i64 N), Pst.val (.pointer (some ⟨gb, 1, none⟩)), Pst.val (.slice A n c), Pst.edg B n E, Pst.val (.agg #[.int .i64 x0, .int .i64 x1]), Pst.own2 B 1 [.int .i64 x0, .int .i64 x1], Pst.edg B (n + 1) (E ++ [(x0, x1)]), Pst.val (.tuple #[.agg #[.int .i64 0, .slice Option.none 0 0], .int .i64 20]), Pst.val (.tuple #[.agg #[.int .i64 0, .slice Option.none 0 0], .int .i64 20]), Pst.val (.agg #[.int .i64 0, .slice Option.none 0 0]), Pst.val (.int .i64 20), Pst.gbox B, Pst.none, Pst.val (.int .i64 20)]
set_option maxRecDepth 100000 in
set_option maxHeartbeats 16000000 in
theorem graphMade_true (N kk : Int) (A U : Option Addr) (n c nu cu : Nat) (E : List (Int × Int)) (us : List Nat) (w : World) (h : ArgE w A n c E) (hu : ArgU w U nu cu us) (ht : TabW w.heap.size w) :
    Calls Tryd.prog 7 #[.agg #[.int .i64 N, .slice A n c], .slice U nu cu, .int .i64 kk] w fun e w' => e = .returned (.bool true) ∧ Below w.heap.size w w' := by
  have HA0 := Lib.hid h; have HU0 := Lib.hid hu
  have HT := Lib.hid ht
  have HL := Lib.hid h.len
  have hnu := hu.le
  clear h hu ht
  obtain ⟨W1, hW1⟩ : ∃ W, w.alloc (.cells #[.int .i64 N, .slice A n c] 26) = W := ⟨_, rfl⟩
  have hb := Lib.hid (show Below w.heap.size w W1 from by rw [← hW1]; exact alloc_below _ _)
  have OG := Lib.hid (show Own W1 w.heap.size 26 [.int .i64 N, .slice A n c] from by rw [← hW1]; exact Own.new' rfl)
  have HA := Lib.hid (HA0.out.keep hb.out); have HU := Lib.hid (HU0.out.keep hb.out)
  clear HA0 HU0
  go_enter Tryd.func7, Tryd.ntmps7
  have HR := Lib.hid (rightG_any N A n c E W1 HA.out)
  obtain ⟨r, hr⟩ : ∃ r, rightG N E = r := ⟨_, rfl⟩
  have R1 := Lib.hid hr
  rw [hr] at HR
  clear hr
  have qOG := OG.out.cell; have zOG := OG.out.lt; have fOG := OG.out.frozen
  go_wp2_with fail
  refine (HR.out).mono ?_
  rintro e w1 ⟨rfl, hbk⟩
  have hbz := Lib.hid hbk; clear hbk
  clear qOG zOG fOG
  have OG' := Lib.hid (OG.out.below' hbz.out)
  have HA' := Lib.hid (HA.out.keep hbz.out)
  have HU' := Lib.hid (HU.out.keep hbz.out)
  have hb' := Lib.hid (below_chain hb.out hbz.out)
  clear hb OG HA HU
  have hb := hb'; clear hb'
  have OG := OG'; clear OG'
  have HA := HA'; clear HA'
  have HU := HU'; clear HU'
  clear hbz
  clear HR
  cases r with
  | false =>
    go_wp2_with fail
    refine (awakeG_any w1 ((HT.out.on hb.out).mono hb.out.size)).mono ?_
    rintro e w2 ⟨rfl, hbk⟩
    have hbz := Lib.hid hbk; clear hbk
    have OG' := Lib.hid (OG.out.below' hbz.out)
    have HA' := Lib.hid (HA.out.keep hbz.out)
    have HU' := Lib.hid (HU.out.keep hbz.out)
    have hb' := Lib.hid (below_chain hb.out hbz.out)
    clear hb OG HA HU
    have hb := hb'; clear hb'
    have OG := OG'; clear OG'
    have HA := HA'; clear HA'
    have HU := HU'; clear HU'
    clear hbz
    go_wp2
    go_ret
    exact ⟨rfl, hb.out⟩
  | true =>
    by_cases h1k : 1000 < nu
    · have d1 : decide ((1000 : Int) < (nu : Int)) = true := decide_eq_true (by omega)
      clear h1k
      go_wp2_with fail
      refine (awakeG_any w1 ((HT.out.on hb.out).mono hb.out.size)).mono ?_
      rintro e w2 ⟨rfl, hbk⟩
      have hbz := Lib.hid hbk; clear hbk
      have OG' := Lib.hid (OG.out.below' hbz.out)
      have HA' := Lib.hid (HA.out.keep hbz.out)
      have HU' := Lib.hid (HU.out.keep hbz.out)
      have hb' := Lib.hid (below_chain hb.out hbz.out)
      clear hb OG HA HU
      have hb := hb'; clear hb'
      have OG := OG'; clear OG'
      have HA := HA'; clear HA'
      have HU := HU'; clear HU'
      clear hbz
      go_wp2
      go_ret
      exact ⟨rfl, hb.out⟩
    have d1 : decide ((1000 : Int) < (nu : Int)) = false := decide_eq_false (by omega)
    clear h1k
    have RG := Lib.hid (rightG_iff.1 R1.out)
    have hn5 : n ≤ 594 := by have := RG.out.len; have := HL.out; omega
    have hN0 := RG.out.n0
    have hN2 := RG.out.n1
    have hsh := fun W (h : ArgE W A n c E) (hu : ArgU W U nu cu us) ht => shown_any N A U n c nu cu E us W h hu RG.out ht
    have hp3 := shown_parse us RG.out
    have hl3 := shown_len us RG.out
    rw [HL.out] at hsh
    obtain ⟨T3, hT3⟩ : ∃ T, textG N (shufK us E E.length) = T := ⟨_, rfl⟩
    rw [hT3] at hsh hp3 hl3
    rw [← HL.out] at hsh
    have SH := Lib.hid hsh; have HP3 := Lib.hid hp3
    clear hsh hp3 hT3
    have SHc := Lib.hid (SH.out _ HA.out HU.out ((HT.out.on hb.out).mono hb.out.size))
    have qOG := OG.out.cell; have zOG := OG.out.lt; have fOG := OG.out.frozen
    go_wp2_with fail
    refine (SHc.out).mono ?_
    rintro e w2 ⟨rfl, hbk⟩
    have hbz := Lib.hid hbk; clear hbk
    clear qOG zOG fOG
    have OG' := Lib.hid (OG.out.below' hbz.out)
    have HA' := Lib.hid (HA.out.keep hbz.out)
    have HU' := Lib.hid (HU.out.keep hbz.out)
    have hb' := Lib.hid (below_chain hb.out hbz.out)
    clear hb OG HA HU
    have hb := hb'; clear hb'
    have OG := OG'; clear OG'
    have HA := HA'; clear HA'
    have HU := HU'; clear HU'
    clear hbz
    clear SHc
    have PSc := Lib.hid (parse_any T3 w2 hl3)
    rw [HP3.out.1, HP3.out.2] at PSc
    go_wp2_with fail
    refine (PSc.out).mono ?_
    rintro e w3 ⟨v3, rfl, hr3, hbk⟩
    have hbz := Lib.hid hbk; clear hbk
    have HR3 := Lib.hid (hr3)
    have OG' := Lib.hid (OG.out.below' hbz.out)
    have HA' := Lib.hid (HA.out.keep hbz.out)
    have HU' := Lib.hid (HU.out.keep hbz.out)
    have hb' := Lib.hid (below_chain hb.out hbz.out)
    clear hb OG HA HU
    have hb := hb'; clear hb'
    have OG := OG'; clear OG'
    have HA := HA'; clear HA'
    have HU := HU'; clear HU'
    clear hbz
    clear hr3 PSc
    obtain ⟨A3, c3, rfl, ha⟩ : ∃ A c, v3 = .slice A n c ∧ ArgE w3 A n c E := by
      obtain ⟨A, c, e, ha⟩ := HR3.out.arg (by have := RG.out.len; omega)
      rw [← HL.out] at e ha
      exact ⟨A, c, e, ha⟩
    have HZ := Lib.hid ha; clear ha
    clear HR3
    obtain ⟨V1, hV1⟩ : ∃ W, w3.alloc (.cells #[.int .i64 N, .slice A3 n c3] 26) = W := ⟨_, rfl⟩
    have hbz := Lib.hid (show Below w3.heap.size w3 V1 from by rw [← hV1]; exact alloc_below _ _)
    have OZ := Lib.hid (show Own V1 w3.heap.size 26 [.int .i64 N, .slice A3 n c3] from by rw [← hV1]; exact Own.new _ _ _)
    have OG' := Lib.hid (OG.out.below' hbz.out)
    have HA' := Lib.hid (HA.out.keep hbz.out)
    have HU' := Lib.hid (HU.out.keep hbz.out)
    have HZ' := Lib.hid (HZ.out.keep hbz.out)
    have hb' := Lib.hid (below_chain hb.out hbz.out)
    clear hb OG HA HU HZ
    have hb := hb'; clear hb'
    have OG := OG'; clear OG'
    have HA := HA'; clear HA'
    have HU := HU'; clear HU'
    have HZ := HZ'; clear HZ'
    clear hbz
    have NWc := Lib.hid (newG_any N A3 n c3 E V1 HZ.out)
    rw [newO_self RG.out] at NWc
    have qOG := OG.out.cell; have zOG := OG.out.lt; have fOG := OG.out.frozen
    have qOZ := OZ.out.cell; have zOZ := OZ.out.lt; have fOZ := OZ.out.frozen
    go_wp2_with fail
    refine (NWc.out).mono ?_
    rintro e w4 ⟨v4, rfl, hr4, hbk⟩
    have hbz := Lib.hid hbk; clear hbk
    have HR4 := Lib.hid (hr4)
    clear qOG zOG fOG
    clear qOZ zOZ fOZ
    have OG' := Lib.hid (OG.out.below' hbz.out)
    have HA' := Lib.hid (HA.out.keep hbz.out)
    have HU' := Lib.hid (HU.out.keep hbz.out)
    have HZ' := Lib.hid (HZ.out.keep hbz.out)
    have OZ' := Lib.hid (OZ.out.below' hbz.out)
    have hb' := Lib.hid (below_chain hb.out hbz.out)
    clear hb OG HA HU HZ OZ
    have hb := hb'; clear hb'
    have OG := OG'; clear OG'
    have HA := HA'; clear HA'
    have HU := HU'; clear HU'
    have HZ := HZ'; clear HZ'
    have OZ := OZ'; clear OZ'
    clear hbz
    clear hr4 NWc
    obtain ⟨A4, c4, rfl, ha⟩ : ∃ A c, v4 = .slice A n c ∧ ArgE w4 A n c E := by
      obtain ⟨A, c, e, ha⟩ := HR4.out.arg (by have := RG.out.len; omega)
      rw [← HL.out] at e ha
      exact ⟨A, c, e, ha⟩
    have HH := Lib.hid ha; clear ha
    clear HR4
    obtain ⟨V2, hV2⟩ : ∃ W, w4.alloc (.cells #[.int .i64 N, .slice A4 n c4] 26) = W := ⟨_, rfl⟩
    have hbz := Lib.hid (show Below w4.heap.size w4 V2 from by rw [← hV2]; exact alloc_below _ _)
    have OH := Lib.hid (show Own V2 w4.heap.size 26 [.int .i64 N, .slice A4 n c4] from by rw [← hV2]; exact Own.new _ _ _)
    have OG' := Lib.hid (OG.out.below' hbz.out)
    have HA' := Lib.hid (HA.out.keep hbz.out)
    have HU' := Lib.hid (HU.out.keep hbz.out)
    have HZ' := Lib.hid (HZ.out.keep hbz.out)
    have OZ' := Lib.hid (OZ.out.below' hbz.out)
    have HH' := Lib.hid (HH.out.keep hbz.out)
    have hb' := Lib.hid (below_chain hb.out hbz.out)
    clear hb OG HA HU HZ OZ HH
    have hb := hb'; clear hb'
    have OG := OG'; clear OG'
    have HA := HA'; clear HA'
    have HU := HU'; clear HU'
    have HZ := HZ'; clear HZ'
    have OZ := OZ'; clear OZ'
    have HH := HH'; clear HH'
    clear hbz
    have SSc := Lib.hid (sameGraph_any N N A A4 c c4 n n E E V2 HA.out HH.out)
    rw [self_same] at SSc
    have qOG := OG.out.cell; have zOG := OG.out.lt; have fOG := OG.out.frozen
    have qOH := OH.out.cell; have zOH := OH.out.lt; have fOH := OH.out.frozen
    go_wp2_with fail
    refine (SSc.out).mono ?_
    rintro e w5 ⟨rfl, hbk⟩
    have hbz := Lib.hid hbk; clear hbk
    clear qOG zOG fOG
    clear qOH zOH fOH
    have OG' := Lib.hid (OG.out.below' hbz.out)
    have HA' := Lib.hid (HA.out.keep hbz.out)
    have HU' := Lib.hid (HU.out.keep hbz.out)
    have HZ' := Lib.hid (HZ.out.keep hbz.out)
    have OZ' := Lib.hid (OZ.out.below' hbz.out)
    have HH' := Lib.hid (HH.out.keep hbz.out)
    have OH' := Lib.hid (OH.out.below' hbz.out)
    have hb' := Lib.hid (below_chain hb.out hbz.out)
    clear hb OG HA HU HZ OZ HH OH
    have hb := hb'; clear hb'
    have OG := OG'; clear OG'
    have HA := HA'; clear HA'
    have HU := HU'; clear HU'
    have HZ := HZ'; clear HZ'
    have OZ := OZ'; clear OZ'
    have HH := HH'; clear HH'
    have OH := OH'; clear OH'
    clear hbz
    clear SSc
    by_cases hmx : n = 594
    · have dmx : ((n : Int) == 594) = true := by rw [beq_iff_eq]; omega
      clear hmx
      have SSc := Lib.hid (sameGraph_any N N A A4 c c4 n n E E w5 HA.out HH.out)
      rw [self_same] at SSc
      have qOG := OG.out.cell; have zOG := OG.out.lt; have fOG := OG.out.frozen
      have qOH := OH.out.cell; have zOH := OH.out.lt; have fOH := OH.out.frozen
      go_wp2_with fail
      refine (SSc.out).mono ?_
      rintro e w6 ⟨rfl, hbk⟩
      have hbz := Lib.hid hbk; clear hbk
      clear qOG zOG fOG
      clear qOH zOH fOH
      have OG' := Lib.hid (OG.out.below' hbz.out)
      have HA' := Lib.hid (HA.out.keep hbz.out)
      have HU' := Lib.hid (HU.out.keep hbz.out)
      have HZ' := Lib.hid (HZ.out.keep hbz.out)
      have OZ' := Lib.hid (OZ.out.below' hbz.out)
      have HH' := Lib.hid (HH.out.keep hbz.out)
      have OH' := Lib.hid (OH.out.below' hbz.out)
      have hb' := Lib.hid (below_chain hb.out hbz.out)
      clear hb OG HA HU HZ OZ HH OH
      have hb := hb'; clear hb'
      have OG := OG'; clear OG'
      have HA := HA'; clear HA'
      have HU := HU'; clear HU'
      have HZ := HZ'; clear HZ'
      have OZ := OZ'; clear OZ'
      have HH := HH'; clear HH'
      have OH := OH'; clear OH'
      clear hbz
      clear SSc
      go_wp2_with fail
      refine (awakeG_any w6 ((HT.out.on hb.out).mono hb.out.size)).mono ?_
      rintro e w7 ⟨rfl, hbk⟩
      have hbz := Lib.hid hbk; clear hbk
      have OG' := Lib.hid (OG.out.below' hbz.out)
      have HA' := Lib.hid (HA.out.keep hbz.out)
      have HU' := Lib.hid (HU.out.keep hbz.out)
      have HZ' := Lib.hid (HZ.out.keep hbz.out)
      have OZ' := Lib.hid (OZ.out.below' hbz.out)
      have HH' := Lib.hid (HH.out.keep hbz.out)
      have OH' := Lib.hid (OH.out.below' hbz.out)
      have hb' := Lib.hid (below_chain hb.out hbz.out)
      clear hb OG HA HU HZ OZ HH OH
      have hb := hb'; clear hb'
      have OG := OG'; clear OG'
      have HA := HA'; clear HA'
      have HU := HU'; clear HU'
      have HZ := HZ'; clear HZ'
      have OZ := OZ'; clear OZ'
      have HH := HH'; clear HH'
      have OH := OH'; clear OH'
      clear hbz
      go_wp2
      go_ret
      exact ⟨rfl, hb.out⟩
    have dmx : ((n : Int) == 594) = false := by rw [beq_eq_false_iff_ne]; omega
    have hn4 : n < 594 := by omega
    clear hmx
    obtain ⟨pk, hpk⟩ : ∃ p, pickZ kk N = p := ⟨_, rfl⟩
    have hpick := fun W => pick_any kk N W (by omega)
    rw [hpk] at hpick
    have HPK := Lib.hid hpick
    have HPV := Lib.hid hpk
    clear hpick hpk
    have HBAD := Lib.hid (fun x (h : WrongE N E x) => newO_wrong RG.out (by have := HL.out; omega) h)
    clear OZ
    clear HZ
    clear OH
    clear HH
    clear HU
    have CG := Lib.hid (fun V (hV : Below w5.heap.size w5 V) => OG.out.below' hV)
    have qOG := OG.out.cell; have zOG := OG.out.lt; have fOG := OG.out.frozen
    go_wp2_with fail
    clear qOG zOG fOG
    refine region_posts (by kernel_rfl) (tblM7 w.heap.size N kk pk w5.heap.size) (by kernel_rfl) ?_ ?_
    · skip
      refine .yes rfl (fun a W Q hB hO hD => ?_) ?_
      · have e3 : a.tmps.getD 3 undef = .pointer (some ⟨w.heap.size, 0, none⟩) := hO.slot 3 _ rfl rfl
        clear hO hD
        go_wp2
        exact ⟨_, rfl, Below.refl _ _, rfl⟩
      refine .yes rfl (fun a W Q hB hO hD => ?_) ?_
      · have e69 : a.tmps.getD 69 undef = .pointer (some ⟨w.heap.size, 0, none⟩) := hD 0 rfl
        clear hO hD
        have hO2 := CG.out W hB
        have q := hO2.cell
        have z := hO2.lt
        go_wp2
        exact ⟨_, rfl, Below.refl _ _, rfl⟩
      refine .yes rfl (fun a W Q hB hO hD => ?_) ?_
      · have e70 : a.tmps.getD 70 undef = .int .i64 N := hD 1 rfl
        clear hO hD
        refine wp_build2 rfl (show a.eval (.tmp 70) = _ from e70) (show a.eval (.const (.int .i64 0)) = _ from rfl) ?_
        exact ⟨_, rfl, Below.refl _ _, rfl⟩
      refine .yes rfl (fun a W Q hB hO hD => ?_) ?_
      · have e3 : a.tmps.getD 3 undef = .pointer (some ⟨w.heap.size, 0, none⟩) := hO.slot 3 _ rfl rfl
        clear hO hD
        go_wp2
        exact ⟨_, rfl, Below.refl _ _, rfl⟩
      refine .yes rfl (fun a W Q hB hO hD => ?_) ?_
      · have e72 : a.tmps.getD 72 undef = .pointer (some ⟨w.heap.size, 0, none⟩) := hD 3 rfl
        clear hO hD
        have hO2 := CG.out W hB
        have q := hO2.cell
        have z := hO2.lt
        go_wp2
        exact ⟨_, rfl, Below.refl _ _, rfl⟩
      refine .yes rfl (fun a W Q hB hO hD => ?_) ?_
      · have e73 : a.tmps.getD 73 undef = .int .i64 N := hD 4 rfl
        clear hO hD
        refine wp_build2 rfl (show a.eval (.const (.int .i64 0)) = _ from rfl) (show a.eval (.tmp 73) = _ from e73) ?_
        exact ⟨_, rfl, Below.refl _ _, rfl⟩
      refine .yes rfl (fun a W Q hB hO hD => ?_) ?_
      · clear hO hD
        refine wp_build2 rfl (show a.eval (.const (.int .i64 (-1))) = _ from rfl) (show a.eval (.const (.int .i64 0)) = _ from rfl) ?_
        exact ⟨_, rfl, Below.refl _ _, rfl⟩
      refine .yes rfl (fun a W Q hB hO hD => ?_) ?_
      · have e2 : a.tmps.getD 2 undef = .int .i64 kk := hO.slot 2 _ rfl rfl
        clear hO hD
        go_wp2
        exact ⟨_, rfl, Below.refl _ _, rfl⟩
      refine .yes rfl (fun a W Q hB hO hD => ?_) ?_
      · have e3 : a.tmps.getD 3 undef = .pointer (some ⟨w.heap.size, 0, none⟩) := hO.slot 3 _ rfl rfl
        clear hO hD
        go_wp2
        exact ⟨_, rfl, Below.refl _ _, rfl⟩
      refine .yes rfl (fun a W Q hB hO hD => ?_) ?_
      · have e77 : a.tmps.getD 77 undef = .pointer (some ⟨w.heap.size, 0, none⟩) := hD 8 rfl
        clear hO hD
        have hO2 := CG.out W hB
        have q := hO2.cell
        have z := hO2.lt
        go_wp2
        exact ⟨_, rfl, Below.refl _ _, rfl⟩
      refine .yes rfl (fun a W Q hB hO hD => ?_) ?_
      · have e76 : a.tmps.getD 76 undef = .int .i64 kk := hD 7 rfl
        have e78 : a.tmps.getD 78 undef = .int .i64 N := hD 9 rfl
        clear hO hD
        go_wp2_with fail
        refine (HPK.out W).mono ?_
        rintro e _ ⟨rfl, rfl⟩
        go_wp2
        exact ⟨_, rfl, Below.refl _ _, rfl⟩
      refine .yes rfl (fun a W Q hB hO hD => ?_) ?_
      · have e2 : a.tmps.getD 2 undef = .int .i64 kk := hO.slot 2 _ rfl rfl
        clear hO hD
        go_wp2
        exact ⟨_, rfl, Below.refl _ _, rfl⟩
      refine .yes rfl (fun a W Q hB hO hD => ?_) ?_
      · have e3 : a.tmps.getD 3 undef = .pointer (some ⟨w.heap.size, 0, none⟩) := hO.slot 3 _ rfl rfl
        clear hO hD
        go_wp2
        exact ⟨_, rfl, Below.refl _ _, rfl⟩
      refine .yes rfl (fun a W Q hB hO hD => ?_) ?_
      · have e81 : a.tmps.getD 81 undef = .pointer (some ⟨w.heap.size, 0, none⟩) := hD 12 rfl
        clear hO hD
        have hO2 := CG.out W hB
        have q := hO2.cell
        have z := hO2.lt
        go_wp2
        exact ⟨_, rfl, Below.refl _ _, rfl⟩
      refine .yes rfl (fun a W Q hB hO hD => ?_) ?_
      · have e80 : a.tmps.getD 80 undef = .int .i64 kk := hD 11 rfl
        have e82 : a.tmps.getD 82 undef = .int .i64 N := hD 13 rfl
        clear hO hD
        go_wp2_with fail
        refine (HPK.out W).mono ?_
        rintro e _ ⟨rfl, rfl⟩
        go_wp2
        exact ⟨_, rfl, Below.refl _ _, rfl⟩
      refine .yes rfl (fun a W Q hB hO hD => ?_) ?_
      · have e79 : a.tmps.getD 79 undef = .int .i64 pk := hD 10 rfl
        have e83 : a.tmps.getD 83 undef = .int .i64 pk := hD 14 rfl
        clear hO hD
        refine wp_build2 rfl (show a.eval (.tmp 79) = _ from e79) (show a.eval (.tmp 83) = _ from e83) ?_
        exact ⟨_, rfl, Below.refl _ _, rfl⟩
      refine .yes rfl (fun a W Q hB hO hD => ?_) ?_
      · have e71 : a.tmps.getD 71 undef = .agg #[.int .i64 N, .int .i64 0] := hD 2 rfl
        have e74 : a.tmps.getD 74 undef = .agg #[.int .i64 0, .int .i64 N] := hD 5 rfl
        have e75 : a.tmps.getD 75 undef = .agg #[.int .i64 (-1), .int .i64 0] := hD 6 rfl
        have e84 : a.tmps.getD 84 undef = .agg #[.int .i64 pk, .int .i64 pk] := hD 15 rfl
        clear hO hD
        have f71 : a.tmps[71]?.getD undef = .agg #[.int .i64 N, .int .i64 0] := by rw [← Array.getD_eq_getD_getElem?]; exact e71
        have f74 : a.tmps[74]?.getD undef = .agg #[.int .i64 0, .int .i64 N] := by rw [← Array.getD_eq_getD_getElem?]; exact e74
        have f75 : a.tmps[75]?.getD undef = .agg #[.int .i64 (-1), .int .i64 0] := by rw [← Array.getD_eq_getD_getElem?]; exact e75
        have f84 : a.tmps[84]?.getD undef = .agg #[.int .i64 pk, .int .i64 pk] := by rw [← Array.getD_eq_getD_getElem?]; exact e84
        go_wp2
        exact ⟨_, rfl, alloc_below _ _, _, rfl, hB.size, by rw [cells_wrong4]; exact Own.new' rfl⟩
      refine .yes rfl (fun a W Q hB hO hD => ?_) ?_
      · obtain ⟨g85, e85, b85, h85⟩ : ∃ g, (a.tmps.getD 85 undef) = .slice (some ⟨g, 0, none⟩) 4 4 ∧ w5.heap.size ≤ g ∧ Own W g 49 (cellsE (wrong4 N pk)) := hD 16 rfl
        clear hO hD
        go_wp2
        exact ⟨_, rfl, Below.refl _ _, _, rfl, b85, h85⟩
      exact .nil
    · intro f V2 hBz hR
      obtain ⟨g7, e7, hg7, ho7⟩ : ∃ g, f 17 = .slice (some ⟨g, 0, none⟩) 4 4 ∧ w5.heap.size ≤ g ∧ Own V2 g 49 (cellsE (wrong4 N pk)) := hR 17 (by decide)
      have HO7 := Lib.hid ho7; have HG7 := Lib.hid hg7
      have hbz := Lib.hid hBz
      clear hR hBz ho7 hg7
      simp only [putAll, Nat.zero_add, Nat.reduceAdd, Act.put, List.setIfInBounds_toArray, List.set_cons_zero, List.set_cons_succ, e7]
      clear e7 CG
      have OGc := Lib.hid OG.out; have HAc := Lib.hid HA.out; have hbc := Lib.hid hb.out; have HBZ := Lib.hid hbz.out
      have OG' := Lib.hid (OG.out.below' hbz.out)
      have HA' := Lib.hid (HA.out.keep hbz.out)
      have hb' := Lib.hid (below_chain hb.out hbz.out)
      clear hb OG HA
      have hb := hb'; clear hb'
      have OG := OG'; clear OG'
      have HA := HA'; clear HA'
      clear hbz
      have HW4 := Lib.hid (RowE.made (B := w5.heap.size) HO7.out HG7.out (by show 4 ≤ 100000; decide))
      by_cases hn0 : n = 0
      · have d0 : decide ((0 : Int) < (n : Int)) = false := decide_eq_false (by omega)
        have d0n : decide (0 < n) = false := decide_eq_false (by omega)
        have HW := Lib.hid (show RowE w5.heap.size V2 (.slice (some ⟨g7, 0, none⟩) 4 4) (wrong4 N pk) from HW4.out)
        have HBADW := Lib.hid (show ∀ x ∈ wrong4 N pk, WrongE N E x from wrong4_bad RG.out pk)
        clear hn0
        have qOG := OG.out.cell; have zOG := OG.out.lt; have fOG := OG.out.frozen
        obtain ⟨Bw, hBw⟩ : ∃ W, W = V2 := ⟨_, rfl⟩
        have hbw := Lib.hid (Below.refl V2.heap.size V2)
        clear hBw
        go_wp2_with fail
        clear qOG zOG fOG
        go_loopw [6, 14, 15, 16, 110] (fun _ _ _ _ i wr => ∃ k : Nat, k ≤ 4 ∧ i = .int .i64 (k : Int) ∧ Hid (Below V2.heap.size V2 wr)) (fun _ _ _ _ i _ => 4 - (intOf i).toNat)
        case atStart => exact ⟨0, Nat.zero_le _, rfl, hbw⟩
        case round =>
          obtain ⟨k, hk, rfl, hB⟩ := hrel
          have OGr := Lib.hid (OG.out.below' hB.out)
          have HAr := Lib.hid (HA.out.keep hB.out)
          have hsz := hB.out.size
          by_cases hlt : k < 4
          · have HWr := Lib.hid (HW.out.below hB.out)
            have haw := HWr.out.toArg (by omega)
            obtain ⟨x, hx⟩ : ∃ x, (wrong4 N pk)[k]? = some x := ⟨_, List.getElem?_eq_getElem (by have := haw.len; omega)⟩
            obtain ⟨b6, of6, e6, hb6, hc6⟩ := rd_edge haw.rd (by have := haw.len; omega)
            obtain ⟨x0, x1⟩ := x
            obtain ⟨q0, q1⟩ := hc6 _ (Below.refl _ _) k _ hx
            have HNW := Lib.hid (HBAD.out _ (HBADW.out _ (List.mem_of_getElem? hx)))
            injection e6 with e6
            injection e6 with e61 e62
            subst e61; subst e62
            rw [Nat.zero_add] at q0 q1
            have HBv := Lib.hid (alloc_below wr (.cells #[.int .i64 x0, .int .i64 x1] 49))
            have CX := Lib.hid (fun V (hV : Below (wr.alloc (.cells #[.int .i64 x0, .int .i64 x1] 49)).heap.size (wr.alloc (.cells #[.int .i64 x0, .int .i64 x1] 49)) V) => (Own.new' (t := 49) (w := wr) (g := wr.heap.size) (vs := [.int .i64 x0, .int .i64 x1]) rfl).below' hV)
            have CG := Lib.hid (fun V (hV : Below (wr.alloc (.cells #[.int .i64 x0, .int .i64 x1] 49)).heap.size (wr.alloc (.cells #[.int .i64 x0, .int .i64 x1] 49)) V) => OGr.out.below' (HBv.out.trans (hV.mono HBv.out.size)))
            have AE := Lib.hid (fun V (hV : Below (wr.alloc (.cells #[.int .i64 x0, .int .i64 x1] 49)).heap.size (wr.alloc (.cells #[.int .i64 x0, .int .i64 x1] 49)) V) => HAr.out.keep (HBv.out.trans (hV.mono HBv.out.size)))
            clear hc6 hx haw
            go_wp2_with fail
            refine region_postsW [13] [(7, [4, 6]), (13, [])] (fun i V V' => (i = 7 → ChgA (wr.alloc (.cells #[.int .i64 x0, .int .i64 x1] 49)).heap.size V V') ∧ (i = 13 → BoxZ (wr.alloc (.cells #[.int .i64 x0, .int .i64 x1] 49)).heap.size V V')) (by kernel_rfl) (tblM14 w.heap.size N A n c E x0 x1 (wr.alloc (.cells #[.int .i64 x0, .int .i64 x1] 49)).heap.size) (by kernel_rfl) ?_ ?_ ?_ ?_
            · intro i S hm V V' hs hc
              simp only [List.mem_cons, Prod.mk.injEq, List.not_mem_nil, or_false] at hm
              rcases hm with ⟨rfl, rfl⟩ | ⟨rfl, rfl⟩
              · have hc := hc.1 rfl
                refine ⟨hc.1, fun j v hj hji hk => ?_⟩
                match j, hj, hji with
                | 0, _, _ | 1, _, _ | 2, _, _ | 3, _, _ | 5, _, _ | 8, _, _ | 9, _, _ | 10, _, _ | 11, _, _ | 14, _, _ => exact hk
                | 4, hj, _ | 6, hj, _ => exact absurd (by simp) hj
                | 7, _, hji => exact absurd rfl hji
                | 12, _, _ =>
                  obtain ⟨g, e, hg, ho⟩ := hk
                  exact ⟨g, e, hg, hc.2 g _ _ (by decide) ho⟩
                | 13, _, _ => trivial
                | n + 15, _, _ => trivial
              · obtain ⟨g0, hg0, ho0, rfl⟩ := hc.2 rfl
                refine ⟨((Below.refl _ V).setCell (p := ⟨g0, 0, none⟩) hg0 _).setCell (p := ⟨g0, 1, none⟩) hg0 _, fun j v hj hji hk => ?_⟩
                match j, hj, hji with
                | 0, _, _ | 1, _, _ | 2, _, _ | 3, _, _ | 5, _, _ | 8, _, _ | 9, _, _ | 10, _, _ | 11, _, _ | 14, _, _ => exact hk
                | 4, _, _ | 7, _, _ =>
                  obtain ⟨A', c', e, hr⟩ := hk
                  exact ⟨A', c', e, rowE_box hr ho0 _ _⟩
                | 6, _, _ =>
                  obtain ⟨g, e, hg, ho⟩ := hk
                  have hn := ho.ne ho0 (by decide)
                  exact ⟨g, e, hg, (ho.far (p := ⟨g0, 0, none⟩) hn _).far (p := ⟨g0, 1, none⟩) hn _⟩
                | 12, _, _ =>
                  obtain ⟨g, e, hg, ho⟩ := hk
                  by_cases hgg : g = g0
                  · subst hgg
                    exact ⟨g, e, hg, (ho.set 0 (.int .i64 0)).set 1 (.slice none 0 0)⟩
                  · exact ⟨g, e, hg, (ho.far (p := ⟨g0, 0, none⟩) hgg _).far (p := ⟨g0, 1, none⟩) hgg _⟩
                | 13, _, hji => exact absurd rfl hji
                | n + 15, _, _ => trivial
            · intro s hs v W
              simp only [List.mem_cons, List.not_mem_nil, or_false] at hs
              rcases hs with rfl <;> exact trivial
            · skip
              refine .yes rfl rfl rfl (fun a W Q hB hO hD hN => ?_) ?_
              · have e3 : a.tmps.getD 3 undef = .pointer (some ⟨w.heap.size, 0, none⟩) := hO.slot 3 _ rfl rfl
                clear hO hD hN
                go_wp2
                exact ⟨_, rfl, Below.refl _ _, rfl⟩
              refine .yes rfl rfl rfl (fun a W Q hB hO hD hN => ?_) ?_
              · have e115 : a.tmps.getD 115 undef = .pointer (some ⟨w.heap.size, 0, none⟩) := hD 0 rfl rfl
                clear hO hD hN
                have hO2 := CG.out W hB
                have q := hO2.cell
                have z := hO2.lt
                go_wp2
                exact ⟨_, rfl, Below.refl _ _, rfl⟩
              refine .yes rfl rfl rfl (fun a W Q hB hO hD hN => ?_) ?_
              · have e3 : a.tmps.getD 3 undef = .pointer (some ⟨w.heap.size, 0, none⟩) := hO.slot 3 _ rfl rfl
                clear hO hD hN
                go_wp2
                exact ⟨_, rfl, Below.refl _ _, rfl⟩
              refine .yes rfl rfl rfl (fun a W Q hB hO hD hN => ?_) ?_
              · have e117 : a.tmps.getD 117 undef = .pointer (some ⟨w.heap.size, 1, none⟩) := hD 2 rfl rfl
                clear hO hD hN
                have hO2 := CG.out W hB
                have q := hO2.cell
                have z := hO2.lt
                go_wp2
                exact ⟨_, rfl, Below.refl _ _, rfl⟩
              refine .yes rfl rfl rfl (fun a W Q hB hO hD hN => ?_) ?_
              · have e118 : a.tmps.getD 118 undef = .slice A n c := hD 3 rfl rfl
                clear hO hD hN
                have KC := Lib.hid (copyPairs_any A n c E W (AE.out W hB) (by omega))
                go_wp2_with fail
                refine KC.out.mono ?_
                rintro e W1 ⟨v, rfl, hr, hb1⟩
                obtain ⟨A5, c5, rfl, _⟩ := hr.rd
                rw [← HL.out] at hr ⊢
                go_wp2
                exact ⟨_, rfl, hb1, _, _, rfl, hr.base (by simpa using hB.size)⟩
              refine .yes rfl rfl rfl (fun a W Q hB hO hD hN => ?_) ?_
              · have e14 : a.tmps.getD 14 undef = .pointer (some ⟨wr.heap.size, 0, none⟩) := hO.slot 14 _ rfl rfl
                clear hO hD hN
                have hO2 := CX.out W hB
                have q := hO2.cell
                have z := hO2.lt
                go_wp2
                exact ⟨_, rfl, Below.refl _ _, rfl⟩
              refine .yes rfl rfl rfl (fun a W Q hB hO hD hN => ?_) ?_
              · have e120 : a.tmps.getD 120 undef = .agg #[.int .i64 x0, .int .i64 x1] := hD 5 rfl rfl
                clear hO hD hN
                have f120 : a.tmps[120]?.getD undef = .agg #[.int .i64 x0, .int .i64 x1] := by rw [← Array.getD_eq_getD_getElem?]; exact e120
                go_wp2
                exact ⟨_, rfl, alloc_below _ _, _, rfl, by simpa using hB.size, Own.new' rfl⟩
              refine .sp rfl rfl (fun a W Q hB hO hD hN => ?_) ?_
              · obtain ⟨A119, c119, e119, h119⟩ : ∃ A c, (a.tmps.getD 119 undef) = .slice A n c ∧ RowE (wr.alloc (.cells #[.int .i64 x0, .int .i64 x1] 49)).heap.size W (.slice A n c) E := hD 4 rfl rfl
                obtain ⟨g121, e121, b121, h121⟩ : ∃ g, (a.tmps.getD 121 undef) = .slice (some ⟨g, 0, none⟩) 1 1 ∧ (wr.alloc (.cells #[.int .i64 x0, .int .i64 x1] 49)).heap.size ≤ g ∧ Own W g 49 [.int .i64 x0, .int .i64 x1] := hD 6 rfl rfl
                clear hO hD hN
                refine wp_append_edges (k := [(x0, x1)]) rfl (show a.eval (.tmp 119) = _ from e119) (show a.eval (.tmp 121) = _ from e121) h119 rfl h121.rd (by have := HL.out; omega) hB.size ?_
                intro v' W' hr hc
                obtain ⟨A5, c5, rfl, _⟩ := hr.rd
                rw [List.length_append, ← HL.out] at hr ⊢
                exact ⟨_, rfl, ⟨fun _ => hc, fun h => absurd h (by decide)⟩, _, _, rfl, hr⟩
              refine .yes rfl rfl rfl (fun a W Q hB hO hD hN => ?_) ?_
              · have e116 : a.tmps.getD 116 undef = .int .i64 N := hD 1 rfl rfl
                obtain ⟨A122, c122, e122, h122⟩ : ∃ A c, (a.tmps.getD 122 undef) = .slice A (n + 1) c ∧ RowE (wr.alloc (.cells #[.int .i64 x0, .int .i64 x1] 49)).heap.size W (.slice A (n + 1) c) (E ++ [(x0, x1)]) := hD 7 rfl rfl
                clear hO hD hN
                have KN := newG_any N A122 (n + 1) c122 (E ++ [(x0, x1)]) W (h122.toArg (by omega))
                rw [HNW.out] at KN
                have KN := Lib.hid KN
                clear h122
                go_wp2_with fail
                refine KN.out.mono ?_
                rintro e W1 ⟨rfl, hb1⟩
                go_wp2
                exact ⟨_, rfl, hb1, rfl⟩
              refine .yes rfl rfl rfl (fun a W Q hB hO hD hN => ?_) ?_
              · have e123 : a.tmps.getD 123 undef = .tuple #[.agg #[.int .i64 0, .slice Option.none 0 0], .int .i64 20] := hD 8 rfl rfl
                clear hO hD hN
                go_wp2
                exact ⟨_, rfl, Below.refl _ _, rfl⟩
              refine .yes rfl rfl rfl (fun a W Q hB hO hD hN => ?_) ?_
              · have e114 : a.tmps.getD 114 undef = .tuple #[.agg #[.int .i64 0, .slice Option.none 0 0], .int .i64 20] := hD 9 rfl rfl
                clear hO hD hN
                go_wp2
                exact ⟨_, rfl, Below.refl _ _, rfl⟩
              refine .yes rfl rfl rfl (fun a W Q hB hO hD hN => ?_) ?_
              · have e114 : a.tmps.getD 114 undef = .tuple #[.agg #[.int .i64 0, .slice Option.none 0 0], .int .i64 20] := hD 9 rfl rfl
                clear hO hD hN
                go_wp2
                exact ⟨_, rfl, Below.refl _ _, rfl⟩
              refine .yes rfl rfl rfl (fun a W Q hB hO hD hN => ?_) ?_
              · clear hO hD hN
                go_wp2
                exact ⟨_, rfl, alloc_below _ _, _, rfl, by simpa using hB.size, Own.new' rfl⟩
              refine .sp rfl rfl (fun a W Q hB hO hD hN => ?_) ?_
              · obtain ⟨g15, e15, b15, h15⟩ : ∃ g, (a.tmps.getD 15 undef) = .pointer (some ⟨g, 0, none⟩) ∧ (wr.alloc (.cells #[.int .i64 x0, .int .i64 x1] 49)).heap.size ≤ g ∧ Own W g 26 [.int .i64 0, .slice none 0 0] := hD 12 rfl rfl
                have e124 : a.tmps.getD 124 undef = .agg #[.int .i64 0, .slice Option.none 0 0] := hD 10 rfl rfl
                clear hO hD hN
                have q1 := h15.cell; have q2 := h15.lt; have q3 := h15.frozen
                have H15 := Lib.hid h15
                clear h15
                go_wp2
                exact ⟨⟨g15, by simpa using b15, H15.out, rfl⟩, undef, trivial⟩
              refine .yes rfl rfl rfl (fun a W Q hB hO hD hN => ?_) ?_
              · have e125 : a.tmps.getD 125 undef = .int .i64 20 := hD 11 rfl rfl
                clear hO hD hN
                go_wp2
                exact ⟨_, rfl, Below.refl _ _, rfl⟩
              exact .nil
            · intro f V2 hBz hR
              have e16 : f 14 = .int .i64 20 := hR 14 (by decide) (by intro m S hm; simp only [List.mem_cons, Prod.mk.injEq, List.not_mem_nil, or_false] at hm; rcases hm with ⟨rfl, rfl⟩ | ⟨rfl, rfl⟩ <;> decide)
              obtain ⟨g15, e15, hg15, ho15⟩ : ∃ g, f 12 = .pointer (some ⟨g, 0, none⟩) ∧ (wr.alloc (.cells #[.int .i64 x0, .int .i64 x1] 49)).heap.size ≤ g ∧ Own V2 g 26 [.int .i64 0, .slice none 0 0] := hR 12 (by decide) (by intro m S hm; simp only [List.mem_cons, Prod.mk.injEq, List.not_mem_nil, or_false] at hm; rcases hm with ⟨rfl, rfl⟩ | ⟨rfl, rfl⟩ <;> decide)
              have HBn := Lib.hid (hB.out.trans ((HBv.out.trans (hBz.mono HBv.out.size)).mono hsz))
              have y0 : V2.cell? ⟨g15, 0, none⟩ = some (.int .i64 0) := ho15.cell 0
              have y1 : V2.cell? ⟨g15, 1, none⟩ = some (.slice none 0 0) := ho15.cell 1
              have y2 := ho15.lt
              clear hR hBz ho15
              simp only [putAll, Nat.zero_add, Nat.reduceAdd, Act.put, List.setIfInBounds_toArray, List.set_cons_zero, List.set_cons_succ, e15, e16]
              go_wp2
              refine ⟨⟨k + 1, by omega, by go_num, HBn⟩, ?_⟩
              simp [intOf]; omega
          · obtain rfl : k = 4 := by omega
            have hbn := Lib.hid (below_chain hb.out hB.out)
            clear hb
            have hb := hbn; clear hbn
            go_wp2_with fail
            refine (awakeG_any wr ((HT.out.on hb.out).mono hb.out.size)).mono ?_
            rintro e w21 ⟨rfl, hbk⟩
            have hbz := Lib.hid hbk; clear hbk
            have hb' := Lib.hid (below_chain hb.out hbz.out)
            clear hb 
            have hb := hb'; clear hb'
            clear hbz
            go_wp2
            go_ret
            exact ⟨rfl, hb.out⟩
      obtain ⟨ba, oa, hA, hba, hce⟩ := rd_edge HA.out.rd (by have := HL.out; omega)
      have HA9 := Lib.hid hA; clear hA
      have d0 : decide ((0 : Int) < (n : Int)) = true := decide_eq_true (by omega)
      have d0n : decide (0 < n) = true := decide_eq_true (by omega)
      obtain ⟨p2, hp2⟩ := Int.eq_ofNat_of_zero_le (pickZ_lt (x := kk) (n := (n : Int)) (by omega)).1
      have hpl : p2 < n := by have := (pickZ_lt (x := kk) (n := (n : Int)) (by omega)).2; omega
      have hpick := fun W => pick_any kk (n : Int) W (by omega)
      rw [hp2] at hpick
      have HP2 := Lib.hid hpick; have HPL := Lib.hid hpl
      obtain ⟨x, hx⟩ : ∃ x, E[p2]? = some x := ⟨_, List.getElem?_eq_getElem (by have := HL.out; omega)⟩
      obtain ⟨e0, e1⟩ := x
      have CE := Lib.hid (fun V (hV : Below V2.heap.size V2 V) => hce V hV p2 _ hx)
      have HX := Lib.hid (twice_bad RG.out (List.mem_of_getElem? hx))
      have CG := Lib.hid (fun V (hV : Below V2.heap.size V2 V) => OG.out.below' hV)
      clear hn0 hpick hp2 hpl hx hce
      have qOG := OG.out.cell; have zOG := OG.out.lt; have fOG := OG.out.frozen
      go_wp2_with fail
      clear qOG zOG fOG
      refine wpIn_wide (n := 1) |>.1 (regionIn_posts 10 (fun _ => trivial) (by kernel_rfl) (tblM9 w.heap.size A ba oa n c p2 e0 e1 kk V2.heap.size) (by kernel_rfl) (by kernel_rfl) ?_ ?_)
      simp only [List.take_succ_cons, List.take_zero]
      · skip
        refine .yes rfl (fun a W Q hB hO hD hN => ?_) ?_
        · have e3 : a.tmps.getD 3 undef = .pointer (some ⟨w.heap.size, 0, none⟩) := hO.slot 3 _ rfl rfl
          clear hO hD hN
          gi_wp2
          exact ⟨_, rfl, Below.refl _ _, rfl⟩
        refine .yes rfl (fun a W Q hB hO hD hN => ?_) ?_
        · have e90 : a.tmps.getD 90 undef = .pointer (some ⟨w.heap.size, 1, none⟩) := hD 0 rfl
          clear hO hD hN
          have hO2 := CG.out W hB
          have q := hO2.cell
          have z := hO2.lt
          gi_wp2
          exact ⟨_, rfl, Below.refl _ _, rfl⟩
        refine .yes rfl (fun a W Q hB hO hD hN => ?_) ?_
        · have e2 : a.tmps.getD 2 undef = .int .i64 kk := hO.slot 2 _ rfl rfl
          clear hO hD hN
          gi_wp2
          exact ⟨_, rfl, Below.refl _ _, rfl⟩
        refine .yes rfl (fun a W Q hB hO hD hN => ?_) ?_
        · have e3 : a.tmps.getD 3 undef = .pointer (some ⟨w.heap.size, 0, none⟩) := hO.slot 3 _ rfl rfl
          clear hO hD hN
          gi_wp2
          exact ⟨_, rfl, Below.refl _ _, rfl⟩
        refine .yes rfl (fun a W Q hB hO hD hN => ?_) ?_
        · have e93 : a.tmps.getD 93 undef = .pointer (some ⟨w.heap.size, 1, none⟩) := hD 3 rfl
          clear hO hD hN
          have hO2 := CG.out W hB
          have q := hO2.cell
          have z := hO2.lt
          gi_wp2
          exact ⟨_, rfl, Below.refl _ _, rfl⟩
        refine .yes rfl (fun a W Q hB hO hD hN => ?_) ?_
        · have e94 : a.tmps.getD 94 undef = .slice A n c := hD 4 rfl
          clear hO hD hN
          gi_wp2
          exact ⟨_, rfl, Below.refl _ _, rfl⟩
        refine .yes rfl (fun a W Q hB hO hD hN => ?_) ?_
        · have e92 : a.tmps.getD 92 undef = .int .i64 kk := hD 2 rfl
          have e95 : a.tmps.getD 95 undef = .int .i64 (n : Nat) := hD 5 rfl
          clear hO hD hN
          gi_wp2_with (refine ⟨trivial, ?_⟩; gi_at_call 24; refine (callsIn_wide.2 (HP2.out W)).mono ?_; rintro e _ ⟨rfl, rfl⟩)
          exact ⟨_, rfl, Below.refl _ _, rfl⟩
        refine .yes rfl (fun a W Q hB hO hD hN => ?_) ?_
        · have e91 : a.tmps.getD 91 undef = .slice A n c := hD 1 rfl
          have e96 : a.tmps.getD 96 undef = .int .i64 (p2 : Nat) := hD 6 rfl
          clear hO hD hN
          have hp := HPL.out
          rw [HA9.out] at e91
          gi_wp2
          exact ⟨_, rfl, Below.refl _ _, rfl⟩
        refine .yes rfl (fun a W Q hB hO hD hN => ?_) ?_
        · have e97 : a.tmps.getD 97 undef = .pointer (some ⟨ba, oa + p2 * 2, none⟩) := hD 7 rfl
          clear hO hD hN
          obtain ⟨hc0, hc1⟩ := CE.out W hB
          gi_wp2
          exact ⟨_, rfl, Below.refl _ _, rfl⟩
        refine .yes rfl (fun a W Q hB hO hD hN => ?_) ?_
        · clear hO hD hN
          gi_wp2
          exact ⟨_, rfl, alloc_below _ _, _, rfl, hB.size, Own.new' rfl⟩
        exact .nil
      · intro f V3 hBz hR
        have e98 : f 8 = .agg #[.int .i64 e0, .int .i64 e1] := hR 8 (by decide)
        obtain ⟨g12, e12, hg12, ho12⟩ : ∃ g, f 9 = .pointer (some ⟨g, 0, none⟩) ∧ V2.heap.size ≤ g ∧ Own V3 g 49 [.int .i64 0, .int .i64 0] := hR 9 (by decide)
        have hbk := (hBz.setCell (p := ⟨g12, 0, none⟩) hg12 (.int .i64 e0)).setCell (p := ⟨g12, 1, none⟩) hg12 (.int .i64 e1)
        have q0 := ho12.cell; have q1 := ho12.frozen; have q2 := ho12.lt
        have oo := (ho12.set 0 (.int .i64 e0)).set 1 (.int .i64 e1)
        simp only [List.set_cons_zero, List.set_cons_succ] at oo
        have HBK := Lib.hid hbk; have OO := Lib.hid oo
        clear hR hBz ho12 hbk oo
        simp only [List.take_succ_cons, List.take_zero, List.drop_succ_cons, List.drop_zero, putAll, Nat.zero_add, Nat.reduceAdd, Act.put, List.setIfInBounds_toArray, List.set_cons_zero, List.set_cons_succ, e98, e12]
        gi_wp2
        generalize (V3.setCell ⟨g12, 0, none⟩ (.int .i64 e0)).setCell ⟨g12, 1, none⟩ (.int .i64 e1) = V4 at HBK OO ⊢
        have HW4' := Lib.hid (HW4.out.below HBK.out)
        clear q0 q1 q2 e98 e12 CG CE
        have OG' := Lib.hid (OG.out.below' HBK.out)
        have HA' := Lib.hid (HA.out.keep HBK.out)
        have hb' := Lib.hid (below_chain hb.out HBK.out)
        clear hb OG HA
        have hb := hb'; clear hb'
        have OG := OG'; clear OG'
        have HA := HA'; clear HA'
        have q0 : V4.cell? ⟨g12, 0, none⟩ = some (.int .i64 e0) := OO.out.cell 0
        have q1 : V4.cell? ⟨g12, 1, none⟩ = some (.int .i64 e1) := OO.out.cell 1
        have q2 := OO.out.lt
        have HWa := Lib.hid (HW4'.out.below (alloc_below V4 (.cells #[.int .i64 e0, .int .i64 e1, .int .i64 e1, .int .i64 e0] 49)))
        have HNa := Lib.hid (show Own (V4.alloc (.cells #[.int .i64 e0, .int .i64 e1, .int .i64 e1, .int .i64 e0] 49)) V4.heap.size 49 (cellsE [(e0, e1), (e1, e0)]) from Own.new _ _ _)
        have hbs := HBZ.out.size; have hbs2 := HBK.out.size
        go_wp2_with (at_builtin; refine wpList_append_edges (B := w5.heap.size) rfl (.tmp 99) (.tmp 106) rfl (some ⟨V4.heap.size, 0, none⟩) 2 2 (k := [(e0, e1), (e1, e0)]) rfl rfl HWa.out rfl HNa.out.rd (by show 4 + 2 ≤ 1000000; decide) (by simp; omega) ?_; intro v6 W6 hr6 hb6 ho6; obtain ⟨A6, c6, e6, _⟩ := hr6.rd; have e6 : v6 = .slice A6 6 c6 := e6; subst e6; have HW := Lib.hid hr6; have HB6 := Lib.hid hb6; clear hr6 hb6 ho6)
        have hbx := Lib.hid (show Below w5.heap.size w5 W6 from (HBZ.out.trans (HBK.out.mono hbs)).trans (((alloc_below V4 (.cells #[.int .i64 e0, .int .i64 e1, .int .i64 e1, .int .i64 e0] 49)).mono (by omega)).trans HB6.out))
        clear OG HA hb
        have OG := Lib.hid (OGc.out.below' hbx.out); have HA := Lib.hid (HAc.out.keep hbx.out); have hb := Lib.hid (below_chain hbc.out hbx.out)
        clear q0 q1 q2
        have HBADW := Lib.hid (show ∀ x ∈ wrong4 N pk ++ [(e0, e1), (e1, e0)], WrongE N E x from fun x hx => (List.mem_append.1 hx).elim (wrong4_bad RG.out pk x) fun h => by
          simp only [List.mem_cons, List.not_mem_nil, or_false] at h
          rcases h with rfl | rfl
          · exact HX.out.1
          · exact HX.out.2)
        obtain ⟨Bw, hBw⟩ : ∃ W, W = W6 := ⟨_, rfl⟩
        have hbw := Lib.hid (Below.refl W6.heap.size W6)
        clear hBw
        go_wp2_with fail
        go_loopw [6, 14, 15, 16, 110] (fun _ _ _ _ i wr => ∃ k : Nat, k ≤ 6 ∧ i = .int .i64 (k : Int) ∧ Hid (Below W6.heap.size W6 wr)) (fun _ _ _ _ i _ => 6 - (intOf i).toNat)
        case atStart => exact ⟨0, Nat.zero_le _, rfl, hbw⟩
        case round =>
          obtain ⟨k, hk, rfl, hB⟩ := hrel
          have OGr := Lib.hid (OG.out.below' hB.out)
          have HAr := Lib.hid (HA.out.keep hB.out)
          have hsz := hB.out.size
          by_cases hlt : k < 6
          · have HWr := Lib.hid (HW.out.below hB.out)
            have haw := HWr.out.toArg (by omega)
            obtain ⟨x, hx⟩ : ∃ x, (wrong4 N pk ++ [(e0, e1), (e1, e0)])[k]? = some x := ⟨_, List.getElem?_eq_getElem (by have := haw.len; omega)⟩
            obtain ⟨b6, of6, e6, hb6, hc6⟩ := rd_edge haw.rd (by have := haw.len; omega)
            obtain ⟨x0, x1⟩ := x
            obtain ⟨q0, q1⟩ := hc6 _ (Below.refl _ _) k _ hx
            have HNW := Lib.hid (HBAD.out _ (HBADW.out _ (List.mem_of_getElem? hx)))
            subst e6
            have HBv := Lib.hid (alloc_below wr (.cells #[.int .i64 x0, .int .i64 x1] 49))
            have CX := Lib.hid (fun V (hV : Below (wr.alloc (.cells #[.int .i64 x0, .int .i64 x1] 49)).heap.size (wr.alloc (.cells #[.int .i64 x0, .int .i64 x1] 49)) V) => (Own.new' (t := 49) (w := wr) (g := wr.heap.size) (vs := [.int .i64 x0, .int .i64 x1]) rfl).below' hV)
            have CG := Lib.hid (fun V (hV : Below (wr.alloc (.cells #[.int .i64 x0, .int .i64 x1] 49)).heap.size (wr.alloc (.cells #[.int .i64 x0, .int .i64 x1] 49)) V) => OGr.out.below' (HBv.out.trans (hV.mono HBv.out.size)))
            have AE := Lib.hid (fun V (hV : Below (wr.alloc (.cells #[.int .i64 x0, .int .i64 x1] 49)).heap.size (wr.alloc (.cells #[.int .i64 x0, .int .i64 x1] 49)) V) => HAr.out.keep (HBv.out.trans (hV.mono HBv.out.size)))
            clear hc6 hx haw
            go_wp2_with fail
            refine region_postsW [13] [(7, [4, 6]), (13, [])] (fun i V V' => (i = 7 → ChgA (wr.alloc (.cells #[.int .i64 x0, .int .i64 x1] 49)).heap.size V V') ∧ (i = 13 → BoxZ (wr.alloc (.cells #[.int .i64 x0, .int .i64 x1] 49)).heap.size V V')) (by kernel_rfl) (tblM14 w.heap.size N A n c E x0 x1 (wr.alloc (.cells #[.int .i64 x0, .int .i64 x1] 49)).heap.size) (by kernel_rfl) ?_ ?_ ?_ ?_
            · intro i S hm V V' hs hc
              simp only [List.mem_cons, Prod.mk.injEq, List.not_mem_nil, or_false] at hm
              rcases hm with ⟨rfl, rfl⟩ | ⟨rfl, rfl⟩
              · have hc := hc.1 rfl
                refine ⟨hc.1, fun j v hj hji hk => ?_⟩
                match j, hj, hji with
                | 0, _, _ | 1, _, _ | 2, _, _ | 3, _, _ | 5, _, _ | 8, _, _ | 9, _, _ | 10, _, _ | 11, _, _ | 14, _, _ => exact hk
                | 4, hj, _ | 6, hj, _ => exact absurd (by simp) hj
                | 7, _, hji => exact absurd rfl hji
                | 12, _, _ =>
                  obtain ⟨g, e, hg, ho⟩ := hk
                  exact ⟨g, e, hg, hc.2 g _ _ (by decide) ho⟩
                | 13, _, _ => trivial
                | n + 15, _, _ => trivial
              · obtain ⟨g0, hg0, ho0, rfl⟩ := hc.2 rfl
                refine ⟨((Below.refl _ V).setCell (p := ⟨g0, 0, none⟩) hg0 _).setCell (p := ⟨g0, 1, none⟩) hg0 _, fun j v hj hji hk => ?_⟩
                match j, hj, hji with
                | 0, _, _ | 1, _, _ | 2, _, _ | 3, _, _ | 5, _, _ | 8, _, _ | 9, _, _ | 10, _, _ | 11, _, _ | 14, _, _ => exact hk
                | 4, _, _ | 7, _, _ =>
                  obtain ⟨A', c', e, hr⟩ := hk
                  exact ⟨A', c', e, rowE_box hr ho0 _ _⟩
                | 6, _, _ =>
                  obtain ⟨g, e, hg, ho⟩ := hk
                  have hn := ho.ne ho0 (by decide)
                  exact ⟨g, e, hg, (ho.far (p := ⟨g0, 0, none⟩) hn _).far (p := ⟨g0, 1, none⟩) hn _⟩
                | 12, _, _ =>
                  obtain ⟨g, e, hg, ho⟩ := hk
                  by_cases hgg : g = g0
                  · subst hgg
                    exact ⟨g, e, hg, (ho.set 0 (.int .i64 0)).set 1 (.slice none 0 0)⟩
                  · exact ⟨g, e, hg, (ho.far (p := ⟨g0, 0, none⟩) hgg _).far (p := ⟨g0, 1, none⟩) hgg _⟩
                | 13, _, hji => exact absurd rfl hji
                | n + 15, _, _ => trivial
            · intro s hs v W
              simp only [List.mem_cons, List.not_mem_nil, or_false] at hs
              rcases hs with rfl <;> exact trivial
            · skip
              refine .yes rfl rfl rfl (fun a W Q hB hO hD hN => ?_) ?_
              · have e3 : a.tmps.getD 3 undef = .pointer (some ⟨w.heap.size, 0, none⟩) := hO.slot 3 _ rfl rfl
                clear hO hD hN
                go_wp2
                exact ⟨_, rfl, Below.refl _ _, rfl⟩
              refine .yes rfl rfl rfl (fun a W Q hB hO hD hN => ?_) ?_
              · have e115 : a.tmps.getD 115 undef = .pointer (some ⟨w.heap.size, 0, none⟩) := hD 0 rfl rfl
                clear hO hD hN
                have hO2 := CG.out W hB
                have q := hO2.cell
                have z := hO2.lt
                go_wp2
                exact ⟨_, rfl, Below.refl _ _, rfl⟩
              refine .yes rfl rfl rfl (fun a W Q hB hO hD hN => ?_) ?_
              · have e3 : a.tmps.getD 3 undef = .pointer (some ⟨w.heap.size, 0, none⟩) := hO.slot 3 _ rfl rfl
                clear hO hD hN
                go_wp2
                exact ⟨_, rfl, Below.refl _ _, rfl⟩
              refine .yes rfl rfl rfl (fun a W Q hB hO hD hN => ?_) ?_
              · have e117 : a.tmps.getD 117 undef = .pointer (some ⟨w.heap.size, 1, none⟩) := hD 2 rfl rfl
                clear hO hD hN
                have hO2 := CG.out W hB
                have q := hO2.cell
                have z := hO2.lt
                go_wp2
                exact ⟨_, rfl, Below.refl _ _, rfl⟩
              refine .yes rfl rfl rfl (fun a W Q hB hO hD hN => ?_) ?_
              · have e118 : a.tmps.getD 118 undef = .slice A n c := hD 3 rfl rfl
                clear hO hD hN
                have KC := Lib.hid (copyPairs_any A n c E W (AE.out W hB) (by omega))
                go_wp2_with fail
                refine KC.out.mono ?_
                rintro e W1 ⟨v, rfl, hr, hb1⟩
                obtain ⟨A5, c5, rfl, _⟩ := hr.rd
                rw [← HL.out] at hr ⊢
                go_wp2
                exact ⟨_, rfl, hb1, _, _, rfl, hr.base (by simpa using hB.size)⟩
              refine .yes rfl rfl rfl (fun a W Q hB hO hD hN => ?_) ?_
              · have e14 : a.tmps.getD 14 undef = .pointer (some ⟨wr.heap.size, 0, none⟩) := hO.slot 14 _ rfl rfl
                clear hO hD hN
                have hO2 := CX.out W hB
                have q := hO2.cell
                have z := hO2.lt
                go_wp2
                exact ⟨_, rfl, Below.refl _ _, rfl⟩
              refine .yes rfl rfl rfl (fun a W Q hB hO hD hN => ?_) ?_
              · have e120 : a.tmps.getD 120 undef = .agg #[.int .i64 x0, .int .i64 x1] := hD 5 rfl rfl
                clear hO hD hN
                have f120 : a.tmps[120]?.getD undef = .agg #[.int .i64 x0, .int .i64 x1] := by rw [← Array.getD_eq_getD_getElem?]; exact e120
                go_wp2
                exact ⟨_, rfl, alloc_below _ _, _, rfl, by simpa using hB.size, Own.new' rfl⟩
              refine .sp rfl rfl (fun a W Q hB hO hD hN => ?_) ?_
              · obtain ⟨A119, c119, e119, h119⟩ : ∃ A c, (a.tmps.getD 119 undef) = .slice A n c ∧ RowE (wr.alloc (.cells #[.int .i64 x0, .int .i64 x1] 49)).heap.size W (.slice A n c) E := hD 4 rfl rfl
                obtain ⟨g121, e121, b121, h121⟩ : ∃ g, (a.tmps.getD 121 undef) = .slice (some ⟨g, 0, none⟩) 1 1 ∧ (wr.alloc (.cells #[.int .i64 x0, .int .i64 x1] 49)).heap.size ≤ g ∧ Own W g 49 [.int .i64 x0, .int .i64 x1] := hD 6 rfl rfl
                clear hO hD hN
                refine wp_append_edges (k := [(x0, x1)]) rfl (show a.eval (.tmp 119) = _ from e119) (show a.eval (.tmp 121) = _ from e121) h119 rfl h121.rd (by have := HL.out; omega) hB.size ?_
                intro v' W' hr hc
                obtain ⟨A5, c5, rfl, _⟩ := hr.rd
                rw [List.length_append, ← HL.out] at hr ⊢
                exact ⟨_, rfl, ⟨fun _ => hc, fun h => absurd h (by decide)⟩, _, _, rfl, hr⟩
              refine .yes rfl rfl rfl (fun a W Q hB hO hD hN => ?_) ?_
              · have e116 : a.tmps.getD 116 undef = .int .i64 N := hD 1 rfl rfl
                obtain ⟨A122, c122, e122, h122⟩ : ∃ A c, (a.tmps.getD 122 undef) = .slice A (n + 1) c ∧ RowE (wr.alloc (.cells #[.int .i64 x0, .int .i64 x1] 49)).heap.size W (.slice A (n + 1) c) (E ++ [(x0, x1)]) := hD 7 rfl rfl
                clear hO hD hN
                have KN := newG_any N A122 (n + 1) c122 (E ++ [(x0, x1)]) W (h122.toArg (by omega))
                rw [HNW.out] at KN
                have KN := Lib.hid KN
                clear h122
                go_wp2_with fail
                refine KN.out.mono ?_
                rintro e W1 ⟨rfl, hb1⟩
                go_wp2
                exact ⟨_, rfl, hb1, rfl⟩
              refine .yes rfl rfl rfl (fun a W Q hB hO hD hN => ?_) ?_
              · have e123 : a.tmps.getD 123 undef = .tuple #[.agg #[.int .i64 0, .slice Option.none 0 0], .int .i64 20] := hD 8 rfl rfl
                clear hO hD hN
                go_wp2
                exact ⟨_, rfl, Below.refl _ _, rfl⟩
              refine .yes rfl rfl rfl (fun a W Q hB hO hD hN => ?_) ?_
              · have e114 : a.tmps.getD 114 undef = .tuple #[.agg #[.int .i64 0, .slice Option.none 0 0], .int .i64 20] := hD 9 rfl rfl
                clear hO hD hN
                go_wp2
                exact ⟨_, rfl, Below.refl _ _, rfl⟩
              refine .yes rfl rfl rfl (fun a W Q hB hO hD hN => ?_) ?_
              · have e114 : a.tmps.getD 114 undef = .tuple #[.agg #[.int .i64 0, .slice Option.none 0 0], .int .i64 20] := hD 9 rfl rfl
                clear hO hD hN
                go_wp2
                exact ⟨_, rfl, Below.refl _ _, rfl⟩
              refine .yes rfl rfl rfl (fun a W Q hB hO hD hN => ?_) ?_
              · clear hO hD hN
                go_wp2
                exact ⟨_, rfl, alloc_below _ _, _, rfl, by simpa using hB.size, Own.new' rfl⟩
              refine .sp rfl rfl (fun a W Q hB hO hD hN => ?_) ?_
              · obtain ⟨g15, e15, b15, h15⟩ : ∃ g, (a.tmps.getD 15 undef) = .pointer (some ⟨g, 0, none⟩) ∧ (wr.alloc (.cells #[.int .i64 x0, .int .i64 x1] 49)).heap.size ≤ g ∧ Own W g 26 [.int .i64 0, .slice none 0 0] := hD 12 rfl rfl
                have e124 : a.tmps.getD 124 undef = .agg #[.int .i64 0, .slice Option.none 0 0] := hD 10 rfl rfl
                clear hO hD hN
                have q1 := h15.cell; have q2 := h15.lt; have q3 := h15.frozen
                have H15 := Lib.hid h15
                clear h15
                go_wp2
                exact ⟨⟨g15, by simpa using b15, H15.out, rfl⟩, undef, trivial⟩
              refine .yes rfl rfl rfl (fun a W Q hB hO hD hN => ?_) ?_
              · have e125 : a.tmps.getD 125 undef = .int .i64 20 := hD 11 rfl rfl
                clear hO hD hN
                go_wp2
                exact ⟨_, rfl, Below.refl _ _, rfl⟩
              exact .nil
            · intro f V2 hBz hR
              have e16 : f 14 = .int .i64 20 := hR 14 (by decide) (by intro m S hm; simp only [List.mem_cons, Prod.mk.injEq, List.not_mem_nil, or_false] at hm; rcases hm with ⟨rfl, rfl⟩ | ⟨rfl, rfl⟩ <;> decide)
              obtain ⟨g15, e15, hg15, ho15⟩ : ∃ g, f 12 = .pointer (some ⟨g, 0, none⟩) ∧ (wr.alloc (.cells #[.int .i64 x0, .int .i64 x1] 49)).heap.size ≤ g ∧ Own V2 g 26 [.int .i64 0, .slice none 0 0] := hR 12 (by decide) (by intro m S hm; simp only [List.mem_cons, Prod.mk.injEq, List.not_mem_nil, or_false] at hm; rcases hm with ⟨rfl, rfl⟩ | ⟨rfl, rfl⟩ <;> decide)
              have HBn := Lib.hid (hB.out.trans ((HBv.out.trans (hBz.mono HBv.out.size)).mono hsz))
              have y0 : V2.cell? ⟨g15, 0, none⟩ = some (.int .i64 0) := ho15.cell 0
              have y1 : V2.cell? ⟨g15, 1, none⟩ = some (.slice none 0 0) := ho15.cell 1
              have y2 := ho15.lt
              clear hR hBz ho15
              simp only [putAll, Nat.zero_add, Nat.reduceAdd, Act.put, List.setIfInBounds_toArray, List.set_cons_zero, List.set_cons_succ, e15, e16]
              go_wp2
              refine ⟨⟨k + 1, by omega, by go_num, HBn⟩, ?_⟩
              simp [intOf]; omega
          · obtain rfl : k = 6 := by omega
            have hbn := Lib.hid (below_chain hb.out hB.out)
            clear hb
            have hb := hbn; clear hbn
            go_wp2_with fail
            refine (awakeG_any wr ((HT.out.on hb.out).mono hb.out.size)).mono ?_
            rintro e w21 ⟨rfl, hbk⟩
            have hbz := Lib.hid hbk; clear hbk
            have hb' := Lib.hid (below_chain hb.out hbz.out)
            clear hb 
            have hb := hb'; clear hb'
            clear hbz
            go_wp2
            go_ret
            exact ⟨rfl, hb.out⟩
end Go.Proofs.YtljihclpgpmfeaaDoor
