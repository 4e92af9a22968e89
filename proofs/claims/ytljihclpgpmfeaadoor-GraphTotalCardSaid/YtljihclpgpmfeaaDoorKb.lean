/- Walk: fretworklaw02.GraphTotal. -/
import Derived.Test.YtljihclpgpmfeaaDoorKa
import Derived.Test.YtljihclpgpmfeaaDoorTx
import Derived.Test.YtljihclpgpmfeaaDoorUk
import Derived.Test.YtljihclpgpmfeaaDoorUo
namespace Go.Proofs.YtljihclpgpmfeaaDoor
set_option maxRecDepth 100000
open Go.RowKit

set_option maxRecDepth 100000 in
set_option maxHeartbeats 8000000 in
theorem graphTotal_true (A : Option Addr) (n c : Nat) (f : Nat → Bool) (s : List UInt8) (w : World) (hr : Rd w A (cellsF f n)) (ht : TabW w.heap.size w) :
    Calls Tryd.prog 3 #[.slice A n c, .string (strB s)] w fun e w' => e = .returned (.bool true) ∧ Below w.heap.size w w' := by
  have HR := Lib.hid hr
  have HT := Lib.hid ht
  have hsz := strB_size s
  have HB0 := Lib.hid (Below.refl w.heap.size w)
  clear hr ht
  by_cases h1 : 20000 < n
  · have d1 : decide ((20000 : Int) < (n : Int)) = true := decide_eq_true (by omega)
    clear h1
    go_enter Tryd.func3, Tryd.ntmps3
    have HAW := Lib.hid (awakeG_any _ ((HT.out.on HB0.out).mono HB0.out.size))
    go_wp2_with fail
    refine HAW.out.mono ?_
    rintro e w9 ⟨rfl, hb9⟩
    have HB9 := Lib.hid (below_chain HB0.out hb9)
    clear hb9
    go_wp2
    go_ret
    exact ⟨rfl, HB9.out⟩
  have d1 : decide ((20000 : Int) < (n : Int)) = false := decide_eq_false (by omega)
  by_cases h2 : 20000 < s.length
  · have d2 : decide ((20000 : Int) < (s.length : Int)) = true := decide_eq_true (by omega)
    clear h1 h2
    go_enter Tryd.func3, Tryd.ntmps3
    have HAW := Lib.hid (awakeG_any _ ((HT.out.on HB0.out).mono HB0.out.size))
    go_wp2_with fail
    refine HAW.out.mono ?_
    rintro e w9 ⟨rfl, hb9⟩
    have HB9 := Lib.hid (below_chain HB0.out hb9)
    clear hb9
    go_wp2
    go_ret
    exact ⟨rfl, HB9.out⟩
  have d2 : decide ((20000 : Int) < (s.length : Int)) = false := decide_eq_false (by omega)
  have HRD := Lib.hid (read_any A n c f w HR.out (by omega))
  go_enter Tryd.func3, Tryd.ntmps3
  cases hro : readO f n with
  | none =>
    rw [readX_none hro] at HRD
    clear hro
    go_wp2_with fail
    refine HRD.out.mono ?_
    rintro e w1 ⟨rfl, hb⟩
    have OG := Lib.hid (show Own (w1.alloc (.cells #[.int .i64 0, .slice none 0 0] 26)) w1.heap.size 26 [.int .i64 0, .slice none 0 0] from Own.new w1 _ _)
    have HB1 := Lib.hid (hb.trans ((alloc_below w1 (.cells #[.int .i64 0, .slice none 0 0] 26)).mono hb.size))
    have HGB := Lib.hid (show w.heap.size ≤ w1.heap.size from hb.size)
    have q1 := OG.out.cell; have z1 := OG.out.lt; have f1 := OG.out.frozen
    clear hb
    have P := Lib.hid (parse_any s (w1.alloc (.cells #[.int .i64 0, .slice none 0 0] 26)) (by omega))
    have hzb := OG.out.lt
    clear HRD
    cases hp : parO s with
    | error cc =>
      have HPE := Lib.hid (parO_error hp)
      rw [hp] at P
      clear hp
      go_wp2_with fail
      refine P.out.mono ?_
      rintro e wp ⟨rfl, hb⟩
      have OP := Lib.hid (OG.out.below' hb)
      have HBp := Lib.hid (below_chain HB1.out hb)
      have HBc := Lib.hid ((HBp.out.setCell (p := ⟨w1.heap.size, 0, none⟩) HGB.out (.int .i64 0)).setCell (p := ⟨w1.heap.size, 1, none⟩) HGB.out (.slice none 0 0))
      have qp := OP.out.cell; have zp := OP.out.lt; have fp := OP.out.frozen
      clear hb P
      rcases HPE.out with rfl | rfl
      · skip
        have HAW := Lib.hid (awakeG_any _ ((HT.out.on HBc.out).mono HBc.out.size))
        go_wp2_with fail
        refine HAW.out.mono ?_
        rintro e w9 ⟨rfl, hb9⟩
        have HB9 := Lib.hid (below_chain HBc.out hb9)
        clear hb9
        go_wp2
        go_ret
        exact ⟨rfl, HB9.out⟩
      · skip
        have HAW := Lib.hid (awakeG_any _ ((HT.out.on HBc.out).mono HBc.out.size))
        go_wp2_with fail
        refine HAW.out.mono ?_
        rintro e w9 ⟨rfl, hb9⟩
        have HB9 := Lib.hid (below_chain HBc.out hb9)
        clear hb9
        go_wp2
        go_ret
        exact ⟨rfl, HB9.out⟩
    | ok E2 =>
      have HPE := Lib.hid (parO_ok hp)
      rw [hp] at P
      clear hp
      go_wp2_with fail
      refine P.out.mono ?_
      rintro e wp ⟨v2, rfl, hr2, hb⟩
      have OP := Lib.hid (OG.out.below' hb)
      have HBp := Lib.hid (below_chain HB1.out hb)
      have HRW := Lib.hid (fun x y => rowE_box hr2 OP.out x y)
      obtain ⟨A2, c2, rfl, _, _⟩ := hr2.rd
      obtain ⟨A3, c3, e3, ha3⟩ := (HRW.out (.int .i64 (parN s)) (.slice A2 E2.length c2)).arg (by have := HPE.out.len; omega)
      injection e3 with e3 _ e4
      subst e3; subst e4
      have HA3 := Lib.hid ha3
      have HBc := Lib.hid ((HBp.out.setCell (p := ⟨w1.heap.size, 0, none⟩) HGB.out (.int .i64 (parN s))).setCell (p := ⟨w1.heap.size, 1, none⟩) HGB.out (.slice A2 E2.length c2))
      have qp := OP.out.cell; have zp := OP.out.lt; have fp := OP.out.frozen
      have HRG := Lib.hid (rightG_any (parN s) A2 E2.length c2 E2 _ HA3.out)
      rw [rightG_iff.2 HPE.out] at HRG
      clear hb P hr2 ha3
      go_wp2_with fail
      refine HRG.out.mono ?_
      rintro e w8 ⟨rfl, hb⟩
      have HB8 := Lib.hid (below_chain HBc.out hb)
      clear hb qp zp fp HRG
      have HAW := Lib.hid (awakeG_any _ ((HT.out.on HB8.out).mono HB8.out.size))
      go_wp2_with fail
      refine HAW.out.mono ?_
      rintro e w9 ⟨rfl, hb9⟩
      have HB9 := Lib.hid (below_chain HB8.out hb9)
      clear hb9
      go_wp2
      go_ret
      exact ⟨rfl, HB9.out⟩
  | some x =>
    obtain ⟨N, E⟩ := x
    obtain ⟨hX, hN⟩ := readX_some hro
    obtain ⟨hRT, hSB⟩ := readO_bytes hro
    rw [hX, hN] at HRD
    have HRT := Lib.hid hRT; have HSB := Lib.hid hSB
    clear hro hX hN hRT hSB
    go_wp2_with fail
    refine HRD.out.mono ?_
    rintro e w1 ⟨v1, rfl, hr1, hb⟩
    obtain ⟨A1, c1, rfl, ha1⟩ := hr1.arg (by have := HRT.out.len; omega)
    obtain ⟨OB, hOB⟩ : ∃ o, Obj.cells #[.int .i64 N, .slice A1 E.length c1] 26 = o := ⟨_, rfl⟩
    have OG := Lib.hid (show Own (w1.alloc OB) w1.heap.size 26 [.int .i64 N, .slice A1 E.length c1] from by rw [← hOB]; exact Own.new w1 _ _)
    have HB1 := Lib.hid (hb.trans ((alloc_below w1 OB).mono hb.size))
    have HA1 := Lib.hid (ha1.keep (alloc_below w1 OB))
    have HGB := Lib.hid (show w.heap.size ≤ w1.heap.size from hb.size)
    have HBG := Lib.hid (bytesG_any N A1 E.length c1 E _ HA1.out)
    rw [bytesO_right HRT.out] at HBG
    obtain ⟨fb, hfb⟩ : ∃ f, packF (knotsS (numsG N E)).2 (knotsS (numsG N E)).1 = f := ⟨_, rfl⟩
    obtain ⟨nb, hnb⟩ : ∃ f, (knotsS (numsG N E)).1 / 8 + 1 = f := ⟨_, rfl⟩
    rw [hfb, hnb] at HSB
    have HBG2 := HBG.out
    simp only [BytesPost] at HBG2
    rw [hfb, hnb] at HBG2
    have HBG := Lib.hid HBG2
    have q1 := OG.out.cell; have z1 := OG.out.lt; have f1 := OG.out.frozen
    clear hb hr1 ha1 HBG2 hfb hnb
    go_wp2_with fail
    refine HBG.out.mono ?_
    rintro e w2 ⟨g2, rfl, hg2, ho2, hb⟩
    have OG2 := Lib.hid (OG.out.below' hb)
    have HB2 := Lib.hid (below_chain HB1.out hb)
    have HA2 := Lib.hid (HA1.out.keep hb)
    have HO2 := Lib.hid ho2
    have HR2 := Lib.hid (HR.out.below HB2.out)
    have HRG := Lib.hid (rightG_any N A1 E.length c1 E _ HA2.out)
    rw [rightG_iff.2 HRT.out] at HRG
    clear hb ho2 q1 z1 f1 hg2 HBG
    have q1 := OG2.out.cell; have z1 := OG2.out.lt
    go_wp2_with fail
    refine HRG.out.mono ?_
    rintro e w3 ⟨rfl, hb⟩
    have OG3 := Lib.hid (OG2.out.below' hb)
    have HB3 := Lib.hid (below_chain HB2.out hb)
    have HO3 := Lib.hid (HO2.out.below' hb)
    have HS := Lib.hid (sameBytes_any A (some ⟨g2, 0, none⟩) n c nb nb f fb w3 (HR2.out.below hb) HO3.out.rd)
    rw [HSB.out] at HS
    clear hb q1 z1 HRG
    go_wp2_with fail
    refine HS.out.mono ?_
    rintro e _ ⟨rfl, rfl⟩
    have P := Lib.hid (parse_any s w3 (by omega))
    have hzb := OG3.out.lt
    clear HRD
    cases hp : parO s with
    | error cc =>
      have HPE := Lib.hid (parO_error hp)
      rw [hp] at P
      clear hp
      go_wp2_with fail
      refine P.out.mono ?_
      rintro e wp ⟨rfl, hb⟩
      have OP := Lib.hid (OG3.out.below' hb)
      have HBp := Lib.hid (below_chain HB3.out hb)
      have HBc := Lib.hid ((HBp.out.setCell (p := ⟨w1.heap.size, 0, none⟩) HGB.out (.int .i64 0)).setCell (p := ⟨w1.heap.size, 1, none⟩) HGB.out (.slice none 0 0))
      have qp := OP.out.cell; have zp := OP.out.lt; have fp := OP.out.frozen
      clear hb P
      rcases HPE.out with rfl | rfl
      · skip
        have HAW := Lib.hid (awakeG_any _ ((HT.out.on HBc.out).mono HBc.out.size))
        go_wp2_with fail
        refine HAW.out.mono ?_
        rintro e w9 ⟨rfl, hb9⟩
        have HB9 := Lib.hid (below_chain HBc.out hb9)
        clear hb9
        go_wp2
        go_ret
        exact ⟨rfl, HB9.out⟩
      · skip
        have HAW := Lib.hid (awakeG_any _ ((HT.out.on HBc.out).mono HBc.out.size))
        go_wp2_with fail
        refine HAW.out.mono ?_
        rintro e w9 ⟨rfl, hb9⟩
        have HB9 := Lib.hid (below_chain HBc.out hb9)
        clear hb9
        go_wp2
        go_ret
        exact ⟨rfl, HB9.out⟩
    | ok E2 =>
      have HPE := Lib.hid (parO_ok hp)
      rw [hp] at P
      clear hp
      go_wp2_with fail
      refine P.out.mono ?_
      rintro e wp ⟨v2, rfl, hr2, hb⟩
      have OP := Lib.hid (OG3.out.below' hb)
      have HBp := Lib.hid (below_chain HB3.out hb)
      have HRW := Lib.hid (fun x y => rowE_box hr2 OP.out x y)
      obtain ⟨A2, c2, rfl, _, _⟩ := hr2.rd
      obtain ⟨A3, c3, e3, ha3⟩ := (HRW.out (.int .i64 (parN s)) (.slice A2 E2.length c2)).arg (by have := HPE.out.len; omega)
      injection e3 with e3 _ e4
      subst e3; subst e4
      have HA3 := Lib.hid ha3
      have HBc := Lib.hid ((HBp.out.setCell (p := ⟨w1.heap.size, 0, none⟩) HGB.out (.int .i64 (parN s))).setCell (p := ⟨w1.heap.size, 1, none⟩) HGB.out (.slice A2 E2.length c2))
      have qp := OP.out.cell; have zp := OP.out.lt; have fp := OP.out.frozen
      have HRG := Lib.hid (rightG_any (parN s) A2 E2.length c2 E2 _ HA3.out)
      rw [rightG_iff.2 HPE.out] at HRG
      clear hb P hr2 ha3
      go_wp2_with fail
      refine HRG.out.mono ?_
      rintro e w8 ⟨rfl, hb⟩
      have HB8 := Lib.hid (below_chain HBc.out hb)
      clear hb qp zp fp HRG
      have HAW := Lib.hid (awakeG_any _ ((HT.out.on HB8.out).mono HB8.out.size))
      go_wp2_with fail
      refine HAW.out.mono ?_
      rintro e w9 ⟨rfl, hb9⟩
      have HB9 := Lib.hid (below_chain HB8.out hb9)
      clear hb9
      go_wp2
      go_ret
      exact ⟨rfl, HB9.out⟩
end Go.Proofs.YtljihclpgpmfeaaDoor
