/- Walk: fretworklaw02.GraphBeside. -/
import Derived.Test.YtljihclpgpmfeaaDoorOb
import Derived.Test.YtljihclpgpmfeaaDoorGy
import Derived.Test.YtljihclpgpmfeaaDoorSet
namespace Go.Proofs.YtljihclpgpmfeaaDoor
set_option maxRecDepth 100000
open Go.RowKit

def tblOc (K : Nat) (A : Option Addr) (n : Nat) (c : Nat) (va : Nat) (b : Int) (mb : Nat) (r : Bool) : List Pst := [Pst.val (.agg #[.int .i64 (K : Nat), .slice A n c]), Pst.val (.int .i64 (va : Nat)), Pst.val (.int .i64 b), Pst.val (.bool r), Pst.val (.map (some mb)), Pst.val (.int .i64 b), Pst.val (.int .i64 (bitI r)), Pst.val (.bool r), Pst.val (.bool false), Pst.val (.bool false), Pst.val (.agg #[.int .i64 (K : Nat), .slice A n c]), Pst.val (.int .i64 b), Pst.val (.int .i64 (va : Nat)), Pst.val (.bool r), Pst.val (.map (some mb)), Pst.val (.int .i64 b), Pst.val (.int .i64 (bitI r)), Pst.val (.bool r), Pst.val (.bool false), Pst.val (.bool false)]
set_option maxRecDepth 100000 in
set_option maxHeartbeats 8000000 in
theorem graphBeside_true (N : Int) (A : Option Addr) (n c : Nat) (E : List (Int × Int)) (w : World) (h : ArgE w A n c E) (ht : TabW w.heap.size w) :
    Calls Tryd.prog 5 #[.agg #[.int .i64 N, .slice A n c]] w fun e w' => e = .returned (.bool true) ∧ Below w.heap.size w w' := by
  have HB0 := Lib.hid (alloc_below w (.cells #[.int .i64 N, .slice A n c] 26))
  have HA := Lib.hid (h.keep HB0.out)
  have G0 := Lib.hid (Own.new' (t := 26) (w := w) (vs := [.int .i64 N, .slice A n c]) rfl)
  have HL := Lib.hid h.len
  have HT := Lib.hid ht
  clear h ht
  have HR := Lib.hid (rightG_any N A n c E _ HA.out)
  obtain ⟨r, hr⟩ : ∃ r, rightG N E = r := ⟨_, rfl⟩
  have RG := Lib.hid hr
  rw [hr] at HR
  clear hr
  go_enter Tryd.func5, Tryd.ntmps5
  go_wp2_with fail
  refine HR.out.mono ?_
  rintro e w1 ⟨rfl, hb⟩
  have OG := Lib.hid (G0.out.below' hb)
  have HA1 := Lib.hid (HA.out.keep hb)
  have HB1 := Lib.hid (HB0.out.trans (hb.mono HB0.out.size))
  have g0 : w1.cell? ⟨w.heap.size, 0, none⟩ = some (.int .i64 N) := OG.out.cell 0
  have g1 : w1.cell? ⟨w.heap.size, 1, none⟩ = some (.slice A n c) := OG.out.cell 1
  have zg := OG.out.lt
  have hs1 := HB1.out.size
  have HAW := Lib.hid (awakeG_any w1 ((HT.out.on HB1.out).mono hs1))
  clear hb
  cases r with
  | false =>
    go_wp2_with fail
    refine HAW.out.mono ?_
    rintro e w2 ⟨rfl, hb⟩
    have HBf := Lib.hid (HB1.out.trans (hb.mono hs1))
    clear hb
    go_wp2
    go_ret
    exact ⟨rfl, HBf.out⟩
  | true =>
    by_cases h60 : 60 < N
    · have d60 : decide ((60 : Int) < N) = true := decide_eq_true h60
      clear h60
      go_wp2_with fail
      refine HAW.out.mono ?_
      rintro e w2 ⟨rfl, hb⟩
      have HBf := Lib.hid (HB1.out.trans (hb.mono hs1))
      clear hb
      go_wp2
      go_ret
      exact ⟨rfl, HBf.out⟩
    have d60 : decide ((60 : Int) < N) = false := decide_eq_false h60
    obtain ⟨K, rfl⟩ := Int.eq_ofNat_of_zero_le (rightG_iff.1 RG.out).n0
    have hK6 : K ≤ 60 := by omega
    clear h60
    have HE := Lib.hid (rightG_iff.1 RG.out)
    have hn5 : n ≤ 594 := by have := HE.out.len; have := HL.out; omega
    have hB := beside_any (K : Int) A n c E w1 HA1.out
    rw [show besideG (K : Int) E = some (besideK K E) by unfold besideG; rw [RG.out, Int.toNat_natCast]; rfl] at hB
    simp only [BesideP, besideK_len] at hB
    have HCS := Lib.hid (fun va (ha : va < K) => beside_at HE.out ha)
    have HMN := Lib.hid (beside_many HE.out)
    have HLC := Lib.hid (besideK_len K E)
    obtain ⟨cs, hcs⟩ : ∃ cs, besideK K E = cs := ⟨_, rfl⟩
    rw [hcs] at hB HCS HMN HLC
    have D1 := Lib.hid hB
    have HHAS := Lib.hid (fun x y W (h : ArgE W A n c E) => has_any (K : Int) A n c E x y W h)
    clear hcs hB
    go_wp2_with fail
    refine D1.out.mono ?_
    rintro e w2 ⟨gl, vs, rfl, hD, hb⟩
    have OG2 := Lib.hid (OG.out.below' hb)
    have HA2 := Lib.hid (HA1.out.keep hb)
    have HB2 := Lib.hid (HB1.out.trans (hb.mono hs1))
    have hs2 := HB2.out.size
    have HD := Lib.hid hD
    clear hb hD g0 g1 zg D1
    have g0 : w2.cell? ⟨w.heap.size, 0, none⟩ = some (.int .i64 (K : Int)) := OG2.out.cell 0
    have g1 : w2.cell? ⟨w.heap.size, 1, none⟩ = some (.slice A n c) := OG2.out.cell 1
    have zg := OG2.out.lt
    have HB0' := Lib.hid (Below.refl w2.heap.size w2)
    go_wp2
    go_loopw [2, 4, 5, 6, 7, 8, 9, 28] (fun _ s4 _ _ _ _ _ i wr => ∃ va : Nat, va ≤ K ∧ i = .int .i64 (va : Int) ∧ s4 = .int .i64 ((manyR (cs.take va) : Nat) : Int) ∧ Hid (Below w2.heap.size w2 wr)) (fun _ _ _ _ _ _ _ i _ => K - (intOf i).toNat)
    case atStart => exact ⟨0, Nat.zero_le _, rfl, by rw [List.take_zero]; rfl, HB0'⟩
    case round =>
      obtain ⟨va, ha, rfl, rfl, HB⟩ := hrel
      have OGr := Lib.hid (OG2.out.below' HB.out)
      have g0 : wr.cell? ⟨w.heap.size, 0, none⟩ = some (.int .i64 (K : Int)) := OGr.out.cell 0
      have g1 : wr.cell? ⟨w.heap.size, 1, none⟩ = some (.slice A n c) := OGr.out.cell 1
      have zg := OGr.out.lt
      by_cases hlt : va < K
      · obtain ⟨u, hu⟩ : ∃ u, vs[va]? = some u := ⟨_, List.getElem?_eq_getElem (by rw [HD.out.len, HLC.out]; exact hlt)⟩
        have hST := manyR_step (HCS.out va hlt)
        have hLE := manyR_le cs (va + 1)
        rw [HMN.out, hST] at hLE
        obtain ⟨L, hL⟩ : ∃ L, sides (va : Int) E = L := ⟨_, rfl⟩
        have hca := HCS.out va hlt
        rw [hL] at hST hLE hca
        obtain ⟨m, hm⟩ : ∃ m, L.length = m := ⟨_, rfl⟩
        have hrow := HD.out.row va u L hu hca
        obtain ⟨Ab, cb, rfl, hab⟩ := hrow.arg (by have := HL.out; omega)
        rw [hm] at hab hST hLE hu
        have HST := Lib.hid hST
        have HM := Lib.hid hm
        obtain ⟨M, hM⟩ : ∃ M, manyR (cs.take va) = M := ⟨_, rfl⟩
        rw [hM] at hLE HST ⊢
        have hM2 : M + m ≤ 1200 := by have := HL.out; omega
        have q5 : wr.cell? ⟨gl, va, none⟩ = some (.slice Ab m cb) := ((HD.out.own.below' HB.out).cell va).trans hu
        have zl : gl < wr.heap.size := (HD.out.own.below' HB.out).lt
        have HQ5 := Lib.hid (fun V (hV : Below w2.heap.size w2 V) => (show V.cell? ⟨gl, va, none⟩ = some (.slice Ab m cb) ∧ gl < V.heap.size from ⟨((HD.out.own.below' hV).cell va).trans hu, (HD.out.own.below' hV).lt⟩))
        have HAB := Lib.hid hab
        have HRI := Lib.hid (show L.Pairwise (· < ·) from by rw [← hL]; exact sides_rise HE.out _)
        have HVA := Lib.hid (show ∀ x ∈ L, 0 ≤ x ∧ x < (K : Int) from by rw [← hL]; exact fun x hx => sides_valid HE.out hx)
        have HH1 := Lib.hid (show ∀ x, hasG (K : Int) E (va : Int) x = L.contains x from by rw [← hL]; exact sides_has HE.out _)
        have HH2 := Lib.hid (show ∀ x, hasG (K : Int) E x (va : Int) = L.contains x from by rw [← hL]; exact sides_has' HE.out _)
        have HM0 := Lib.hid (MapI.made wr)
        have hmm := @run_makeMap Tryd.prog
        obtain ⟨wo, hwo⟩ : ∃ V, V = wr := ⟨_, rfl⟩
        subst hwo
        have HBm := Lib.hid (HB.out.alloc HB.out.size (.map #[] 0))
        have hso := HB.out.size
        clear hu hST hLE hm hM hab hrow hca hL
        go_wp2_with fail
        go_loopw [2, 7, 8, 44] (fun _ _ _ i V => ∃ j : Nat, j ≤ m ∧ i = .int .i64 (j : Int) ∧ Hid (MapI V wo.heap.size j (L.take j)) ∧ Hid (Below w2.heap.size w2 V)) (fun _ _ _ i _ => m - (intOf i).toNat)
        case atStart => exact ⟨0, Nat.zero_le _, rfl, Lib.hid (by rw [List.take_zero]; exact HM0.out), HBm⟩
        case round =>
          obtain ⟨j, hj, rfl, hMj, hBj⟩ := hrel
          by_cases hlj : j < m
          · obtain ⟨x, hx⟩ : ∃ x, L[j]? = some x := ⟨_, List.getElem?_eq_getElem (by rw [HM.out]; exact hlj)⟩
            obtain ⟨bx, ofx, rfl, hbx, hcx⟩ := rd_int HAB.out.rd (by rw [HM.out]; omega)
            have qx := hcx wr hBj.out j x hx
            have zx : bx < wr.heap.size := Nat.lt_of_lt_of_le hbx hBj.out.size
            have hvx := HVA.out x (List.mem_of_getElem? hx)
            have hwf : (Lit.int .i64 x).wf = true := WalkArith.wf_i64 (by omega)
            obtain ⟨q6, z6⟩ := HQ5.out wr hBj.out
            have HTK := Lib.hid (show L.take j ++ [x] = L.take (j + 1) by rw [List.take_add_one, hx]; rfl)
            have HCX := Lib.hid hcx
            have HXJ := Lib.hid hx
            clear hcx hx
            have HBJ := Lib.hid (fun V (hg : wr.grownBy V (some wo.heap.size)) => hBj.out.trans (grown_below hg hso hBj.out.size))
            by_cases hj0 : j = 0
            · subst hj0
              rw [Nat.add_zero] at qx
              go_wp2_with (at_mapUpdate; refine wpList_put_one Tryd.underlying45 rfl _ _ _ rfl rfl hMj.out (by omega) x rfl rfl hwf ?_; intro w5 hM5 hg5; have HM5 := Lib.hid hM5; have HB5 := Lib.hid (HBJ.out w5 hg5); clear hM5 hg5)
              refine ⟨⟨1, by omega, by go_num, Lib.hid (by rw [← HTK.out]; exact HM5.out), HB5⟩, ?_⟩
              simp [intOf]; omega
            · obtain ⟨p, rfl⟩ : ∃ p, j = p + 1 := ⟨j - 1, by omega⟩
              obtain ⟨y, hy⟩ : ∃ y, L[p]? = some y := ⟨_, List.getElem?_eq_getElem (by rw [HM.out]; omega)⟩
              have hyx := rise_at HRI.out hy HXJ.out
              have hd9 : decide (x ≤ y) = false := decide_eq_false (by omega)
              have hd8 : decide ((0 : Int) < ((p + 1 : Nat) : Int)) = true := decide_eq_true (by omega)
              have HPZ := Lib.hid (show ((p + 1 : Nat) : Int) - 1 = (p : Int) by omega)
              have HCY := Lib.hid (fun V (hV : Below w2.heap.size w2 V) => HCX.out V hV p y hy)
              clear hy hyx hj0
              go_wp2_with (at_mapUpdate; refine wpList_put_one Tryd.underlying45 rfl _ _ _ rfl rfl hMj.out (by omega) x rfl rfl hwf ?_; intro w5 hM5 hg5; have HM5 := Lib.hid hM5; have HB5 := Lib.hid (HBJ.out w5 hg5); have ⟨q7, z7⟩ := HQ5.out w5 HB5.out; have q8 := HCY.out w5 HB5.out; have hpz := HPZ.out; clear hM5 hg5)
              refine ⟨⟨p + 1 + 1, by omega, by go_num, Lib.hid (by rw [← HTK.out]; exact HM5.out), HB5⟩, ?_⟩
              simp [intOf]; omega
          · obtain rfl : j = m := by omega
            rw [show L.take j = L from List.take_of_length_le (by rw [HM.out]; exact Nat.le_refl _)] at hMj
            obtain ⟨wi, hwi⟩ : ∃ V, V = wr := ⟨_, rfl⟩
            subst hwi
            have HBi := Lib.hid (Below.refl wi.heap.size wi)
            clear HQ5 HAB HRI HCS
            go_wp2_with fail
            go_loopw [2, 9] (fun _ s9 V => ∃ b : Int, -1 ≤ b ∧ b ≤ (K : Int) + 1 ∧ s9 = .int .i64 b ∧ Hid (Below wi.heap.size wi V)) (fun _ s9 _ => ((K : Int) + 1 - intOf s9).toNat)
            case atStart => exact ⟨-1, by omega, by omega, rfl, HBi⟩
            case round =>
              obtain ⟨b, hb0, hb1, rfl, hBb⟩ := hrel
              have HBc := Lib.hid (hBj.out.trans (hBb.out.mono hBj.out.size))
              have HBo := Lib.hid (hBj.out)
              have OGb := Lib.hid (OG2.out.below' HBc.out)
              have g2 : wr.cell? ⟨w.heap.size, 0, none⟩ = some (.int .i64 (K : Int)) := OGb.out.cell 0
              have zb := OGb.out.lt
              by_cases hbK : b ≤ (K : Int)
              · have dK : decide (b ≤ (K : Int)) = true := decide_eq_true hbK
                have HMb := Lib.hid (hMj.out.below hBb.out)
                obtain ⟨r, hr⟩ : ∃ r, L.contains b = r := ⟨_, rfl⟩
                have CH1 := Lib.hid (fun W (hW : Below wr.heap.size wr W) => (show Calls Tryd.prog 20 #[.agg #[.int .i64 (K : Int), .slice A n c], .int .i64 (va : Int), .int .i64 b] W _ from HHAS.out (va : Int) b W (HA2.out.keep (HBc.out.trans (hW.mono HBc.out.size)))))
                have CH2 := Lib.hid (fun W (hW : Below wr.heap.size wr W) => (show Calls Tryd.prog 20 #[.agg #[.int .i64 (K : Int), .slice A n c], .int .i64 b, .int .i64 (va : Int)] W _ from HHAS.out b (va : Int) W (HA2.out.keep (HBc.out.trans (hW.mono HBc.out.size)))))
                rw [HH1.out b, hr] at CH1
                rw [HH2.out b, hr] at CH2
                have HLK := Lib.hid (fun V (hV : Below wr.heap.size wr V) => (HMb.out.below hV).look Tryd.underlying45 b (WalkArith.wf_i64 (by omega)))
                rw [hr] at HLK
                have CGr := Lib.hid (fun V (hV : Below wr.heap.size wr V) => OGb.out.below' hV)
                clear hr g0 g1 zg zl q5
                go_wp2
                refine region_posts (by kernel_rfl) (tblOc K A n c va b wo.heap.size r) (by kernel_rfl) ?_ ?_
                · skip
                  refine .yes rfl (fun a W Q hB hO hD => ?_) ?_
                  · have e1 : a.tmps.getD 1 undef = .pointer (some ⟨w.heap.size, 0, none⟩) := hO.slot 1 _ rfl rfl
                    clear hO hD
                    have hO := CGr.out W hB
                    have q := hO.cell
                    have z := hO.lt
                    go_wp2
                    exact ⟨_, rfl, Below.refl _ _, rfl⟩
                  refine .yes rfl (fun a W Q hB hO hD => ?_) ?_
                  · have e5 : a.tmps.getD 5 undef = .int .i64 (va : Nat) := hO.slot 5 _ rfl rfl
                    clear hO hD
                    go_wp2
                    exact ⟨_, rfl, Below.refl _ _, rfl⟩
                  refine .yes rfl (fun a W Q hB hO hD => ?_) ?_
                  · have e9 : a.tmps.getD 9 undef = .int .i64 b := hO.slot 9 _ rfl rfl
                    clear hO hD
                    go_wp2
                    exact ⟨_, rfl, Below.refl _ _, rfl⟩
                  refine .yes rfl (fun a W Q hB hO hD => ?_) ?_
                  · have e72 : a.tmps.getD 72 undef = .agg #[.int .i64 (K : Nat), .slice A n c] := hD 0 rfl
                    have e73 : a.tmps.getD 73 undef = .int .i64 (va : Nat) := hD 1 rfl
                    have e74 : a.tmps.getD 74 undef = .int .i64 b := hD 2 rfl
                    clear hO hD
                    go_wp2_with fail
                    refine (CH1.out W hB).mono ?_
                    rintro e w' ⟨rfl, hbc⟩
                    go_wp2
                    exact ⟨_, rfl, hbc, rfl⟩
                  refine .yes rfl (fun a W Q hB hO hD => ?_) ?_
                  · have e6 : a.tmps.getD 6 undef = .map (some wo.heap.size) := hO.slot 6 _ rfl rfl
                    clear hO hD
                    go_wp2
                    exact ⟨_, rfl, Below.refl _ _, rfl⟩
                  refine .yes rfl (fun a W Q hB hO hD => ?_) ?_
                  · have e9 : a.tmps.getD 9 undef = .int .i64 b := hO.slot 9 _ rfl rfl
                    clear hO hD
                    go_wp2
                    exact ⟨_, rfl, Below.refl _ _, rfl⟩
                  refine .yes rfl (fun a W Q hB hO hD => ?_) ?_
                  · have e76 : a.tmps.getD 76 undef = .map (some wo.heap.size) := hD 4 rfl
                    have e77 : a.tmps.getD 77 undef = .int .i64 b := hD 5 rfl
                    clear hO hD
                    have hlk := HLK.out W hB
                    go_wp2
                    exact ⟨_, rfl, Below.refl _ _, rfl⟩
                  refine .yes rfl (fun a W Q hB hO hD => ?_) ?_
                  · have e78 : a.tmps.getD 78 undef = .int .i64 (bitI r) := hD 6 rfl
                    clear hO hD
                    have hbq : (bitI r == 1) = r := by cases r <;> rfl
                    go_wp2
                    exact ⟨_, rfl, Below.refl _ _, rfl⟩
                  refine .yes rfl (fun a W Q hB hO hD => ?_) ?_
                  · have e75 : a.tmps.getD 75 undef = .bool r := hD 3 rfl
                    have e79 : a.tmps.getD 79 undef = .bool r := hD 7 rfl
                    clear hO hD
                    have hbq : (r != r) = false := by cases r <;> rfl
                    go_wp2
                    exact ⟨_, rfl, Below.refl _ _, rfl⟩
                  refine .yes rfl (fun a W Q hB hO hD => ?_) ?_
                  · have e80 : a.tmps.getD 80 undef = .bool false := hD 8 rfl
                    clear hO hD
                    go_wp2
                    exact ⟨_, rfl, Below.refl _ _, rfl⟩
                  refine .yes rfl (fun a W Q hB hO hD => ?_) ?_
                  · have e1 : a.tmps.getD 1 undef = .pointer (some ⟨w.heap.size, 0, none⟩) := hO.slot 1 _ rfl rfl
                    clear hO hD
                    have hO := CGr.out W hB
                    have q := hO.cell
                    have z := hO.lt
                    go_wp2
                    exact ⟨_, rfl, Below.refl _ _, rfl⟩
                  refine .yes rfl (fun a W Q hB hO hD => ?_) ?_
                  · have e9 : a.tmps.getD 9 undef = .int .i64 b := hO.slot 9 _ rfl rfl
                    clear hO hD
                    go_wp2
                    exact ⟨_, rfl, Below.refl _ _, rfl⟩
                  refine .yes rfl (fun a W Q hB hO hD => ?_) ?_
                  · have e5 : a.tmps.getD 5 undef = .int .i64 (va : Nat) := hO.slot 5 _ rfl rfl
                    clear hO hD
                    go_wp2
                    exact ⟨_, rfl, Below.refl _ _, rfl⟩
                  refine .yes rfl (fun a W Q hB hO hD => ?_) ?_
                  · have e82 : a.tmps.getD 82 undef = .agg #[.int .i64 (K : Nat), .slice A n c] := hD 10 rfl
                    have e83 : a.tmps.getD 83 undef = .int .i64 b := hD 11 rfl
                    have e84 : a.tmps.getD 84 undef = .int .i64 (va : Nat) := hD 12 rfl
                    clear hO hD
                    go_wp2_with fail
                    refine (CH2.out W hB).mono ?_
                    rintro e w' ⟨rfl, hbc⟩
                    go_wp2
                    exact ⟨_, rfl, hbc, rfl⟩
                  refine .yes rfl (fun a W Q hB hO hD => ?_) ?_
                  · have e6 : a.tmps.getD 6 undef = .map (some wo.heap.size) := hO.slot 6 _ rfl rfl
                    clear hO hD
                    go_wp2
                    exact ⟨_, rfl, Below.refl _ _, rfl⟩
                  refine .yes rfl (fun a W Q hB hO hD => ?_) ?_
                  · have e9 : a.tmps.getD 9 undef = .int .i64 b := hO.slot 9 _ rfl rfl
                    clear hO hD
                    go_wp2
                    exact ⟨_, rfl, Below.refl _ _, rfl⟩
                  refine .yes rfl (fun a W Q hB hO hD => ?_) ?_
                  · have e86 : a.tmps.getD 86 undef = .map (some wo.heap.size) := hD 14 rfl
                    have e87 : a.tmps.getD 87 undef = .int .i64 b := hD 15 rfl
                    clear hO hD
                    have hlk := HLK.out W hB
                    go_wp2
                    exact ⟨_, rfl, Below.refl _ _, rfl⟩
                  refine .yes rfl (fun a W Q hB hO hD => ?_) ?_
                  · have e88 : a.tmps.getD 88 undef = .int .i64 (bitI r) := hD 16 rfl
                    clear hO hD
                    have hbq : (bitI r == 1) = r := by cases r <;> rfl
                    go_wp2
                    exact ⟨_, rfl, Below.refl _ _, rfl⟩
                  refine .yes rfl (fun a W Q hB hO hD => ?_) ?_
                  · have e85 : a.tmps.getD 85 undef = .bool r := hD 13 rfl
                    have e89 : a.tmps.getD 89 undef = .bool r := hD 17 rfl
                    clear hO hD
                    have hbq : (r != r) = false := by cases r <;> rfl
                    go_wp2
                    exact ⟨_, rfl, Below.refl _ _, rfl⟩
                  refine .yes rfl (fun a W Q hB hO hD => ?_) ?_
                  · have e81 : a.tmps.getD 81 undef = .bool false := hD 9 rfl
                    have e90 : a.tmps.getD 90 undef = .bool false := hD 18 rfl
                    clear hO hD
                    go_wp2
                    exact ⟨_, rfl, Below.refl _ _, rfl⟩
                  exact .nil
                · intro f V hBz hR
                  have e91 : f 19 = .bool false := hR 19 (by decide)
                  have HB3 := Lib.hid (hBb.out.trans (hBz.mono hBb.out.size))
                  clear hR hBz
                  simp only [putAll, Nat.zero_add, Nat.reduceAdd, Act.put, List.setIfInBounds_toArray, List.set_cons_zero, List.set_cons_succ, e91]
                  go_wp2
                  refine ⟨⟨b + 1, by omega, by omega, by go_num, HB3⟩, ?_⟩
                  simp [intOf]; omega
              · have dK : decide (b ≤ (K : Int)) = false := decide_eq_false hbK
                have HBn := HBc
                go_wp2
                refine ⟨⟨va + 1, by omega, by go_num, by rw [HST.out, Int.natCast_add], HBn⟩, ?_⟩
                simp [intOf]; omega
      · obtain rfl : va = K := by omega
        have HMK := Lib.hid (show manyR (cs.take va) = 2 * n by rw [List.take_of_length_le (by rw [HLC.out]; exact Nat.le_refl _), HMN.out, HL.out])
        rw [HMK.out]
        have HBf := Lib.hid (HB2.out.trans (HB.out.mono hs2))
        have HAWf := Lib.hid (awakeG_any wr ((HT.out.on HBf.out).mono HBf.out.size))
        go_wp2_with fail
        refine HAWf.out.mono ?_
        rintro e w5 ⟨rfl, hb⟩
        have HBz := Lib.hid (below_chain HBf.out hb)
        clear hb
        go_wp2
        go_ret
        exact ⟨rfl, HBz.out⟩
end Go.Proofs.YtljihclpgpmfeaaDoor
