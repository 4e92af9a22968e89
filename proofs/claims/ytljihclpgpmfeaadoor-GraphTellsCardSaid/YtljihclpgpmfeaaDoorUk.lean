/- Bundle of texts: Gx Gy. -/
import Derived.Test.YtljihclpgpmfeaaDoorUi
import Derived.Test.YtljihclpgpmfeaaDoorUj
import Derived.Test.YtljihclpgpmfeaaDoorGw
import Derived.Test.YtljihclpgpmfeaaDoorBs
import Derived.Test.YtljihclpgpmfeaaDoorUh
import Derived.Test.YtljihclpgpmfeaaDoorUe
/- What the chapter's example is, plainly. -/
namespace Go.Proofs.YtljihclpgpmfeaaDoor
set_option maxRecDepth 100000
open Go.RowKit

def ex0 : List UInt8 := [51, 32, 50, 10, 50, 32, 48, 10, 48, 32, 49, 10]
def exE : List (Int × Int) := [(0, 1), (0, 2)]
theorem exE_right : rightG 3 exE = true := by decide
theorem exE_rise : riseE ([(2, 0), (0, 1)].map normE) = exE := by
  refine rises_ext (riseE_rises (by decide)) (rightG_rises exE_right) fun e => ?_
  rw [mem_rise]
  show e ∈ [((0 : Int), (2 : Int)), (0, 1)] ↔ e ∈ [((0 : Int), (1 : Int)), (0, 2)]
  simp only [List.mem_cons, List.not_mem_nil, or_false]
  exact Or.comm
theorem ex_new : newO 3 [(2, 0), (0, 1)] = .ok exE := by
  rw [newO_ok (by decide) (by decide) (by decide) (fun e he => ?_) (by decide), exE_rise]
  simp only [List.mem_cons, List.not_mem_nil, or_false] at he
  rcases he with rfl | rfl <;> exact ⟨by decide, by decide, by decide⟩
theorem ex_parN : parN ex0 = 3 := by decide
theorem ex_parO : parO ex0 = .ok exE := by
  have h1 : pairG ex0 = some ((3, 2), [50, 32, 48, 10, 48, 32, 49, 10]) := by decide
  have h2 : linesG 2 [50, 32, 48, 10, 48, 32, 49, 10] = some ([(2, 0), (0, 1)], []) := by decide
  unfold parO
  rw [h1]
  simp only []
  rw [if_neg (by decide), h2]
  simp only [if_true]
  exact ex_new
theorem ex_w0 : parO [50, 32, 49, 10, 48, 32, 48, 10] = .error 20 := by rfl
theorem ex_w1 : parO [50, 32, 50, 10, 48, 32, 49, 10, 49, 32, 48, 10] = .error 20 := by rfl
theorem ex_w2 : parO [48, 51, 32, 48, 10] = .error 20 := by rfl
theorem ex_w3 : parO [] = .error 20 := by rfl
theorem ex_w4 : parO [50, 48, 49, 32, 48, 10] = .error 21 := by rfl
theorem itoa_small : Lib.itoa 0 = [48] ∧ Lib.itoa 1 = [49] ∧ Lib.itoa 2 = [50] ∧ Lib.itoa 3 = [51] := by
  have key : ∀ i : Nat, i < 10 → Lib.itoa (i : Int) = [UInt8.ofNat (48 + i)] := by
    intro i hi
    unfold Lib.itoa
    rw [if_neg (by omega), Int.toNat_natCast, Lib.decDigits_one hi]
  exact ⟨key 0 (by decide), key 1 (by decide), key 2 (by decide), key 3 (by decide)⟩
theorem ex_text : textO 3 exE = some [51, 32, 50, 10, 48, 32, 49, 10, 48, 32, 50, 10] := by
  unfold textO
  rw [if_pos exE_right]
  obtain ⟨h0, h1, h2, h3⟩ := itoa_small
  unfold textG
  rw [show ((exE.length : Nat) : Int) = 2 from rfl]
  unfold lineB exE
  simp only [List.flatMap_cons, List.flatMap_nil]
  rw [h0, h1, h2, h3]
  rfl
theorem ex_bytes : ∃ f : Nat → Bool, bytesO 3 exE = some (16, f) ∧ cellsF (packF f 16) 3 = cellsB [35, 171, 128] := by
  refine ⟨(knotsS (numsG 3 exE)).2, ?_, ?_⟩
  · unfold bytesO
    rw [if_pos exE_right]
    exact congrArg some (Prod.ext (by decide) rfl)
  · have h0 : byteF (packF (knotsS (numsG 3 exE)).2 16) 0 = 35 := by decide
    have h1 : byteF (packF (knotsS (numsG 3 exE)).2 16) 1 = 171 := by decide
    have h2 : byteF (packF (knotsS (numsG 3 exE)).2 16) 2 = 128 := by decide
    show [Value.int .u8 ((byteF _ 0 : Nat) : Int), Value.int .u8 ((byteF _ 1 : Nat) : Int), Value.int .u8 ((byteF _ 2 : Nat) : Int)] = _
    rw [h0, h1, h2]
    rfl
theorem ex_beside : besideG 3 exE = some [[1, 2], [0], [0]] := by
  unfold besideG
  rw [if_pos exE_right]
  decide
theorem ex_has1 : hasG 3 exE 2 0 = true := by decide
theorem ex_has2 : hasG 3 exE 1 2 = false := by decide
end Go.Proofs.YtljihclpgpmfeaaDoor
/- Walk: fretworklaw02.awake. -/
namespace Go.Proofs.YtljihclpgpmfeaaDoor
set_option maxRecDepth 100000
open Go.RowKit

def wrongs : List (List UInt8) := [[50, 32, 49, 10, 48, 32, 48, 10], [50, 32, 50, 10, 48, 32, 49, 10, 49, 32, 48, 10], [48, 51, 32, 48, 10], []]
theorem wrongs_err {l : List UInt8} (h : l ∈ wrongs) : parO l = .error 20 ∧ l.length ≤ 1000 := by
  unfold wrongs at h
  simp only [List.mem_cons, List.not_mem_nil, or_false] at h
  rcases h with rfl | rfl | rfl | rfl
  · exact ⟨ex_w0, by decide⟩
  · exact ⟨ex_w1, by decide⟩
  · exact ⟨ex_w2, by decide⟩
  · exact ⟨ex_w3, by decide⟩
set_option maxRecDepth 100000 in
set_option maxHeartbeats 4000000 in
theorem awakeG_any (w : World) (ht : TabW w.heap.size w) :
    Calls Tryd.prog 10 #[] w fun e w' => e = .returned (.bool true) ∧ Below w.heap.size w w' := by
  have HT := Lib.hid ht
  have P0 := Lib.hid (parse_any ex0 w (by decide))
  rw [ex_parN, ex_parO] at P0
  clear ht
  go_enter Tryd.func10, Tryd.ntmps10
  go_wp2_with fail
  refine P0.out.mono ?_
  rintro e w1 ⟨v1, rfl, hr1, hb1⟩
  obtain ⟨A1, c1, rfl, ha1⟩ : ∃ A c, v1 = .slice A 2 c ∧ ArgE w1 A 2 c exE := hr1.arg (by decide)
  obtain ⟨OB, hOB⟩ : ∃ o, Obj.cells #[.int .i64 3, .slice A1 2 c1] 26 = o := ⟨_, rfl⟩
  have OG := Lib.hid (Own.new w1 26 [.int .i64 3, .slice A1 2 c1])
  have HBa := Lib.hid (alloc_below w1 OB)
  have HA1 := Lib.hid (ha1.keep HBa.out)
  have HB1 := Lib.hid (hb1.trans (HBa.out.mono hb1.size))
  rw [hOB] at OG
  clear hr1 hb1 ha1
  have HT1 := Lib.hid ((HT.out.on HB1.out).mono HB1.out.size)
  have T1 := Lib.hid (text_any 3 A1 2 c1 exE _ HA1.out HT1.out)
  rw [ex_text, show TextV (some [51, 32, 50, 10, 48, 32, 49, 10, 48, 32, 50, 10]) = .tuple #[.string ⟨#[51, 32, 50, 10, 48, 32, 49, 10, 48, 32, 50, 10]⟩, .int .i64 0] from rfl] at T1
  have q1 := OG.out.cell; have z1 := OG.out.lt; have f1 := OG.out.frozen
  go_wp2_with fail
  refine T1.out.mono ?_
  rintro e w2 ⟨rfl, hb2⟩
  have HB2 := Lib.hid (HB1.out.trans (hb2.mono HB1.out.size))
  have OG2 := Lib.hid (OG.out.below' hb2)
  have HA2 := Lib.hid (HA1.out.keep hb2)
  have B1 := Lib.hid (bytesG_any 3 A1 2 c1 exE _ HA2.out)
  obtain ⟨fb, hfb, hcb⟩ := ex_bytes
  have HCB := Lib.hid hcb
  rw [hfb] at B1
  clear hb2 hfb hcb q1 z1 f1 hOB
  have q1 := OG2.out.cell; have z1 := OG2.out.lt; have f1 := OG2.out.frozen
  go_wp2_with fail
  refine B1.out.mono ?_
  rintro e w3 ⟨gb, he, hgb, hO3, hb3⟩
  have he : e = .returned (.tuple #[.slice (some ⟨gb, 0, none⟩) 3 3, .int .i64 0]) := by simpa only [Nat.reduceDiv, Nat.reduceAdd] using he
  subst he
  have hO3' : Own w3 gb 5 (cellsB [35, 171, 128]) := by rw [← HCB.out]; simpa only [Nat.reduceDiv, Nat.reduceAdd] using hO3
  have HO3 := Lib.hid hO3'
  have HB3 := Lib.hid (HB2.out.trans (hb3.mono HB2.out.size))
  have OG3 := Lib.hid (OG2.out.below' hb3)
  have HA3 := Lib.hid (HA2.out.keep hb3)
  clear hb3 hO3 hO3' hgb q1 z1 f1 HCB B1 T1 P0
  obtain ⟨OS, hOS⟩ : ∃ o, Obj.cells #[.string (strB [50, 32, 49, 10, 48, 32, 48, 10]), .string (strB [50, 32, 50, 10, 48, 32, 49, 10, 49, 32, 48, 10]), .string (strB [48, 51, 32, 48, 10]), .string (strB [])] 9 = o := ⟨_, rfl⟩
  have HWR := Lib.hid (show Own (w3.alloc OS) w3.heap.size 9 (wrongs.map fun l => Value.string (strB l)) from by rw [← hOS]; exact Own.new w3 _ _)
  have HBs := Lib.hid (alloc_below w3 OS)
  have HB4 := Lib.hid (HB3.out.trans (HBs.out.mono HB3.out.size))
  have hs0 : (strB [50, 32, 49, 10, 48, 32, 48, 10]) = ⟨#[50, 32, 49, 10, 48, 32, 48, 10]⟩ := rfl
  have hs1 : (strB [50, 32, 50, 10, 48, 32, 49, 10, 49, 32, 48, 10]) = ⟨#[50, 32, 50, 10, 48, 32, 49, 10, 49, 32, 48, 10]⟩ := rfl
  have hs2 : (strB [48, 51, 32, 48, 10]) = ⟨#[48, 51, 32, 48, 10]⟩ := rfl
  have hs3 : (strB []) = ⟨#[]⟩ := rfl
  rw [hs0, hs1, hs2, hs3] at hOS
  clear hs0 hs1 hs2 hs3
  have z1 := OG3.out.lt
  clear z1
  have HR0 := Lib.hid (Below.refl (w3.alloc OS).heap.size (w3.alloc OS))
  go_wp2
  go_loopw [8, 9, 10, 30] (fun _ _ _ i wr => ∃ k : Nat, k ≤ 4 ∧ i = .int .i64 (k : Int) ∧ Hid (Below (w3.alloc OS).heap.size (w3.alloc OS) wr)) (fun _ _ _ i _ => 4 - (intOf i).toNat)
  case atStart => exact ⟨0, Nat.zero_le _, rfl, HR0⟩
  case round =>
    obtain ⟨k, hk, rfl, hB⟩ := hrel
    have HWr := Lib.hid (HWR.out.below' hB.out)
    have HBr := Lib.hid (HB4.out.trans (hB.out.mono HB4.out.size))
    have hsr := hB.out.size
    by_cases hlt : k < 4
    · obtain ⟨l, hl⟩ : ∃ l, wrongs[k]? = some l := ⟨_, List.getElem?_eq_getElem (by show k < 4; exact hlt)⟩
      obtain ⟨hp, hlen⟩ := wrongs_err (List.mem_of_getElem? hl)
      have q0 : wr.cell? ⟨w3.heap.size, k, none⟩ = some (.string (strB l)) := (HWr.out.cell k).trans (by rw [List.getElem?_map, hl]; rfl)
      have zs := HWr.out.lt
      have N1 := Lib.hid (parse_any l wr (by omega))
      rw [hp] at N1
      clear hp hl hlen
      go_wp2_with fail
      refine N1.out.mono ?_
      rintro e w5 ⟨rfl, hb⟩
      have HB5 := Lib.hid (hB.out.trans (hb.mono hB.out.size))
      clear hb N1 q0
      go_wp2
      go_roundw
      case rel => exact ⟨k + 1, by omega, by go_num, Lib.hid (HB5.out.alloc HB5.out.size _)⟩
      case measure => simp [intOf]; omega
    · obtain rfl : k = 4 := by omega
      have N1 := Lib.hid (parse_any [50, 48, 49, 32, 48, 10] wr (by decide))
      rw [ex_w4] at N1
      have OGr := Lib.hid ((OG3.out.alloc OS).below' hB.out)
      have HAr := Lib.hid ((HA3.out.keep HBs.out).keep hB.out)
      have HOr := Lib.hid ((HO3.out.alloc OS).below' hB.out)
      clear HA3 HO3 OG3
      go_wp2_with fail
      refine N1.out.mono ?_
      rintro e w6 ⟨rfl, hb⟩
      have HX6 := Lib.hid (hb.trans ((alloc_below w6 (.cells #[.int .i64 21, .slice none 0 0] 26)).mono hb.size))
      have HB6 := Lib.hid (hb.trans ((alloc_below w6 (.cells #[.int .i64 0, .slice none 0 0] 26)).mono hb.size))
      have OG6 := Lib.hid (OGr.out.below' HB6.out)
      have HA6 := Lib.hid (HAr.out.keep HB6.out)
      have HO6 := Lib.hid (HOr.out.below' HB6.out)
      have HBw := Lib.hid (HBr.out.trans (HB6.out.mono HBr.out.size))
      have D1 := Lib.hid (beside_any 3 A1 2 c1 exE _ HA6.out)
      rw [ex_beside] at D1
      have q1 := OG6.out.cell; have z1 := OG6.out.lt; have f1 := OG6.out.frozen
      clear hb N1 HX6
      go_wp2_with fail
      refine D1.out.mono ?_
      rintro e w8 ⟨gl, vs, he, hD, hb⟩
      have he : e = .returned (.slice (some ⟨gl, 0, none⟩) 3 3) := he
      subst he
      have OG8 := Lib.hid (OG6.out.below' hb)
      have HA8 := Lib.hid (HA6.out.keep hb)
      have HO8 := Lib.hid (HO6.out.below' hb)
      have HB8 := Lib.hid (HBw.out.trans (hb.mono HBw.out.size))
      obtain ⟨u, hu⟩ : ∃ u, vs[0]? = some u := ⟨_, List.getElem?_eq_getElem (by rw [hD.len]; decide)⟩
      obtain ⟨A5, c5, hu5, ha5⟩ := (hD.row 0 u [1, 2] hu rfl).arg (by decide)
      have hu5 : u = .slice A5 2 c5 := hu5
      have ha5 : ArgI w8 A5 2 c5 [1, 2] := ha5
      subst hu5
      have q5 : w8.cell? ⟨gl, 0, none⟩ = some (.slice A5 2 c5) := (hD.own.cell 0).trans hu
      have z5 := hD.own.lt
      have cv := conv_word (some ⟨gb, 0, none⟩) 3 3 [35, 171, 128] w8 rfl HO8.out.rd
      rw [show strB [35, 171, 128] = ⟨#[35, 171, 128]⟩ from rfl] at cv
      have HA5 := Lib.hid (ha5.keep (alloc_below w8 (.cells #[.int .i64 1, .int .i64 2] 3)))
      have HN5 := Lib.hid (show ArgI (w8.alloc (.cells #[.int .i64 1, .int .i64 2] 3)) (some ⟨w8.heap.size, 0, none⟩) 2 2 [1, 2] from ⟨(Own.new w8 3 (cellsI [1, 2])).rd, rfl, by decide, Nat.le_refl _⟩)
      have HBx := Lib.hid (alloc_below w8 (.cells #[.int .i64 1, .int .i64 2] 3))
      clear hb hD hu ha5 D1 q1 z1 f1
      go_wp2_with fail
      refine (sameInts_any A5 (some ⟨w8.heap.size, 0, none⟩) c5 2 2 2 [1, 2] [1, 2] _ HA5.out HN5.out).mono ?_
      rintro e w9 ⟨rfl, hb⟩
      rw [show (([1, 2] : List Int) == [1, 2]) = true from by decide]
      have HB9 := Lib.hid (HBx.out.trans (hb.mono HBx.out.size))
      have OG9 := Lib.hid (OG8.out.below' HB9.out)
      have HA9 := Lib.hid (HA8.out.keep HB9.out)
      have HBy := Lib.hid (HB8.out.trans (HB9.out.mono HB8.out.size))
      have HH1 := Lib.hid (has_any 3 A1 2 c1 exE 2 0 _ HA9.out)
      rw [ex_has1] at HH1
      have q1 := OG9.out.cell; have z1 := OG9.out.lt; have f1 := OG9.out.frozen
      clear hb
      go_wp2_with fail
      refine HH1.out.mono ?_
      rintro e w10 ⟨rfl, hb⟩
      have OG10 := Lib.hid (OG9.out.below' hb)
      have HA10 := Lib.hid (HA9.out.keep hb)
      have HBz := Lib.hid (HBy.out.trans (hb.mono HBy.out.size))
      have HH2 := Lib.hid (has_any 3 A1 2 c1 exE 1 2 _ HA10.out)
      rw [ex_has2] at HH2
      clear hb q1 z1 f1
      have q1 := OG10.out.cell; have z1 := OG10.out.lt; have f1 := OG10.out.frozen
      go_wp2_with fail
      refine HH2.out.mono ?_
      rintro e w11 ⟨rfl, hb⟩
      have HBf := Lib.hid (HBz.out.trans (hb.mono HBz.out.size))
      clear hb
      go_wp2
      go_ret
      exact ⟨rfl, HBf.out⟩
end Go.Proofs.YtljihclpgpmfeaaDoor
