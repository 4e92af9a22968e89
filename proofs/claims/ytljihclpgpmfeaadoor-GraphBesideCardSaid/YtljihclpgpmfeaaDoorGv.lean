/- Walks: graph.line, graph.Text. -/
import Derived.Test.YtljihclpgpmfeaaDoorRb
import Derived.Test.YtljihclpgpmfeaaDoorGm
import Derived.Lib.ItoaLen
namespace Go.Proofs.YtljihclpgpmfeaaDoor
set_option maxRecDepth 100000
open Go.RowKit

def lineB (a b : Int) : List UInt8 := ((Lib.itoa a ++ [32]) ++ Lib.itoa b) ++ [10]
theorem cells32 : cellsB [32] = [.int .u8 32] := rfl
theorem cells10 : cellsB [10] = [.int .u8 10] := rfl
def InI (a : Int) : Prop := -9223372036854775808 ≤ a ∧ a ≤ 9223372036854775807
theorem lineB_len {a b : Int} (ha : InI a) (hb : InI b) : (lineB a b).length ≤ 44 := by
  have h1 := Lib.itoa_length_le a ha.1 ha.2
  have h2 := Lib.itoa_length_le b hb.1 hb.2
  unfold lineB
  simp only [List.length_append, List.length_cons, List.length_nil]
  omega
def TabW (B : Nat) (w : World) : Prop := Lib.TabBelow Tryd.prog B w "internal/strconv.uint64pow10" .u64 Lib.pow10Tab
theorem TabW.mono {B C : Nat} {w : World} (h : TabW B w) (hc : B ≤ C) : TabW C w := fun w' hb => h w' (hb.mono hc)
theorem TabW.on {B : Nat} {w w1 : World} (h : TabW B w) (hb : Below B w w1) : TabW B w1 := Lib.TabBelow.on h hb
set_option maxRecDepth 100000 in
set_option maxHeartbeats 4000000 in
theorem line_any (B : Nat) (a b : Int) (v : Value) (l : List UInt8) (w : World) (hr : RowB B w v l) (hB : B ≤ w.heap.size) (hl : l.length ≤ 900000) (ha : InI a) (hb : InI b) (ht : TabW B w) :
    Calls Tryd.prog 44 #[v, .int .i64 a, .int .i64 b] w fun e w' => ∃ v', e = .returned v' ∧ RowB B w' v' (l ++ lineB a b) ∧ Below B w w' := by
  have HR := Lib.hid hr
  have HT := Lib.hid ht
  have la := Lib.itoa_length_le a ha.1 ha.2
  have lb := Lib.itoa_length_le b hb.1 hb.2
  have HA := Lib.hid ha
  have HBb := Lib.hid hb
  clear hr ht ha hb
  go_enter Tryd.func44, Tryd.ntmps44
  go_wp2_with fail
  refine (appendInt_any B a HA.out.1 HA.out.2 _ l _ HR.out hB (by omega) HT.out).mono ?_
  rintro e w1 ⟨v1, rfl, hr1, hb1⟩
  have hs1 := hb1.size
  have HR1 := Lib.hid (hr1.below (alloc_below w1 (.cells #[.int .u8 32] 5)))
  have H32 := Lib.hid (show Own (w1.alloc (.cells #[.int .u8 32] 5)) w1.heap.size 5 (cellsB [32]) from by rw [cells32]; exact Own.new w1 _ _)
  have HB1 := Lib.hid (hb1.trans ((alloc_below w1 (.cells #[.int .u8 32] 5)).mono (by omega)))
  clear hr1 hb1
  go_wp2_with (at_builtin; refine wpList_append_bytes rfl (.tmp 10) (.tmp 11) rfl (some ⟨w1.heap.size, 0, none⟩) 1 1 (k := [32]) rfl rfl HR1.out rfl H32.out.rd (by simp only [List.length_append]; omega) (by simp; omega) ?_)
  intro v2 w2 hr2 hb2 _
  have HB2 := Lib.hid (HB1.out.trans hb2)
  have HR2 := Lib.hid hr2
  have HT2 := Lib.hid (HT.out.on HB2.out)
  have hs2 := HB2.out.size
  clear hr2 hb2
  go_wp2_with fail
  refine (appendInt_any B b HBb.out.1 HBb.out.2 _ _ _ HR2.out (by omega) (by simp only [List.length_append, List.length_cons, List.length_nil]; omega) HT2.out).mono ?_
  rintro e w3 ⟨v3, rfl, hr3, hb3⟩
  have HR3 := Lib.hid (hr3.below (alloc_below w3 (.cells #[.int .u8 10] 5)))
  have H10 := Lib.hid (show Own (w3.alloc (.cells #[.int .u8 10] 5)) w3.heap.size 5 (cellsB [10]) from by rw [cells10]; exact Own.new w3 _ _)
  have hs3 := hb3.size
  have HB3 := Lib.hid ((HB2.out.trans hb3).trans ((alloc_below w3 (.cells #[.int .u8 10] 5)).mono (by omega)))
  clear hr3 hb3
  go_wp2_with (at_builtin; refine wpList_append_bytes rfl (.tmp 16) (.tmp 17) rfl (some ⟨w3.heap.size, 0, none⟩) 1 1 (k := [10]) rfl rfl HR3.out rfl H10.out.rd (by simp only [List.length_append, List.length_cons, List.length_nil]; omega) (by simp; omega) ?_)
  intro v4 w4 hr4 hb4 _
  have HB4 := Lib.hid (HB3.out.trans hb4)
  have HR4 := Lib.hid (show RowB B w4 v4 (l ++ lineB a b) from by
    unfold lineB
    simpa only [List.append_assoc, List.cons_append, List.nil_append] using hr4)
  clear hr4 hb4
  go_wp2
  go_ret
  exact ⟨_, rfl, HR4.out, HB4.out⟩
def textK (N : Int) (E : List (Int × Int)) (k : Nat) : List UInt8 := lineB N (E.length : Int) ++ (E.take k).flatMap fun e => lineB e.1 e.2
def textG (N : Int) (E : List (Int × Int)) : List UInt8 := lineB N (E.length : Int) ++ E.flatMap fun e => lineB e.1 e.2
theorem textK_all {N : Int} {E : List (Int × Int)} {k : Nat} (h : k = E.length) : textK N E k = textG N E := by
  unfold textK textG; rw [List.take_of_length_le (by omega)]
theorem textK_step {N : Int} {E : List (Int × Int)} {k : Nat} {e : Int × Int} (h : E[k]? = some e) : textK N E (k + 1) = textK N E k ++ lineB e.1 e.2 := by
  unfold textK
  rw [List.take_add_one, h]
  simp [List.append_assoc]
def InE (E : List (Int × Int)) : Prop := ∀ e ∈ E, InI e.1 ∧ InI e.2
theorem right_in {N : Int} {E : List (Int × Int)} (h : rightG N E = true) : InI N ∧ InE E := by
  have hr := rightG_iff.1 h
  have h2 : 0 ≤ N ∧ N ≤ 200 := by
    unfold rightG at h
    rw [Bool.and_eq_true, Bool.and_eq_true, Bool.and_eq_true, decide_eq_true_eq, decide_eq_true_eq, decide_eq_true_eq] at h
    exact h.1.1
  refine ⟨⟨by omega, by omega⟩, fun e he => ?_⟩
  have h3 : okE N none E = true := by
    unfold rightG at h
    rw [Bool.and_eq_true] at h
    exact h.2
  obtain ⟨v1, v2, v3⟩ := okE_valid h3 e he
  exact ⟨⟨by omega, by omega⟩, ⟨by omega, by omega⟩⟩
theorem textK_len {N : Int} {E : List (Int × Int)} (hN : InI N) (hE : InE E) (h : E.length ≤ 594) : ∀ k, (textK N E k).length ≤ 44 + 44 * k := by
  intro k
  induction k with
  | zero =>
    show (lineB N (E.length : Int) ++ []).length ≤ _
    rw [List.append_nil]
    have := lineB_len (a := N) (b := (E.length : Int)) hN ⟨by omega, by omega⟩
    omega
  | succ k ih =>
    cases hk : E[k]? with
    | none =>
      have : textK N E (k + 1) = textK N E k := by unfold textK; rw [List.take_add_one, hk]; simp
      rw [this]; omega
    | some e =>
      have hm := hE e (List.mem_of_getElem? hk)
      have := lineB_len hm.1 hm.2
      rw [textK_step hk, List.length_append]; omega
def textO (N : Int) (E : List (Int × Int)) : Option (List UInt8) := if rightG N E then some (textG N E) else none
def TextV : Option (List UInt8) → Value
  | none => .tuple #[.string ⟨#[]⟩, .int .i64 20]
  | some l => .tuple #[.string (strB l), .int .i64 0]
set_option maxRecDepth 100000 in
set_option maxHeartbeats 4000000 in
theorem text_any (N : Int) (A : Option Addr) (n c : Nat) (E : List (Int × Int)) (w : World) (h : ArgE w A n c E) (ht : TabW w.heap.size w) :
    Calls Tryd.prog 16 #[.agg #[.int .i64 N, .slice A n c]] w fun e w' => e = .returned (TextV (textO N E)) ∧ Below w.heap.size w w' := by
  have HB0 := Lib.hid (alloc_below w (.cells #[.int .i64 N, .slice A n c] 26))
  have HA := Lib.hid (h.keep HB0.out)
  have G0 := Lib.hid (Own.new' (t := 26) (w := w) (vs := [.int .i64 N, .slice A n c]) rfl)
  have HT := Lib.hid ht
  have HL := Lib.hid h.len
  clear h ht
  have HR := Lib.hid (rightG_any N A n c E _ HA.out)
  obtain ⟨r, hr⟩ : ∃ r, rightG N E = r := ⟨_, rfl⟩
  have RG := Lib.hid hr
  rw [hr] at HR
  clear hr
  go_enter Tryd.func16, Tryd.ntmps16
  go_wp2_with fail
  refine HR.out.mono ?_
  rintro e w1 ⟨rfl, hb⟩
  have OG := Lib.hid (G0.out.below' hb)
  have HA1 := Lib.hid (HA.out.keep hb)
  have HB1 := Lib.hid (HB0.out.trans (hb.mono HB0.out.size))
  have g0 : w1.cell? ⟨w.heap.size, 0, none⟩ = some (.int .i64 N) := OG.out.cell 0
  have g1 : w1.cell? ⟨w.heap.size, 1, none⟩ = some (.slice A n c) := OG.out.cell 1
  have zg := OG.out.lt
  clear hb
  cases r with
  | false =>
    have HX := Lib.hid (show textO N E = none by unfold textO; rw [RG.out]; rfl)
    go_wp2
    go_ret2
    exact ⟨by rw [HX.out]; rfl, HB1.out⟩
  | true =>
    have HX := Lib.hid (show textO N E = some (textG N E) by unfold textO; rw [RG.out]; rfl)
    have HI := Lib.hid (right_in RG.out)
    have HN := Lib.hid (show n ≤ 594 by have := rightG_len RG.out; have := HL.out; omega)
    have HLE := Lib.hid (rightG_len RG.out)
    have hs1 := HB1.out.size
    go_wp2_with fail
    have HT1 := Lib.hid ((HT.out.on HB1.out).mono hs1)
    refine (line_any w1.heap.size N (n : Int) (.slice none 0 0) [] _ (.inl ⟨rfl, rfl⟩) (Nat.le_refl _) (Nat.zero_le _) HI.out.1 ⟨by omega, by have := HN.out; omega⟩ HT1.out).mono ?_
    rintro e w2 ⟨v2, rfl, hr2, hb2⟩
    have HB2 := Lib.hid hb2
    have HR2 := Lib.hid (show RowB w1.heap.size w2 v2 (textK N E 0) from by
      have h : RowB w1.heap.size w2 v2 ([] ++ lineB N (n : Int)) := hr2
      rw [HL.out] at h
      unfold textK
      rw [List.take_zero]
      simpa using h)
    clear hr2 hb2
    have OG2 := Lib.hid (OG.out.below' HB2.out)
    have g0 : w2.cell? ⟨w.heap.size, 0, none⟩ = some (.int .i64 N) := OG2.out.cell 0
    have g1 : w2.cell? ⟨w.heap.size, 1, none⟩ = some (.slice A n c) := OG2.out.cell 1
    have zg := OG2.out.lt
    go_wp2
    go_loopw [4, 6, 19] (fun x _ i wr => ∃ k : Nat, k ≤ n ∧ i = .int .i64 (k : Int) ∧ Hid (RowB w1.heap.size wr x (textK N E k)) ∧ Hid (Below w1.heap.size w1 wr)) (fun _ _ i _ => n - (intOf i).toNat)
    case atStart => exact ⟨0, Nat.zero_le _, rfl, HR2, HB2⟩
    case round =>
      obtain ⟨k, hk, rfl, hS, hB⟩ := hrel
      have HAr := Lib.hid (HA1.out.keep hB.out)
      have HBw := Lib.hid (HB1.out.trans (hB.out.mono hs1))
      have hn5 := HN.out
      by_cases hlt : k < n
      · obtain ⟨b, off, rfl, hb, hc⟩ := rd_edge HAr.out.rd (by have := HAr.out.len; omega)
        obtain ⟨e, he⟩ : ∃ x, E[k]? = some x := ⟨_, List.getElem?_eq_getElem (by have := HL.out; omega)⟩
        have HST := Lib.hid (textK_step (N := N) he)
        have HIE := Lib.hid (HI.out.2 e (List.mem_of_getElem? he))
        have HLK := Lib.hid (textK_len HI.out.1 HI.out.2 HLE.out k)
        obtain ⟨x0, x1⟩ := e
        obtain ⟨q0, q1⟩ := hc _ (Below.refl _ _) k _ he
        clear hc he
        have HSa := Lib.hid (hS.out.below (alloc_below wr (.cells #[.int .i64 x0, .int .i64 x1] 49)))
        have HBa := Lib.hid (hB.out.trans ((alloc_below wr (.cells #[.int .i64 x0, .int .i64 x1] 49)).mono hB.out.size))
        have HTa := Lib.hid (HT1.out.on HBa.out)
        have hs3 := HBa.out.size
        go_wp2_with fail
        refine (line_any w1.heap.size x0 x1 _ _ _ HSa.out hs3 (by have := HLK.out; have := HN.out; omega) HIE.out.1 HIE.out.2 HTa.out).mono ?_
        rintro e w3 ⟨v3, rfl, hr3, hb3⟩
        have HS3 := Lib.hid (show RowB w1.heap.size w3 v3 (textK N E (k + 1)) from by rw [HST.out]; exact hr3)
        have HB3 := Lib.hid (HBa.out.trans hb3)
        clear hr3 hb3
        go_wp2
        go_roundw
        case rel => exact ⟨k + 1, by omega, by go_num, HS3, HB3⟩
        case measure => simp [intOf]; omega
      · obtain rfl : k = n := by omega
        have HXT := Lib.hid (textK_all (N := N) HL.out)
        have hS2 := hS.out
        rw [HXT.out] at hS2
        obtain ⟨A4, c4, rfl, hrd⟩ := hS2.rd
        have cv := conv_word A4 _ c4 (textG N E) wr rfl hrd
        clear hS2 hrd hS
        go_wp2
        go_ret2
        exact ⟨by rw [HX.out]; rfl, HBw.out⟩
end Go.Proofs.YtljihclpgpmfeaaDoor
