/- Walk: graph.Parse. -/
import Derived.Test.YtljihclpgpmfeaaDoorGt
namespace Go.Proofs.YtljihclpgpmfeaaDoor
set_option maxRecDepth 100000
open Go.RowKit

theorem rowE_box {B g : Nat} {W : World} {v : Value} {l : List (Int × Int)} {vs : List Value} (h : RowE B W v l) (ho : Own W g 26 vs) (x y : Value) : RowE B ((W.setCell ⟨g, 0, none⟩ x).setCell ⟨g, 1, none⟩ y) v l := by
  rcases h with h | ⟨g1, cap, more, e, hgb, h1, h⟩
  · exact .inl h
  · have hn := h1.ne ho (by decide)
    exact .inr ⟨g1, cap, more, e, hgb, (h1.far (p := ⟨g, 0, none⟩) hn x).far (p := ⟨g, 1, none⟩) hn y, h⟩
set_option maxRecDepth 100000 in
set_option maxHeartbeats 16000000 in
theorem parse_any (l : List UInt8) (w : World) (hl : l.length ≤ 1000000000) :
    Calls Tryd.prog 15 #[.string (strB l)] w (GrE w (parN l) (parO l)) := by
  have O0 := Lib.hid (Own.new' (t := 26) (w := w) (vs := [.int .i64 0, .slice none 0 0]) rfl)
  have HB0 := Lib.hid (alloc_below w (.cells #[.int .i64 0, .slice none 0 0] 26))
  have N1 := Lib.hid (pairS_any l (w.alloc (.cells #[.int .i64 0, .slice none 0 0] 26)) hl)
  obtain ⟨o1, ho1⟩ : ∃ o, pairG l = o := ⟨_, rfl⟩
  rw [ho1] at N1
  have K1 := Lib.hid ho1
  clear ho1
  go_enter Tryd.func15, Tryd.ntmps15
  go_wp2_with fail
  refine N1.out.mono ?_
  rintro e w1 ⟨rfl, hb⟩
  have O1 := Lib.hid (O0.out.below' hb)
  have HB1 := Lib.hid (HB0.out.trans (hb.mono HB0.out.size))
  clear hb
  cases o1 with
  | none =>
    have HX := Lib.hid (show parO l = .error 20 by unfold parO; rw [K1.out])
    have O2 := Lib.hid (O1.out.alloc (.cells #[.int .i64 0, .int .i64 0] 49))
    have HB2 := Lib.hid (HB1.out.alloc HB1.out.size (.cells #[.int .i64 0, .int .i64 0] 49))
    have yR := O2.out.lt; have fR := O2.out.frozen; have qR := O2.out.cell
    unfold PairV
    go_wp2
    have hF := (O2.out.set 0 (.int .i64 0)).set 1 (.slice none 0 0)
    have r0 := hF.cell 0
    have r1 := hF.cell 1
    simp only [List.set_cons_zero, List.set_cons_succ, List.getElem?_cons_zero, List.getElem?_cons_succ] at r0 r1
    exact bodyPost_ret (v := .tuple #[.agg #[.int .i64 0, .slice none 0 0], .int .i64 20]) (by simp [results, Tryd.results15, go_sem, r0, r1]) rfl (by show GrE w (parN l) (parO l) _ _; rw [HX.out]; exact ⟨rfl, (HB2.out.setCell (by simp; try omega) _).setCell (by simp; try omega) _⟩)
  | some x =>
    obtain ⟨⟨n, m⟩, r⟩ := x
    have hr := pairG_len K1.out
    have hn9 := hr.2.1; have hm9 := hr.2.2
    have HRL := Lib.hid (show r.length ≤ 1000000000 by omega)
    have HN := Lib.hid (show parN l = (n : Int) by unfold parN; rw [K1.out]; rfl)
    have O2 := Lib.hid (O1.out.alloc (.cells #[.int .i64 n, .int .i64 m] 49))
    have HB2 := Lib.hid (HB1.out.alloc HB1.out.size (.cells #[.int .i64 n, .int .i64 m] 49))
    have OH := Lib.hid (Own.new' (t := 49) (w := w1) (vs := [.int .i64 n, .int .i64 m]) rfl)
    have yR := O2.out.lt; have fR := O2.out.frozen; have qR := O2.out.cell
    clear hr
    unfold PairV
    by_cases hbig : 200 < n ∨ 594 < m
    · have HX := Lib.hid (show parO l = .error 21 by unfold parO; rw [K1.out]; exact if_pos hbig)
      by_cases h1 : 200 < n
      · have d1 : decide ((200 : Int) < (n : Int)) = true := decide_eq_true (by omega)
        clear hbig h1
        go_wp2
        have hF := (O2.out.set 0 (.int .i64 0)).set 1 (.slice none 0 0)
        have r0 := hF.cell 0
        have r1 := hF.cell 1
        simp only [List.set_cons_zero, List.set_cons_succ, List.getElem?_cons_zero, List.getElem?_cons_succ] at r0 r1
        exact bodyPost_ret (v := .tuple #[.agg #[.int .i64 0, .slice none 0 0], .int .i64 21]) (by simp [results, Tryd.results15, go_sem, r0, r1]) rfl (by show GrE w (parN l) (parO l) _ _; rw [HX.out]; exact ⟨rfl, (HB2.out.setCell (by simp; try omega) _).setCell (by simp; try omega) _⟩)
      · have d1 : decide ((200 : Int) < (n : Int)) = false := decide_eq_false (by omega)
        have d2 : decide ((594 : Int) < (m : Int)) = true := decide_eq_true (by omega)
        clear hbig h1
        go_wp2
        have hF := (O2.out.set 0 (.int .i64 0)).set 1 (.slice none 0 0)
        have r0 := hF.cell 0
        have r1 := hF.cell 1
        simp only [List.set_cons_zero, List.set_cons_succ, List.getElem?_cons_zero, List.getElem?_cons_succ] at r0 r1
        exact bodyPost_ret (v := .tuple #[.agg #[.int .i64 0, .slice none 0 0], .int .i64 21]) (by simp [results, Tryd.results15, go_sem, r0, r1]) rfl (by show GrE w (parN l) (parO l) _ _; rw [HX.out]; exact ⟨rfl, (HB2.out.setCell (by simp; try omega) _).setCell (by simp; try omega) _⟩)
    · have d1 : decide ((200 : Int) < (n : Int)) = false := decide_eq_false (by omega)
      have d2 : decide ((594 : Int) < (m : Int)) = false := decide_eq_false (by omega)
      have HX := Lib.hid (show parO l = (match linesG m r with
          | none => .error 20
          | some (E, r2) => if r2 = [] then newO (n : Int) E else .error 20) by unfold parO; rw [K1.out]; exact if_neg hbig)
      have hm : m ≤ 594 := by omega
      have hmk := mk_edges m m (Nat.le_refl _) (by omega) (w1.alloc (.cells #[.int .i64 n, .int .i64 m] 49))
      obtain ⟨W2, hW2⟩ : ∃ W, w1.alloc (.cells #[.int .i64 n, .int .i64 m] 49) = W := ⟨_, rfl⟩
      have HE0 := Lib.hid (Own.new' (w := W2) (t := 49) (g := W2.heap.size) (vs := cellsE (List.replicate m (0, 0))) rfl)
      have HW2 := Lib.hid hW2
      have O2' := Lib.hid (show Own W2 w.heap.size 26 [.int .i64 0, .slice none 0 0] from by rw [← hW2]; exact O2.out)
      have OH' := Lib.hid (show Own W2 w1.heap.size 49 [.int .i64 n, .int .i64 m] from by rw [← hW2]; exact OH.out)
      have HB2' := Lib.hid (show Below w.heap.size w W2 from by rw [← hW2]; exact HB2.out)
      have HBL := Lib.hid (alloc_below W2 (.cells (cellsE (List.replicate m (0, 0))).toArray 49))
      have q9 := OH'.out.cell; have z9 := OH'.out.lt
      clear hbig yR fR qR O2 OH HB2
      rw [hW2] at hmk
      go_wp2_with fail
      go_loopw [0, 3, 5, 7, 31] (fun s0 _ _ _ i wr => ∃ (k : Nat) (rk : List UInt8) (Ek : List (Int × Int)), k ≤ m ∧ i = .int .i64 (k : Int) ∧ s0 = .string (strB rk) ∧ Hid (rk.length ≤ 1000000000) ∧ Hid (Ek.length = k) ∧ Hid (linesG m r = (linesG (m - k) rk).map fun y => (Ek ++ y.1, y.2)) ∧ Hid (Own wr W2.heap.size 49 (cellsE (Ek ++ List.replicate (m - k) (0, 0)))) ∧ Hid (Below W2.heap.size W2 wr)) (fun _ _ _ _ i _ => m - (intOf i).toNat)
      case atStart => exact ⟨0, r, [], Nat.zero_le _, rfl, rfl, HRL, Lib.hid rfl, Lib.hid (by cases linesG m r <;> rfl), HE0, HBL⟩
      case round =>
        obtain ⟨k, rk, Ek, hk, rfl, rfl, HRK, HEK, HLN, HO, HB⟩ := hrel
        by_cases hlt : k < m
        · obtain ⟨j, hj⟩ : ∃ j, m - k = j + 1 := ⟨m - k - 1, by omega⟩
          have HJ := Lib.hid hj
          obtain ⟨o2, ho2⟩ : ∃ o, pairG rk = o := ⟨_, rfl⟩
          have N2 := Lib.hid (pairS_any rk wr HRK.out)
          rw [ho2] at N2
          have K2 := Lib.hid ho2
          clear ho2 hj
          go_wp2_with fail
          refine N2.out.mono ?_
          rintro e w3 ⟨rfl, hb⟩
          have HO3 := Lib.hid (show Own w3 W2.heap.size 49 (cellsE (Ek ++ (0, 0) :: List.replicate j (0, 0))) from by have h := HO.out.below' hb; rw [HJ.out, List.replicate_succ] at h; exact h)
          have HB3 := Lib.hid (below_chain HB.out hb)
          clear hb
          have hat : (Ek ++ (0, 0) :: List.replicate j ((0 : Int), (0 : Int)))[k]? = some (0, 0) := by rw [List.getElem?_append_right (by rw [HEK.out]; exact Nat.le_refl _), HEK.out, Nat.sub_self]; rfl
          have c5 : w3.cell? ⟨W2.heap.size, k * 2, none⟩ = some (.int .i64 0) := (HO3.out.cell _).trans (cellsE_at hat).1
          have c6 : w3.cell? ⟨W2.heap.size, k * 2 + 1, none⟩ = some (.int .i64 0) := (HO3.out.cell _).trans (cellsE_at hat).2
          have f5 := HO3.out.frozen (k * 2)
          have f6 := HO3.out.frozen (k * 2 + 1)
          have z5 := HO3.out.lt
          clear hat
          cases o2 with
          | none =>
            have HF := Lib.hid (show parO l = .error 20 from by
              rw [HX.out, HLN.out, HJ.out, linesG_none K2.out]; rfl)
            have OR := Lib.hid (O2'.out.below' HB3.out)
            have yR := OR.out.lt; have fR := OR.out.frozen; have qR := OR.out.cell
            have HBF := Lib.hid (HB2'.out.trans (HB3.out.mono HB2'.out.size))
            have hzz := HB2'.out.size
            have hzs := O2'.out.lt
            unfold PairV
            go_wp2
            have hF := (((OR.out.far (p := ⟨W2.heap.size, k * 2, none⟩) (by simp; omega) (.int .i64 0)).far (p := ⟨W2.heap.size, k * 2 + 1, none⟩) (by simp; omega) (.int .i64 0)).set 0 (.int .i64 0)).set 1 (.slice none 0 0)
            have r0 := hF.cell 0
            have r1 := hF.cell 1
            simp only [List.set_cons_zero, List.set_cons_succ, List.getElem?_cons_zero, List.getElem?_cons_succ] at r0 r1
            exact bodyPost_ret (v := .tuple #[.agg #[.int .i64 0, .slice none 0 0], .int .i64 20]) (by simp [results, Tryd.results15, go_sem, r0, r1]) rfl (by show GrE w (parN l) (parO l) _ _; rw [HF.out]; exact ⟨rfl, ((((HBF.out.setCell (p := ⟨W2.heap.size, k * 2, none⟩) hzz _).setCell (p := ⟨W2.heap.size, k * 2 + 1, none⟩) hzz _).setCell (by simp; try omega) _).setCell (by simp; try omega) _)⟩)
          | some y =>
            obtain ⟨⟨a, b⟩, r3⟩ := y
            have HL3 := Lib.hid (show r3.length ≤ 1000000000 by have := (pairG_len K2.out).1; have := HRK.out; omega)
            have HST := Lib.hid (show ((cellsE (Ek ++ (0, 0) :: List.replicate j (0, 0))).set (k * 2) (.int .i64 (a : Int))).set (k * 2 + 1) (.int .i64 (b : Int)) = cellsE ((Ek ++ [((a : Int), (b : Int))]) ++ List.replicate (m - (k + 1)) (0, 0)) from by
              have h := set_edgeT (a : Int) (b : Int) (List.replicate j (0, 0)) Ek
              rw [HEK.out] at h
              rw [h, show m - (k + 1) = j by have := HJ.out; omega, List.append_assoc]
              rfl)
            have HLN2 := Lib.hid (show linesG m r = (linesG (m - (k + 1)) r3).map fun y => ((Ek ++ [((a : Int), (b : Int))]) ++ y.1, y.2) from by
              rw [HLN.out, HJ.out, linesG_step K2.out, show m - (k + 1) = j by have := HJ.out; omega]
              cases linesG j r3 with
              | none => rfl
              | some y => simp)
            unfold PairV
            go_wp2
            go_roundw
            case rel => exact ⟨k + 1, r3, Ek ++ [((a : Int), (b : Int))], by omega, by go_num, rfl, HL3, Lib.hid (by rw [List.length_append, HEK.out]; rfl), HLN2, Lib.hid (by have h := (HO3.out.set (k * 2) (.int .i64 (a : Int))).set (k * 2 + 1) (.int .i64 (b : Int)); rw [HST.out] at h; exact h), Lib.hid ((HB3.out.setCell (p := ⟨W2.heap.size, k * 2, none⟩) (Nat.le_refl _) _).setCell (p := ⟨W2.heap.size, k * 2 + 1, none⟩) (Nat.le_refl _) _)⟩
            case measure => simp [intOf]; omega
        · obtain rfl : k = m := by omega
          have HLF := Lib.hid (show linesG k r = some (Ek, rk) from by rw [HLN.out, Nat.sub_self]; show some (Ek ++ [], rk) = _; rw [List.append_nil])
          have HOF := Lib.hid (show Own wr W2.heap.size 49 (cellsE Ek) from by have h := HO.out; rw [Nat.sub_self, List.replicate_zero, List.append_nil] at h; exact h)
          have OR := Lib.hid (O2'.out.below' HB.out)
          have OHr := Lib.hid (OH'.out.below' HB.out)
          have yR := OR.out.lt; have fR := OR.out.frozen; have qR := OR.out.cell
          have q9' := OHr.out.cell; have z9' := OHr.out.lt
          have HBF := Lib.hid (HB2'.out.trans (HB.out.mono HB2'.out.size))
          have hzz := HB2'.out.size
          by_cases hrk : rk = []
          · subst hrk
            have HF := Lib.hid (show parO l = newO (n : Int) Ek from by rw [HX.out, HLF.out]; exact if_pos rfl)
            have hemp : (strB []).toList.isEmpty = true := by rw [strB_toList]; rfl
            have HA := Lib.hid (show ArgE wr (some ⟨W2.heap.size, 0, none⟩) k k Ek from ⟨HOF.out.rd, HEK.out.symm, by omega, Nat.le_refl _⟩)
            go_wp2_with fail
            refine (newG_any (n : Int) _ k k Ek wr HA.out).mono ?_
            rintro e w4 he
            have HRS := Lib.hid he
            clear he
            cases hno : newO (n : Int) Ek with
            | error x =>
              have HNO := Lib.hid hno
              have h := HRS.out
              rw [hno] at h
              obtain ⟨rfl, hb⟩ := h
              have OR4 := Lib.hid (OR.out.below' hb)
              have yR4 := OR4.out.lt; have fR4 := OR4.out.frozen; have qR4 := OR4.out.cell
              have BF4 := Lib.hid (below_chain HBF.out hb)
              clear hb HRS hno yR fR qR
              go_wp2
              have hF := (OR4.out.set 0 (.int .i64 0)).set 1 (.slice none 0 0)
              have r0 := hF.cell 0
              have r1 := hF.cell 1
              simp only [List.set_cons_zero, List.set_cons_succ, List.getElem?_cons_zero, List.getElem?_cons_succ] at r0 r1
              exact bodyPost_ret (v := .tuple #[.agg #[.int .i64 0, .slice none 0 0], .int .i64 x]) (by simp [results, Tryd.results15, go_sem, r0, r1]) rfl (by show GrE w (parN l) (parO l) _ _; rw [HF.out, HNO.out]; exact ⟨rfl, (BF4.out.setCell (by simp; try omega) _).setCell (by simp; try omega) _⟩)
            | ok E =>
              have HNO := Lib.hid hno
              have h := HRS.out
              rw [hno] at h
              obtain ⟨v, rfl, hv, hb⟩ := h
              have OR4 := Lib.hid (OR.out.below' hb)
              have yR4 := OR4.out.lt; have fR4 := OR4.out.frozen; have qR4 := OR4.out.cell
              have BF4 := Lib.hid (below_chain HBF.out hb)
              have HV := Lib.hid (hv.base HBF.out.size)
              obtain ⟨A4, c4, rfl, _, _⟩ := hv.rd
              clear hv hb HRS hno yR fR qR
              go_wp2
              have hF := (OR4.out.set 0 (.int .i64 (n : Int))).set 1 (.slice A4 E.length c4)
              have r0 := hF.cell 0
              have r1 := hF.cell 1
              simp only [List.set_cons_zero, List.set_cons_succ, List.getElem?_cons_zero, List.getElem?_cons_succ] at r0 r1
              have h2 := rowE_box HV.out OR4.out (.int .i64 (n : Int)) (.slice A4 E.length c4)
              exact bodyPost_ret (v := .tuple #[.agg #[.int .i64 (n : Int), .slice A4 E.length c4], .int .i64 0]) (by simp [results, Tryd.results15, go_sem, r0, r1]) rfl (by show GrE w (parN l) (parO l) _ _; rw [HF.out, HNO.out, HN.out]; exact ⟨_, rfl, h2, (BF4.out.setCell (by simp; try omega) _).setCell (by simp; try omega) _⟩)
          · have HF := Lib.hid (show parO l = .error 20 from by rw [HX.out, HLF.out]; exact if_neg hrk)
            have hemp : (strB rk).toList.isEmpty = false := by rw [strB_toList]; cases rk with
              | nil => exact absurd rfl hrk
              | cons a t => rfl
            go_wp2
            have hF := (OR.out.set 0 (.int .i64 0)).set 1 (.slice none 0 0)
            have r0 := hF.cell 0
            have r1 := hF.cell 1
            simp only [List.set_cons_zero, List.set_cons_succ, List.getElem?_cons_zero, List.getElem?_cons_succ] at r0 r1
            exact bodyPost_ret (v := .tuple #[.agg #[.int .i64 0, .slice none 0 0], .int .i64 20]) (by simp [results, Tryd.results15, go_sem, r0, r1]) rfl (by show GrE w (parN l) (parO l) _ _; rw [HF.out]; exact ⟨rfl, ((HBF.out.setCell (by simp; try omega) _).setCell (by simp; try omega) _)⟩)
end Go.Proofs.YtljihclpgpmfeaaDoor
