/- Walk: fretworkref03.Apply. -/
import Derived.Test.YtccaagildkgfeaaJp
import Derived.Test.YtccaagildkgfeaaGn
import Derived.Test.YtccaagildkgfeaaGp
import Derived.Test.YtccaagildkgfeaaGq
namespace Go.Proofs.Ytccaagildkgfeaa
open Go.RowKit

theorem Own.rowKept {B q : Nat} {W W' : World} {v : Value} {l : List (Int × Int)} {vs : List Value} (h : Own W q 34 vs) (hr : RowE B W v l) (hk : ∀ q, q < W.heap.size → some q ≠ v.ownBlock → W'.heap[q]? = W.heap[q]?) : Own W' q 34 vs := by
  refine (hk q h.lt ?_).trans h
  rcases hr with ⟨_, rfl⟩ | ⟨g, cap, more, rfl, _, ho, _⟩
  · simp [Value.ownBlock]
  · have hn := h.ne ho (by decide)
    simp [Value.ownBlock]
    exact hn
theorem RowE.slice {B : Nat} {W : World} {v : Value} {l : List (Int × Int)} (h : RowE B W v l) : ∃ A L c, v = .slice A L c := by
  obtain ⟨A, c, e, _⟩ := h.rd
  exact ⟨A, _, c, e⟩
theorem RowE.setBox {B q : Nat} {W : World} {v : Value} {l : List (Int × Int)} {vs : List Value} (h : RowE B W v l) (ho : Own W q 34 vs) (i : Nat) (u : Value) : RowE B (W.setCell ⟨q, i, none⟩ u) v l := by
  rcases h with h | ⟨g, cap, more, e, hgb, h1, h⟩
  · exact .inl h
  · exact .inr ⟨g, cap, more, e, hgb, h1.far (p := ⟨q, i, none⟩) (h1.ne ho (by decide)) u, h⟩
def tblRA (bp : Nat) (offp : Nat) (m : Nat) (cb : Nat) (A : Option Addr) (n : Nat) (c : Nat) (x : Nat) (y : Nat) (u : Nat) (v0 : Nat) (s : Bool) : List Pst := [Pst.val (.agg #[.int .i64 (m : Nat), .slice A n c]), Pst.val (.slice (some ⟨bp, offp, none⟩) m cb), Pst.val (.int .i64 (x : Nat)), Pst.val (.pointer (some ⟨bp, offp + x, none⟩)), Pst.val (.int .i64 (u : Nat)), Pst.val (.slice (some ⟨bp, offp, none⟩) m cb), Pst.val (.int .i64 (y : Nat)), Pst.val (.pointer (some ⟨bp, offp + y, none⟩)), Pst.val (.int .i64 (v0 : Nat)), Pst.val (.bool s)]
set_option maxRecDepth 100000 in
set_option maxHeartbeats 8000000 in
theorem applyR_any (N : Int) (A B : Option Addr) (n c m d : Nat) (E : List (Int × Int)) (p : List Int) (w : World) (h1 : ArgE w A n c E) (h2 : ArgI w B m d p) :
    Calls Try.prog 29 #[.agg #[.int .i64 N, .slice A n c], .slice B m d] w (GrE w N (appO N E p)) := by
  have hm0 := h2.le; have hn0 := h1.le
  have hW1 := alloc_below w (.cells #[.int .i64 N, .slice A n c] 34)
  have hW2 := alloc_below (w.alloc (.cells #[.int .i64 N, .slice A n c] 34)) (.cells #[.int .i64 0, .slice none 0 0] 34)
  have HB0 := Lib.hid (below_chain hW1 hW2)
  have HA := Lib.hid (h1.keep HB0.out)
  have HI := Lib.hid (h2.keep HB0.out)
  have OG0 := Lib.hid ((Own.new' (t := 34) (w := w) (vs := [.int .i64 N, .slice A n c]) rfl).below' hW2)
  have OR0 := Lib.hid (Own.new' (t := 34) (w := w.alloc (.cells #[.int .i64 N, .slice A n c] 34)) (g := w.heap.size + 1) (vs := [.int .i64 0, .slice none 0 0]) (by simp))
  clear h1 h2 hW1 hW2
  have HR := Lib.hid (rightR2_any N A n c E _ HA.out)
  obtain ⟨r, hr⟩ : ∃ r, rightG N E = r := ⟨_, rfl⟩
  rw [hr] at HR
  have RG := Lib.hid hr
  clear hr
  go_enter Try.func29, Try.ntmps29
  go_wp2_with fail
  refine HR.out.mono ?_
  rintro e w1 ⟨rfl, hb⟩
  have OR1 := Lib.hid (OR0.out.below' hb); have OG1 := Lib.hid (OG0.out.below' hb)
  have HB1 := Lib.hid (below_chain HB0.out hb)
  have HI1 := Lib.hid (HI.out.keep hb); have HA1 := Lib.hid (HA.out.keep hb)
  clear hb
  cases r with
  | false =>
    have HX := Lib.hid (show appO N E p = .error 20 from if_neg (by rw [RG.out]; simp))
    have qG := OG1.out.cell; have zG := OG1.out.lt
    have yR := OR1.out.lt; have fR := OR1.out.frozen; have qR := OR1.out.cell
    go_wp2
    have hF := (OR1.out.set 0 (.int .i64 0)).set 1 (.slice none 0 0)
    have r0 := hF.cell 0
    have r1 := hF.cell 1
    simp only [List.set_cons_zero, List.set_cons_succ, List.getElem?_cons_zero, List.getElem?_cons_succ] at r0 r1
    exact bodyPost_ret (v := .tuple #[.agg #[.int .i64 0, .slice none 0 0], .int .i64 20]) (by simp [results, Try.results29, go_sem, r0, r1]) rfl (by show GrE w N (appO N E p) _ _; rw [HX.out]; exact ⟨rfl, (HB1.out.setCell (by simp; try omega) _).setCell (by simp; try omega) _⟩)
  | true =>
    have RG1 := Lib.hid (rightG_iff.1 RG.out)
    have HP := Lib.hid (rightR_any B m d p _ HI1.out)
    obtain ⟨r2, hr2⟩ : ∃ r, rightP p = r := ⟨_, rfl⟩
    rw [hr2] at HP
    have RP := Lib.hid hr2
    clear hr2
    have qG := OG1.out.cell; have zG := OG1.out.lt
    have yR := OR1.out.lt; have fR := OR1.out.frozen; have qR := OR1.out.cell
    go_wp2_with fail
    refine HP.out.mono ?_
    rintro e w2 ⟨rfl, hb⟩
    clear qG zG yR fR qR
    have OR2 := Lib.hid (OR1.out.below' hb); have OG2 := Lib.hid (OG1.out.below' hb)
    have HB2 := Lib.hid (below_chain HB1.out hb)
    have HI2 := Lib.hid (HI1.out.keep hb); have HA2 := Lib.hid (HA1.out.keep hb)
    clear hb
    have qG := OG2.out.cell; have zG := OG2.out.lt
    have yR := OR2.out.lt; have fR := OR2.out.frozen; have qR := OR2.out.cell
    cases r2 with
    | false =>
      have HX := Lib.hid (show appO N E p = .error 30 from (if_pos RG.out).trans (if_neg (by rw [RP.out]; simp)))
      go_wp2
      have hF := (OR2.out.set 0 (.int .i64 0)).set 1 (.slice none 0 0)
      have r0 := hF.cell 0
      have r1 := hF.cell 1
      simp only [List.set_cons_zero, List.set_cons_succ, List.getElem?_cons_zero, List.getElem?_cons_succ] at r0 r1
      exact bodyPost_ret (v := .tuple #[.agg #[.int .i64 0, .slice none 0 0], .int .i64 30]) (by simp [results, Try.results29, go_sem, r0, r1]) rfl (by show GrE w N (appO N E p) _ _; rw [HX.out]; exact ⟨rfl, (HB2.out.setCell (by simp; try omega) _).setCell (by simp; try omega) _⟩)
    | true =>
      by_cases hmn : (m : Int) = N
      · subst hmn
        have k1 : ((m : Int) != (m : Int)) = false := by simp
        have LP := Lib.hid (show p.length = m from HI2.out.len.symm)
        have LPN := Lib.hid (show (p.length : Int) = (m : Int) from by rw [LP.out])
        have hm2 : m ≤ 200 := by have := right_le RP.out; have := LP.out; omega
        have hm1 : m ≤ 100000 := by omega
        have HX := Lib.hid (appO_ok RP.out LPN.out RG1.out)
        go_wp2_with fail
        refine (invertR_any B m d p _ HI2.out).mono ?_
        intro e w4 he
        obtain ⟨A6, cb, rfl, ha6, hb⟩ := he.at (invO_some RP.out) (by rw [length_invP]; exact LP.out) hm1
        clear qG zG yR fR qR he
        have OR4 := Lib.hid (OR2.out.below' hb); have OG4 := Lib.hid (OG2.out.below' hb)
        have HB4 := Lib.hid (below_chain HB2.out hb)
        have HA4 := Lib.hid (HA2.out.keep hb); have H6 := Lib.hid ha6
        clear hb ha6
        have RV := Lib.hid (right_invP RP.out)
        have LV := Lib.hid (show (invP p).length = m from by rw [length_invP]; exact LP.out)
        obtain ⟨F, hF⟩ : ∃ F : Nat → Nat → Bool, F = fun x y => hasG (m : Int) E ((at0 (invP p) x : Nat) : Int) ((at0 (invP p) y : Nat) : Int) := ⟨_, rfl⟩
        have HFE := Lib.hid (show pairsF F m m = newE p E from pairsF_right (new_right RP.out LPN.out RG1.out) fun x y hxy hy => by
          have hx : x < p.length := by have := LP.out; omega
          have hy2 : y < p.length := by have := LP.out; omega
          rw [hF]
          show hasG (m : Int) E _ _ = true ↔ _
          have i1 := idx_lt RP.out hx; have i2 := idx_lt RP.out hy2
          rw [at0_invP hx, at0_invP hy2, has_new RP.out LPN.out RG1.out (by omega) (by have := LP.out; omega) (by omega) (by have := LP.out; omega) (fun e => by have h1 := at0_idx RP.out hx; have h2 := at0_idx RP.out hy2; rw [show p.idxOf (x : Int) = p.idxOf (y : Int) by omega] at h1; omega),
            (atI_nat RP.out (by omega) (by omega)).1, (atI_nat RP.out (by omega) (by omega)).1, Int.toNat_natCast, Int.toNat_natCast, at0_idx RP.out hx, at0_idx RP.out hy2, hasG_iff (new_right RP.out LPN.out RG1.out)]
          rw [show normE ((x : Int), (y : Int)) = ((x : Int), (y : Int)) from by unfold normE; simp only; rw [Int.min_eq_left (by omega), Int.max_eq_right (by omega)]])
        have HFF := Lib.hid (show ∀ x y, hasG (m : Int) E ((at0 (invP p) x : Nat) : Int) ((at0 (invP p) y : Nat) : Int) = F x y from fun x y => by rw [hF])
        clear hF
        have O8 := Lib.hid (Own.new' (t := 34) (w := w4) (g := w4.heap.size) (vs := [.int .i64 m, .slice none 0 0]) rfl)
        have HR0 := Lib.hid (show RowE w4.heap.size (w4.alloc (.cells #[.int .i64 m, .slice none 0 0] 34)) (.slice none 0 0) (pairsF F m 0) from .inl ⟨rfl, rfl⟩)
        have HBa := Lib.hid (alloc_below w4 (.cells #[.int .i64 m, .slice none 0 0] 34))
        have qG := OG4.out.cell; have zG := OG4.out.lt
        have yR := OR4.out.lt; have fR := OR4.out.frozen; have qR := OR4.out.cell
        go_wp2_with fail
        go_loopw [9, 10] (fun i _ wr => ∃ (x : Nat) (v : Value), x ≤ m ∧ i = .int .i64 (x : Int) ∧ Hid (Own wr w4.heap.size 34 [.int .i64 m, v]) ∧ Hid (RowE w4.heap.size wr v (pairsF F m x)) ∧ Hid (Below w4.heap.size w4 wr)) (fun i _ _ => m - (intOf i).toNat)
        case atStart => exact ⟨0, .slice none 0 0, Nat.zero_le _, rfl, O8, HR0, HBa⟩
        case round =>
          obtain ⟨x, v, hx, rfl, HO, HV, HB⟩ := hrel
          clear qG zG yR fR qR
          have OGr := Lib.hid (OG4.out.below' HB.out)
          have qG := OGr.out.cell; have zG := OGr.out.lt
          by_cases hlt : x < m
          · go_wp2_with fail
            go_loopw [10] (fun i V => ∃ (y : Nat) (v : Value), x < y ∧ y ≤ m ∧ i = .int .i64 (y : Int) ∧ Hid (Own V w4.heap.size 34 [.int .i64 m, v]) ∧ Hid (RowE w4.heap.size V v (pairsF F m x ++ rowF F x y)) ∧ Hid (Below w4.heap.size w4 V)) (fun i _ => m - (intOf i).toNat)
            case atStart => exact ⟨x + 1, v, by omega, by omega, by go_num, HO, Lib.hid (by rw [rowF_start, List.append_nil]; exact HV.out), HB⟩
            case round =>
              clear HO HV HB qG zG OGr
              obtain ⟨y, v, hxy, hy, rfl, HO, HV, HB⟩ := hrel
              have OGr := Lib.hid (OG4.out.below' HB.out)
              have qG := OGr.out.cell; have zG := OGr.out.lt
              by_cases hly : y < m
              · obtain ⟨bp, offp, rfl, hbp, hcp⟩ := rd_int H6.out.rd (by have := LV.out; omega)
                have CP1 := Lib.hid (fun V (hV : Below wr.heap.size wr V) => hcp V (below_chain HB.out hV) x _ (at0_eq RV.out (by have := LV.out; omega)))
                have CP2 := Lib.hid (fun V (hV : Below wr.heap.size wr V) => hcp V (below_chain HB.out hV) y _ (at0_eq RV.out (by have := LV.out; omega)))
                have hs := HFF.out x y
                obtain ⟨u, hu⟩ : ∃ u, at0 (invP p) x = u := ⟨_, rfl⟩
                obtain ⟨v0, hv0⟩ : ∃ u, at0 (invP p) y = u := ⟨_, rfl⟩
                obtain ⟨s, hss⟩ : ∃ s, F x y = s := ⟨_, rfl⟩
                rw [hu] at CP1 hs
                rw [hv0] at CP2 hs
                rw [hss] at hs
                have HS := Lib.hid hs; have HSS := Lib.hid hss
                have CG := Lib.hid (fun V (hV : Below wr.heap.size wr V) => OGr.out.below' hV)
                have AG := Lib.hid (fun V (hV : Below wr.heap.size wr V) => HA4.out.keep (below_chain HB.out hV))
                have HLx := Lib.hid hlt; have HLy := Lib.hid hly
                have HPL := Lib.hid (show (pairsF F m x ++ rowF F x y).length ≤ 90000 from by
                  rw [List.length_append]
                  have h1 := length_pairsF F m x
                  have h2 := length_rowF F x y
                  have h3 : x * m ≤ 200 * 200 := Nat.mul_le_mul (by omega) hm2
                  omega)
                clear hcp hu hv0 hs hss
                go_wp2_with fail
                refine region_posts (by kernel_rfl) (tblRA bp offp m cb A n c x y u v0 s) (by kernel_rfl) ?_ ?_
                · skip
                  refine .yes rfl (fun a W Q hB hO hD => ?_) ?_
                  · have e2 : a.tmps.getD 2 undef = .pointer (some ⟨w.heap.size, 0, none⟩) := hO.slot 2 _ rfl rfl
                    clear hO hD
                    have hO := CG.out W hB
                    have q := hO.cell
                    have z := hO.lt
                    go_wp2
                    exact ⟨_, rfl, Below.refl _ _, rfl⟩
                  refine .yes rfl (fun a W Q hB hO hD => ?_) ?_
                  · have e6 : a.tmps.getD 6 undef = .slice (some ⟨bp, offp, none⟩) m cb := hO.slot 6 _ rfl rfl
                    clear hO hD
                    go_wp2
                    exact ⟨_, rfl, Below.refl _ _, rfl⟩
                  refine .yes rfl (fun a W Q hB hO hD => ?_) ?_
                  · have e9 : a.tmps.getD 9 undef = .int .i64 (x : Nat) := hO.slot 9 _ rfl rfl
                    clear hO hD
                    go_wp2
                    exact ⟨_, rfl, Below.refl _ _, rfl⟩
                  refine .yes rfl (fun a W Q hB hO hD => ?_) ?_
                  · have e49 : a.tmps.getD 49 undef = .slice (some ⟨bp, offp, none⟩) m cb := hD 1 rfl
                    have e50 : a.tmps.getD 50 undef = .int .i64 (x : Nat) := hD 2 rfl
                    clear hO hD
                    have hh := HLx.out
                    go_wp2
                    exact ⟨_, rfl, Below.refl _ _, rfl⟩
                  refine .yes rfl (fun a W Q hB hO hD => ?_) ?_
                  · have e51 : a.tmps.getD 51 undef = .pointer (some ⟨bp, offp + x, none⟩) := hD 3 rfl
                    clear hO hD
                    have hc := CP1.out W hB
                    go_wp2
                    exact ⟨_, rfl, Below.refl _ _, rfl⟩
                  refine .yes rfl (fun a W Q hB hO hD => ?_) ?_
                  · have e6 : a.tmps.getD 6 undef = .slice (some ⟨bp, offp, none⟩) m cb := hO.slot 6 _ rfl rfl
                    clear hO hD
                    go_wp2
                    exact ⟨_, rfl, Below.refl _ _, rfl⟩
                  refine .yes rfl (fun a W Q hB hO hD => ?_) ?_
                  · have e10 : a.tmps.getD 10 undef = .int .i64 (y : Nat) := hO.slot 10 _ rfl rfl
                    clear hO hD
                    go_wp2
                    exact ⟨_, rfl, Below.refl _ _, rfl⟩
                  refine .yes rfl (fun a W Q hB hO hD => ?_) ?_
                  · have e53 : a.tmps.getD 53 undef = .slice (some ⟨bp, offp, none⟩) m cb := hD 5 rfl
                    have e54 : a.tmps.getD 54 undef = .int .i64 (y : Nat) := hD 6 rfl
                    clear hO hD
                    have hh := HLy.out
                    go_wp2
                    exact ⟨_, rfl, Below.refl _ _, rfl⟩
                  refine .yes rfl (fun a W Q hB hO hD => ?_) ?_
                  · have e55 : a.tmps.getD 55 undef = .pointer (some ⟨bp, offp + y, none⟩) := hD 7 rfl
                    clear hO hD
                    have hc := CP2.out W hB
                    go_wp2
                    exact ⟨_, rfl, Below.refl _ _, rfl⟩
                  refine .yes rfl (fun a W Q hB hO hD => ?_) ?_
                  · have e48 : a.tmps.getD 48 undef = .agg #[.int .i64 (m : Nat), .slice A n c] := hD 0 rfl
                    have e52 : a.tmps.getD 52 undef = .int .i64 (u : Nat) := hD 4 rfl
                    have e56 : a.tmps.getD 56 undef = .int .i64 (v0 : Nat) := hD 8 rfl
                    clear hO hD
                    have K := Lib.hid (hasR_any (m : Int) A n c E (u : Int) (v0 : Int) W (AG.out W hB))
                    go_wp2_with fail
                    refine K.out.mono ?_
                    rintro e W1 ⟨rfl, hb1⟩
                    rw [HS.out]
                    go_wp2
                    exact ⟨_, rfl, hb1, rfl⟩
                  exact .nil
                · intro f V hBz hR
                  have e9 : f 9 = .bool s := hR 9 (by decide)
                  have HBv := Lib.hid (below_chain HB.out hBz)
                  have HOv := Lib.hid (HO.out.below' hBz)
                  have HVv := Lib.hid (HV.out.below hBz)
                  clear hR hBz qG zG
                  simp only [putAll, Nat.zero_add, Nat.reduceAdd, Act.put, List.setIfInBounds_toArray, List.set_cons_zero, List.set_cons_succ, e9]
                  cases s with
                  | true =>
                    have HST := Lib.hid (show pairsF F m x ++ rowF F x y ++ [((x : Int), (y : Int))] = pairsF F m x ++ rowF F x (y + 1) by rw [rowF_yes hxy HSS.out, List.append_assoc])
                    have q8 : V.cell? ⟨w4.heap.size, 1, none⟩ = some v := HOv.out.cell 1
                    have z8 := HOv.out.lt
                    have HN := Lib.hid (Own.new' (w := V) (t := 57) (g := V.heap.size) (vs := cellsE [((x : Int), (y : Int))]) rfl)
                    have HV1 := Lib.hid (HVv.out.below (alloc_below V (.cells #[.int .i64 (x : Int), .int .i64 (y : Int)] 57)))
                    have HO1 := Lib.hid (HOv.out.alloc (.cells #[.int .i64 (x : Int), .int .i64 (y : Int)] 57))
                    have HB1 := Lib.hid (belA HBv.out (.cells #[.int .i64 (x : Int), .int .i64 (y : Int)] 57))
                    go_wp2_with (at_builtin; refine wpList_append_edges rfl (.tmp 59) (.tmp 63) rfl (some ⟨V.heap.size, 0, none⟩) 1 1 (k := [((x : Int), (y : Int))]) rfl rfl HV1.out rfl HN.out.rd (by have := HPL.out; simp at this ⊢; omega) HB1.out.size ?_; intro v' w' hr hb hqq; obtain ⟨A8, L8, c8, rfl⟩ := hr.slice; have HR' := Lib.hid hr; have HB' := Lib.hid (HB1.out.trans hb); have HO' := Lib.hid (HO1.out.rowKept HV1.out hqq); have q9 := HO'.out.cell; have z9 := HO'.out.lt; have f9 := HO'.out.frozen; clear hr hb hqq)
                    go_roundw
                    case rel => exact ⟨y + 1, _, by omega, by omega, by go_num, Lib.hid (HO'.out.set 1 _), Lib.hid (by have h := HR'.out.setBox HO'.out 1 (.slice A8 L8 c8); rw [HST.out] at h; exact h), Lib.hid (HB'.out.setCell (p := ⟨w4.heap.size, 1, none⟩) (Nat.le_refl _) _)⟩
                    case measure => simp [intOf]; omega
                  | false =>
                    have HST := Lib.hid (rowF_no (a := x) HSS.out)
                    go_wp2
                    go_roundw
                    case rel => exact ⟨y + 1, v, by omega, by omega, by go_num, HOv, Lib.hid (by rw [HST.out]; exact HVv.out), HBv⟩
                    case measure => simp [intOf]; omega
              · obtain rfl : y = m := by omega
                go_wp2
                go_roundw
                case rel => exact ⟨x + 1, v, by omega, by go_num, HO, HV, HB⟩
                case measure => simp [intOf]; omega
          · obtain rfl : x = m := by omega
            have HV2 := Lib.hid (show RowE w4.heap.size wr v (newE p E) from by rw [← HFE.out]; exact HV.out)
            have ORr := Lib.hid (OR4.out.below' HB.out)
            have yR := ORr.out.lt; have fR := ORr.out.frozen; have qR := ORr.out.cell
            have q8 := HO.out.cell; have z8 := HO.out.lt
            have HBf := Lib.hid (below_chain HB4.out HB.out)
            obtain ⟨A9, c9, rfl, _, _⟩ := HV2.out.rd
            have zw := HB4.out.size
            clear HV
            go_wp2
            have hF := (ORr.out.set 0 (.int .i64 x)).set 1 (.slice A9 (newE p E).length c9)
            have r0 := hF.cell 0
            have r1 := hF.cell 1
            simp only [List.set_cons_zero, List.set_cons_succ, List.getElem?_cons_zero, List.getElem?_cons_succ] at r0 r1
            have h2 := rowE_apart (HV2.out.base zw) ORr.out (.int .i64 x) (.slice A9 (newE p E).length c9)
            exact bodyPost_ret (v := .tuple #[.agg #[.int .i64 x, .slice A9 (newE p E).length c9], .int .i64 0]) (by simp [results, Try.results29, go_sem, r0, r1]) rfl (by show GrE w (x : Int) (appO (x : Int) E p) _ _; rw [HX.out]; exact ⟨_, rfl, h2, (HBf.out.setCell (by simp; try omega) _).setCell (by simp; try omega) _⟩)
      · have HX := Lib.hid (show appO N E p = .error 30 from (if_pos RG.out).trans (if_neg (by rw [← HI2.out.len]; exact fun h => hmn h.2)))
        have k2 : ((m : Int) != N) = true := by rw [bne_iff_ne]; exact hmn
        go_wp2
        have hF := (OR2.out.set 0 (.int .i64 0)).set 1 (.slice none 0 0)
        have r0 := hF.cell 0
        have r1 := hF.cell 1
        simp only [List.set_cons_zero, List.set_cons_succ, List.getElem?_cons_zero, List.getElem?_cons_succ] at r0 r1
        exact bodyPost_ret (v := .tuple #[.agg #[.int .i64 0, .slice none 0 0], .int .i64 30]) (by simp [results, Try.results29, go_sem, r0, r1]) rfl (by show GrE w N (appO N E p) _ _; rw [HX.out]; exact ⟨rfl, (HB2.out.setCell (by simp; try omega) _).setCell (by simp; try omega) _⟩)
end Go.Proofs.Ytccaagildkgfeaa
