/- Walk: fretworkref02.Beside. -/
import Derived.Test.YtljihclpgpmfeaaDoorUp
import Derived.Test.YtljihclpgpmfeaaDoorOb
namespace Go.Proofs.YtljihclpgpmfeaaDoor
set_option maxRecDepth 100000
open Go.RowKit

theorem filt_step (b : Int) : ∀ (L : List Int), L.Pairwise (· < ·) → L.filter (fun x => decide (x < b + 1)) = L.filter (fun x => decide (x < b)) ++ (if L.contains b then [b] else [])
  | [], _ => rfl
  | x :: L, h => by
    have ih := filt_step b L h.of_cons
    have hx : ∀ y ∈ L, x < y := fun y hy => List.rel_of_pairwise_cons h hy
    rw [List.filter_cons, List.filter_cons, List.contains_cons]
    by_cases h1 : x < b
    · rw [if_pos (decide_eq_true (show x < b + 1 by omega)), if_pos (decide_eq_true h1), ih, show (b == x) = false from beq_eq_false_iff_ne.2 (by omega), Bool.false_or]
      rfl
    · have e1 : L.filter (fun x => decide (x < b)) = [] := List.filter_eq_nil_iff.2 fun y hy => by have := hx y hy; simp only [decide_eq_true_eq]; omega
      have e3 : L.contains b = false := by
        rw [Bool.eq_false_iff, ne_eq, List.contains_iff_mem]
        intro hb
        have := hx b hb
        omega
      rw [ih, e1, e3, if_neg (show ¬ decide (x < b) = true by simpa using h1), Bool.or_false]
      by_cases h2 : x = b
      · subst h2
        rw [if_pos (decide_eq_true (show x < x + 1 by omega)), beq_self_eq_true]
        rfl
      · rw [if_neg (show ¬ decide (x < b + 1) = true by simp only [decide_eq_true_eq]; omega), beq_eq_false_iff_ne.2 (show b ≠ x from fun e => h2 e.symm)]
/-- The rows, when the numbers below b are added to that of a. -/
def stR (n : Nat) (E : List (Int × Int)) (a b : Nat) : List (List Int) := (List.range n).map fun r => if r < a then sides (r : Int) E else if r = a then (sides (a : Int) E).filter (fun x => decide (x < (b : Int))) else []
theorem stR_len (n : Nat) (E : List (Int × Int)) (a b : Nat) : (stR n E a b).length = n := by simp [stR]
theorem stR_get {n r : Nat} (E : List (Int × Int)) (a b : Nat) (h : r < n) : (stR n E a b)[r]? = some (if r < a then sides (r : Int) E else if r = a then (sides (a : Int) E).filter (fun x => decide (x < (b : Int))) else []) := by
  unfold stR
  rw [List.getElem?_map, List.getElem?_range h]
  rfl
theorem stR_at {n a : Nat} (E : List (Int × Int)) (b : Nat) (h : a < n) : (stR n E a b)[a]? = some ((sides (a : Int) E).filter (fun x => decide (x < (b : Int)))) := by
  rw [stR_get E a b h, if_neg (by omega), if_pos rfl]
theorem stR_ext {n : Nat} {cs : List (List Int)} {E : List (Int × Int)} {a b : Nat} (hl : cs.length = n) (h : ∀ r, r < n → cs[r]? = (stR n E a b)[r]?) : cs = stR n E a b :=
  List.ext_getElem? fun r => by
    by_cases hr : r < n
    · exact h r hr
    · rw [List.getElem?_eq_none (by omega), List.getElem?_eq_none (by rw [stR_len]; omega)]
theorem sides_nneg {n : Nat} {E : List (Int × Int)} (h : RightE (n : Int) E) (a : Int) : (sides a E).filter (fun x => decide (x < ((0 : Nat) : Int))) = [] :=
  List.filter_eq_nil_iff.2 fun y hy => by have := sides_valid h hy; simp only [decide_eq_true_eq]; omega
theorem sides_below {n : Nat} {E : List (Int × Int)} (h : RightE (n : Int) E) (a : Int) : (sides a E).filter (fun x => decide (x < (n : Int))) = sides a E :=
  List.filter_eq_self.2 fun y hy => by have := sides_valid h hy; simp only [decide_eq_true_eq]; omega
theorem stR_zero {n : Nat} {E : List (Int × Int)} (h : RightE (n : Int) E) : List.replicate n [] = stR n E 0 0 := by
  refine stR_ext List.length_replicate fun r hr => ?_
  rw [stR_get E 0 0 hr, if_neg (by omega), List.getElem?_replicate, if_pos hr]
  split
  · rw [sides_nneg h]
  · rfl
theorem stR_next {n a : Nat} {E : List (Int × Int)} (h : RightE (n : Int) E) : stR n E a n = stR n E (a + 1) 0 := by
  refine stR_ext (stR_len _ _ _ _) fun r hr => ?_
  rw [stR_get E a n hr, stR_get E (a + 1) 0 hr]
  by_cases h1 : r < a
  · rw [if_pos h1, if_pos (by omega)]
  · rw [if_neg h1]
    by_cases h2 : r = a
    · subst h2
      rw [if_pos rfl, if_pos (by omega), sides_below h]
    · rw [if_neg h2, if_neg (by omega)]
      split
      · rw [sides_nneg h]
      · rfl
theorem stR_all {n : Nat} {E : List (Int × Int)} (h : RightE (n : Int) E) : besideK n E = stR n E n 0 := by
  refine stR_ext (besideK_len n E) fun r hr => ?_
  rw [stR_get E n 0 hr, if_pos hr, beside_at h hr]
theorem stR_no {n a b : Nat} {E : List (Int × Int)} (h : RightE (n : Int) E) (hc : hasG (n : Int) E (a : Int) (b : Int) = false) : stR n E a b = stR n E a (b + 1) := by
  rw [sides_has h] at hc
  refine stR_ext (stR_len _ _ _ _) fun r hr => ?_
  rw [stR_get E a b hr, stR_get E a (b + 1) hr]
  have := filt_step (b : Int) _ (sides_rise h (a : Int))
  rw [hc] at this
  rw [show (((b + 1 : Nat) : Int)) = (b : Int) + 1 by omega, this]
  simp
theorem stR_yes {n a b : Nat} {E : List (Int × Int)} (h : RightE (n : Int) E) (hc : hasG (n : Int) E (a : Int) (b : Int) = true) : (stR n E a b).set a ((sides (a : Int) E).filter (fun x => decide (x < (b : Int))) ++ [(b : Int)]) = stR n E a (b + 1) := by
  rw [sides_has h] at hc
  refine stR_ext (by rw [List.length_set, stR_len]) fun r hr => ?_
  have hf := filt_step (b : Int) _ (sides_rise h (a : Int))
  rw [hc, if_pos rfl] at hf
  by_cases e : a = r
  · subst e
    rw [List.getElem?_set_self (by rw [stR_len]; exact hr), stR_at E (b + 1) hr, show (((b + 1 : Nat) : Int)) = (b : Int) + 1 by omega, hf]
  · rw [List.getElem?_set_ne e, stR_get E a b hr, stR_get E a (b + 1) hr, if_neg (show ¬ r = a from fun e2 => e e2.symm), if_neg (show ¬ r = a from fun e2 => e e2.symm)]
theorem sides_len (a : Int) (E : List (Int × Int)) (b : Int) : ((sides a E).filter (fun x => decide (x < b))).length ≤ E.length :=
  Nat.le_trans (List.length_filter_le _ _) (List.length_filterMap_le _ _)
theorem wpList_append_one {B : Nat} {V : World} {u : Value} {ops : Array Oper} {rest : List Oper} {o : Oper} {a : Act} {Q : Exit → Act → World → Prop} (hgd : o.guard = none) (s y : Operand)
    (ho : o.op = .call { callee := .builtin .append, args := #[s, y], argTypes := #[44, 44] }) (g n m : Nat) {l : List Int} {x : Int} (hs : a.eval s = u) (hy : a.eval y = .slice (some ⟨g, 0, none⟩) n m) (h1 : RowI B V u l) (hg : Own V g 3 [.int .i64 x]) (hsz : l.length + 1 ≤ 1000000) (hB : B ≤ V.heap.size) (hn : n = 1) (hc : m = 1)
    (h : ∀ v' w', RowI B w' v' (l ++ [x]) → V.grownBy w' u.ownBlock → (v'.ownBlock = u.ownBlock ∨ v'.ownBlock = some V.heap.size) → wpList Tryd.prog ops Q rest (a.put o.dst v') w') : wpList Tryd.prog ops Q (o :: rest) a V := by
  obtain ⟨v', w', hrun, r1, r2, r3⟩ := run_append_one o.type g n m h1 hg hsz hB hn hc
  refine wpList_plain hgd fun K hK => ?_
  unfold Oper.wp execOp
  simp only [ho, resolve, invoke, builtin, Sem.run_bind, Sem.run_pure, Result.andThen_ok, List.map_toArray, List.map_cons, List.map_nil, hs, hy, hrun]
  exact hK _ _ (h v' w' r1 r2 r3)
set_option maxRecDepth 100000 in
set_option maxHeartbeats 16000000 in
theorem besideR_any (N : Int) (A : Option Addr) (n c : Nat) (E : List (Int × Int)) (w : World) (h : ArgE w A n c E) :
    Calls Tryd.prog 34 #[.agg #[.int .i64 N, .slice A n c]] w (BesideP w (besideG N E)) := by
  have HB0 := Lib.hid (alloc_below w (.cells #[.int .i64 N, .slice A n c] 26))
  have HA := Lib.hid (h.keep HB0.out)
  have G0 := Lib.hid (Own.new' (t := 26) (w := w) (vs := [.int .i64 N, .slice A n c]) rfl)
  have HL := Lib.hid h.len
  clear h
  have HR := Lib.hid (rightR2_any N A n c E _ HA.out)
  obtain ⟨r, hr⟩ : ∃ r, rightG N E = r := ⟨_, rfl⟩
  have RG := Lib.hid hr
  rw [hr] at HR
  clear hr
  have q0 := G0.out.cell; have z0 := G0.out.lt
  go_enter Tryd.func34, Tryd.ntmps34
  go_wp2_with fail
  refine HR.out.mono ?_
  rintro e w1 ⟨rfl, hb⟩
  have OG := Lib.hid (G0.out.below' hb)
  have HA1 := Lib.hid (HA.out.keep hb)
  have HB1 := Lib.hid (HB0.out.trans (hb.mono HB0.out.size))
  clear hb q0 z0 HR HA G0 HB0
  cases r with
  | false =>
    have HX := Lib.hid (show besideG N E = none by unfold besideG; rw [RG.out]; rfl)
    go_wp2
    go_ret
    rw [HX.out]
    exact ⟨rfl, HB1.out⟩
  | true =>
    have HE := Lib.hid (rightG_iff.1 RG.out)
    obtain ⟨nn, rfl⟩ : ∃ M : Nat, N = (M : Int) := ⟨N.toNat, by have := HE.out.n0; omega⟩
    have hnn : nn ≤ 200 := by have := HE.out.n1; omega
    have HX := Lib.hid (show besideG (nn : Int) E = some (besideK nn E) by unfold besideG; rw [RG.out]; rfl)
    have HLE := Lib.hid HE.out.len
    have hs1 := HB1.out.size
    have hmk := mk_rows nn (by omega) w1
    have HD2 := Lib.hid (RowsD.start (n := nn) (Nat.le_refl w1.heap.size))
    have HB2 := Lib.hid (alloc_below w1 (.cells (List.replicate nn (Value.slice none 0 0)).toArray 44))
    obtain ⟨OB, hOB⟩ : ∃ o, Obj.cells (List.replicate nn (Value.slice none 0 0)).toArray 44 = o := ⟨_, rfl⟩
    rw [hOB] at hmk HD2 HB2
    clear hOB
    rw [stR_zero HE.out] at HD2
    obtain ⟨gl, hgl⟩ : ∃ gl, w1.heap.size = gl := ⟨_, rfl⟩
    have HGL := Lib.hid hgl
    have qg := OG.out.cell; have zg := OG.out.lt
    rw [hgl] at HD2 HB2
    go_wp2
    clear hmk qg zg
    go_loopw [4, 5] (fun i _ wr => ∃ a : Nat, ∃ vs, a ≤ nn ∧ i = .int .i64 (a : Int) ∧ Hid (RowsD gl wr gl vs (stR nn E a 0)) ∧ Hid (Below gl w1 wr)) (fun i _ _ => nn - (intOf i).toNat)
    case atStart => exact ⟨0, _, Nat.zero_le _, rfl, HD2, HB2⟩
    case round =>
      obtain ⟨a, vs, ha, rfl, HD, HB⟩ := hrel
      have OGr := Lib.hid (OG.out.below' (by rw [HGL.out]; exact HB.out))
      have qg := OGr.out.cell; have zg := OGr.out.lt
      have HBw := Lib.hid (HB1.out.trans (HB.out.mono (by rw [← HGL.out]; exact hs1)))
      by_cases hlt : a < nn
      · go_wp2_with fail
        go_loopw [5] (fun j wr => ∃ b : Nat, ∃ vs, b ≤ nn ∧ j = .int .i64 (b : Int) ∧ Hid (RowsD gl wr gl vs (stR nn E a b)) ∧ Hid (Below gl w1 wr)) (fun j _ => nn - (intOf j).toNat)
        case atStart => exact ⟨0, vs, Nat.zero_le _, rfl, HD, HB⟩
        case round =>
          clear HD HB OGr qg zg HBw vs
          obtain ⟨b, vs, hb, rfl, HD, HB⟩ := hrel
          have OGr := Lib.hid (OG.out.below' (by rw [HGL.out]; exact HB.out))
          have qg := OGr.out.cell; have zg := OGr.out.lt
          by_cases hlb : b < nn
          · have HAr := Lib.hid (HA1.out.keep (by rw [HGL.out]; exact HB.out))
            have CH := Lib.hid (hasR_any (nn : Int) A n c E (a : Int) (b : Int) wr HAr.out)
            obtain ⟨p, hp⟩ : ∃ p, hasG (nn : Int) E (a : Int) (b : Int) = p := ⟨_, rfl⟩
            rw [hp] at CH
            have HP := Lib.hid hp
            clear hp
            go_wp2_with fail
            refine CH.out.mono ?_
            rintro e w3 ⟨rfl, hb3⟩
            have HD3 := Lib.hid (HD.out.below hb3)
            have hsw := HB.out.size
            have HB3 := Lib.hid (HB.out.trans (hb3.mono (by rw [← HGL.out]; exact hsw)))
            clear hb3 qg zg OGr HD HB CH HAr hsw
            cases p with
            | false =>
              have HN := Lib.hid (stR_no HE.out HP.out)
              rw [HN.out] at HD3
              go_wp2
              go_roundw
              case rel => exact ⟨b + 1, vs, by omega, by go_num, HD3, HB3⟩
              case measure => simp [intOf]; omega
            | true =>
              have HN := Lib.hid (stR_yes HE.out HP.out)
              have HV := Lib.hid (alloc_below w3 (.cells #[.int .i64 (b : Int)] 3))
              have OE := Lib.hid (show Own (w3.alloc (.cells #[.int .i64 (b : Int)] 3)) w3.heap.size 3 [.int .i64 (b : Int)] from Own.new w3 _ _)
              have RD := Lib.hid (HD3.out.below HV.out)
              have HBV := Lib.hid (HB3.out.trans (HV.out.mono (by have := HB3.out.size; rw [← HGL.out]; exact this)))
              obtain ⟨u, L, hu, hL, hru, hng, hnt, hnx⟩ := HD3.out.at (i := a) (by rw [stR_len]; exact hlt)
              rw [stR_at E b hlt] at hL
              injection hL with hL
              have HLL := Lib.hid (show L.length + 1 ≤ 1000000 by rw [← hL]; have := sides_len (a : Int) E (b : Int); have := HLE.out; omega)
              rw [hL] at HN
              have HRU := Lib.hid (hru.below HV.out)
              have HNG := Lib.hid hng
              have HHO := Lib.hid hru.home
              have HU := Lib.hid hu
              obtain ⟨A7, n7, c7, rfl⟩ := hru.shown
              have qd := (HD3.out.own.cell a).trans hu
              have zd := HD3.out.own.lt
              have hglv := HBV.out.size
              clear hL hru hng hnt hnx hu
              go_wp2_with (at_builtin; refine wpList_append_one rfl (.tmp 33) (.tmp 35) rfl w3.heap.size 1 1 (l := L) (x := (b : Int)) rfl rfl HRU.out OE.out HLL.out (by rw [← HGL.out]; exact hglv) rfl rfl ?_)
              intro v' w' r1 r2 r3
              obtain ⟨A8, n8, c8, rfl⟩ := r1.shown
              have HD4 := Lib.hid (show RowsD gl (w'.setCell ⟨gl, a, none⟩ (.slice A8 n8 c8)) gl (vs.set a (.slice A8 n8 c8)) (stR nn E a (b + 1)) from by
                rw [← HN.out]
                exact RD.out.put HU.out r2 r1 (r3.imp id (fun e => ⟨_, e, by simp⟩)))
              have HB4 := Lib.hid (show Below gl w1 (w'.setCell ⟨gl, a, none⟩ (.slice A8 n8 c8)) from (RowKit.Below.grown HBV.out r2 (by rw [← HGL.out]; exact hglv) (by
                intro q hq
                rcases HHO.out with e | ⟨g, ys, e, hg, _⟩
                · rw [e] at hq; cases hq
                · rw [e] at hq; injection hq with hq; omega)).setCell (p := ⟨gl, a, none⟩) (Nat.le_refl gl) _)
              have OLD := Lib.hid (RD.out.own.grown r2 HNG.out)
              have q9 := (OLD.out.cell a).trans HU.out
              have f9 := OLD.out.frozen a; have z9 := OLD.out.lt
              clear r1 r2 r3 qd zd HD3 HB3 HV OE RD HBV HRU HLL
              go_wp2
              refine ⟨⟨b + 1, _, by omega, by go_num, HD4, HB4⟩, ?_⟩
              simp [intOf]; omega
          · obtain rfl : b = nn := by omega
            have HN := Lib.hid (stR_next (a := a) HE.out)
            rw [HN.out] at HD
            go_wp2
            refine ⟨⟨a + 1, vs, by omega, by go_num, HD, HB⟩, ?_⟩
            simp [intOf]; omega
      · obtain rfl : a = nn := by omega
        have HN := Lib.hid (stR_all HE.out)
        rw [← HN.out] at HD
        go_wp2
        go_ret
        rw [HX.out]
        exact ⟨gl, vs, by rw [besideK_len]; rfl, ⟨HD.out.own, HD.out.len, by rw [← HGL.out]; exact hs1, fun i u c hu hc => (HD.out.row i u c hu hc).base (by rw [← HGL.out]; exact hs1), HD.out.apart⟩, HBw.out⟩
end Go.Proofs.YtljihclpgpmfeaaDoor
