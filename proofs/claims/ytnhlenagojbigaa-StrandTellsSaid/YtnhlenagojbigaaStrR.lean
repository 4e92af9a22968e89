/- Walk: fretworklaw01.StrandKnots. -/
import Derived.Test.YtnhlenagojbigaaStrN
import Derived.Test.YtnhlenagojbigaaStrP
import Derived.Test.YtnhlenagojbigaaStrQ
import Derived.Test.YtnhlenagojbigaaStrS
namespace Go.Proofs.Ytnhlenagojbigaa
open Go.RowKit

theorem getKnot_first (A : Option Addr) (n c L m : Nat) (f : Nat → Bool) (w : World) (hr : Rd w A (cellsF f n)) (hs : RS L n f) (hm : m < 18446744073709551615) (hp : knotL m ≤ L) (hk : KnotAt f 0 m) :
    Calls Try.prog 19 #[.agg #[.slice A n c, .int .i64 L], .int .i64 0] w (Good3 w m (knotL m)) := by
  have h := getKnot_reads A n c L 0 m f w hr hs hm (by omega) hk
  rw [Nat.zero_add] at h
  exact h
theorem knotAt_join (m : Nat) (hm : m < 18446744073709551615) {f : Nat → Bool} : KnotAt (joinF (knotF m) (knotL m) f) 0 m :=
  (knotF_at m hm).congr (fun i _ h2 => by unfold joinF; rw [if_pos (by omega)])
theorem knot_at (A : Option Addr) (n c L M m : Nat) (f : Nat → Bool) (w : World) (hr : Rd w A (cellsF f n)) (hs : RS L n f) (hm : m < 18446744073709551615) (hM : L + knotL m = M) (h : M ≤ 4194304) :
    Calls Try.prog 20 #[.agg #[.slice A n c, .int .i64 L], .int .u64 m] w (GoodS w M (putF f (L + digits m - 1) (m + 1) (digits m))) := by
  subst hM
  exact knot_good A n c L m f w hr hs hm h
theorem knot_room {L : Nat} (m : Nat) (hm : m < 18446744073709551615) : L + digits m - 1 + digits m ≤ L + knotL m := by
  obtain ⟨a1, a2, a3, a4⟩ := digits_spec m hm
  unfold knotL; omega

set_option maxRecDepth 100000 in
set_option maxHeartbeats 8000000 in
theorem strandKnots_true (A : Option Addr) (n c x y : Nat) (L : Int) (f : Nat → Bool) (w : World) (hs : ArgS w A n L f) (hx : x < 18446744073709551616) (hy : y < 18446744073709551616) :
    Calls Try.prog 4 #[.int .u64 x, .int .u64 y, .agg #[.slice A n c, .int .i64 L]] w fun e w' => e = .returned (.bool true) ∧ Below w.heap.size w w' := by
  have HS := Lib.hid hs
  clear hs
  have hb := Lib.hid (Below.refl w.heap.size w)
  go_enter Try.func4, Try.ntmps4
  go_wp2_with fail
  refine (great_any A n c L _).mono ?_
  rintro e w1 ⟨rfl, hbk⟩
  have HS' := Lib.hid ((HS.out.alloc _).keep hbk)
  have O5' := Lib.hid (Own.below' (Own.new' (w := w) rfl) hbk)
  have hb' := Lib.hid ((hb.out.alloc (by have := hb.out.size; simp; try omega) _).trans (hbk.mono (by have := hb.out.size; simp; try omega)))
  have hs1 := hbk.size
  simp only [World.size_alloc] at hs1
  clear hb hbk HS
  have hb := hb'; clear hb'
  have HS := HS'; clear HS'
  have O5 := O5'; clear O5'
  have qO5 := O5.out.cell; have zO5 := O5.out.lt
  cases h1 : greatB n L with
  | true =>
    have h1' := Lib.hid h1; clear h1; have h1 := h1'; clear h1'
    go_wp2_with fail
    refine (awake_true _).mono ?_
    rintro e w2 ⟨rfl, hbk⟩
    have O5' := Lib.hid (O5.out.below' hbk)
    have HS' := Lib.hid (HS.out.keep hbk)
    have hb' := Lib.hid (hb.out.trans (hbk.mono (by have := hb.out.size; simp; try omega)))
    have hs2 := hbk.size
    clear qO5 zO5
    clear hb hbk O5 HS
    have hb := hb'; clear hb'
    have O5 := O5'; clear O5'
    have HS := HS'; clear HS'
    go_wp2
    go_ret
    exact ⟨rfl, hb.out⟩
  | false =>
    have h1' := Lib.hid h1; clear h1; have h1 := h1'; clear h1'
    skip
    go_wp2_with fail
    refine (right_any' A n c L f _ HS.out (by have := great_false h1.out; omega)).mono ?_
    rintro e w2 ⟨rfl, hbk⟩
    have O5' := Lib.hid (O5.out.below' hbk)
    have HS' := Lib.hid (HS.out.keep hbk)
    have hb' := Lib.hid (hb.out.trans (hbk.mono (by have := hb.out.size; simp; try omega)))
    have hs2 := hbk.size
    clear qO5 zO5
    clear hb hbk O5 HS
    have hb := hb'; clear hb'
    have O5 := O5'; clear O5'
    have HS := HS'; clear HS'
    have qO5 := O5.out.cell; have zO5 := O5.out.lt
    cases h3 : rightB L n f with
    | true =>
      have h3' := Lib.hid h3; clear h3; have h3 := h3'; clear h3'
      obtain ⟨l, rfl, R1⟩ := HS.out.right h3.out
      have hl1 := (great_false h1.out).1
      have R1 := Lib.hid R1
      clear qO5 zO5
      have qO5 := O5.out.cell; have zO5 := O5.out.lt
      obtain ⟨N, hN⟩ : ∃ N, N = min (min x y) 18446744073709551614 := ⟨_, rfl⟩
      obtain ⟨M, hM⟩ : ∃ M, M = min (max x y) 18446744073709551614 := ⟨_, rfl⟩
      have HN := Lib.hid hN; have HM := Lib.hid hM
      have hNM := Lib.hid (show N ≤ M by omega)
      have hn1 := Lib.hid (show N < 18446744073709551615 by omega)
      have hm1 := Lib.hid (show M < 18446744073709551615 by omega)
      clear hN hM
      go_upto_region 3 with (fail)
      go_cut [0, 1] from 27 to 33 (fun s0 s1 W => s0 = .int .u64 N ∧ s1 = .int .u64 M ∧ W = w2)
      case first =>
        go_wp2_with fail
        all_goals (go_meet; refine ⟨?_, ?_, rfl⟩ <;> (have h1 := HN.out; have h2 := HM.out; first | (congr 1; omega) | (congr 1; simp only [Int.min_def, Int.max_def, Nat.min_def, Nat.max_def] at *; (repeat' split at *) <;> omega)))
      case rest =>
        obtain ⟨rfl, rfl, rfl⟩ := hcut
        have kN := Lib.hid (knotL_bound N hn1.out); have kM := Lib.hid (knotL_bound M hm1.out)
        have o1 : ((knotL N : Nat) : Int) % 2 = 1 := by have := kN.out; omega
        have o2 : ((knotL M : Nat) : Int) % 2 = 1 := by have := kM.out; omega
        have o0 : 0 ≤ ((knotL N : Nat) : Int) := by omega
        have o4 : 0 ≤ ((knotL M : Nat) : Int) := by omega
        have o3 : decide (((knotL M : Nat) : Int) < ((knotL N : Nat) : Int)) = false := by have := digits_mono hNM.out hm1.out; rw [decide_eq_false_iff_not]; unfold knotL; omega
        have o5 : knotL N ≤ knotL M := by have := digits_mono hNM.out hm1.out; unfold knotL; omega
        go_wp2_with fail
        refine (knots_one _ 1 N _ ((Own.new' (vs := [.int .u64 N]) rfl).rd) hn1.out).mono ?_
        rintro e w3 ⟨ga, rfl, hga, hOa, hbk⟩
        have O5' := Lib.hid ((O5.out.alloc _).below' hbk)
        have HS' := Lib.hid ((HS.out.alloc _).keep hbk)
        have hb' := Lib.hid ((hb.out.alloc (by have := hb.out.size; simp; try omega) _).trans (hbk.mono (by have := hb.out.size; simp; try omega)))
        have hs3 := hbk.size
        simp only [World.size_alloc] at hs3
        clear qO5 zO5
        clear hb hbk O5 HS
        have hb := hb'; clear hb'
        have O5 := O5'; clear O5'
        have HS := HS'; clear HS'
        have OA := Lib.hid hOa; clear hOa
        have qO5 := O5.out.cell; have zO5 := O5.out.lt
        go_wp2_with fail
        refine (knots_one _ 1 M _ ((Own.new' (vs := [.int .u64 M]) rfl).rd) hm1.out).mono ?_
        rintro e w4 ⟨gb, rfl, hgb, hOb, hbk⟩
        have O5' := Lib.hid ((O5.out.alloc _).below' hbk)
        have OA' := Lib.hid ((OA.out.alloc _).below' hbk)
        have HS' := Lib.hid ((HS.out.alloc _).keep hbk)
        have hb' := Lib.hid ((hb.out.alloc (by have := hb.out.size; simp; try omega) _).trans (hbk.mono (by have := hb.out.size; simp; try omega)))
        have hs4 := hbk.size
        simp only [World.size_alloc] at hs4
        clear qO5 zO5
        clear hb hbk O5 OA HS
        have hb := hb'; clear hb'
        have O5 := O5'; clear O5'
        have OA := OA'; clear OA'
        have HS := HS'; clear HS'
        have OB := Lib.hid hOb; clear hOb
        have qO5 := O5.out.cell; have zO5 := O5.out.lt
        have b1 : ((knotL N : Nat) : Int) ≤ 127 := by have := kN.out; omega
        have b2 : ((knotL M : Nat) : Int) ≤ 127 := by have := kM.out; omega
        go_wp2_with fail
        refine (join_at _ _ _ _ _ _ (knotL N) l (knotL N + l) (knotF N) f _ ((OA.out.alloc _).alloc _).rd (knotF_RS N hn1.out) ((HS.out.alloc _).alloc _).rd R1.out rfl (by omega)).mono ?_
        rintro e w5 ⟨gj, rfl, hgj, hOj, hbk⟩
        have O5' := Lib.hid (((O5.out.alloc _).alloc _).below' hbk)
        have OA' := Lib.hid (((OA.out.alloc _).alloc _).below' hbk)
        have OB' := Lib.hid (((OB.out.alloc _).alloc _).below' hbk)
        have HS' := Lib.hid (((HS.out.alloc _).alloc _).keep hbk)
        have O7' := Lib.hid (Own.below' ((Own.new' (g := w4.heap.size) (w := w4) rfl).alloc _) hbk)
        have O8' := Lib.hid (Own.below' (Own.new' (g := w4.heap.size + 1) (w := w4.alloc _) (by simp)) hbk)
        have hb' := Lib.hid (((hb.out.alloc (by have := hb.out.size; simp; try omega) _).alloc (by have := hb.out.size; simp; try omega) _).trans (hbk.mono (by have := hb.out.size; simp; try omega)))
        have hs5 := hbk.size
        simp only [World.size_alloc] at hs5
        clear qO5 zO5
        clear hb hbk O5 OA OB HS
        have hb := hb'; clear hb'
        have O5 := O5'; clear O5'
        have OA := OA'; clear OA'
        have OB := OB'; clear OB'
        have HS := HS'; clear HS'
        have O7 := O7'; clear O7'
        have O8 := O8'; clear O8'
        have OJ := Lib.hid hOj; clear hOj
        have qO5 := O5.out.cell; have zO5 := O5.out.lt
        have qO7 := O7.out.cell; have zO7 := O7.out.lt
        have qO8 := O8.out.cell; have zO8 := O8.out.lt
        by_cases hE : N = M
        · subst hE
          go_wp2_with fail
          refine (getKnot_first _ _ _ (knotL N + l) N _ _ (OJ.out.alloc _).rd (joinF_RS (knotF_RS N hn1.out) R1.out (by omega)) hn1.out (by omega) (knotAt_join N hn1.out)).mono ?_
          rintro e w6 ⟨rfl, hbk⟩
          have O5' := Lib.hid ((O5.out.alloc _).below' hbk)
          have OA' := Lib.hid ((OA.out.alloc _).below' hbk)
          have OB' := Lib.hid ((OB.out.alloc _).below' hbk)
          have O7' := Lib.hid ((O7.out.alloc _).below' hbk)
          have O8' := Lib.hid ((O8.out.alloc _).below' hbk)
          have OJ' := Lib.hid ((OJ.out.alloc _).below' hbk)
          have HS' := Lib.hid ((HS.out.alloc _).keep hbk)
          have O9' := Lib.hid (Own.below' (Own.new' (g := w5.heap.size) (w := w5) rfl) hbk)
          have hb' := Lib.hid ((hb.out.alloc (by have := hb.out.size; simp; try omega) _).trans (hbk.mono (by have := hb.out.size; simp; try omega)))
          have hs6 := hbk.size
          simp only [World.size_alloc] at hs6
          clear qO5 zO5 qO7 zO7 qO8 zO8
          clear hb hbk O5 OA OB O7 O8 OJ HS
          have hb := hb'; clear hb'
          have O5 := O5'; clear O5'
          have OA := OA'; clear OA'
          have OB := OB'; clear OB'
          have O7 := O7'; clear O7'
          have O8 := O8'; clear O8'
          have OJ := OJ'; clear OJ'
          have HS := HS'; clear HS'
          have O9 := O9'; clear O9'
          have qO5 := O5.out.cell; have zO5 := O5.out.lt
          have qO7 := O7.out.cell; have zO7 := O7.out.lt
          have qO8 := O8.out.cell; have zO8 := O8.out.lt
          go_wp2_with fail
          refine (knot_at _ _ _ (knotL N) (knotL N + knotL N) N (knotF N) _ OA.out.rd (knotF_RS N hn1.out) hm1.out rfl (by omega)).mono ?_
          rintro e w7 ⟨gk, rfl, hgk, hOk, hbk⟩
          have O5' := Lib.hid (O5.out.below' hbk)
          have OA' := Lib.hid (OA.out.below' hbk)
          have OB' := Lib.hid (OB.out.below' hbk)
          have O7' := Lib.hid (O7.out.below' hbk)
          have O8' := Lib.hid (O8.out.below' hbk)
          have OJ' := Lib.hid (OJ.out.below' hbk)
          have O9' := Lib.hid (O9.out.below' hbk)
          have HS' := Lib.hid (HS.out.keep hbk)
          have hb' := Lib.hid (hb.out.trans (hbk.mono (by have := hb.out.size; simp; try omega)))
          have hs7 := hbk.size
          clear qO5 zO5 qO7 zO7 qO8 zO8
          clear hb hbk O5 OA OB O7 O8 OJ O9 HS
          have hb := hb'; clear hb'
          have O5 := O5'; clear O5'
          have OA := OA'; clear OA'
          have OB := OB'; clear OB'
          have O7 := O7'; clear O7'
          have O8 := O8'; clear O8'
          have OJ := OJ'; clear OJ'
          have O9 := O9'; clear O9'
          have HS := HS'; clear HS'
          have OK := Lib.hid hOk; clear hOk
          have qO5 := O5.out.cell; have zO5 := O5.out.lt
          have qO7 := O7.out.cell; have zO7 := O7.out.lt
          have qO8 := O8.out.cell; have zO8 := O8.out.lt
          go_wp2_with fail
          refine (getKnot_reads _ _ _ (knotL N + knotL N) (knotL N) N _ _ (OK.out.alloc _).rd (putF_RS (knotF_RS N hn1.out) (knot_room N hm1.out) (by omega) (by omega)) hm1.out (Nat.le_refl _) (knotAt_put hm1.out (fun i hi => (knotF_RS N hn1.out).zero i hi))).mono ?_
          rintro e w8 ⟨rfl, hbk⟩
          have O5' := Lib.hid ((O5.out.alloc _).below' hbk)
          have OA' := Lib.hid ((OA.out.alloc _).below' hbk)
          have OB' := Lib.hid ((OB.out.alloc _).below' hbk)
          have O7' := Lib.hid ((O7.out.alloc _).below' hbk)
          have O8' := Lib.hid ((O8.out.alloc _).below' hbk)
          have OJ' := Lib.hid ((OJ.out.alloc _).below' hbk)
          have O9' := Lib.hid ((O9.out.alloc _).below' hbk)
          have OK' := Lib.hid ((OK.out.alloc _).below' hbk)
          have HS' := Lib.hid ((HS.out.alloc _).keep hbk)
          have O14' := Lib.hid (Own.below' (Own.new' (g := w7.heap.size) (w := w7) rfl) hbk)
          have hb' := Lib.hid ((hb.out.alloc (by have := hb.out.size; simp; try omega) _).trans (hbk.mono (by have := hb.out.size; simp; try omega)))
          have hs8 := hbk.size
          simp only [World.size_alloc] at hs8
          clear qO5 zO5 qO7 zO7 qO8 zO8
          clear hb hbk O5 OA OB O7 O8 OJ O9 OK HS
          have hb := hb'; clear hb'
          have O5 := O5'; clear O5'
          have OA := OA'; clear OA'
          have OB := OB'; clear OB'
          have O7 := O7'; clear O7'
          have O8 := O8'; clear O8'
          have OJ := OJ'; clear OJ'
          have O9 := O9'; clear O9'
          have OK := OK'; clear OK'
          have HS := HS'; clear HS'
          have O14 := O14'; clear O14'
          have qO5 := O5.out.cell; have zO5 := O5.out.lt
          have qO7 := O7.out.cell; have zO7 := O7.out.lt
          have qO8 := O8.out.cell; have zO8 := O8.out.lt
          go_wp2_with fail
          refine (awake_true _).mono ?_
          rintro e w9 ⟨rfl, hbk⟩
          have O5' := Lib.hid (O5.out.below' hbk)
          have OA' := Lib.hid (OA.out.below' hbk)
          have OB' := Lib.hid (OB.out.below' hbk)
          have O7' := Lib.hid (O7.out.below' hbk)
          have O8' := Lib.hid (O8.out.below' hbk)
          have OJ' := Lib.hid (OJ.out.below' hbk)
          have O9' := Lib.hid (O9.out.below' hbk)
          have OK' := Lib.hid (OK.out.below' hbk)
          have O14' := Lib.hid (O14.out.below' hbk)
          have HS' := Lib.hid (HS.out.keep hbk)
          have hb' := Lib.hid (hb.out.trans (hbk.mono (by have := hb.out.size; simp; try omega)))
          have hs9 := hbk.size
          clear qO5 zO5 qO7 zO7 qO8 zO8
          clear hb hbk O5 OA OB O7 O8 OJ O9 OK O14 HS
          have hb := hb'; clear hb'
          have O5 := O5'; clear O5'
          have OA := OA'; clear OA'
          have OB := OB'; clear OB'
          have O7 := O7'; clear O7'
          have O8 := O8'; clear O8'
          have OJ := OJ'; clear OJ'
          have O9 := O9'; clear O9'
          have OK := OK'; clear OK'
          have O14 := O14'; clear O14'
          have HS := HS'; clear HS'
          go_wp2
          go_ret
          exact ⟨rfl, hb.out⟩
        · skip
          have hne : ((N : Int) != M) = true := by rw [bne_iff_ne]; omega
          go_wp2_with fail
          refine (same_any _ _ _ _ _ _ _ _ (knotF N) (knotF M) _ (OA.out.alloc _).rd (OB.out.alloc _).rd).mono ?_
          rintro e w6 ⟨rfl, hbk⟩
          have O5' := Lib.hid ((O5.out.alloc _).below' hbk)
          have OA' := Lib.hid ((OA.out.alloc _).below' hbk)
          have OB' := Lib.hid ((OB.out.alloc _).below' hbk)
          have O7' := Lib.hid ((O7.out.alloc _).below' hbk)
          have O8' := Lib.hid ((O8.out.alloc _).below' hbk)
          have OJ' := Lib.hid ((OJ.out.alloc _).below' hbk)
          have HS' := Lib.hid ((HS.out.alloc _).keep hbk)
          have O9' := Lib.hid (Own.below' (Own.new' (g := w5.heap.size) (w := w5) rfl) hbk)
          have hb' := Lib.hid ((hb.out.alloc (by have := hb.out.size; simp; try omega) _).trans (hbk.mono (by have := hb.out.size; simp; try omega)))
          have hs6 := hbk.size
          simp only [World.size_alloc] at hs6
          clear qO5 zO5 qO7 zO7 qO8 zO8
          clear hb hbk O5 OA OB O7 O8 OJ HS
          have hb := hb'; clear hb'
          have O5 := O5'; clear O5'
          have OA := OA'; clear OA'
          have OB := OB'; clear OB'
          have O7 := O7'; clear O7'
          have O8 := O8'; clear O8'
          have OJ := OJ'; clear OJ'
          have HS := HS'; clear HS'
          have O9 := O9'; clear O9'
          rw [knot_inj hn1.out hm1.out hE]
          have qO5 := O5.out.cell; have zO5 := O5.out.lt
          have qO7 := O7.out.cell; have zO7 := O7.out.lt
          have qO8 := O8.out.cell; have zO8 := O8.out.lt
          have qO9 := O9.out.cell; have zO9 := O9.out.lt
          go_wp2_with fail
          refine (getKnot_first _ _ _ (knotL N + l) N _ _ OJ.out.rd (joinF_RS (knotF_RS N hn1.out) R1.out (by omega)) hn1.out (by omega) (knotAt_join N hn1.out)).mono ?_
          rintro e w7 ⟨rfl, hbk⟩
          have O5' := Lib.hid (O5.out.below' hbk)
          have OA' := Lib.hid (OA.out.below' hbk)
          have OB' := Lib.hid (OB.out.below' hbk)
          have O7' := Lib.hid (O7.out.below' hbk)
          have O8' := Lib.hid (O8.out.below' hbk)
          have OJ' := Lib.hid (OJ.out.below' hbk)
          have O9' := Lib.hid (O9.out.below' hbk)
          have HS' := Lib.hid (HS.out.keep hbk)
          have hb' := Lib.hid (hb.out.trans (hbk.mono (by have := hb.out.size; simp; try omega)))
          have hs7 := hbk.size
          clear qO5 zO5 qO7 zO7 qO8 zO8 qO9 zO9
          clear hb hbk O5 OA OB O7 O8 OJ O9 HS
          have hb := hb'; clear hb'
          have O5 := O5'; clear O5'
          have OA := OA'; clear OA'
          have OB := OB'; clear OB'
          have O7 := O7'; clear O7'
          have O8 := O8'; clear O8'
          have OJ := OJ'; clear OJ'
          have O9 := O9'; clear O9'
          have HS := HS'; clear HS'
          have qO5 := O5.out.cell; have zO5 := O5.out.lt
          have qO7 := O7.out.cell; have zO7 := O7.out.lt
          have qO8 := O8.out.cell; have zO8 := O8.out.lt
          go_wp2_with fail
          refine (knot_at _ _ _ (knotL N) (knotL N + knotL M) M (knotF N) _ OA.out.rd (knotF_RS N hn1.out) hm1.out rfl (by omega)).mono ?_
          rintro e w8 ⟨gk, rfl, hgk, hOk, hbk⟩
          have O5' := Lib.hid (O5.out.below' hbk)
          have OA' := Lib.hid (OA.out.below' hbk)
          have OB' := Lib.hid (OB.out.below' hbk)
          have O7' := Lib.hid (O7.out.below' hbk)
          have O8' := Lib.hid (O8.out.below' hbk)
          have OJ' := Lib.hid (OJ.out.below' hbk)
          have O9' := Lib.hid (O9.out.below' hbk)
          have HS' := Lib.hid (HS.out.keep hbk)
          have hb' := Lib.hid (hb.out.trans (hbk.mono (by have := hb.out.size; simp; try omega)))
          have hs8 := hbk.size
          clear qO5 zO5 qO7 zO7 qO8 zO8
          clear hb hbk O5 OA OB O7 O8 OJ O9 HS
          have hb := hb'; clear hb'
          have O5 := O5'; clear O5'
          have OA := OA'; clear OA'
          have OB := OB'; clear OB'
          have O7 := O7'; clear O7'
          have O8 := O8'; clear O8'
          have OJ := OJ'; clear OJ'
          have O9 := O9'; clear O9'
          have HS := HS'; clear HS'
          have OK := Lib.hid hOk; clear hOk
          have qO5 := O5.out.cell; have zO5 := O5.out.lt
          have qO7 := O7.out.cell; have zO7 := O7.out.lt
          have qO8 := O8.out.cell; have zO8 := O8.out.lt
          go_wp2_with fail
          refine (getKnot_reads _ _ _ (knotL N + knotL M) (knotL N) M _ _ (OK.out.alloc _).rd (putF_RS (knotF_RS N hn1.out) (knot_room M hm1.out) (by omega) (by omega)) hm1.out (Nat.le_refl _) (knotAt_put hm1.out (fun i hi => (knotF_RS N hn1.out).zero i hi))).mono ?_
          rintro e w9 ⟨rfl, hbk⟩
          have O5' := Lib.hid ((O5.out.alloc _).below' hbk)
          have OA' := Lib.hid ((OA.out.alloc _).below' hbk)
          have OB' := Lib.hid ((OB.out.alloc _).below' hbk)
          have O7' := Lib.hid ((O7.out.alloc _).below' hbk)
          have O8' := Lib.hid ((O8.out.alloc _).below' hbk)
          have OJ' := Lib.hid ((OJ.out.alloc _).below' hbk)
          have O9' := Lib.hid ((O9.out.alloc _).below' hbk)
          have OK' := Lib.hid ((OK.out.alloc _).below' hbk)
          have HS' := Lib.hid ((HS.out.alloc _).keep hbk)
          have O14' := Lib.hid (Own.below' (Own.new' (g := w8.heap.size) (w := w8) rfl) hbk)
          have hb' := Lib.hid ((hb.out.alloc (by have := hb.out.size; simp; try omega) _).trans (hbk.mono (by have := hb.out.size; simp; try omega)))
          have hs9 := hbk.size
          simp only [World.size_alloc] at hs9
          clear qO5 zO5 qO7 zO7 qO8 zO8
          clear hb hbk O5 OA OB O7 O8 OJ O9 OK HS
          have hb := hb'; clear hb'
          have O5 := O5'; clear O5'
          have OA := OA'; clear OA'
          have OB := OB'; clear OB'
          have O7 := O7'; clear O7'
          have O8 := O8'; clear O8'
          have OJ := OJ'; clear OJ'
          have O9 := O9'; clear O9'
          have OK := OK'; clear OK'
          have HS := HS'; clear HS'
          have O14 := O14'; clear O14'
          have qO5 := O5.out.cell; have zO5 := O5.out.lt
          have qO7 := O7.out.cell; have zO7 := O7.out.lt
          have qO8 := O8.out.cell; have zO8 := O8.out.lt
          go_wp2_with fail
          refine (awake_true _).mono ?_
          rintro e w10 ⟨rfl, hbk⟩
          have O5' := Lib.hid (O5.out.below' hbk)
          have OA' := Lib.hid (OA.out.below' hbk)
          have OB' := Lib.hid (OB.out.below' hbk)
          have O7' := Lib.hid (O7.out.below' hbk)
          have O8' := Lib.hid (O8.out.below' hbk)
          have OJ' := Lib.hid (OJ.out.below' hbk)
          have O9' := Lib.hid (O9.out.below' hbk)
          have OK' := Lib.hid (OK.out.below' hbk)
          have O14' := Lib.hid (O14.out.below' hbk)
          have HS' := Lib.hid (HS.out.keep hbk)
          have hb' := Lib.hid (hb.out.trans (hbk.mono (by have := hb.out.size; simp; try omega)))
          have hs10 := hbk.size
          clear qO5 zO5 qO7 zO7 qO8 zO8
          clear hb hbk O5 OA OB O7 O8 OJ O9 OK O14 HS
          have hb := hb'; clear hb'
          have O5 := O5'; clear O5'
          have OA := OA'; clear OA'
          have OB := OB'; clear OB'
          have O7 := O7'; clear O7'
          have O8 := O8'; clear O8'
          have OJ := OJ'; clear OJ'
          have O9 := O9'; clear O9'
          have OK := OK'; clear OK'
          have O14 := O14'; clear O14'
          have HS := HS'; clear HS'
          go_wp2
          go_ret
          exact ⟨rfl, hb.out⟩
    | false =>
      have h3' := Lib.hid h3; clear h3; have h3 := h3'; clear h3'
      go_wp2_with fail
      refine (awake_true _).mono ?_
      rintro e w3 ⟨rfl, hbk⟩
      have O5' := Lib.hid (O5.out.below' hbk)
      have HS' := Lib.hid (HS.out.keep hbk)
      have hb' := Lib.hid (hb.out.trans (hbk.mono (by have := hb.out.size; simp; try omega)))
      have hs3 := hbk.size
      clear qO5 zO5
      clear hb hbk O5 HS
      have hb := hb'; clear hb'
      have O5 := O5'; clear O5'
      have HS := HS'; clear HS'
      go_wp2
      go_ret
      exact ⟨rfl, hb.out⟩
end Go.Proofs.Ytnhlenagojbigaa
