/- Walks: fretworklaw01.Thing: number, put, get. -/
import Derived.Test.YtnhlenagojbigaaStrP
import Derived.Test.YtnhlenagojbigaaStrQ
import Derived.Test.YtnhlenagojbigaaStrS
import Derived.Test.YtnhlenagojbigaaStrR
import Derived.Test.YtnhlenagojbigaaStrT
import Derived.Deep.RegionWith
namespace Go.Proofs.Ytnhlenagojbigaa
open Go.RowKit

/-- The number that a thing says. -/
def numT (N W : Nat) : Nat := if W < 64 then N % 2 ^ W else min N 18446744073709551614
theorem numT_lt {N W : Nat} (h : W < 64) : numT N W = N % 2 ^ W := if_pos h
theorem numT_ge {N W : Nat} (h : ¬ W < 64) : numT N W = min N 18446744073709551614 := if_neg h
theorem numT_max (N W : Nat) : numT N W < 18446744073709551615 := by
  unfold numT
  split
  · rename_i h
    have h1 : N % 2 ^ W < 2 ^ W := Nat.mod_lt _ (Nat.two_pow_pos W)
    have h2 : 2 ^ W ≤ 2 ^ 63 := Nat.pow_le_pow_right (by decide) (by omega)
    omega
  · omega
theorem numT_field (N W : Nat) (h : W ≤ 64) : numT N W < 2 ^ W := by
  by_cases h1 : W < 64
  · rw [numT_lt h1]; exact Nat.mod_lt _ (Nat.two_pow_pos W)
  · obtain rfl : W = 64 := by omega
    have := numT_max N 64
    omega

theorem ret_k {k : IntKind} {a b : Int} (h : a = b) : Ending.returned (.int k a) = .returned (.int k b) := by rw [h]
set_option maxRecDepth 100000 in
set_option maxHeartbeats 2000000 in
theorem number_any (N W : Nat) (w : World) (hN : N < 18446744073709551616) (hW : W < 256) :
    Calls Try.prog 24 #[.agg #[.int .u64 N, .int .u8 W]] w fun e w' => e = .returned (.int .u64 (numT N W)) ∧ Below w.heap.size w w' := by
  by_cases h : W < 64
  · have HE := Lib.hid (numT_lt (N := N) h)
    have hd : decide ((W : Int) < 64) = true := by rw [decide_eq_true_eq]; omega
    obtain ⟨P, hP⟩ : ∃ P, P = 2 ^ W := ⟨_, rfl⟩
    have hw2 : IntKind.u64.wrap (2 ^ W) = (P : Int) := by rw [hP]; exact wrap_pow W h
    have hP1 : (P : Int) ≠ 0 := by have := Nat.two_pow_pos W; omega
    have hP2 : ((P : Int) == 0) = false := by rw [beq_eq_false_iff_ne]; exact hP1
    have HP := Lib.hid hP
    have hmw : min W 64 = W := Nat.min_eq_left (by omega)
    clear hP h
    go_enter Try.func24, Try.ntmps24
    go_wp2
    go_ret
    exact ⟨ret_k (by rw [HE.out, ← HP.out, Int.natCast_emod]), (Below.refl _ _).alloc (Nat.le_refl _) _⟩
  · have HE := Lib.hid (numT_ge (N := N) h)
    have hd : decide ((W : Int) < 64) = false := by rw [decide_eq_false_iff_not]; omega
    clear h
    go_enter Try.func24, Try.ntmps24
    go_wp2
    go_ret
    exact ⟨ret_k (by rw [HE.out]; omega), (Below.refl _ _).alloc (Nat.le_refl _) _⟩
/-- How many bits a thing takes. -/
def sizeT (N W : Nat) : Nat := if W ≤ 64 then W else knotL (numT N W)
/-- The bits with a thing put at p. -/
def putT (f : Nat → Bool) (p N W : Nat) : Nat → Bool := if W ≤ 64 then putF f p (numT N W) W else putF f (p + digits (numT N W) - 1) (numT N W + 1) (digits (numT N W))
/-- A thing stands at p. -/
def ThingAt (f : Nat → Bool) (p N W : Nat) : Prop := if W ≤ 64 then FieldAt f p (numT N W) W else KnotAt f p (numT N W)

set_option maxRecDepth 100000 in
set_option maxHeartbeats 4000000 in
theorem put_field (A : Option Addr) (n c L N W M : Nat) (f : Nat → Bool) (w : World) (hr : Rd w A (cellsF f n)) (hs : RS L n f) (hN : N < 18446744073709551616) (hW : W ≤ 64) (hM : L + W = M) (hL : M ≤ 4194304) :
    Calls Try.prog 21 #[.agg #[.int .u64 N, .int .u8 W], .agg #[.slice A n c, .int .i64 L]] w (GoodS w M (putF f L (numT N W) W)) := by
  have HS := Lib.hid hs; have HR := Lib.hid hr
  have hW255 : W < 256 := by omega
  have hM2 := Lib.hid hM
  have hm := Lib.hid (numT_field N W hW)
  obtain ⟨m, hm2⟩ : ∃ m, m = numT N W := ⟨_, rfl⟩
  have hn := number_any N W (hN := hN) (hW := hW255)
  rw [← hm2] at hm ⊢
  rw [← hm2] at hn
  have hn := Lib.hid hn
  clear hm2 hr hs hN hM
  have hd : decide ((W : Int) ≤ 64) = true := by rw [decide_eq_true_eq]; omega
  go_enter Try.func21, Try.ntmps21
  go_upto_region 2 with (fail)
  have O2 := Lib.hid (((Own.new' (g := w.heap.size) (t := 46) (vs := [.int .u64 (N : Int), .int .u8 (W : Int)]) (w := w) rfl).alloc (.cells #[.slice A n c, .int .i64 (L : Int)] 24)).alloc (.cells #[.slice none 0 0, .int .i64 0] 24))
  have O3 := Lib.hid ((Own.new' (g := w.heap.size + 1) (t := 24) (vs := [.slice A n c, .int .i64 (L : Int)]) (w := w.alloc (.cells #[.int .u64 (N : Int), .int .u8 (W : Int)] 46)) (by simp)).alloc (.cells #[.slice none 0 0, .int .i64 0] 24))
  have O4 := Lib.hid (Own.new' (g := w.heap.size + 2) (t := 24) (vs := [.slice none 0 0, .int .i64 0]) (w := (w.alloc (.cells #[.int .u64 (N : Int), .int .u8 (W : Int)] 46)).alloc (.cells #[.slice A n c, .int .i64 (L : Int)] 24)) (by simp))
  have hb := Lib.hid ((((Below.refl w.heap.size w).alloc (Nat.le_refl _) (.cells #[.int .u64 (N : Int), .int .u8 (W : Int)] 46)).alloc (by simp) (.cells #[.slice A n c, .int .i64 (L : Int)] 24)).alloc (by simp; try omega) (.cells #[.slice none 0 0, .int .i64 0] 24))
  have HR1 := Lib.hid (((HR.out.alloc (.cells #[.int .u64 (N : Int), .int .u8 (W : Int)] 46)).alloc (.cells #[.slice A n c, .int .i64 (L : Int)] 24)).alloc (.cells #[.slice none 0 0, .int .i64 0] 24))
  obtain ⟨W0, hW0⟩ : ∃ V, V = ((w.alloc (.cells #[.int .u64 (N : Int), .int .u8 (W : Int)] 46)).alloc (.cells #[.slice A n c, .int .i64 (L : Int)] 24)).alloc (.cells #[.slice none 0 0, .int .i64 0] 24) := ⟨_, rfl⟩
  rw [← hW0] at hb O2 O3 O4 HR1 ⊢
  clear hW0 HR
  have hwW : IntKind.i64.wrap (W : Int) = (W : Int) := IntWalk.i64_in _ (by omega)
  have q2 := O2.out.cell; have q3 := O3.out.cell; have q4 := O4.out.cell; have z2 := O2.out.lt; have z3 := O3.out.lt; have z4 := O4.out.lt; have f4 := O4.out.frozen
  go_region_with (first
    | (go_at_call 24; refine (hn.out _).mono ?_; rintro e w1 ⟨rfl, hbk⟩; have hb1 := Lib.hid (undrew hbk); clear hbk; have O2a := Lib.hid (O2.out.below' hb1.out); have O3a := Lib.hid (O3.out.below' hb1.out); have O4a := Lib.hid (O4.out.below' hb1.out); have q2a := O2a.out.cell; have q3a := O3a.out.cell; have z2a := O2a.out.lt; have z3a := O3a.out.lt)
    | (go_at_call 25; refine (field_at A n c L W M m f _ (HR1.out.below hb1.out) HS.out hW hm.out hM2.out hL).mono ?_; rintro e w2 ⟨g, rfl, hg, hO, hbk2⟩; have O4b := Lib.hid (O4a.out.below' hbk2); have q4b := O4b.out.cell; have f4b := O4b.out.frozen; have z4b := O4b.out.lt; have hbk3 := Lib.hid hbk2; have HO := Lib.hid hO; clear hbk2 hO))
  all_goals (
    go_wp2
    have hF := (O4b.out.set 0 (.slice (some ⟨g, 0, none⟩) ((M + 7) / 8) ((M + 7) / 8))).set 1 (.int .i64 (M : Int))
    have q0 := hF.cell 0
    have q1 := hF.cell 1
    simp only [List.set_cons_zero, List.set_cons_succ, List.getElem?_cons_zero, List.getElem?_cons_succ] at q0 q1
    have s1 := hb1.out.size
    have s2 := hbk3.out.size
    have s0 := hb.out.size
    exact bodyPost_ret (v := .tuple #[.agg #[.slice (some ⟨g, 0, none⟩) ((M + 7) / 8) ((M + 7) / 8), .int .i64 (M : Int)], .int .i64 0]) (by simp [results, Try.results21, go_sem, q0, q1]) rfl
      ⟨g, rfl, by omega, (HO.out.far (p := ⟨w.heap.size + 2, 0, none⟩) (by intro e; simp at e; try omega) _).far (p := ⟨w.heap.size + 2, 1, none⟩) (by intro e; simp at e; try omega) _,
       (((hb.out.trans (hb1.out.mono s0)).trans (hbk3.out.mono (Nat.le_trans s0 s1))).setCell (p := ⟨w.heap.size + 2, 0, none⟩) (by simp; try omega) _).setCell (p := ⟨w.heap.size + 2, 1, none⟩) (by simp; try omega) _⟩)
set_option maxRecDepth 100000 in
set_option maxHeartbeats 4000000 in
theorem put_knot (A : Option Addr) (n c L N W M : Nat) (f : Nat → Bool) (w : World) (hr : Rd w A (cellsF f n)) (hs : RS L n f) (hN : N < 18446744073709551616) (hW : 64 < W ∧ W < 256) (hM : L + knotL (numT N W) = M) (hL : M ≤ 4194304) :
    Calls Try.prog 21 #[.agg #[.int .u64 N, .int .u8 W], .agg #[.slice A n c, .int .i64 L]] w (GoodS w M (putF f (L + digits (numT N W) - 1) ((numT N W) + 1) (digits (numT N W)))) := by
  have HS := Lib.hid hs; have HR := Lib.hid hr
  have hW255 : W < 256 := by omega
  have hM2 := Lib.hid hM
  have hm := Lib.hid (numT_max N W)
  obtain ⟨m, hm2⟩ : ∃ m, m = numT N W := ⟨_, rfl⟩
  have hn := number_any N W (hN := hN) (hW := hW255)
  rw [← hm2] at hm hM2 ⊢
  rw [← hm2] at hn
  have hn := Lib.hid hn
  clear hm2 hr hs hN hM
  have hd : decide ((W : Int) ≤ 64) = false := by rw [decide_eq_false_iff_not]; omega
  go_enter Try.func21, Try.ntmps21
  go_upto_region 3 with (fail)
  have O2 := Lib.hid (((Own.new' (g := w.heap.size) (t := 46) (vs := [.int .u64 (N : Int), .int .u8 (W : Int)]) (w := w) rfl).alloc (.cells #[.slice A n c, .int .i64 (L : Int)] 24)).alloc (.cells #[.slice none 0 0, .int .i64 0] 24))
  have O3 := Lib.hid ((Own.new' (g := w.heap.size + 1) (t := 24) (vs := [.slice A n c, .int .i64 (L : Int)]) (w := w.alloc (.cells #[.int .u64 (N : Int), .int .u8 (W : Int)] 46)) (by simp)).alloc (.cells #[.slice none 0 0, .int .i64 0] 24))
  have O4 := Lib.hid (Own.new' (g := w.heap.size + 2) (t := 24) (vs := [.slice none 0 0, .int .i64 0]) (w := (w.alloc (.cells #[.int .u64 (N : Int), .int .u8 (W : Int)] 46)).alloc (.cells #[.slice A n c, .int .i64 (L : Int)] 24)) (by simp))
  have hb := Lib.hid ((((Below.refl w.heap.size w).alloc (Nat.le_refl _) (.cells #[.int .u64 (N : Int), .int .u8 (W : Int)] 46)).alloc (by simp) (.cells #[.slice A n c, .int .i64 (L : Int)] 24)).alloc (by simp; try omega) (.cells #[.slice none 0 0, .int .i64 0] 24))
  have HR1 := Lib.hid (((HR.out.alloc (.cells #[.int .u64 (N : Int), .int .u8 (W : Int)] 46)).alloc (.cells #[.slice A n c, .int .i64 (L : Int)] 24)).alloc (.cells #[.slice none 0 0, .int .i64 0] 24))
  obtain ⟨W0, hW0⟩ : ∃ V, V = ((w.alloc (.cells #[.int .u64 (N : Int), .int .u8 (W : Int)] 46)).alloc (.cells #[.slice A n c, .int .i64 (L : Int)] 24)).alloc (.cells #[.slice none 0 0, .int .i64 0] 24) := ⟨_, rfl⟩
  rw [← hW0] at hb O2 O3 O4 HR1 ⊢
  clear hW0 HR
  have hwW : IntKind.i64.wrap (W : Int) = (W : Int) := IntWalk.i64_in _ (by omega)
  have q2 := O2.out.cell; have q3 := O3.out.cell; have q4 := O4.out.cell; have z2 := O2.out.lt; have z3 := O3.out.lt; have z4 := O4.out.lt; have f4 := O4.out.frozen
  go_region_with (first
    | (go_at_call 24; refine (hn.out _).mono ?_; rintro e w1 ⟨rfl, hbk⟩; have hb1 := Lib.hid (undrew hbk); clear hbk; have O2a := Lib.hid (O2.out.below' hb1.out); have O3a := Lib.hid (O3.out.below' hb1.out); have O4a := Lib.hid (O4.out.below' hb1.out); have q2a := O2a.out.cell; have q3a := O3a.out.cell; have z2a := O2a.out.lt; have z3a := O3a.out.lt)
    | (go_at_call 20; refine (knot_at A n c L M m f _ (HR1.out.below hb1.out) HS.out hm.out hM2.out hL).mono ?_; rintro e w2 ⟨g, rfl, hg, hO, hbk2⟩; have O4b := Lib.hid (O4a.out.below' hbk2); have q4b := O4b.out.cell; have f4b := O4b.out.frozen; have z4b := O4b.out.lt; have hbk3 := Lib.hid hbk2; have HO := Lib.hid hO; clear hbk2 hO))
  all_goals (
    go_wp2
    have hF := (O4b.out.set 0 (.slice (some ⟨g, 0, none⟩) ((M + 7) / 8) ((M + 7) / 8))).set 1 (.int .i64 (M : Int))
    have q0 := hF.cell 0
    have q1 := hF.cell 1
    simp only [List.set_cons_zero, List.set_cons_succ, List.getElem?_cons_zero, List.getElem?_cons_succ] at q0 q1
    have s1 := hb1.out.size
    have s2 := hbk3.out.size
    have s0 := hb.out.size
    exact bodyPost_ret (v := .tuple #[.agg #[.slice (some ⟨g, 0, none⟩) ((M + 7) / 8) ((M + 7) / 8), .int .i64 (M : Int)], .int .i64 0]) (by simp [results, Try.results21, go_sem, q0, q1]) rfl
      ⟨g, rfl, by omega, (HO.out.far (p := ⟨w.heap.size + 2, 0, none⟩) (by intro e; simp at e; try omega) _).far (p := ⟨w.heap.size + 2, 1, none⟩) (by intro e; simp at e; try omega) _,
       (((hb.out.trans (hb1.out.mono s0)).trans (hbk3.out.mono (Nat.le_trans s0 s1))).setCell (p := ⟨w.heap.size + 2, 0, none⟩) (by simp; try omega) _).setCell (p := ⟨w.heap.size + 2, 1, none⟩) (by simp; try omega) _⟩)
set_option maxRecDepth 100000 in
set_option maxHeartbeats 2000000 in
theorem get_field_reads (A : Option Addr) (n c L p N W : Nat) (f : Nat → Bool) (w : World) (hr : Rd w A (cellsF f n)) (hs : RS L n f) (hW : W ≤ 64) (hp : p + W ≤ L) (hk : FieldAt f p (numT N W) W) :
    Calls Try.prog 23 #[.agg #[.int .u64 N, .int .u8 W], .agg #[.slice A n c, .int .i64 L], .int .i64 p] w (Good3 w (numT N W) ((p + W : Nat) : Int)) := by
  have HS := Lib.hid hs; have HR := Lib.hid hr
  have hd : decide ((W : Int) ≤ 64) = true := by rw [decide_eq_true_eq]; omega
  have hm := Lib.hid (numT_field N W hW); have HK := Lib.hid hk; clear hk
  clear hr hs
  have O3 := Lib.hid ((Own.new' (g := w.heap.size) (t := 46) (vs := [.int .u64 (N : Int), .int .u8 (W : Int)]) (w := w) rfl).alloc (.cells #[.slice A n c, .int .i64 (L : Int)] 24))
  have O4 := Lib.hid (Own.new' (g := w.heap.size + 1) (t := 24) (vs := [.slice A n c, .int .i64 (L : Int)]) (w := w.alloc (.cells #[.int .u64 (N : Int), .int .u8 (W : Int)] 46)) (by simp))
  have hb := Lib.hid (((Below.refl w.heap.size w).alloc (Nat.le_refl _) (.cells #[.int .u64 (N : Int), .int .u8 (W : Int)] 46)).alloc (by simp) (.cells #[.slice A n c, .int .i64 (L : Int)] 24))
  go_enter Try.func23, Try.ntmps23
  go_wp2_with fail
  refine (getField_reads A n c L p (numT N W) W f _ ((HR.out.alloc _).alloc _) HS.out hW hm.out hp HK.out).mono ?_
  rintro e w1 ⟨rfl, hbk⟩
  have hbk := Lib.hid hbk
  go_wp2
  go_ret3
  exact ⟨rfl, hb.out.trans (hbk.out.mono (by simp; try omega))⟩
set_option maxRecDepth 100000 in
set_option maxHeartbeats 2000000 in
theorem get_knot_reads (A : Option Addr) (n c L p N W : Nat) (f : Nat → Bool) (w : World) (hr : Rd w A (cellsF f n)) (hs : RS L n f) (hW : 64 < W ∧ W < 256) (hp : p + knotL (numT N W) ≤ L) (hk : KnotAt f p (numT N W)) :
    Calls Try.prog 23 #[.agg #[.int .u64 N, .int .u8 W], .agg #[.slice A n c, .int .i64 L], .int .i64 p] w (Good3 w (numT N W) ((p + knotL (numT N W) : Nat) : Int)) := by
  have HS := Lib.hid hs; have HR := Lib.hid hr
  have hd : decide ((W : Int) ≤ 64) = false := by rw [decide_eq_false_iff_not]; omega
  have hm := Lib.hid (numT_max N W); have HK := Lib.hid hk; clear hk
  clear hr hs
  have O3 := Lib.hid ((Own.new' (g := w.heap.size) (t := 46) (vs := [.int .u64 (N : Int), .int .u8 (W : Int)]) (w := w) rfl).alloc (.cells #[.slice A n c, .int .i64 (L : Int)] 24))
  have O4 := Lib.hid (Own.new' (g := w.heap.size + 1) (t := 24) (vs := [.slice A n c, .int .i64 (L : Int)]) (w := w.alloc (.cells #[.int .u64 (N : Int), .int .u8 (W : Int)] 46)) (by simp))
  have hb := Lib.hid (((Below.refl w.heap.size w).alloc (Nat.le_refl _) (.cells #[.int .u64 (N : Int), .int .u8 (W : Int)] 46)).alloc (by simp) (.cells #[.slice A n c, .int .i64 (L : Int)] 24))
  go_enter Try.func23, Try.ntmps23
  go_wp2_with fail
  refine (getKnot_reads A n c L p (numT N W) f _ ((HR.out.alloc _).alloc _) HS.out hm.out hp HK.out).mono ?_
  rintro e w1 ⟨rfl, hbk⟩
  have hbk := Lib.hid hbk
  go_wp2
  go_ret3
  exact ⟨rfl, hb.out.trans (hbk.out.mono (by simp; try omega))⟩
set_option maxRecDepth 100000 in
set_option maxHeartbeats 2000000 in
theorem get_field_part (A : Option Addr) (n c L p N W : Nat) (g : Nat → Bool) (w : World) (hr : Rd w A (cellsF g n)) (hs : RS L n g) (hW : W ≤ 64) (hp : p ≤ L) (hpl : L < p + W) :
    Calls Try.prog 23 #[.agg #[.int .u64 N, .int .u8 W], .agg #[.slice A n c, .int .i64 L], .int .i64 p] w (Bad3 w 10) := by
  have HS := Lib.hid hs; have HR := Lib.hid hr
  have hd : decide ((W : Int) ≤ 64) = true := by rw [decide_eq_true_eq]; omega
  clear hr hs
  have O3 := Lib.hid ((Own.new' (g := w.heap.size) (t := 46) (vs := [.int .u64 (N : Int), .int .u8 (W : Int)]) (w := w) rfl).alloc (.cells #[.slice A n c, .int .i64 (L : Int)] 24))
  have O4 := Lib.hid (Own.new' (g := w.heap.size + 1) (t := 24) (vs := [.slice A n c, .int .i64 (L : Int)]) (w := w.alloc (.cells #[.int .u64 (N : Int), .int .u8 (W : Int)] 46)) (by simp))
  have hb := Lib.hid (((Below.refl w.heap.size w).alloc (Nat.le_refl _) (.cells #[.int .u64 (N : Int), .int .u8 (W : Int)] 46)).alloc (by simp) (.cells #[.slice A n c, .int .i64 (L : Int)] 24))
  go_enter Try.func23, Try.ntmps23
  go_wp2_with fail
  refine (getField_short A n c L p W g _ ((HR.out.alloc _).alloc _) HS.out (by omega) (by omega) (by omega) (by omega) (by omega)).mono ?_
  rintro e w1 ⟨rfl, hbk⟩
  have hbk := Lib.hid hbk
  go_wp2
  go_ret3
  exact ⟨rfl, hb.out.trans (hbk.out.mono (by simp; try omega))⟩
set_option maxRecDepth 100000 in
set_option maxHeartbeats 2000000 in
theorem get_knot_part (A : Option Addr) (n c L p N W : Nat) (f g : Nat → Bool) (w : World) (hr : Rd w A (cellsF g n)) (hs : RS L n g) (hW : 64 < W ∧ W < 256) (hp : p ≤ L) (hpl : L < p + knotL (numT N W)) (hk : KnotAt f p (numT N W)) (e : ∀ i, i < L → g i = f i) :
    Calls Try.prog 23 #[.agg #[.int .u64 N, .int .u8 W], .agg #[.slice A n c, .int .i64 L], .int .i64 p] w (Bad3 w 10) := by
  have HS := Lib.hid hs; have HR := Lib.hid hr
  have hd : decide ((W : Int) ≤ 64) = false := by rw [decide_eq_false_iff_not]; omega
  have hm := Lib.hid (numT_max N W); have HK := Lib.hid hk; have HE := Lib.hid e; clear hk e
  clear hr hs
  have O3 := Lib.hid ((Own.new' (g := w.heap.size) (t := 46) (vs := [.int .u64 (N : Int), .int .u8 (W : Int)]) (w := w) rfl).alloc (.cells #[.slice A n c, .int .i64 (L : Int)] 24))
  have O4 := Lib.hid (Own.new' (g := w.heap.size + 1) (t := 24) (vs := [.slice A n c, .int .i64 (L : Int)]) (w := w.alloc (.cells #[.int .u64 (N : Int), .int .u8 (W : Int)] 46)) (by simp))
  have hb := Lib.hid (((Below.refl w.heap.size w).alloc (Nat.le_refl _) (.cells #[.int .u64 (N : Int), .int .u8 (W : Int)] 46)).alloc (by simp) (.cells #[.slice A n c, .int .i64 (L : Int)] 24))
  go_enter Try.func23, Try.ntmps23
  go_wp2_with fail
  refine (getKnot_part A n c L p (numT N W) f g _ ((HR.out.alloc _).alloc _) HS.out hm.out hp hpl HK.out HE.out).mono ?_
  rintro e w1 ⟨rfl, hbk⟩
  have hbk := Lib.hid hbk
  go_wp2
  go_ret3
  exact ⟨rfl, hb.out.trans (hbk.out.mono (by simp; try omega))⟩
theorem sizeT_field {N W : Nat} (h : W ≤ 64) : sizeT N W = W := if_pos h
theorem sizeT_knot {N W : Nat} (h : ¬ W ≤ 64) : sizeT N W = knotL (numT N W) := if_neg h
theorem sizeT_le (N W : Nat) : sizeT N W ≤ 127 := by
  by_cases h : W ≤ 64
  · rw [sizeT_field h]; omega
  · rw [sizeT_knot h]; exact (knotL_bound _ (numT_max N W)).2.1
theorem putT_ahead {f : Nat → Bool} {p N W i : Nat} (h : i < p) : putT f p N W i = f i := by
  unfold putT
  split
  · exact putF_ahead h
  · exact putF_ahead (by have := (digits_bound _ (numT_max N W)).1; omega)
theorem putT_RS {f : Nat → Bool} {L n N W M : Nat} (h : RS L n f) (hM : L + sizeT N W = M) (hL : M ≤ 4194304) : RS M ((M + 7) / 8) (putT f L N W) := by
  by_cases hW : W ≤ 64
  · rw [sizeT_field hW] at hM
    unfold putT; rw [if_pos hW]
    exact putF_RS h (by omega) (by omega) hL
  · rw [sizeT_knot hW] at hM
    unfold putT; rw [if_neg hW]
    have := knot_room (L := L) _ (numT_max N W)
    exact putF_RS h (by omega) (by omega) hL
theorem thingAt_put {f : Nat → Bool} {p N W : Nat} (hz : ∀ i, p ≤ i → f i = false) : ThingAt (putT f p N W) p N W := by
  unfold ThingAt putT
  split
  · exact fieldAt_put hz
  · exact knotAt_put (numT_max N W) hz
theorem ThingAt.congr {f g : Nat → Bool} {p N W : Nat} (h : ThingAt f p N W) (e : ∀ i, p ≤ i → i < p + sizeT N W → f i = g i) : ThingAt g p N W := by
  by_cases hW : W ≤ 64
  · rw [sizeT_field hW] at e
    unfold ThingAt at h ⊢; rw [if_pos hW] at h ⊢
    exact FieldAt.congr h e
  · rw [sizeT_knot hW] at e
    unfold ThingAt at h ⊢; rw [if_neg hW] at h ⊢
    exact KnotAt.congr h e
theorem putThing_any (A : Option Addr) (n c L N W M : Nat) (f : Nat → Bool) (w : World) (hr : Rd w A (cellsF f n)) (hs : RS L n f) (hN : N < 18446744073709551616) (hW : W < 256) (hM : L + sizeT N W = M) (hL : M ≤ 4194304) :
    Calls Try.prog 21 #[.agg #[.int .u64 N, .int .u8 W], .agg #[.slice A n c, .int .i64 L]] w (GoodS w M (putT f L N W)) := by
  by_cases h : W ≤ 64
  · rw [sizeT_field h] at hM
    unfold putT; rw [if_pos h]
    exact put_field A n c L N W M f w hr hs hN h hM hL
  · rw [sizeT_knot h] at hM
    unfold putT; rw [if_neg h]
    exact put_knot A n c L N W M f w hr hs hN ⟨by omega, hW⟩ hM hL
theorem get_reads (A : Option Addr) (n c L p q N W : Nat) (f : Nat → Bool) (w : World) (hr : Rd w A (cellsF f n)) (hs : RS L n f) (hW : W < 256) (hq : p + sizeT N W = q) (hp : q ≤ L) (hk : ThingAt f p N W) :
    Calls Try.prog 23 #[.agg #[.int .u64 N, .int .u8 W], .agg #[.slice A n c, .int .i64 L], .int .i64 p] w (Good3 w (numT N W) (q : Int)) := by
  by_cases h : W ≤ 64
  · rw [sizeT_field h] at hq
    unfold ThingAt at hk; rw [if_pos h] at hk
    subst hq
    exact get_field_reads A n c L p N W f w hr hs h hp hk
  · rw [sizeT_knot h] at hq
    unfold ThingAt at hk; rw [if_neg h] at hk
    subst hq
    exact get_knot_reads A n c L p N W f w hr hs ⟨by omega, hW⟩ hp hk
theorem get_part (A : Option Addr) (n c L p N W : Nat) (f g : Nat → Bool) (w : World) (hr : Rd w A (cellsF g n)) (hs : RS L n g) (hW : W < 256) (hp : p ≤ L) (hq : L < p + sizeT N W) (hk : ThingAt f p N W) (e : ∀ i, i < L → g i = f i) :
    Calls Try.prog 23 #[.agg #[.int .u64 N, .int .u8 W], .agg #[.slice A n c, .int .i64 L], .int .i64 p] w (Bad3 w 10) := by
  by_cases h : W ≤ 64
  · rw [sizeT_field h] at hq
    exact get_field_part A n c L p N W g w hr hs h hp hq
  · rw [sizeT_knot h] at hq
    unfold ThingAt at hk; rw [if_neg h] at hk
    exact get_knot_part A n c L p N W f g w hr hs ⟨by omega, hW⟩ hp hq hk e
end Go.Proofs.Ytnhlenagojbigaa
