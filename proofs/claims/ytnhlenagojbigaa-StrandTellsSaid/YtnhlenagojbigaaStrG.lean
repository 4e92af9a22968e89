/- Walk: strand.GetField. -/
import Derived.Test.YtnhlenagojbigaaStrD
namespace Go.Proofs.Ytnhlenagojbigaa
open Go.RowKit

/-- An error: no number, no place. -/
def Bad3 (w : World) (k : Int) (e : Ending) (w' : World) : Prop := e = .returned (.tuple #[.int .u64 0, .int .i64 0, .int .i64 k]) ∧ Below w.heap.size w w'
/-- A number, the place behind it, and no error. -/
def Good3 (w : World) (m : Nat) (p : Int) (e : Ending) (w' : World) : Prop := e = .returned (.tuple #[.int .u64 m, .int .i64 p, .int .i64 0]) ∧ Below w.heap.size w w'

set_option maxRecDepth 100000 in
set_option maxHeartbeats 2000000 in
theorem getField_bits (A : Option Addr) (n c : Nat) (L p wd : Int) (f : Nat → Bool) (w : World) (hr : Rd w A (cellsF f n)) (hf : ∀ i, 8 * n ≤ i → f i = false) (hn : n ≤ 140737488351232) (hL0 : -9223372036854775808 ≤ L) (hL1 : L ≤ 9223372036854775807)
   (h1 : rightB L n f = false) : Calls Try.prog 37 #[.agg #[.slice A n c, .int .i64 L], .int .i64 p, .int .i64 wd] w (Bad3 w 11) := by
  have HR := Lib.hid hr; have HF := Lib.hid hf
  clear hr hf
  · skip
    go_enter Try.func37, Try.ntmps37
    go_wp2_with fail
    refine (right_any A n c L f _ (HR.out.alloc _) HF.out hn hL0 hL1).mono ?_
    rintro e w1 ⟨rfl, hb1⟩
    have hb := Lib.hid (((Below.refl w.heap.size w).alloc (by simp) _).trans (hb1.mono (by simp)))
    have oA := Own.below' (Own.new' (w := w) rfl) hb1
    have hs := hb1.size
    simp only [World.size_alloc] at hs oA
    have qA := oA.cell
    have OA := Lib.hid oA
    have z0 : w.heap.size < w1.heap.size := by omega
    have HR1 := Lib.hid (HR.out.below hb.out)
    clear hb1 oA
    go_wp2
    go_ret3
    exact ⟨rfl, hb.out⟩
set_option maxRecDepth 100000 in
set_option maxHeartbeats 2000000 in
theorem getField_arg (A : Option Addr) (n c L : Nat) (p wd : Int) (f : Nat → Bool) (w : World) (hr : Rd w A (cellsF f n)) (hs : RS L n f)
   (h : ¬ (0 ≤ wd ∧ wd ≤ 64 ∧ 0 ≤ p ∧ p ≤ L)) : Calls Try.prog 37 #[.agg #[.slice A n c, .int .i64 L], .int .i64 p, .int .i64 wd] w (Bad3 w 2) := by
  have h1 := hs.rightB
  have hle := hs.le
  have HF := Lib.hid (show ∀ i, 8 * n ≤ i → f i = false from fun i hi => hs.zero i (by have := hs.len; omega))
  have hn : n ≤ 140737488351232 := by have := hs.len; omega
  have hL0 : -9223372036854775808 ≤ (L : Int) := by omega
  have hL1 : (L : Int) ≤ 9223372036854775807 := by omega
  have HR := Lib.hid hr; have HS := Lib.hid hs
  clear hr hs
  by_cases c450 : wd < 0
  · clear h
    go_enter Try.func37, Try.ntmps37
    go_wp2_with fail
    refine (right_any A n c L f _ (HR.out.alloc _) HF.out hn hL0 hL1).mono ?_
    rintro e w1 ⟨rfl, hb1⟩
    have hb := Lib.hid (((Below.refl w.heap.size w).alloc (by simp) _).trans (hb1.mono (by simp)))
    have oA := Own.below' (Own.new' (w := w) rfl) hb1
    have hs := hb1.size
    simp only [World.size_alloc] at hs oA
    have qA := oA.cell
    have OA := Lib.hid oA
    have z0 : w.heap.size < w1.heap.size := by omega
    have HR1 := Lib.hid (HR.out.below hb.out)
    clear hb1 oA
    go_wp2
    go_ret3
    exact ⟨rfl, hb.out⟩
  by_cases c440 : 64 < wd
  · clear h
    go_enter Try.func37, Try.ntmps37
    go_wp2_with fail
    refine (right_any A n c L f _ (HR.out.alloc _) HF.out hn hL0 hL1).mono ?_
    rintro e w1 ⟨rfl, hb1⟩
    have hb := Lib.hid (((Below.refl w.heap.size w).alloc (by simp) _).trans (hb1.mono (by simp)))
    have oA := Own.below' (Own.new' (w := w) rfl) hb1
    have hs := hb1.size
    simp only [World.size_alloc] at hs oA
    have qA := oA.cell
    have OA := Lib.hid oA
    have z0 : w.heap.size < w1.heap.size := by omega
    have HR1 := Lib.hid (HR.out.below hb.out)
    clear hb1 oA
    go_wp2
    go_ret3
    exact ⟨rfl, hb.out⟩
  by_cases c459 : p < 0
  · clear h
    go_enter Try.func37, Try.ntmps37
    go_wp2_with fail
    refine (right_any A n c L f _ (HR.out.alloc _) HF.out hn hL0 hL1).mono ?_
    rintro e w1 ⟨rfl, hb1⟩
    have hb := Lib.hid (((Below.refl w.heap.size w).alloc (by simp) _).trans (hb1.mono (by simp)))
    have oA := Own.below' (Own.new' (w := w) rfl) hb1
    have hs := hb1.size
    simp only [World.size_alloc] at hs oA
    have qA := oA.cell
    have OA := Lib.hid oA
    have z0 : w.heap.size < w1.heap.size := by omega
    have HR1 := Lib.hid (HR.out.below hb.out)
    clear hb1 oA
    go_wp2
    go_ret3
    exact ⟨rfl, hb.out⟩
  · have c4 : (L : Int) < p := by omega
    clear h
    go_enter Try.func37, Try.ntmps37
    go_wp2_with fail
    refine (right_any A n c L f _ (HR.out.alloc _) HF.out hn hL0 hL1).mono ?_
    rintro e w1 ⟨rfl, hb1⟩
    have hb := Lib.hid (((Below.refl w.heap.size w).alloc (by simp) _).trans (hb1.mono (by simp)))
    have oA := Own.below' (Own.new' (w := w) rfl) hb1
    have hs := hb1.size
    simp only [World.size_alloc] at hs oA
    have qA := oA.cell
    have OA := Lib.hid oA
    have z0 : w.heap.size < w1.heap.size := by omega
    have HR1 := Lib.hid (HR.out.below hb.out)
    clear hb1 oA
    go_wp2
    go_ret3
    exact ⟨rfl, hb.out⟩
set_option maxRecDepth 100000 in
set_option maxHeartbeats 2000000 in
theorem getField_short (A : Option Addr) (n c L : Nat) (p wd : Int) (f : Nat → Bool) (w : World) (hr : Rd w A (cellsF f n)) (hs : RS L n f)
   (hw0 : 0 ≤ wd) (hw1 : wd ≤ 64) (hp0 : 0 ≤ p) (hp1 : p ≤ L) (h : (L : Int) < p + wd) : Calls Try.prog 37 #[.agg #[.slice A n c, .int .i64 L], .int .i64 p, .int .i64 wd] w (Bad3 w 10) := by
  have h1 := hs.rightB
  have hle := hs.le
  have HF := Lib.hid (show ∀ i, 8 * n ≤ i → f i = false from fun i hi => hs.zero i (by have := hs.len; omega))
  have hn : n ≤ 140737488351232 := by have := hs.len; omega
  have hL0 : -9223372036854775808 ≤ (L : Int) := by omega
  have hL1 : (L : Int) ≤ 9223372036854775807 := by omega
  have HR := Lib.hid hr; have HS := Lib.hid hs
  clear hr hs
  · skip
    go_enter Try.func37, Try.ntmps37
    go_wp2_with fail
    refine (right_any A n c L f _ (HR.out.alloc _) HF.out hn hL0 hL1).mono ?_
    rintro e w1 ⟨rfl, hb1⟩
    have hb := Lib.hid (((Below.refl w.heap.size w).alloc (by simp) _).trans (hb1.mono (by simp)))
    have oA := Own.below' (Own.new' (w := w) rfl) hb1
    have hs := hb1.size
    simp only [World.size_alloc] at hs oA
    have qA := oA.cell
    have OA := Lib.hid oA
    have z0 : w.heap.size < w1.heap.size := by omega
    have HR1 := Lib.hid (HR.out.below hb.out)
    clear hb1 oA
    go_wp2
    go_ret3
    exact ⟨rfl, hb.out⟩
set_option maxRecDepth 100000 in
set_option maxHeartbeats 2000000 in
theorem getField_good (A : Option Addr) (n c L : Nat) (p : Int) (wd : Nat) (f : Nat → Bool) (w : World) (hr : Rd w A (cellsF f n)) (hs : RS L n f)
   (hw1 : wd ≤ 64) (hp0 : 0 ≤ p) (h : p + wd ≤ L) : Calls Try.prog 37 #[.agg #[.slice A n c, .int .i64 L], .int .i64 p, .int .i64 wd] w (Good3 w (numF f p.toNat wd) (p + wd)) := by
  have h1 := hs.rightB
  have hle := hs.le
  have HF := Lib.hid (show ∀ i, 8 * n ≤ i → f i = false from fun i hi => hs.zero i (by have := hs.len; omega))
  have hn : n ≤ 140737488351232 := by have := hs.len; omega
  have hL0 : -9223372036854775808 ≤ (L : Int) := by omega
  have hL1 : (L : Int) ≤ 9223372036854775807 := by omega
  have HR := Lib.hid hr; have HS := Lib.hid hs
  clear hr hs
  · skip
    go_enter Try.func37, Try.ntmps37
    go_wp2_with fail
    refine (right_any A n c L f _ (HR.out.alloc _) HF.out hn hL0 hL1).mono ?_
    rintro e w1 ⟨rfl, hb1⟩
    have hb := Lib.hid (((Below.refl w.heap.size w).alloc (by simp) _).trans (hb1.mono (by simp)))
    have oA := Own.below' (Own.new' (w := w) rfl) hb1
    have hs := hb1.size
    simp only [World.size_alloc] at hs oA
    have qA := oA.cell
    have OA := Lib.hid oA
    have z0 : w.heap.size < w1.heap.size := by omega
    have HR1 := Lib.hid (HR.out.below hb.out)
    clear hb1 oA
    go_wp2_with fail
    refine (get_any A n c L p wd f _ HR1.out hp0 (by have := HS.out.len; omega) hn hw1).mono ?_
    rintro e w2 ⟨rfl, hb2⟩
    have hB2 := Lib.hid (below_chain hb.out hb2)
    clear qA hb2
    go_wp2
    go_ret3
    exact ⟨rfl, hB2.out⟩
end Go.Proofs.Ytnhlenagojbigaa
