/- Walk: graph.Has. -/
import Derived.Test.YtljihclpgpmfeaaDoorGk
namespace Go.Proofs.YtljihclpgpmfeaaDoor
set_option maxRecDepth 100000
open Go.RowKit

def hasG (N : Int) (E : List (Int × Int)) (a b : Int) : Bool := rightG N E && E.contains (min a b, max a b)
theorem rightG_len {N : Int} {E : List (Int × Int)} (h : rightG N E = true) : E.length ≤ 594 := by
  unfold rightG at h
  rw [Bool.and_eq_true, Bool.and_eq_true, Bool.and_eq_true, decide_eq_true_eq, decide_eq_true_eq, decide_eq_true_eq] at h
  exact h.1.2
set_option maxRecDepth 100000 in
set_option maxHeartbeats 4000000 in
theorem has_any (N : Int) (A : Option Addr) (n c : Nat) (E : List (Int × Int)) (a b : Int) (w : World) (h : ArgE w A n c E) :
    Calls Tryd.prog 20 #[.agg #[.int .i64 N, .slice A n c], .int .i64 a, .int .i64 b] w fun e w' => e = .returned (.bool (hasG N E a b)) ∧ Below w.heap.size w w' := by
  have HB0 := Lib.hid (alloc_below w (.cells #[.int .i64 N, .slice A n c] 26))
  have HA := Lib.hid (h.keep HB0.out)
  have G0 := Lib.hid (Own.new' (t := 26) (w := w) (vs := [.int .i64 N, .slice A n c]) rfl)
  clear h
  have HR := Lib.hid (rightG_any N A n c E _ HA.out)
  obtain ⟨r, hr⟩ : ∃ r, rightG N E = r := ⟨_, rfl⟩
  have RG := Lib.hid hr
  rw [hr] at HR
  clear hr
  go_enter Tryd.func20, Tryd.ntmps20
  go_wp2_with fail
  refine HR.out.mono ?_
  rintro e w1 ⟨rfl, hb⟩
  have OG := Lib.hid (G0.out.below' hb)
  have HA1 := Lib.hid (HA.out.keep hb)
  have HB1 := Lib.hid (HB0.out.trans (hb.mono HB0.out.size))
  have g0 : w1.cell? ⟨w.heap.size, 0, none⟩ = some (.int .i64 N) := OG.out.cell 0
  have g1 : w1.cell? ⟨w.heap.size, 1, none⟩ = some (.slice A n c) := OG.out.cell 1
  have zg := OG.out.lt
  clear hb
  cases r with
  | false =>
    have HX := Lib.hid (show hasG N E a b = false by unfold hasG; rw [RG.out]; rfl)
    go_wp2
    go_ret
    exact ⟨by rw [HX.out]; rfl, HB1.out⟩
  | true =>
    have HX := Lib.hid (show hasG N E a b = E.contains (min a b, max a b) by unfold hasG; rw [RG.out]; rfl)
    obtain ⟨p0, hp0⟩ : ∃ p, min a b = p := ⟨_, rfl⟩
    obtain ⟨p1, hp1⟩ : ∃ p, max a b = p := ⟨_, rfl⟩
    rw [hp0, hp1] at HX
    go_wp2_with fail
    refine (searchE_any A n c E p0 p1 _ HA1.out (rightG_rises RG.out) (by have := rightG_len RG.out; have := HA1.out.len; omega)).mono ?_
    rintro e w2 ⟨i, rfl, hb⟩
    rw [← HX.out]
    have HB2 := Lib.hid (HB1.out.trans (hb.mono HB1.out.size))
    clear hb
    go_wp2
    go_ret
    exact ⟨rfl, HB2.out⟩
end Go.Proofs.YtljihclpgpmfeaaDoor
