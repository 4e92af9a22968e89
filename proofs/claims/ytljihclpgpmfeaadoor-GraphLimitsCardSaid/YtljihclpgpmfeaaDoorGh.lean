/- Walk: fretworklow.SameGraph. -/
import Derived.Test.YtljihclpgpmfeaaDoorGg
namespace Go.Proofs.YtljihclpgpmfeaaDoor
set_option maxRecDepth 100000
open Go.RowKit Go.Shelf

set_option maxRecDepth 100000 in
set_option maxHeartbeats 8000000 in
theorem sameGraph_any (N M : Int) (A B : Option Addr) (c d n m : Nat) (us vs : List (Int × Int)) (w : World) (h1 : ArgE w A n c us) (h2 : ArgE w B m d vs) :
    Calls Tryd.prog 17 #[.agg #[.int .i64 N, .slice A n c], .agg #[.int .i64 M, .slice B m d]] w fun e w' => e = .returned (.bool ((N == M) && (us == vs))) ∧ Below w.heap.size w w' := by
  have hW1 := alloc_below w (.cells #[.int .i64 N, .slice A n c] 26)
  have hW2 := alloc_below (w.alloc (.cells #[.int .i64 N, .slice A n c] 26)) (.cells #[.int .i64 M, .slice B m d] 26)
  have HB := Lib.hid (hW1.trans (hW2.mono (by simp)))
  have HP := Lib.hid (samePairs_any A B c d n m us vs _ (h1.keep HB.out) (h2.keep HB.out))
  clear h1 h2 hW1 hW2
  generalize (us == vs) = t at HP ⊢
  by_cases hNM : N = M
  · subst hNM
    have k0 : (N == N) = true := by simp
    rw [k0, Bool.true_and]
    go_enter Tryd.func17, Tryd.ntmps17
    go_wp2_with fail
    refine HP.out.mono ?_
    rintro e w' ⟨rfl, hb⟩
    have HB2 := Lib.hid (HB.out.trans (hb.mono HB.out.size))
    clear hb
    go_wp2
    go_ret
    exact ⟨rfl, HB2.out⟩
  · have k0 : (N == M) = false := by rw [beq_eq_false_iff_ne]; exact hNM
    rw [k0, Bool.false_and]
    go_enter Tryd.func17, Tryd.ntmps17
    go_wp2
    go_ret
    exact ⟨rfl, HB.out⟩
end Go.Proofs.YtljihclpgpmfeaaDoor
