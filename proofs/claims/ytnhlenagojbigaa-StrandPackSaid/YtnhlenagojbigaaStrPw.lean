/- Walk: fretworklaw01.StrandPack: all ways. -/
import Derived.Test.YtnhlenagojbigaaStrP0
import Derived.Test.YtnhlenagojbigaaStrPz
import Derived.Test.YtnhlenagojbigaaStrPu
namespace Go.Proofs.Ytnhlenagojbigaa
open Go.RowKit

set_option maxRecDepth 100000 in
set_option maxHeartbeats 8000000 in
theorem strandPack_true (A A' B : Option Addr) (n c n' c' k kc : Nat) (L L' : Int) (f f' h : Nat → Bool) (w : World) (hs : ArgS w A n L f) (ht : ArgS w A' n' L' f') (hb : Rd w B (cellsF h k)) :
    Calls Try.prog 3 #[.agg #[.slice A n c, .int .i64 L], .agg #[.slice A' n' c', .int .i64 L'], .slice B k kc] w fun e w' => e = .returned (.bool true) ∧ Below w.heap.size w w' := by
  have HS := Lib.hid hs; have HT := Lib.hid ht; have HB := Lib.hid hb
  clear hs ht hb
  by_cases h250 : 250 < k
  · skip
    have hb := Lib.hid (Below.refl w.heap.size w)
    go_enter Try.func3, Try.ntmps3
    go_wp2_with fail
    refine (awake_true _).mono ?_
    rintro e w1 ⟨rfl, hbk⟩
    have hb' := Lib.hid (((hb.out.alloc (by have := hb.out.size; simp; try omega) _).alloc (by have := hb.out.size; simp; try omega) _).trans (hbk.mono (by have := hb.out.size; simp; try omega)))
    have hs1 := hbk.size
    simp only [World.size_alloc] at hs1
    clear hb hbk 
    have hb := hb'; clear hb'
    go_wp2
    go_ret
    exact ⟨rfl, hb.out⟩
  · by_cases h0 : k = 0
    · exact strandPack_none A A' B n c n' c' k kc L L' f f' h w HS.out HT.out HB.out h0
    · by_cases hz : byteF h (k - 1) = 0
      · exact strandPack_zero A A' B n c n' c' k kc L L' f f' h w HS.out HT.out HB.out (by omega) (by omega) hz
      · exact strandPack_some A A' B n c n' c' k kc L L' f f' h w HS.out HT.out HB.out (by omega) (by omega) hz
end Go.Proofs.Ytnhlenagojbigaa
