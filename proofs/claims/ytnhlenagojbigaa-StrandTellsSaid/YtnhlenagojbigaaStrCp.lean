/- Walk: fretworklaw01.Copy. -/
import Derived.Test.YtnhlenagojbigaaCopy
import Derived.Test.YtnhlenagojbigaaStrT
import Derived.Deep.RegionWith
namespace Go.Proofs.Ytnhlenagojbigaa
open Go.RowKit

/-- A strand in new memory. -/
def FreshC (w : World) (n : Nat) (L : Int) (f : Nat → Bool) (e : Ending) (w' : World) : Prop :=
  ∃ g cap more, e = .returned (.agg #[.slice (some ⟨g, 0, none⟩) n cap, .int .i64 L]) ∧ w.heap.size ≤ g ∧ Own w' g 5 (cellsF f n ++ more) ∧ Below w.heap.size w w'

set_option maxRecDepth 100000 in
set_option maxHeartbeats 4000000 in
theorem copy_any (A : Option Addr) (n c : Nat) (L : Int) (f : Nat → Bool) (w : World) (hr : Rd w A (cellsF f n)) (hn : n ≤ 140737488351232) :
    Calls Try.prog 30 #[.agg #[.slice A n c, .int .i64 L]] w (FreshC w n L f) := by
  have HR := Lib.hid hr
  clear hr
  go_enter Try.func30, Try.ntmps30
  go_upto_region 1 with (fail)
  have O1 := Lib.hid ((Own.new' (g := w.heap.size) (t := 24) (vs := [.slice A n c, .int .i64 L]) (w := w) rfl).alloc (.cells #[.slice none 0 0, .int .i64 0] 24))
  have O2 := Lib.hid (Own.new' (g := w.heap.size + 1) (t := 24) (vs := [.slice none 0 0, .int .i64 0]) (w := w.alloc (.cells #[.slice A n c, .int .i64 L] 24)) (by simp))
  have hb := Lib.hid (((Below.refl w.heap.size w).alloc (Nat.le_refl _) (.cells #[.slice A n c, .int .i64 L] 24)).alloc (by simp) (.cells #[.slice none 0 0, .int .i64 0] 24))
  have HR1 := Lib.hid ((HR.out.alloc (.cells #[.slice A n c, .int .i64 L] 24)).alloc (.cells #[.slice none 0 0, .int .i64 0] 24))
  obtain ⟨W0, hW0⟩ : ∃ V, V = (w.alloc (.cells #[.slice A n c, .int .i64 L] 24)).alloc (.cells #[.slice none 0 0, .int .i64 0] 24) := ⟨_, rfl⟩
  rw [← hW0] at hb O1 O2 HR1 ⊢
  clear hW0 HR
  have q1 := O1.out.cell; have z1 := O1.out.lt
  go_region_with ((go_at_call 27; refine (copyBytes_any A n c f _ HR1.out.drew hn).mono ?_; rintro e w1 ⟨g, cap, more, rfl, hg, hO, hc1, hc2, hc3, hbk⟩; have O1a := Lib.hid (O1.out.below' (undrew hbk)); have O2a := Lib.hid (O2.out.below' (undrew hbk)); have q1a := O1a.out.cell; have z1a := O1a.out.lt; have f2a := O2a.out.frozen; have q2a := O2a.out.cell; have z2a := O2a.out.lt; have hb1 := Lib.hid (undrew hbk); have HO := Lib.hid hO; have HC3 := Lib.hid hc3; clear hbk hO hc3))
  all_goals (
    go_wp2
    have hF := (O2a.out.set 0 (.slice (some ⟨g, 0, none⟩) n cap)).set 1 (.int .i64 L)
    have q0 := hF.cell 0
    have q1 := hF.cell 1
    simp only [List.set_cons_zero, List.set_cons_succ, List.getElem?_cons_zero, List.getElem?_cons_succ] at q0 q1
    have s0 := hb.out.size
    have hg2 : W0.heap.size ≤ g := hg
    have hz := O2.out.lt
    exact bodyPost_ret (v := .agg #[.slice (some ⟨g, 0, none⟩) n cap, .int .i64 L]) (by simp [results, Try.results30, go_sem, q0, q1]) rfl
      ⟨g, cap, more, rfl, by omega, (HO.out.far (p := ⟨w.heap.size + 1, 0, none⟩) (by intro e; have e : g = w.heap.size + 1 := e; omega) _).far (p := ⟨w.heap.size + 1, 1, none⟩) (by intro e; have e : g = w.heap.size + 1 := e; omega) _,
       ((hb.out.trans (hb1.out.mono s0)).setCell (p := ⟨w.heap.size + 1, 0, none⟩) (by simp) _).setCell (p := ⟨w.heap.size + 1, 1, none⟩) (by simp) _⟩)
end Go.Proofs.Ytnhlenagojbigaa
