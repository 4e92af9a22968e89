/- Walk: strand.Join. -/
import Derived.Test.YtnhlenagojbigaaStrC
namespace Go.Proofs.Ytnhlenagojbigaa
open Go.RowKit

/-- An error: no strand. -/
def BadS (w : World) (k : Int) (e : Ending) (w' : World) : Prop :=
  e = .returned (.tuple #[.agg #[.slice none 0 0, .int .i64 0], .int .i64 k]) ∧ Below w.heap.size w w'
/-- A fresh strand of L bits f, and no error. -/
def GoodS (w : World) (L : Nat) (f : Nat → Bool) (e : Ending) (w' : World) : Prop :=
  ∃ g, e = .returned (.tuple #[.agg #[.slice (some ⟨g, 0, none⟩) ((L + 7) / 8) ((L + 7) / 8), .int .i64 L], .int .i64 0]) ∧ w.heap.size ≤ g ∧ Own w' g 5 (cellsF f ((L + 7) / 8)) ∧ Below w.heap.size w w'

set_option maxRecDepth 100000 in
set_option maxHeartbeats 2000000 in
theorem join_bad (A A' : Option Addr) (n c n' c' : Nat) (L L' : Int) (f f' : Nat → Bool) (w : World)
   (hr : Rd w A (cellsF f n)) (hf : ∀ i, 8 * n ≤ i → f i = false) (hn : n ≤ 140737488351232) (hL0 : -9223372036854775808 ≤ L) (hL1 : L ≤ 9223372036854775807)
   (hr' : Rd w A' (cellsF f' n')) (hf' : ∀ i, 8 * n' ≤ i → f' i = false) (hn' : n' ≤ 140737488351232) (hL0' : -9223372036854775808 ≤ L') (hL1' : L' ≤ 9223372036854775807)
   (h : (rightB L n f && rightB L' n' f') = false) :
    Calls Try.prog 18 #[.agg #[.slice A n c, .int .i64 L], .agg #[.slice A' n' c', .int .i64 L']] w (BadS w 11) := by
  have HR := Lib.hid hr; have HR' := Lib.hid hr'; have HF := Lib.hid hf; have HF' := Lib.hid hf'
  clear hr hr' hf hf'
  by_cases h1 : rightB L n f = true
  · have h2 : rightB L' n' f' = false := by simpa [h1] using h
    clear h
    go_enter Try.func18, Try.ntmps18
    go_wp2_with fail
    refine (right_any A n c L f _ (((HR.out.alloc _).alloc _).alloc _) HF.out hn hL0 hL1).mono ?_
    rintro e w1 ⟨rfl, hb1⟩
    have HR1 := ((((HR'.out.alloc _).alloc _).alloc _).below hb1)
    have hb := Lib.hid ((((((Below.refl w.heap.size w).alloc (by simp) _).alloc (by simp) _).alloc (by simp; omega) _).trans (hb1.mono (by simp; omega))))
    have hs := hb1.size
    have oA := Own.below' (((Own.new' (w := w) rfl).alloc _).alloc _) hb1
    have oB := Own.below' ((Own.new' (w := w.alloc _) rfl).alloc _) hb1
    have oC := Own.below' (Own.new' (w := (w.alloc _).alloc _) rfl) hb1
    simp only [World.size_alloc] at hs oA oB oC
    have qB := oB.cell; have qC := oC.cell; have fC := oC.frozen
    have HR2 := Lib.hid HR1; have OA := Lib.hid oA; have OB := Lib.hid oB; have OC := Lib.hid oC
    clear hb1 HR1 oA oB oC
    go_wp2_with fail
    refine (right_any A' n' c' L' f' _ HR2.out HF'.out hn' hL0' hL1').mono ?_
    rintro e w2 ⟨rfl, hb1⟩
    have hb2 := Lib.hid (below_chain hb.out hb1)
    have oA := OA.out.below' hb1; have oB := OB.out.below' hb1; have oC := OC.out.below' hb1
    have hs2 := hb1.size
    clear qB qC fC
    have qA := oA.cell; have qB := oB.cell; have qC := oC.cell; have fC := oC.frozen
    have OA2 := Lib.hid oA; have OB2 := Lib.hid oB; have OC2 := Lib.hid oC
    have HB1 := Lib.hid hb1
    clear oA oB oC hb1
    go_wp2
    have hF := (OC2.out.set 0 (.slice none 0 0)).set 1 (.int .i64 0)
    have q0 := hF.cell 0
    have q1 := hF.cell 1
    simp only [List.set_cons_zero, List.set_cons_succ, List.getElem?_cons_zero, List.getElem?_cons_succ] at q0 q1
    exact bodyPost_ret (v := .tuple #[.agg #[.slice none 0 0, .int .i64 0], .int .i64 11]) (by simp [results, Try.results18, go_sem, q0, q1]) rfl ⟨rfl, (hb2.out.setCell (by simp; omega) _).setCell (by simp; omega) _⟩
  · simp only [Bool.not_eq_true] at h1
    clear h
    go_enter Try.func18, Try.ntmps18
    go_wp2_with fail
    refine (right_any A n c L f _ (((HR.out.alloc _).alloc _).alloc _) HF.out hn hL0 hL1).mono ?_
    rintro e w1 ⟨rfl, hb1⟩
    have HR1 := ((((HR'.out.alloc _).alloc _).alloc _).below hb1)
    have hb := Lib.hid ((((((Below.refl w.heap.size w).alloc (by simp) _).alloc (by simp) _).alloc (by simp; omega) _).trans (hb1.mono (by simp; omega))))
    have hs := hb1.size
    have oA := Own.below' (((Own.new' (w := w) rfl).alloc _).alloc _) hb1
    have oB := Own.below' ((Own.new' (w := w.alloc _) rfl).alloc _) hb1
    have oC := Own.below' (Own.new' (w := (w.alloc _).alloc _) rfl) hb1
    simp only [World.size_alloc] at hs oA oB oC
    have qB := oB.cell; have qC := oC.cell; have fC := oC.frozen
    have HR2 := Lib.hid HR1; have OA := Lib.hid oA; have OB := Lib.hid oB; have OC := Lib.hid oC
    clear hb1 HR1 oA oB oC
    go_wp2
    have hF := (OC.out.set 0 (.slice none 0 0)).set 1 (.int .i64 0)
    have q0 := hF.cell 0
    have q1 := hF.cell 1
    simp only [List.set_cons_zero, List.set_cons_succ, List.getElem?_cons_zero, List.getElem?_cons_succ] at q0 q1
    exact bodyPost_ret (v := .tuple #[.agg #[.slice none 0 0, .int .i64 0], .int .i64 11]) (by simp [results, Try.results18, go_sem, q0, q1]) rfl ⟨rfl, (hb.out.setCell (by simp; omega) _).setCell (by simp; omega) _⟩

set_option maxRecDepth 100000 in
set_option maxHeartbeats 2000000 in
theorem join_long (A A' : Option Addr) (n c n' c' : Nat) (L L' : Nat) (f f' : Nat → Bool) (w : World) (hr : Rd w A (cellsF f n)) (hs : RS L n f) (hr' : Rd w A' (cellsF f' n')) (hs' : RS L' n' f') (h : 4194304 < L + L') :
    Calls Try.prog 18 #[.agg #[.slice A n c, .int .i64 L], .agg #[.slice A' n' c', .int .i64 L']] w (BadS w 3) := by
  have h1 := hs.rightB; have h2 := hs'.rightB
  have hle := hs.le; have hle' := hs'.le
  have HF := Lib.hid (show ∀ i, 8 * n ≤ i → f i = false from fun i hi => hs.zero i (by have := hs.len; omega))
  have HF' := Lib.hid (show ∀ i, 8 * n' ≤ i → f' i = false from fun i hi => hs'.zero i (by have := hs'.len; omega))
  have hn : n ≤ 140737488351232 := by have := hs.len; omega
  have hn' : n' ≤ 140737488351232 := by have := hs'.len; omega
  have hL0 : -9223372036854775808 ≤ (L : Int) := by omega
  have hL1 : (L : Int) ≤ 9223372036854775807 := by omega
  have hL0' : -9223372036854775808 ≤ (L' : Int) := by omega
  have hL1' : (L' : Int) ≤ 9223372036854775807 := by omega
  have HR := Lib.hid hr; have HR' := Lib.hid hr'
  clear hr hr' hs hs'
  · skip
    go_enter Try.func18, Try.ntmps18
    go_wp2_with fail
    refine (right_any A n c L f _ (((HR.out.alloc _).alloc _).alloc _) HF.out hn hL0 hL1).mono ?_
    rintro e w1 ⟨rfl, hb1⟩
    have HR1 := ((((HR'.out.alloc _).alloc _).alloc _).below hb1)
    have hb := Lib.hid ((((((Below.refl w.heap.size w).alloc (by simp) _).alloc (by simp) _).alloc (by simp; omega) _).trans (hb1.mono (by simp; omega))))
    have hs := hb1.size
    have oA := Own.below' (((Own.new' (w := w) rfl).alloc _).alloc _) hb1
    have oB := Own.below' ((Own.new' (w := w.alloc _) rfl).alloc _) hb1
    have oC := Own.below' (Own.new' (w := (w.alloc _).alloc _) rfl) hb1
    simp only [World.size_alloc] at hs oA oB oC
    have qB := oB.cell; have qC := oC.cell; have fC := oC.frozen
    have HR2 := Lib.hid HR1; have OA := Lib.hid oA; have OB := Lib.hid oB; have OC := Lib.hid oC
    clear hb1 HR1 oA oB oC
    go_wp2_with fail
    refine (right_any A' n' c' L' f' _ HR2.out HF'.out hn' hL0' hL1').mono ?_
    rintro e w2 ⟨rfl, hb1⟩
    have hb2 := Lib.hid (below_chain hb.out hb1)
    have oA := OA.out.below' hb1; have oB := OB.out.below' hb1; have oC := OC.out.below' hb1
    have hs2 := hb1.size
    clear qB qC fC
    have qA := oA.cell; have qB := oB.cell; have qC := oC.cell; have fC := oC.frozen
    have OA2 := Lib.hid oA; have OB2 := Lib.hid oB; have OC2 := Lib.hid oC
    have HB1 := Lib.hid hb1
    clear oA oB oC hb1
    go_wp2
    have hF := (OC2.out.set 0 (.slice none 0 0)).set 1 (.int .i64 0)
    have q0 := hF.cell 0
    have q1 := hF.cell 1
    simp only [List.set_cons_zero, List.set_cons_succ, List.getElem?_cons_zero, List.getElem?_cons_succ] at q0 q1
    exact bodyPost_ret (v := .tuple #[.agg #[.slice none 0 0, .int .i64 0], .int .i64 3]) (by simp [results, Try.results18, go_sem, q0, q1]) rfl ⟨rfl, (hb2.out.setCell (by simp; omega) _).setCell (by simp; omega) _⟩
end Go.Proofs.Ytnhlenagojbigaa
