/- Pairs of numbers in memory; walks: cmp.Compare, cmp.Or, graph.compare. -/
import Derived.Test.YtljihclpgpmfeaaDoorIb
import Derived.Shelf.SlSortCmp.WholeK
namespace Go.Proofs.YtljihclpgpmfeaaDoor
set_option maxRecDepth 100000
open Go.RowKit Go.Sort Go.Shelf

/-- How two numbers stand. -/
def cmpI (a b : Int) : Int := if a < b then -1 else if b < a then 1 else 0
set_option maxRecDepth 100000 in
theorem isNaN_any (a : Int) (w : World) : Calls Tryd.prog 77 #[.int .i64 a] w fun e w' => e = .returned (.bool false) ∧ w = w' := by
  have h : (a != a) = false := by simp
  go_enter Tryd.func77, Tryd.ntmps77
  go_wp2
  go_ret
  exact ⟨by simp, rfl⟩
set_option maxRecDepth 100000 in
theorem cmpCompare_any (a b : Int) (w : World) : Calls Tryd.prog 63 #[.int .i64 a, .int .i64 b] w fun e w' => e = .returned (.int .i64 (cmpI a b)) ∧ w = w' := by
  have HA := Lib.hid (isNaN_any a w); have HB := Lib.hid (isNaN_any b w)
  rcases Int.lt_trichotomy a b with h | h | h
  · have HC := Lib.hid (show cmpI a b = -1 from if_pos h)
    have d1 : decide (a < b) = true := by rw [decide_eq_true_eq]; exact h
    clear h
    go_enter Tryd.func63, Tryd.ntmps63
    go_wp2_with fail
    refine HA.out.mono ?_
    rintro e _ ⟨rfl, rfl⟩
    go_wp2_with fail
    refine HB.out.mono ?_
    rintro e _ ⟨rfl, rfl⟩
    go_wp2
    go_ret
    exact ⟨by rw [HC.out]; rfl, rfl⟩
  · have HC := Lib.hid (show cmpI a b = 0 by unfold cmpI; rw [if_neg (by omega), if_neg (by omega)])
    have d1 : decide (a < b) = false := by rw [decide_eq_false_iff_not]; omega
    have d2 : decide (b < a) = false := by rw [decide_eq_false_iff_not]; omega
    clear h
    go_enter Tryd.func63, Tryd.ntmps63
    go_wp2_with fail
    refine HA.out.mono ?_
    rintro e _ ⟨rfl, rfl⟩
    go_wp2_with fail
    refine HB.out.mono ?_
    rintro e _ ⟨rfl, rfl⟩
    go_wp2
    go_ret
    exact ⟨by rw [HC.out]; rfl, rfl⟩
  · have HC := Lib.hid (show cmpI a b = 1 by unfold cmpI; rw [if_neg (by omega), if_pos h])
    have d1 : decide (a < b) = false := by rw [decide_eq_false_iff_not]; omega
    have d2 : decide (b < a) = true := by rw [decide_eq_true_eq]; exact h
    clear h
    go_enter Tryd.func63, Tryd.ntmps63
    go_wp2_with fail
    refine HA.out.mono ?_
    rintro e _ ⟨rfl, rfl⟩
    go_wp2_with fail
    refine HB.out.mono ?_
    rintro e _ ⟨rfl, rfl⟩
    go_wp2
    go_ret
    exact ⟨by rw [HC.out]; rfl, rfl⟩
set_option maxRecDepth 100000 in
set_option maxHeartbeats 2000000 in
theorem cmpOr_any (g : Nat) (a b : Int) (w : World) (h : Own w g 3 [.int .i64 a, .int .i64 b]) : Calls Tryd.prog 62 #[.slice (some ⟨g, 0, none⟩) 2 2] w fun e w' => e = .returned (.int .i64 (if a = 0 then b else a)) ∧ w = w' := by
  have c0 : w.cell? ⟨g, 0, none⟩ = some (.int .i64 a) := h.cell 0
  have c1 : w.cell? ⟨g, 1, none⟩ = some (.int .i64 b) := h.cell 1
  have hz := h.lt
  clear h
  by_cases ha : a = 0
  · subst ha
    rw [if_pos rfl]
    by_cases hb : b = 0
    · subst hb
      go_enter Tryd.func62, Tryd.ntmps62
      go_wp2
      refine wp_loop_rounds 3 ?_
      rw [rounds_succ]
      go_wp2
      rw [rounds_succ]
      go_wp2
      rw [rounds_succ]
      go_wp2
      go_ret
      exact ⟨rfl, rfl⟩
    · have hb2 : (b != 0) = true := by simpa using hb
      have hb3 : (b == 0) = false := by simpa using hb
      go_enter Tryd.func62, Tryd.ntmps62
      go_wp2
      refine wp_loop_rounds 3 ?_
      rw [rounds_succ]
      go_wp2
      rw [rounds_succ]
      go_wp2
      go_ret
      exact ⟨rfl, rfl⟩
  · have ha2 : (a != 0) = true := by simpa using ha
    have ha3 : (a == 0) = false := by simpa using ha
    rw [if_neg ha]
    clear ha
    go_enter Tryd.func62, Tryd.ntmps62
    go_wp2
    refine wp_loop_rounds 3 ?_
    rw [rounds_succ]
    go_wp2
    go_ret
    exact ⟨rfl, rfl⟩
/-- How two pairs stand. -/
def cmpE (e f : Int × Int) : Int := if cmpI e.1 f.1 = 0 then cmpI e.2 f.2 else cmpI e.1 f.1
def encE (e : Int × Int) : List Value := [.int .i64 e.1, .int .i64 e.2]
set_option maxRecDepth 100000 in
set_option maxHeartbeats 4000000 in
theorem compareE_any (x y : Int × Int) (W : World) : Calls Tryd.prog 42 #[.agg #[.int .i64 x.1, .int .i64 x.2], .agg #[.int .i64 y.1, .int .i64 y.2]] W fun e w' => e = .returned (.int .i64 (cmpE x y)) ∧ ∃ q os', w' = grow (W.drewN q) os' := by
  obtain ⟨a, b⟩ := x
  obtain ⟨c, d⟩ := y
  obtain ⟨r, hr⟩ : ∃ r, cmpI a c = r := ⟨_, rfl⟩
  obtain ⟨s, hs⟩ : ∃ r, cmpI b d = r := ⟨_, rfl⟩
  have HC1 := Lib.hid (fun W => cmpCompare_any a c W)
  have HC2 := Lib.hid (fun W => cmpCompare_any b d W)
  rw [hr] at HC1
  rw [hs] at HC2
  have HR := Lib.hid (show cmpE (a, b) (c, d) = if r = 0 then s else r by unfold cmpE; rw [← hr, ← hs])
  clear hr hs
  have HO := Lib.hid (fun g W h => cmpOr_any g r s W h)
  have hret : ∀ q os, grow ((((W.alloc (.cells #[.int .i64 a, .int .i64 b] 49)).alloc (.cells #[.int .i64 c, .int .i64 d] 49)).drewN q)) os = grow (W.drewN q) (#[.cells #[.int .i64 a, .int .i64 b] 49 (0, 0), .cells #[.int .i64 c, .int .i64 d] 49 (0, 0)] ++ os) := by
    intro q os
    rw [alloc_eq_grow, alloc_eq_grow, grow_grow]
    exact grow_grow (W.drewN q) _ os
  have HT := Lib.hid hret
  clear hret
  rw [HR.out]
  generalize (if r = 0 then s else r) = R at HO ⊢
  clear HR
  go_enter Tryd.func42, Tryd.ntmps42
  go_wp2
  have hx : Own ((W.alloc (.cells #[.int .i64 a, .int .i64 b] 49)).alloc (.cells #[.int .i64 c, .int .i64 d] 49)) W.heap.size 49 [.int .i64 a, .int .i64 b] := (Own.new' rfl).alloc _
  have hy : Own ((W.alloc (.cells #[.int .i64 a, .int .i64 b] 49)).alloc (.cells #[.int .i64 c, .int .i64 d] 49)) (W.heap.size + 1) 49 [.int .i64 c, .int .i64 d] := Own.new' (by simp)
  generalize hV : ((W.alloc (.cells #[.int .i64 a, .int .i64 b] 49)).alloc (.cells #[.int .i64 c, .int .i64 d] 49)) = V at hx hy ⊢
  have q0 : V.cell? ⟨W.heap.size, 0, none⟩ = some (.int .i64 a) := hx.cell 0
  have q1 : V.cell? ⟨W.heap.size, 1, none⟩ = some (.int .i64 b) := hx.cell 1
  have q2 : V.cell? ⟨W.heap.size + 1, 0, none⟩ = some (.int .i64 c) := hy.cell 0
  have q3 : V.cell? ⟨W.heap.size + 1, 1, none⟩ = some (.int .i64 d) := hy.cell 1
  have z0 := hx.lt
  have z1 := hy.lt
  have HV := Lib.hid hV
  clear hx hy hV
  go_region_held3 (fun V' => V'.cell? ⟨W.heap.size, 0, none⟩ = some (.int .i64 a) ∧ V'.cell? ⟨W.heap.size, 1, none⟩ = some (.int .i64 b) ∧ V'.cell? ⟨W.heap.size + 1, 0, none⟩ = some (.int .i64 c) ∧ V'.cell? ⟨W.heap.size + 1, 1, none⟩ = some (.int .i64 d)) (go_keep)
    (first | (with_reducible refine (HC1.out _).mono ?_; rintro e w' ⟨rfl, rfl⟩) | (with_reducible refine (HC2.out _).mono ?_; rintro e w' ⟨rfl, rfl⟩) | (with_reducible refine (HO.out _ _ (Own.drew (Own.new' (vs := [.int .i64 r, .int .i64 s]) rfl))).mono ?_; rintro e w' ⟨rfl, rfl⟩))
  go_wp2
  go_ret
  refine ⟨rfl, 1, _, Eq.trans ?_ (HT.out 1 #[.cells #[.int .i64 r, .int .i64 s] 3 (0, 0)])⟩
  rw [HV.out]
  rfl
end Go.Proofs.YtljihclpgpmfeaaDoor
