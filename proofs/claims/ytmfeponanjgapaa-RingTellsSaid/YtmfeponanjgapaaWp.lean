/- Walk: fretworklaw16.RingOrder. -/
import Derived.Test.YtmfeponanjgapaaWo
namespace Go.Proofs.Ytmfeponanjgapaa
open Go.RowKit

/-- A circle that came in. -/
structure ArgW (w : World) (A : Option Addr) (n c : Nat) (ws : List (List UInt8)) : Prop where
  rd : RdW w A ws
  len : n = ws.length
  le : n ≤ 9223372036854775807
  cap : n ≤ c
theorem ArgW.keep {w w' : World} {A : Option Addr} {n c : Nat} {ws : List (List UInt8)} (h : ArgW w A n c ws) (hb : Below w.heap.size w w') : ArgW w' A n c ws := ⟨h.rd.below hb, h.len, h.le, h.cap⟩
set_option maxRecDepth 100000 in
set_option maxHeartbeats 4000000 in
theorem ringOrder_true (A0 A1 A2 : Option Addr) (n0 n1 n2 c0 c1 c2 : Nat) (a b c : List (List UInt8)) (w : World) (h0 : ArgW w A0 n0 c0 a) (h1 : ArgW w A1 n1 c1 b) (h2 : ArgW w A2 n2 c2 c) :
    Calls Try.prog 4 #[.slice A0 n0 c0, .slice A1 n1 c1, .slice A2 n2 c2] w fun e w' => e = .returned (.bool true) ∧ Below w.heap.size w w' := by
  have H0 := Lib.hid h0; have H1 := Lib.hid h1; have H2 := Lib.hid h2
  have HG0 := Lib.hid (great_any A0 c0 n0 a w h0.rd h0.len h0.le)
  have HG1 := Lib.hid (great_any A1 c1 n1 b w h1.rd h1.len h1.le)
  have HG2 := Lib.hid (great_any A2 c2 n2 c w h2.rd h2.len h2.le)
  have HC01 := Lib.hid (compare_any A0 A1 c0 c1 n0 n1 a b w h0.rd h1.rd h0.len h1.len h0.le)
  have HC12 := Lib.hid (compare_any A1 A2 c1 c2 n1 n2 b c w h1.rd h2.rd h1.len h2.len h1.le)
  have HC02 := Lib.hid (compare_any A0 A2 c0 c2 n0 n2 a c w h0.rd h2.rd h0.len h2.len h0.le)
  have HC00 := Lib.hid (compare_any A0 A0 c0 c0 n0 n0 a a w h0.rd h0.rd h0.len h0.len h0.le)
  rw [cmpW_self] at HC00
  have HO := Lib.hid (order_law a b c)
  clear h0 h1 h2
  generalize cmpW a b = x at HC01 HO
  generalize cmpW b c = y at HC12 HO
  generalize cmpW a c = z at HC02 HO
  generalize greatW a = g0 at HG0
  generalize greatW b = g1 at HG1
  generalize greatW c = g2 at HG2
  go_enter Try.func4, Try.ntmps4
  go_wp2_with fail
  refine HG0.out.mono ?_
  rintro e _ ⟨rfl, rfl⟩
  cases g0 with
  | true =>
    go_wp2_with fail
    refine (awake_true _).mono ?_
    rintro e w1 ⟨rfl, hb⟩
    go_wp2
    go_ret
    exact ⟨rfl, hb⟩
  | false =>
    go_wp2_with fail
    refine HG1.out.mono ?_
    rintro e _ ⟨rfl, rfl⟩
    cases g1 with
    | true =>
      go_wp2_with fail
      refine (awake_true _).mono ?_
      rintro e w1 ⟨rfl, hb⟩
      go_wp2
      go_ret
      exact ⟨rfl, hb⟩
    | false =>
      go_wp2_with fail
      refine HG2.out.mono ?_
      rintro e _ ⟨rfl, rfl⟩
      cases g2 with
      | true =>
        go_wp2_with fail
        refine (awake_true _).mono ?_
        rintro e w1 ⟨rfl, hb⟩
        go_wp2
        go_ret
        exact ⟨rfl, hb⟩
      | false =>
        go_wp2_with fail
        refine HC01.out.mono ?_
        rintro e _ ⟨rfl, rfl⟩
        by_cases hx : 0 < x
        · have d1 : decide (0 < x) = true := by rw [decide_eq_true_eq]; exact hx
          go_wp2_with fail
          refine HC00.out.mono ?_
          rintro e _ ⟨rfl, rfl⟩
          go_wp2_with fail
          refine (awake_true _).mono ?_
          rintro e w1 ⟨rfl, hb⟩
          go_wp2
          go_ret
          exact ⟨rfl, hb⟩
        · have d1 : decide (0 < x) = false := by rw [decide_eq_false_iff_not]; exact hx
          go_wp2_with fail
          refine HC12.out.mono ?_
          rintro e _ ⟨rfl, rfl⟩
          by_cases hy : 0 < y
          · have d2 : decide (0 < y) = true := by rw [decide_eq_true_eq]; exact hy
            go_wp2_with fail
            refine HC00.out.mono ?_
            rintro e _ ⟨rfl, rfl⟩
            go_wp2_with fail
            refine (awake_true _).mono ?_
            rintro e w1 ⟨rfl, hb⟩
            go_wp2
            go_ret
            exact ⟨rfl, hb⟩
          · have d2 : decide (0 < y) = false := by rw [decide_eq_false_iff_not]; exact hy
            have hz : z ≤ 0 := by have := HO.out; omega
            have d3 : decide (z ≤ 0) = true := by rw [decide_eq_true_eq]; exact hz
            go_wp2_with fail
            refine HC02.out.mono ?_
            rintro e _ ⟨rfl, rfl⟩
            go_wp2_with fail
            refine HC00.out.mono ?_
            rintro e _ ⟨rfl, rfl⟩
            go_wp2_with fail
            refine (awake_true _).mono ?_
            rintro e w1 ⟨rfl, hb⟩
            go_wp2
            go_ret
            exact ⟨rfl, hb⟩
end Go.Proofs.Ytmfeponanjgapaa
