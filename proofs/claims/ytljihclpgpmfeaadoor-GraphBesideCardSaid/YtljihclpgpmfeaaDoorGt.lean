/- Walks: graph.pair, Parse. -/
import Derived.Test.YtljihclpgpmfeaaDoorGr
namespace Go.Proofs.YtljihclpgpmfeaaDoor
set_option maxRecDepth 100000
open Go.RowKit

def pairG (l : List UInt8) : Option ((Nat × Nat) × List UInt8) :=
  (numG l 32).bind fun x => (numG x.2 10).map fun y => ((x.1, y.1), y.2)
def PairV (o : Option ((Nat × Nat) × List UInt8)) : Value := match o with
  | none => .tuple #[.agg #[.int .i64 0, .int .i64 0], .string ⟨#[]⟩, .bool false]
  | some ((a, b), r) => .tuple #[.agg #[.int .i64 (a : Int), .int .i64 (b : Int)], .string (strB r), .bool true]
theorem numG_len {l r : List UInt8} {bh : UInt8} {n : Nat} (h : numG l bh = some (n, r)) : r.length ≤ l.length ∧ n < 1000000000 := by
  unfold numG at h
  split at h
  · cases h
  · split at h
    · injection h with h
      injection h with h1 h2
      subst h1 h2
      refine ⟨by rw [List.length_drop]; omega, ?_⟩
      have hd : ∀ b ∈ l.take (lenD l), isDig b = true := by
        have e : l.take (lenD l) = (l.take 9).takeWhile isDig := by
          have h1 : (l.take 9).takeWhile isDig <+: l := (List.takeWhile_prefix _).trans (List.take_prefix _ _)
          exact ((List.prefix_iff_eq_take.1 h1).symm ▸ rfl)
        intro b hb
        rw [e] at hb
        exact List.all_eq_true.1 List.all_takeWhile b hb
      refine Nat.lt_of_lt_of_le (valD_lt hd) ?_
      rw [List.length_take]
      have h9 : lenD l ≤ 9 := by
        unfold lenD
        refine Nat.le_trans ((List.takeWhile_prefix _).length_le) ?_
        rw [List.length_take]; omega
      exact Nat.pow_le_pow_right (n := 10) (by omega) (show min (lenD l) l.length ≤ 9 by omega)
    · cases h
theorem pairG_len {l r : List UInt8} {a b : Nat} (h : pairG l = some ((a, b), r)) : r.length ≤ l.length ∧ a < 1000000000 ∧ b < 1000000000 := by
  unfold pairG at h
  cases h1 : numG l 32 with
  | none => rw [h1] at h; cases h
  | some x =>
    obtain ⟨n, r1⟩ := x
    rw [h1] at h
    cases h2 : numG r1 10 with
    | none => simp [h2] at h
    | some y =>
      obtain ⟨m, r2⟩ := y
      simp [h2] at h
      obtain ⟨⟨rfl, rfl⟩, rfl⟩ := h
      have e1 := numG_len h1
      have e2 := numG_len h2
      exact ⟨by omega, e1.2, e2.2⟩
set_option maxRecDepth 100000 in
set_option maxHeartbeats 8000000 in
theorem pairS_any (l : List UInt8) (w : World) (hl : l.length ≤ 1000000000) :
    Calls Tryd.prog 43 #[.string (strB l)] w fun e w' => e = .returned (PairV (pairG l)) ∧ Below w.heap.size w w' := by
  have O0 := Lib.hid (Own.new' (t := 49) (w := w) (vs := [.int .i64 0, .int .i64 0]) rfl)
  have HB0 := Lib.hid (alloc_below w (.cells #[.int .i64 0, .int .i64 0] 49))
  have N1 := Lib.hid (number_any l 32 (w.alloc (.cells #[.int .i64 0, .int .i64 0] 49)) hl)
  obtain ⟨o1, ho1⟩ : ∃ o, numG l 32 = o := ⟨_, rfl⟩
  rw [ho1] at N1
  have K1 := Lib.hid ho1
  clear ho1
  go_enter Tryd.func43, Tryd.ntmps43
  go_wp2_with fail
  refine N1.out.mono ?_
  rintro e w1 ⟨rfl, hb⟩
  have O1 := Lib.hid (O0.out.below' hb)
  have HB1 := Lib.hid (HB0.out.trans (hb.mono HB0.out.size))
  clear hb
  have yR := O1.out.lt; have fR := O1.out.frozen; have qR := O1.out.cell
  cases o1 with
  | none =>
    have HX := Lib.hid (show pairG l = none by unfold pairG; rw [K1.out]; rfl)
    unfold NumV
    go_wp2
    have hF := (O1.out.set 0 (.int .i64 0)).set 1 (.int .i64 0)
    have r0 := hF.cell 0
    have r1 := hF.cell 1
    simp only [List.set_cons_zero, List.set_cons_succ, List.getElem?_cons_zero, List.getElem?_cons_succ] at r0 r1
    exact bodyPost_ret (v := .tuple #[.agg #[.int .i64 0, .int .i64 0], .string ⟨#[]⟩, .bool false]) (by simp [results, Tryd.results43, go_sem, r0, r1]) rfl ⟨by rw [HX.out]; rfl, (HB1.out.setCell (by simp; try omega) _).setCell (by simp; try omega) _⟩
  | some x =>
    obtain ⟨a, r⟩ := x
    have hr := numG_len K1.out
    have ha := hr.2
    have N2 := Lib.hid (fun V => number_any r 10 V (by omega))
    obtain ⟨o2, ho2⟩ : ∃ o, numG r 10 = o := ⟨_, rfl⟩
    rw [ho2] at N2
    have K2 := Lib.hid ho2
    clear ho2 hr
    unfold NumV
    go_wp2_with fail
    refine (N2.out _).mono ?_
    rintro e w2 ⟨rfl, hb⟩
    have O2 := Lib.hid (O1.out.below' hb)
    have HB2 := Lib.hid (HB1.out.trans (hb.mono HB1.out.size))
    clear hb yR fR qR
    have yR := O2.out.lt; have fR := O2.out.frozen; have qR := O2.out.cell
    cases o2 with
    | none =>
      have HX := Lib.hid (show pairG l = none by unfold pairG; rw [K1.out]; show (numG r 10).map _ = none; rw [K2.out]; rfl)
      unfold NumV
      go_wp2
      have hF := (O2.out.set 0 (.int .i64 0)).set 1 (.int .i64 0)
      have r0 := hF.cell 0
      have r1 := hF.cell 1
      simp only [List.set_cons_zero, List.set_cons_succ, List.getElem?_cons_zero, List.getElem?_cons_succ] at r0 r1
      exact bodyPost_ret (v := .tuple #[.agg #[.int .i64 0, .int .i64 0], .string ⟨#[]⟩, .bool false]) (by simp [results, Tryd.results43, go_sem, r0, r1]) rfl ⟨by rw [HX.out]; rfl, (HB2.out.setCell (by simp; try omega) _).setCell (by simp; try omega) _⟩
    | some y =>
      obtain ⟨b, r2⟩ := y
      have HX := Lib.hid (show pairG l = some ((a, b), r2) by unfold pairG; rw [K1.out]; show (numG r 10).map _ = _; rw [K2.out]; rfl)
      unfold NumV
      go_wp2
      have hF := (O2.out.set 0 (.int .i64 (a : Int))).set 1 (.int .i64 (b : Int))
      have r0 := hF.cell 0
      have r1 := hF.cell 1
      simp only [List.set_cons_zero, List.set_cons_succ, List.getElem?_cons_zero, List.getElem?_cons_succ] at r0 r1
      exact bodyPost_ret (v := .tuple #[.agg #[.int .i64 (a : Int), .int .i64 (b : Int)], .string (strB r2), .bool true]) (by simp [results, Tryd.results43, go_sem, r0, r1]) rfl ⟨by rw [HX.out]; rfl, (HB2.out.setCell (by simp; try omega) _).setCell (by simp; try omega) _⟩
/-- So many lines, and what is left. -/
def linesG : Nat → List UInt8 → Option (List (Int × Int) × List UInt8)
  | 0, r => some ([], r)
  | m + 1, r => (pairG r).bind fun x => (linesG m x.2).map fun y => (((x.1.1 : Int), (x.1.2 : Int)) :: y.1, y.2)
theorem linesG_step {m : Nat} {r r2 : List UInt8} {a b : Nat} (h : pairG r = some ((a, b), r2)) : linesG (m + 1) r = (linesG m r2).map fun y => (((a : Int), (b : Int)) :: y.1, y.2) := by
  show (pairG r).bind _ = _
  rw [h]
  rfl
theorem linesG_none {m : Nat} {r : List UInt8} (h : pairG r = none) : linesG (m + 1) r = none := by
  show (pairG r).bind _ = _
  rw [h]
  rfl
theorem linesG_len : ∀ {m : Nat} {r r2 : List UInt8} {E : List (Int × Int)}, linesG m r = some (E, r2) → E.length = m
  | 0, r, r2, E, h => by
    injection h with h
    injection h with h1 h2
    subst h1; rfl
  | m + 1, r, r2, E, h => by
    cases hp : pairG r with
    | none => rw [linesG_none hp] at h; cases h
    | some x =>
      obtain ⟨⟨a, b⟩, r3⟩ := x
      rw [linesG_step hp] at h
      cases hl : linesG m r3 with
      | none => rw [hl] at h; cases h
      | some y =>
        rw [hl] at h
        injection h with h
        injection h with h1 h2
        subst h1
        have := linesG_len (E := y.1) (r2 := y.2) hl
        simp [this]
def parN (l : List UInt8) : Int := ((pairG l).map fun x => ((x.1.1 : Nat) : Int)).getD 0
def parO (l : List UInt8) : Except Int (List (Int × Int)) :=
  match pairG l with
  | none => .error 20
  | some ((n, m), r) => if 200 < n ∨ 594 < m then .error 21 else match linesG m r with
    | none => .error 20
    | some (E, r2) => if r2 = [] then newO (n : Int) E else .error 20
theorem set_edgeT (a b : Int) (R : List (Int × Int)) : ∀ (T : List (Int × Int)), ((cellsE (T ++ (0, 0) :: R)).set (T.length * 2) (.int .i64 a)).set (T.length * 2 + 1) (.int .i64 b) = cellsE (T ++ (a, b) :: R)
  | [] => rfl
  | f :: T => by
    have ih := set_edgeT a b R T
    rw [List.cons_append, cellsE_cons, List.cons_append, cellsE_cons, List.length_cons, show (T.length + 1) * 2 = T.length * 2 + 1 + 1 from by omega, List.set_cons_succ, List.set_cons_succ, List.set_cons_succ, List.set_cons_succ, ih]
end Go.Proofs.YtljihclpgpmfeaaDoor
