/- Bundle of texts: Ga Gb Gs Gc. -/
import Derived.Test.YtljihclpgpmfeaaDoorUe
import Derived.Shelf.SlSortCmp.WholeK
import Derived.Test.YtljihclpgpmfeaaDoorProg
/- Pairs of numbers in memory; walks: cmp.Compare, cmp.Or, graph.compare. -/
namespace Go.Proofs.YtljihclpgpmfeaaDoor
set_option maxRecDepth 100000
open Go.RowKit Go.Sort Go.Shelf

/-- How two numbers stand. -/
def cmpI (a b : Int) : Int := if a < b then -1 else if b < a then 1 else 0
set_option maxRecDepth 100000 in
theorem isNaN_any (a : Int) (w : World) : Calls Tryd.prog 77 #[.int .i64 a] w fun e w' => e = .returned (.bool false) ∧ w = w' := by
  have h : (a != a) = false := by simp
  go_enter Tryd.func77, Tryd.ntmps77
  go_wp2
  go_ret
  exact ⟨by simp, rfl⟩
set_option maxRecDepth 100000 in
theorem cmpCompare_any (a b : Int) (w : World) : Calls Tryd.prog 63 #[.int .i64 a, .int .i64 b] w fun e w' => e = .returned (.int .i64 (cmpI a b)) ∧ w = w' := by
  have HA := Lib.hid (isNaN_any a w); have HB := Lib.hid (isNaN_any b w)
  rcases Int.lt_trichotomy a b with h | h | h
  · have HC := Lib.hid (show cmpI a b = -1 from if_pos h)
    have d1 : decide (a < b) = true := by rw [decide_eq_true_eq]; exact h
    clear h
    go_enter Tryd.func63, Tryd.ntmps63
    go_wp2_with fail
    refine HA.out.mono ?_
    rintro e _ ⟨rfl, rfl⟩
    go_wp2_with fail
    refine HB.out.mono ?_
    rintro e _ ⟨rfl, rfl⟩
    go_wp2
    go_ret
    exact ⟨by rw [HC.out]; rfl, rfl⟩
  · have HC := Lib.hid (show cmpI a b = 0 by unfold cmpI; rw [if_neg (by omega), if_neg (by omega)])
    have d1 : decide (a < b) = false := by rw [decide_eq_false_iff_not]; omega
    have d2 : decide (b < a) = false := by rw [decide_eq_false_iff_not]; omega
    clear h
    go_enter Tryd.func63, Tryd.ntmps63
    go_wp2_with fail
    refine HA.out.mono ?_
    rintro e _ ⟨rfl, rfl⟩
    go_wp2_with fail
    refine HB.out.mono ?_
    rintro e _ ⟨rfl, rfl⟩
    go_wp2
    go_ret
    exact ⟨by rw [HC.out]; rfl, rfl⟩
  · have HC := Lib.hid (show cmpI a b = 1 by unfold cmpI; rw [if_neg (by omega), if_pos h])
    have d1 : decide (a < b) = false := by rw [decide_eq_false_iff_not]; omega
    have d2 : decide (b < a) = true := by rw [decide_eq_true_eq]; exact h
    clear h
    go_enter Tryd.func63, Tryd.ntmps63
    go_wp2_with fail
    refine HA.out.mono ?_
    rintro e _ ⟨rfl, rfl⟩
    go_wp2_with fail
    refine HB.out.mono ?_
    rintro e _ ⟨rfl, rfl⟩
    go_wp2
    go_ret
    exact ⟨by rw [HC.out]; rfl, rfl⟩
set_option maxRecDepth 100000 in
set_option maxHeartbeats 2000000 in
theorem cmpOr_any (g : Nat) (a b : Int) (w : World) (h : Own w g 3 [.int .i64 a, .int .i64 b]) : Calls Tryd.prog 62 #[.slice (some ⟨g, 0, none⟩) 2 2] w fun e w' => e = .returned (.int .i64 (if a = 0 then b else a)) ∧ w = w' := by
  have c0 : w.cell? ⟨g, 0, none⟩ = some (.int .i64 a) := h.cell 0
  have c1 : w.cell? ⟨g, 1, none⟩ = some (.int .i64 b) := h.cell 1
  have hz := h.lt
  clear h
  by_cases ha : a = 0
  · subst ha
    rw [if_pos rfl]
    by_cases hb : b = 0
    · subst hb
      go_enter Tryd.func62, Tryd.ntmps62
      go_wp2
      refine wp_loop_rounds 3 ?_
      rw [rounds_succ]
      go_wp2
      rw [rounds_succ]
      go_wp2
      rw [rounds_succ]
      go_wp2
      go_ret
      exact ⟨rfl, rfl⟩
    · have hb2 : (b != 0) = true := by simpa using hb
      have hb3 : (b == 0) = false := by simpa using hb
      go_enter Tryd.func62, Tryd.ntmps62
      go_wp2
      refine wp_loop_rounds 3 ?_
      rw [rounds_succ]
      go_wp2
      rw [rounds_succ]
      go_wp2
      go_ret
      exact ⟨rfl, rfl⟩
  · have ha2 : (a != 0) = true := by simpa using ha
    have ha3 : (a == 0) = false := by simpa using ha
    rw [if_neg ha]
    clear ha
    go_enter Tryd.func62, Tryd.ntmps62
    go_wp2
    refine wp_loop_rounds 3 ?_
    rw [rounds_succ]
    go_wp2
    go_ret
    exact ⟨rfl, rfl⟩
/-- How two pairs stand. -/
def cmpE (e f : Int × Int) : Int := if cmpI e.1 f.1 = 0 then cmpI e.2 f.2 else cmpI e.1 f.1
def encE (e : Int × Int) : List Value := [.int .i64 e.1, .int .i64 e.2]
set_option maxRecDepth 100000 in
set_option maxHeartbeats 4000000 in
theorem compareE_any (x y : Int × Int) (W : World) : Calls Tryd.prog 42 #[.agg #[.int .i64 x.1, .int .i64 x.2], .agg #[.int .i64 y.1, .int .i64 y.2]] W fun e w' => e = .returned (.int .i64 (cmpE x y)) ∧ ∃ q os', w' = grow (W.drewN q) os' := by
  obtain ⟨a, b⟩ := x
  obtain ⟨c, d⟩ := y
  obtain ⟨r, hr⟩ : ∃ r, cmpI a c = r := ⟨_, rfl⟩
  obtain ⟨s, hs⟩ : ∃ r, cmpI b d = r := ⟨_, rfl⟩
  have HC1 := Lib.hid (fun W => cmpCompare_any a c W)
  have HC2 := Lib.hid (fun W => cmpCompare_any b d W)
  rw [hr] at HC1
  rw [hs] at HC2
  have HR := Lib.hid (show cmpE (a, b) (c, d) = if r = 0 then s else r by unfold cmpE; rw [← hr, ← hs])
  clear hr hs
  have HO := Lib.hid (fun g W h => cmpOr_any g r s W h)
  have hret : ∀ q os, grow ((((W.alloc (.cells #[.int .i64 a, .int .i64 b] 49)).alloc (.cells #[.int .i64 c, .int .i64 d] 49)).drewN q)) os = grow (W.drewN q) (#[.cells #[.int .i64 a, .int .i64 b] 49 (0, 0), .cells #[.int .i64 c, .int .i64 d] 49 (0, 0)] ++ os) := by
    intro q os
    rw [alloc_eq_grow, alloc_eq_grow, grow_grow]
    exact grow_grow (W.drewN q) _ os
  have HT := Lib.hid hret
  clear hret
  rw [HR.out]
  generalize (if r = 0 then s else r) = R at HO ⊢
  clear HR
  go_enter Tryd.func42, Tryd.ntmps42
  go_wp2
  have hx : Own ((W.alloc (.cells #[.int .i64 a, .int .i64 b] 49)).alloc (.cells #[.int .i64 c, .int .i64 d] 49)) W.heap.size 49 [.int .i64 a, .int .i64 b] := (Own.new' rfl).alloc _
  have hy : Own ((W.alloc (.cells #[.int .i64 a, .int .i64 b] 49)).alloc (.cells #[.int .i64 c, .int .i64 d] 49)) (W.heap.size + 1) 49 [.int .i64 c, .int .i64 d] := Own.new' (by simp)
  generalize hV : ((W.alloc (.cells #[.int .i64 a, .int .i64 b] 49)).alloc (.cells #[.int .i64 c, .int .i64 d] 49)) = V at hx hy ⊢
  have q0 : V.cell? ⟨W.heap.size, 0, none⟩ = some (.int .i64 a) := hx.cell 0
  have q1 : V.cell? ⟨W.heap.size, 1, none⟩ = some (.int .i64 b) := hx.cell 1
  have q2 : V.cell? ⟨W.heap.size + 1, 0, none⟩ = some (.int .i64 c) := hy.cell 0
  have q3 : V.cell? ⟨W.heap.size + 1, 1, none⟩ = some (.int .i64 d) := hy.cell 1
  have z0 := hx.lt
  have z1 := hy.lt
  have HV := Lib.hid hV
  clear hx hy hV
  go_region_held3 (fun V' => V'.cell? ⟨W.heap.size, 0, none⟩ = some (.int .i64 a) ∧ V'.cell? ⟨W.heap.size, 1, none⟩ = some (.int .i64 b) ∧ V'.cell? ⟨W.heap.size + 1, 0, none⟩ = some (.int .i64 c) ∧ V'.cell? ⟨W.heap.size + 1, 1, none⟩ = some (.int .i64 d)) (go_keep)
    (first | (with_reducible refine (HC1.out _).mono ?_; rintro e w' ⟨rfl, rfl⟩) | (with_reducible refine (HC2.out _).mono ?_; rintro e w' ⟨rfl, rfl⟩) | (with_reducible refine (HO.out _ _ (Own.drew (Own.new' (vs := [.int .i64 r, .int .i64 s]) rfl))).mono ?_; rintro e w' ⟨rfl, rfl⟩))
  go_wp2
  go_ret
  refine ⟨rfl, 1, _, Eq.trans ?_ (HT.out 1 #[.cells #[.int .i64 r, .int .i64 s] 3 (0, 0)])⟩
  rw [HV.out]
  rfl
end Go.Proofs.YtljihclpgpmfeaaDoor
/- Edges in memory; walk: graph.Right. -/
namespace Go.Proofs.YtljihclpgpmfeaaDoor
set_option maxRecDepth 100000
open Go.RowKit Go.Sort Go.Shelf

def cellsE (l : List (Int × Int)) : List Value := l.flatMap encE
theorem cellsE_cons (e : Int × Int) (l : List (Int × Int)) : cellsE (e :: l) = .int .i64 e.1 :: .int .i64 e.2 :: cellsE l := rfl
theorem cellsE_append (a b : List (Int × Int)) : cellsE (a ++ b) = cellsE a ++ cellsE b := by simp [cellsE]
theorem length_cellsE : ∀ l : List (Int × Int), (cellsE l).length = l.length * 2
  | [] => rfl
  | e :: l => by rw [cellsE_cons, List.length_cons, List.length_cons, List.length_cons, length_cellsE l]; omega
theorem cellsE_at : ∀ {l : List (Int × Int)} {i : Nat} {e : Int × Int}, l[i]? = some e → (cellsE l)[i * 2]? = some (.int .i64 e.1) ∧ (cellsE l)[i * 2 + 1]? = some (.int .i64 e.2)
  | [], i, e, h => by simp at h
  | f :: l, 0, e, h => by
    obtain rfl : f = e := by simpa using h
    exact ⟨rfl, rfl⟩
  | f :: l, i + 1, e, h => by
    have h2 : l[i]? = some e := by simpa using h
    have h3 := cellsE_at h2
    rw [cellsE_cons, show (i + 1) * 2 = i * 2 + 1 + 1 from by omega, List.getElem?_cons_succ, List.getElem?_cons_succ, List.getElem?_cons_succ, List.getElem?_cons_succ]
    exact h3
theorem cellsE_one {l : List (Int × Int)} : ∀ v ∈ cellsE l, v.oneCell' = true := by
  intro v hv
  obtain ⟨e, _, h⟩ := List.mem_flatMap.1 hv
  simp [encE] at h
  rcases h with rfl | rfl <;> rfl
/-- A slice of edges. -/
structure ArgE (w : World) (A : Option Addr) (n c : Nat) (l : List (Int × Int)) : Prop where
  rd : Rd w A (cellsE l)
  len : n = l.length
  le : n ≤ 9223372036854775807
  cap : n ≤ c
theorem ArgE.keep {w w' : World} {A : Option Addr} {n c : Nat} {l : List (Int × Int)} (h : ArgE w A n c l) (hb : Below w.heap.size w w') : ArgE w' A n c l := ⟨h.rd.below hb, h.len, h.le, h.cap⟩
theorem rd_edge {w : World} {A : Option Addr} {l : List (Int × Int)} (h : Rd w A (cellsE l)) (h0 : 0 < l.length) : ∃ b off, A = some ⟨b, off, none⟩ ∧ b < w.heap.size ∧ ∀ V, Below w.heap.size w V → ∀ (i : Nat) (e : Int × Int), l[i]? = some e → V.cell? ⟨b, off + i * 2, none⟩ = some (.int .i64 e.1) ∧ V.cell? ⟨b, off + i * 2 + 1, none⟩ = some (.int .i64 e.2) := by
  obtain ⟨b, off, e, hb, hc⟩ := h (by rw [length_cellsE]; omega)
  exact ⟨b, off, e, hb, fun V hV i x hx => ⟨((below_cells hV).1 _ _ hb).trans (hc _ _ (cellsE_at hx).1), ((below_cells hV).1 _ _ hb).trans (by have := hc _ _ (cellsE_at hx).2; rwa [← Nat.add_assoc] at this)⟩⟩
theorem below_grow (W : World) (q : Nat) (os : Array Obj) : Below W.heap.size W (grow (W.drewN q) os) :=
  ⟨rfl, rfl, rfl, by simp [grow, World.drewN], fun k hk => by simp [grow, World.drewN, Array.getElem?_append, hk]⟩
/-- Do edges rise from behind one, each right for so many vertices? -/
def okE (N : Int) : Option (Int × Int) → List (Int × Int) → Bool
  | _, [] => true
  | p, e :: r => (decide (0 ≤ e.1) && decide (e.1 < e.2) && decide (e.2 < N)) && (match p with
    | none => true
    | some q => decide (cmpE q e < 0)) && okE N (some e) r
/-- Is it a right graph? -/
def rightG (N : Int) (E : List (Int × Int)) : Bool := (decide (0 ≤ N) && decide (N ≤ 200) && decide (E.length ≤ 594)) && okE N none E
def prevE (E : List (Int × Int)) (k : Nat) : Option (Int × Int) := if k = 0 then none else E[k - 1]?
theorem okE_end {N : Int} {E : List (Int × Int)} {k : Nat} (h : E.length ≤ k) : okE N (prevE E k) (E.drop k) = true := by
  rw [List.drop_eq_nil_of_le h]; rfl
theorem okE_step {N : Int} {E : List (Int × Int)} {k : Nat} {e : Int × Int} (h : E[k]? = some e) : okE N (prevE E k) (E.drop k) = ((decide (0 ≤ e.1) && decide (e.1 < e.2) && decide (e.2 < N)) && (match prevE E k with
    | none => true
    | some q => decide (cmpE q e < 0)) && okE N (prevE E (k + 1)) (E.drop (k + 1))) := by
  obtain ⟨hl, he⟩ := List.getElem?_eq_some_iff.1 h
  rw [List.drop_eq_getElem_cons hl, he]
  have : prevE E (k + 1) = some e := by unfold prevE; rw [if_neg (by omega)]; exact h
  rw [this]
  rfl
def tblGRz (k : Nat) : List Pst := [Pst.val (.int .i64 (k : Nat)), Pst.val (.bool false), Pst.val (.bool false), Pst.none, Pst.none, Pst.none, Pst.none, Pst.none, Pst.none, Pst.none, Pst.none, Pst.none, Pst.val (.bool false)]
def tblGRs (b1 : Nat) (b : Nat) (off : Nat) (c : Nat) (n : Nat) (k : Nat) (p : Nat) (x0 : Int) (x1 : Int) (y0 : Int) (y1 : Int) (r : Int) (t : Bool) : List Pst := [Pst.val (.int .i64 (k : Nat)), Pst.val (.bool true), Pst.val (.bool true), Pst.val (.pointer (some ⟨b1, 1, none⟩)), Pst.val (.slice (some ⟨b, off, none⟩) n c), Pst.val (.int .i64 (k : Nat)), Pst.val (.int .i64 (p : Nat)), Pst.val (.pointer (some ⟨b, off + p * 2, none⟩)), Pst.val (.agg #[.int .i64 y0, .int .i64 y1]), Pst.val (.agg #[.int .i64 x0, .int .i64 x1]), Pst.val (.int .i64 r), Pst.val (.bool t), Pst.val (.bool t)]
set_option maxRecDepth 100000 in
set_option maxHeartbeats 8000000 in
theorem rightG_any (N : Int) (A : Option Addr) (n c : Nat) (E : List (Int × Int)) (w : World) (h : ArgE w A n c E) :
    Calls Tryd.prog 13 #[.agg #[.int .i64 N, .slice A n c]] w fun e w' => e = .returned (.bool (rightG N E)) ∧ Below w.heap.size w w' := by
  have H := Lib.hid h
  have hle := h.le
  clear h
  have HB0 := Lib.hid (alloc_below w (.cells #[.int .i64 N, .slice A n c] 26))
  by_cases hg : 0 ≤ N ∧ N ≤ 200 ∧ n ≤ 594
  · obtain ⟨h0, h1, h2⟩ := hg
    have d0 : decide (N < 0) = false := by rw [decide_eq_false_iff_not]; omega
    have d1 : decide (200 < N) = false := by rw [decide_eq_false_iff_not]; omega
    have d2 : decide (594 < (n : Int)) = false := by rw [decide_eq_false_iff_not]; omega
    have HR := Lib.hid (show rightG N E = okE N (prevE E 0) (E.drop 0) by
      have := H.out.len
      unfold rightG
      rw [show decide (0 ≤ N) = true from decide_eq_true h0, show decide (N ≤ 200) = true from decide_eq_true h1, show decide (E.length ≤ 594) = true from decide_eq_true (by omega)]
      rfl)
    have HN0 := Lib.hid h0
    clear h0 h1
    go_enter Tryd.func13, Tryd.ntmps13
    go_wp2
    go_loopw [3, 4, 22] (fun _ _ i wr => ∃ k : Nat, k ≤ n ∧ i = .int .i64 (k : Int) ∧ Hid (rightG N E = okE N (prevE E k) (E.drop k)) ∧ Hid (Below (w.alloc (.cells #[.int .i64 N, .slice A n c] 26)).heap.size (w.alloc (.cells #[.int .i64 N, .slice A n c] 26)) wr)) (fun _ _ i _ => n - (intOf i).toNat)
    case atStart => exact ⟨0, Nat.zero_le _, rfl, HR, Lib.hid (Below.refl _ _)⟩
    case round =>
      obtain ⟨k, hk, rfl, hS, hB⟩ := hrel
      have hOG := (Own.new' (t := 26) (w := w) (vs := [.int .i64 N, .slice A n c]) rfl).below' hB.out
      have g0 : wr.cell? ⟨w.heap.size, 0, none⟩ = some (.int .i64 N) := hOG.cell 0
      have g1 : wr.cell? ⟨w.heap.size, 1, none⟩ = some (.slice A n c) := hOG.cell 1
      have gz := hOG.lt
      have HBw := Lib.hid (HB0.out.trans (hB.out.mono (by simp)))
      clear hOG
      by_cases hlt : k < n
      · obtain ⟨b, off, rfl, hb, hc⟩ := rd_edge H.out.rd (by have := H.out.len; omega)
        obtain ⟨e, he⟩ : ∃ x, E[k]? = some x := ⟨_, List.getElem?_eq_getElem (by have := H.out.len; omega)⟩
        have hst := Lib.hid (hS.out.trans (okE_step he))
        obtain ⟨x0, x1⟩ := e
        obtain ⟨q0, q1⟩ := hc wr HBw.out k _ he
        have hbw : b < wr.heap.size := Nat.lt_of_lt_of_le hb HBw.out.size
        have HCE := Lib.hid hc
        have HBv := Lib.hid (HBw.out.trans ((alloc_below wr (.cells #[.int .i64 x0, .int .i64 x1] 49)).mono HBw.out.size))
        clear hc
        by_cases c0 : x0 < 0
        · have hS2 := Lib.hid (hst.out.trans (show _ = false by simp [show ¬ (0 ≤ x0) from by omega]))
          have k0 : decide (x0 < 0) = true := decide_eq_true c0
          clear hst hS he
          go_wp2
          go_ret
          exact ⟨by rw [hS2.out]; rfl, HBv.out⟩
        have k0 : decide (x0 < 0) = false := by rw [decide_eq_false_iff_not]; exact c0
        by_cases c1 : x1 ≤ x0
        · have hS2 := Lib.hid (hst.out.trans (show _ = false by simp [show ¬ (x0 < x1) from by omega]))
          have k1 : decide (x1 ≤ x0) = true := decide_eq_true c1
          clear hst hS he c0
          go_wp2
          go_ret
          exact ⟨by rw [hS2.out]; rfl, HBv.out⟩
        have k1 : decide (x1 ≤ x0) = false := by rw [decide_eq_false_iff_not]; exact c1
        by_cases c2 : N ≤ x1
        · have hS2 := Lib.hid (hst.out.trans (show _ = false by simp [show ¬ (x1 < N) from by omega]))
          have k2 : decide (N ≤ x1) = true := decide_eq_true c2
          clear hst hS he c0 c1
          go_wp2
          go_ret
          exact ⟨by rw [hS2.out]; rfl, HBv.out⟩
        have k2 : decide (N ≤ x1) = false := by rw [decide_eq_false_iff_not]; exact c2
        have hst2 := Lib.hid (hst.out.trans (show _ = ((match prevE E k with
          | none => true
          | some q => decide (cmpE q (x0, x1) < 0)) && okE N (prevE E (k + 1)) (E.drop (k + 1))) by
            rw [show decide (0 ≤ (x0, x1).1) = true from decide_eq_true (by show 0 ≤ x0; omega), show decide ((x0, x1).1 < (x0, x1).2) = true from decide_eq_true (by show x0 < x1; omega), show decide ((x0, x1).2 < N) = true from decide_eq_true (by show x1 < N; omega)]
            simp only [Bool.true_and]))
        clear hst
        by_cases hk0 : k = 0
        · have hS2 := Lib.hid (hst2.out.trans (show _ = okE N (prevE E (k + 1)) (E.drop (k + 1)) by
            rw [show prevE E k = none from if_pos hk0]; rfl))
          have HK := Lib.hid (show decide (0 < k) = false by rw [decide_eq_false_iff_not]; omega)
          have hB3 := HBv
          clear hst2 hS he c0 c1 c2 hk0
          go_wp2
          refine region_posts (by kernel_rfl) (tblGRz k) (by kernel_rfl) ?_ ?_
          · skip
            refine .yes rfl (fun a W Q hB hO hD => ?_) ?_
            · have e3 : a.tmps.getD 3 undef = .int .i64 (k : Nat) := hO.slot 3 _ rfl rfl
              clear hO hD
              go_wp2
              exact ⟨_, rfl, Below.refl _ _, rfl⟩
            refine .yes rfl (fun a W Q hB hO hD => ?_) ?_
            · have e44 : a.tmps.getD 44 undef = .int .i64 (k : Nat) := hD 0 rfl
              clear hO hD
              have hd := HK.out
              go_wp2
              exact ⟨_, rfl, Below.refl _ _, rfl⟩
            refine .yes rfl (fun a W Q hB hO hD => ?_) ?_
            · have e45 : a.tmps.getD 45 undef = .bool false := hD 1 rfl
              clear hO hD
              go_wp2
              exact ⟨_, rfl, Below.refl _ _, rfl⟩
            refine .no rfl (fun W => trivial) ?_
            refine .no rfl (fun W => trivial) ?_
            refine .no rfl (fun W => trivial) ?_
            refine .no rfl (fun W => trivial) ?_
            refine .no rfl (fun W => trivial) ?_
            refine .no rfl (fun W => trivial) ?_
            refine .no rfl (fun W => trivial) ?_
            refine .no rfl (fun W => trivial) ?_
            refine .no rfl (fun W => trivial) ?_
            refine .yes rfl (fun a W Q hB hO hD => ?_) ?_
            · have e46 : a.tmps.getD 46 undef = .bool false := hD 2 rfl
              clear hO hD
              go_wp2
              exact ⟨_, rfl, Below.refl _ _, rfl⟩
            exact .nil
          · intro f V hBz hR
            have e12 : f 12 = .bool false := hR 12 (by decide)
            have HB4 := Lib.hid (((alloc_below wr (.cells #[.int .i64 x0, .int .i64 x1] 49)).mono (Nat.le_refl _)).trans (hBz.mono (by simp)))
            clear hR hBz
            simp only [putAll, Nat.zero_add, Nat.reduceAdd, Act.put, List.setIfInBounds_toArray, List.set_cons_zero, List.set_cons_succ, e12]
            go_wp2
            go_roundw
            case rel => exact ⟨k + 1, by omega, by go_num, hS2, Lib.hid (hB.out.trans (HB4.out.mono hB.out.size))⟩
            case measure => simp [intOf]; omega

        · obtain ⟨p, hp⟩ : ∃ p, p + 1 = k := ⟨k - 1, by omega⟩
          obtain ⟨y, hy⟩ : ∃ x, E[p]? = some x := ⟨_, List.getElem?_eq_getElem (by have := H.out.len; omega)⟩
          obtain ⟨y0, y1⟩ := y
          obtain ⟨r, hr⟩ : ∃ r, cmpE (y0, y1) (x0, x1) = r := ⟨_, rfl⟩
          obtain ⟨t, ht⟩ : ∃ t, decide (0 ≤ r) = t := ⟨_, rfl⟩
          have HC := Lib.hid (show ∀ W, Calls Tryd.prog 42 #[.agg #[.int .i64 y0, .int .i64 y1], .agg #[.int .i64 x0, .int .i64 x1]] W fun e w' => e = .returned (.int .i64 r) ∧ ∃ q os', w' = grow (W.drewN q) os' from hr ▸ compareE_any (y0, y1) (x0, x1))
          have HT := Lib.hid ht
          have hS2 := Lib.hid (hst2.out.trans (show _ = (!t && okE N (prevE E (k + 1)) (E.drop (k + 1))) by
            rw [show prevE E k = some (y0, y1) from (if_neg hk0).trans (by rw [← hp, Nat.add_sub_cancel]; exact hy)]
            show (decide (cmpE (y0, y1) (x0, x1) < 0) && _) = _
            rw [hr, ← ht]
            congr 1
            by_cases hr0 : r < 0
            · rw [decide_eq_true hr0, decide_eq_false (by omega)]; rfl
            · rw [decide_eq_false hr0, decide_eq_true (by omega)]; rfl))
          have HK := Lib.hid (show decide (0 < k) = true from decide_eq_true (by omega))
          have HP := Lib.hid (show 0 < k by omega)
          have HPN := Lib.hid (show p < n by omega)
          have HPZ := Lib.hid (show (k : Int) - 1 = (p : Nat) by omega)
          have hB3 := HBv
          have CX := Lib.hid (fun V (hV : Below (wr.alloc (.cells #[.int .i64 x0, .int .i64 x1] 49)).heap.size (wr.alloc (.cells #[.int .i64 x0, .int .i64 x1] 49)) V) => (show V.cell? ⟨wr.heap.size, 0, none⟩ = some (.int .i64 x0) ∧ V.cell? ⟨wr.heap.size, 1, none⟩ = some (.int .i64 x1) from have hO := (Own.new' (t := 49) (w := wr) (vs := [.int .i64 x0, .int .i64 x1]) rfl).below' hV; ⟨hO.cell 0, hO.cell 1⟩))
          have CG := Lib.hid (fun V (hV : Below (wr.alloc (.cells #[.int .i64 x0, .int .i64 x1] 49)).heap.size (wr.alloc (.cells #[.int .i64 x0, .int .i64 x1] 49)) V) => (show V.cell? ⟨w.heap.size, 1, none⟩ = some (.slice (some ⟨b, off, none⟩) n c) from ((below_cells ((alloc_below wr (.cells #[.int .i64 x0, .int .i64 x1] 49)).trans (hV.mono (by simp)))).1 _ _ gz).trans g1))
          have CY := Lib.hid (fun V (hV : Below (wr.alloc (.cells #[.int .i64 x0, .int .i64 x1] 49)).heap.size (wr.alloc (.cells #[.int .i64 x0, .int .i64 x1] 49)) V) => HCE.out V (HBv.out.trans (hV.mono HBv.out.size)) p _ hy)
          clear hr ht hst2 hS he c0 c1 c2 hy hk0 hp HCE
          go_wp2
          refine region_posts (by kernel_rfl) (tblGRs w.heap.size b off c n k p x0 x1 y0 y1 r t) (by kernel_rfl) ?_ ?_
          · skip
            refine .yes rfl (fun a W Q hB hO hD => ?_) ?_
            · have e3 : a.tmps.getD 3 undef = .int .i64 (k : Nat) := hO.slot 3 _ rfl rfl
              clear hO hD
              go_wp2
              exact ⟨_, rfl, Below.refl _ _, rfl⟩
            refine .yes rfl (fun a W Q hB hO hD => ?_) ?_
            · have e44 : a.tmps.getD 44 undef = .int .i64 (k : Nat) := hD 0 rfl
              clear hO hD
              have hd := HK.out
              go_wp2
              exact ⟨_, rfl, Below.refl _ _, rfl⟩
            refine .yes rfl (fun a W Q hB hO hD => ?_) ?_
            · have e45 : a.tmps.getD 45 undef = .bool true := hD 1 rfl
              clear hO hD
              go_wp2
              exact ⟨_, rfl, Below.refl _ _, rfl⟩
            refine .yes rfl (fun a W Q hB hO hD => ?_) ?_
            · have e1 : a.tmps.getD 1 undef = .pointer (some ⟨w.heap.size, 0, none⟩) := hO.slot 1 _ rfl rfl
              clear hO hD
              go_wp2
              exact ⟨_, rfl, Below.refl _ _, rfl⟩
            refine .yes rfl (fun a W Q hB hO hD => ?_) ?_
            · have e47 : a.tmps.getD 47 undef = .pointer (some ⟨w.heap.size, 1, none⟩) := hD 3 rfl
              clear hO hD
              have hc := CG.out W hB
              go_wp2
              exact ⟨_, rfl, Below.refl _ _, rfl⟩
            refine .yes rfl (fun a W Q hB hO hD => ?_) ?_
            · have e3 : a.tmps.getD 3 undef = .int .i64 (k : Nat) := hO.slot 3 _ rfl rfl
              clear hO hD
              go_wp2
              exact ⟨_, rfl, Below.refl _ _, rfl⟩
            refine .yes rfl (fun a W Q hB hO hD => ?_) ?_
            · have e49 : a.tmps.getD 49 undef = .int .i64 (k : Nat) := hD 5 rfl
              clear hO hD
              have hc := HP.out
              go_wp2
              exact ⟨_, rfl, Below.refl _ _, congrArg (Value.int .i64) HPZ.out⟩
            refine .yes rfl (fun a W Q hB hO hD => ?_) ?_
            · have e48 : a.tmps.getD 48 undef = .slice (some ⟨b, off, none⟩) n c := hD 4 rfl
              have e50 : a.tmps.getD 50 undef = .int .i64 (p : Nat) := hD 6 rfl
              clear hO hD
              have hc := HPN.out
              go_wp2
              exact ⟨_, rfl, Below.refl _ _, rfl⟩
            refine .yes rfl (fun a W Q hB hO hD => ?_) ?_
            · have e51 : a.tmps.getD 51 undef = .pointer (some ⟨b, off + p * 2, none⟩) := hD 7 rfl
              clear hO hD
              have ⟨hc, hc2⟩ := CY.out W hB
              go_wp2
              exact ⟨_, rfl, Below.refl _ _, rfl⟩
            refine .yes rfl (fun a W Q hB hO hD => ?_) ?_
            · have e4 : a.tmps.getD 4 undef = .pointer (some ⟨wr.heap.size, 0, none⟩) := hO.slot 4 _ rfl rfl
              clear hO hD
              have ⟨hc, hc2⟩ := CX.out W hB
              go_wp2
              exact ⟨_, rfl, Below.refl _ _, rfl⟩
            refine .yes rfl (fun a W Q hB hO hD => ?_) ?_
            · have e52 : a.tmps.getD 52 undef = .agg #[.int .i64 y0, .int .i64 y1] := hD 8 rfl
              have e53 : a.tmps.getD 53 undef = .agg #[.int .i64 x0, .int .i64 x1] := hD 9 rfl
              clear hO hD
              go_wp2_with fail
              refine (HC.out W).mono ?_
              rintro e w' ⟨rfl, q, os', rfl⟩
              go_wp2
              exact ⟨_, rfl, below_grow _ _ _, rfl⟩
            refine .yes rfl (fun a W Q hB hO hD => ?_) ?_
            · have e54 : a.tmps.getD 54 undef = .int .i64 r := hD 10 rfl
              clear hO hD
              have hd := HT.out
              go_wp2
              exact ⟨_, rfl, Below.refl _ _, rfl⟩
            refine .yes rfl (fun a W Q hB hO hD => ?_) ?_
            · have e46 : a.tmps.getD 46 undef = .bool true := hD 2 rfl
              have e55 : a.tmps.getD 55 undef = .bool t := hD 11 rfl
              clear hO hD
              go_wp2
              exact ⟨_, rfl, Below.refl _ _, rfl⟩
            exact .nil
          · intro f V hBz hR
            have e12 : f 12 = .bool t := hR 12 (by decide)
            have HB2 := Lib.hid (hB3.out.trans (hBz.mono hB3.out.size))
            have HB4 := Lib.hid (((alloc_below wr (.cells #[.int .i64 x0, .int .i64 x1] 49)).mono (Nat.le_refl _)).trans (hBz.mono (by simp)))
            clear hR hBz
            simp only [putAll, Nat.zero_add, Nat.reduceAdd, Act.put, List.setIfInBounds_toArray, List.set_cons_zero, List.set_cons_succ, e12]
            cases t with
            | true =>
              go_wp2
              go_ret
              exact ⟨by rw [hS2.out]; rfl, HB2.out⟩
            | false =>
              go_wp2
              go_roundw
              case rel => exact ⟨k + 1, by omega, by go_num, Lib.hid (hS2.out.trans (by rw [Bool.not_false, Bool.true_and])), Lib.hid (hB.out.trans (HB4.out.mono hB.out.size))⟩
              case measure => simp [intOf]; omega

      · obtain rfl : n = k := by omega
        have hS2 := Lib.hid (hS.out.trans (okE_end (by have := H.out.len; omega)))
        clear hS
        go_wp2
        go_ret
        exact ⟨by rw [hS2.out]; rfl, HBw.out⟩
  · have HR := Lib.hid (show rightG N E = false by
      have := H.out.len
      unfold rightG
      rw [Bool.and_eq_false_iff]; left
      rw [← Bool.not_eq_true, Bool.and_eq_true, Bool.and_eq_true, decide_eq_true_eq, decide_eq_true_eq, decide_eq_true_eq]
      omega)
    by_cases h0 : N < 0
    · have d0 : decide (N < 0) = true := decide_eq_true h0
      go_enter Tryd.func13, Tryd.ntmps13
      go_wp2
      go_ret
      exact ⟨by rw [HR.out]; rfl, HB0.out⟩
    · have d0 : decide (N < 0) = false := by rw [decide_eq_false_iff_not]; exact h0
      by_cases h1 : 200 < N
      · have d1 : decide (200 < N) = true := decide_eq_true h1
        go_enter Tryd.func13, Tryd.ntmps13
        go_wp2
        go_ret
        exact ⟨by rw [HR.out]; rfl, HB0.out⟩
      · have d1 : decide (200 < N) = false := by rw [decide_eq_false_iff_not]; exact h1
        have d2 : decide (594 < (n : Int)) = true := by rw [decide_eq_true_eq]; omega
        go_enter Tryd.func13, Tryd.ntmps13
        go_wp2
        go_ret
        exact ⟨by rw [HR.out]; rfl, HB0.out⟩
end Go.Proofs.YtljihclpgpmfeaaDoor
/- The library's contract for slices.SortFunc at [][2]int, laid at this program. -/
namespace Go.Proofs
set_option maxRecDepth 100000
open Go.Shelf
def Tryd.sortE_ren : Go.Shelf.Ren := ⟨fun | 6 => 47 | 15 => 67 | 14 => 66 | 28 => 87 | 29 => 59 | 20 => 79 | 21 => 80 | 22 => 81 | 23 => 82 | 24 => 83 | 25 => 84 | 26 => 85 | 27 => 86 | 46 => 93 | 47 => 94 | 48 => 95 | 49 => 96 | 50 => 97 | 57 => 102 | n => n, fun | 22 => 24 | 24 => 49 | 25 => 71 | 3 => 3 | 39 => 97 | 0 => 0 | 53 => 120 | 55 => 69 | 4 => 4 | 46 => 114 | 45 => 113 | 50 => 77 | 5 => 5 | 9 => 9 | 66 => 126 | 70 => 130 | 76 => 135 | 77 => 106 | n => n, fun | n => n⟩
theorem Tryd.sortE : Go.Proofs.SlLaysF0.n6 Tryd.prog Tryd.sortE_ren := {
  mixed := by kernel_rfl
  f6 := ⟨Tryd.f47.name, by decide, Tryd.func47.trans (congrArg some (by kernel_rfl))⟩
  f14 := ⟨Tryd.f66.name, by decide, Tryd.func66.trans (congrArg some (by kernel_rfl))⟩
  f15 := Tryd.func67.trans (congrArg some (by kernel_rfl))
  f20 := ⟨Tryd.f79.name, by decide, Tryd.func79.trans (congrArg some (by kernel_rfl))⟩
  f21 := ⟨Tryd.f80.name, by decide, Tryd.func80.trans (congrArg some (by kernel_rfl))⟩
  f22 := ⟨Tryd.f81.name, by decide, Tryd.func81.trans (congrArg some (by kernel_rfl))⟩
  f23 := ⟨Tryd.f82.name, by decide, Tryd.func82.trans (congrArg some (by kernel_rfl))⟩
  f24 := ⟨Tryd.f83.name, by decide, Tryd.func83.trans (congrArg some (by kernel_rfl))⟩
  f25 := ⟨Tryd.f84.name, by decide, Tryd.func84.trans (congrArg some (by kernel_rfl))⟩
  f26 := ⟨Tryd.f85.name, by decide, Tryd.func85.trans (congrArg some (by kernel_rfl))⟩
  f27 := ⟨Tryd.f86.name, by decide, Tryd.func86.trans (congrArg some (by kernel_rfl))⟩
  f28 := Tryd.func87.trans (congrArg some (by kernel_rfl))
  f29 := Tryd.func59.trans (congrArg some (by kernel_rfl))
  f46 := ⟨Tryd.f93.name, by decide, Tryd.func93.trans (congrArg some (by kernel_rfl))⟩
  f47 := Tryd.func94.trans (congrArg some (by kernel_rfl))
  f48 := Tryd.func95.trans (congrArg some (by kernel_rfl))
  f49 := ⟨Tryd.f96.name, by decide, Tryd.func96.trans (congrArg some (by kernel_rfl))⟩
  f50 := ⟨Tryd.f97.name, by decide, Tryd.func97.trans (congrArg some (by kernel_rfl))⟩
  f57 := ⟨Tryd.f102.name, by decide, Tryd.func102.trans (congrArg some (by kernel_rfl))⟩
  t0 := Tryd.underlying0
  a0 := Tryd.isAgg0
  z0 := Tryd.sizeOf0
  v0 := Tryd.zeroValue0
  t3 := Tryd.underlying3
  a3 := Tryd.isAgg3
  z3 := Tryd.sizeOf3
  v3 := Tryd.zeroValue3
  t4 := Tryd.underlying4
  a4 := Tryd.isAgg4
  z4 := Tryd.sizeOf4
  v4 := Tryd.zeroValue4
  t5 := Tryd.underlying5
  a5 := Tryd.isAgg5
  z5 := Tryd.sizeOf5
  v5 := Tryd.zeroValue5
  t9 := Tryd.underlying9
  a9 := Tryd.isAgg9
  z9 := Tryd.sizeOf9
  v9 := Tryd.zeroValue9
  t22 := Tryd.underlying24
  a22 := Tryd.isAgg24
  z22 := Tryd.sizeOf24
  v22 := Tryd.zeroValue24
  t25 := Tryd.underlying71
  a25 := Tryd.isAgg71
  z25 := Tryd.sizeOf71
  v25 := Tryd.zeroValue71
  t39 := Tryd.underlying97
  a39 := Tryd.isAgg97
  z39 := Tryd.sizeOf97
  v39 := Tryd.zeroValue97
  t45 := Tryd.underlying113
  a45 := Tryd.isAgg113
  z45 := Tryd.sizeOf113
  v45 := Tryd.zeroValue113
  t46 := Tryd.underlying114
  a46 := Tryd.isAgg114
  z46 := Tryd.sizeOf114
  v46 := Tryd.zeroValue114
  t50 := Tryd.underlying77
  a50 := Tryd.isAgg77
  z50 := Tryd.sizeOf77
  v50 := Tryd.zeroValue77
  t53 := Tryd.underlying120
  a53 := Tryd.isAgg120
  z53 := Tryd.sizeOf120
  v53 := Tryd.zeroValue120
  t55 := Tryd.underlying69
  a55 := Tryd.isAgg69
  z55 := Tryd.sizeOf69
  v55 := Tryd.zeroValue69
  t66 := Tryd.underlying126
  a66 := Tryd.isAgg126
  z66 := Tryd.sizeOf126
  v66 := Tryd.zeroValue126
  t70 := Tryd.underlying130
  a70 := Tryd.isAgg130
  z70 := Tryd.sizeOf130
  v70 := Tryd.zeroValue130
  t76 := Tryd.underlying135
  a76 := Tryd.isAgg135
  z76 := Tryd.sizeOf135
  v76 := Tryd.zeroValue135
  t77 := Tryd.underlying106
  a77 := Tryd.isAgg106
  z77 := Tryd.sizeOf106
  v77 := Tryd.zeroValue106 }
end Go.Proofs
/- Sorting edges of the call's own. -/
namespace Go.Proofs.YtljihclpgpmfeaaDoor
set_option maxRecDepth 100000
open Go.RowKit Go.Sort Go.Shelf

theorem cmpI_lt (a b : Int) : cmpI a b < 0 ↔ a < b := by
  unfold cmpI
  split
  · rename_i h; exact ⟨fun _ => h, fun _ => by omega⟩
  · rename_i h
    split
    · exact ⟨fun h2 => by omega, fun h2 => absurd h2 h⟩
    · exact ⟨fun h2 => by omega, fun h2 => absurd h2 h⟩
theorem cmpI_zero (a b : Int) : cmpI a b = 0 ↔ a = b := by
  unfold cmpI
  split
  · omega
  · split <;> omega
theorem cmpE_lt (e f : Int × Int) : cmpE e f < 0 ↔ e.1 < f.1 ∨ (e.1 = f.1 ∧ e.2 < f.2) := by
  unfold cmpE
  by_cases h : cmpI e.1 f.1 = 0
  · rw [if_pos h, cmpI_lt]
    have := (cmpI_zero _ _).1 h
    omega
  · rw [if_neg h, cmpI_lt]
    have : ¬ e.1 = f.1 := fun h2 => h ((cmpI_zero _ _).2 h2)
    omega
def ltE : Int × Int → Int × Int → Bool := ltOf cmpE
theorem ltE_iff (e f : Int × Int) : ltE e f = true ↔ e.1 < f.1 ∨ (e.1 = f.1 ∧ e.2 < f.2) := by
  unfold ltE ltOf
  rw [decide_eq_true_eq]
  exact cmpE_lt e f
theorem ltE_not (e f : Int × Int) : ltE e f = false ↔ ¬ (e.1 < f.1 ∨ (e.1 = f.1 ∧ e.2 < f.2)) := by
  rw [← ltE_iff]; simp
theorem swoE : SWO ltE where
  irrefl x := by rw [ltE_not]; omega
  trans x y z h1 h2 := by rw [ltE_iff] at *; omega
  ntrans x y z h1 h2 := by rw [ltE_not] at *; omega
/-- Edges in order. -/
def riseE (l : List (Int × Int)) : List (Int × Int) := l.mergeSort fun x y => !ltE y x
theorem rise_of {d d' : Array (Int × Int)} (hp : PermIn 0 d.size d d') (hs : SortedIn ltE 0 d.size d') : d'.toList = riseE d.toList :=
  sorted_unique_holds (lt := ltE) swoE (fun a b h1 h2 => by
    rw [ltE_not] at h1 h2
    exact Prod.ext (by omega) (by omega)) d d' hp hs
theorem rise_perm (l : List (Int × Int)) : (riseE l).Perm l := List.mergeSort_perm _ _
theorem length_rise (l : List (Int × Int)) : (riseE l).length = l.length := (rise_perm l).length_eq
theorem flat_cells (d : Array (Int × Int)) : flatK encE 2 d = (cellsE d.toList).toArray := by
  refine ext_get! (by rw [size_flatK, List.size_toArray]; simp [length_cellsE]) fun t ht => ?_
  rw [size_flatK] at ht
  rw [get_flatK _ _ _ _ ht]
  have hi : t / 2 < d.size := by omega
  obtain ⟨e, he⟩ : ∃ e, d.toList[t / 2]? = some e := ⟨_, List.getElem?_eq_getElem (by rw [Array.length_toList]; exact hi)⟩
  have hd : d[t / 2]! = e := by
    rw [getElem!_pos d _ hi]
    rw [List.getElem?_eq_getElem (by rw [Array.length_toList]; exact hi)] at he
    injection he with he
  rw [hd]
  obtain ⟨a0, a1⟩ := cellsE_at he
  rcases Nat.mod_two_eq_zero_or_one t with h | h
  · rw [h]
    rw [show t / 2 * 2 = t from by omega] at a0
    simp [encE, a0]
  · rw [h]
    rw [show t / 2 * 2 + 1 = t from by omega] at a1
    simp [encE, a1]
section
variable {w : World} {g n : Nat} {t : TypeId} {os : Array Obj} {d0 d more : List Value}
theorem grown_sortV (d : Array Value) : w.grownBy (sortWorld id w g 0 n d os) (some g) := by
  unfold sortWorld
  refine ⟨rfl, rfl, rfl, by simp [putRow, mapBlock, Sort.ahead, grow], fun k hk hne => ?_⟩
  rw [heap_grow_old _ _ (by simpa [putRow, mapBlock, Sort.ahead] using hk)]
  have : g ≠ k := fun e => hne (by rw [e])
  simp [putRow, mapBlock, Sort.ahead, Array.getElem?_modify, this]
theorem own_sortV (h : Own w g t (d0 ++ more)) (hs : d.length = d0.length) : Own (sortWorld id w g 0 n d.toArray os) g t (d ++ more) := by
  have hl := h.lt
  unfold Own at h ⊢
  unfold sortWorld
  rw [heap_grow_old _ _ (by simpa [putRow, mapBlock, Sort.ahead] using hl)]
  simp [putRow, mapBlock, Sort.ahead, Array.getElem?_modify, h, onCells]
  apply Array.ext_getElem?
  intro i
  simp only [putCells, Array.getElem?_mapIdx]
  by_cases hi : i < d.length
  · simp [hi, List.getElem?_append, hs ▸ hi]
  · simp [List.getElem?_append, show ¬ i < d0.length by omega, hs]
theorem holds_ownV (h : Own w g t (d ++ more)) : Holds id w g 0 d.toArray := by
  intro j hj
  refine ⟨?_, h.frozen _⟩
  rw [h.cell, Nat.zero_add]
  have : j < d.length := by simpa using hj
  simp [List.getElem?_append, this]
end
set_option maxRecDepth 100000 in
theorem sortE_any (g n cap : Nat) (l : List (Int × Int)) (more : List Value) (w : World) (hO : Own w g 49 (cellsE l ++ more)) (hn : n = l.length) (hsz : n ≤ 1000000) :
    Calls Tryd.prog 47 #[.slice (some ⟨g, 0, none⟩) n cap, .func (.func 42) #[] #[]] w fun e w' => e = .returned (.tuple #[]) ∧ Own w' g 49 (cellsE (riseE l) ++ more) ∧ w.grownBy w' (some g) := by
  have eg : ∀ args w, (callFunc 42 args).run Tryd.prog w = .ok (.enter 42 args) w := enters_of Tryd.func42 (by kernel_rfl) rfl
  have hH : HoldsK encE 2 w g 0 l.toArray := by
    unfold HoldsK
    rw [flat_cells]
    exact holds_ownV hO
  have h := AnyQ.slices_SortFunc Tryd.sortE 2 Tryd.isAgg49 Tryd.sizeOf49 encE (fun _ => rfl) (fun x v hv => by simp [encE] at hv; rcases hv with rfl | rfl <;> rfl) cmpE swoE 42 #[] g 0 cap l.toArray w eg (fun _ _ _ _ x y => compareE_any x y _) hH hO.lt (by rw [List.size_toArray]; omega)
  rw [List.size_toArray, ← hn] at h
  change Calls Tryd.prog 47 _ _ _ at h
  refine h.mono fun e w' ⟨he, d', m, os, h1, h2, h3⟩ => ⟨he, ?_⟩
  have hd : d'.toList = riseE l := rise_of (d := l.toArray) (by rw [List.size_toArray, ← hn]; exact h1) (by rw [List.size_toArray, ← hn]; exact h2)
  subst h3
  unfold sortWorldK putRowK
  rw [flat_cells, hd]
  exact ⟨own_sortV (os := os) (n := m) hO (by rw [length_cellsE, length_cellsE, length_rise]), grown_sortV (os := os) (n := m) _⟩
end Go.Proofs.YtljihclpgpmfeaaDoor
