/- Edges in memory; walk: graph.Right. -/
import Derived.Test.YtljihclpgpmfeaaDoorGa
namespace Go.Proofs.YtljihclpgpmfeaaDoor
set_option maxRecDepth 100000
open Go.RowKit Go.Sort Go.Shelf

def cellsE (l : List (Int × Int)) : List Value := l.flatMap encE
theorem cellsE_cons (e : Int × Int) (l : List (Int × Int)) : cellsE (e :: l) = .int .i64 e.1 :: .int .i64 e.2 :: cellsE l := rfl
theorem cellsE_append (a b : List (Int × Int)) : cellsE (a ++ b) = cellsE a ++ cellsE b := by simp [cellsE]
theorem length_cellsE : ∀ l : List (Int × Int), (cellsE l).length = l.length * 2
  | [] => rfl
  | e :: l => by rw [cellsE_cons, List.length_cons, List.length_cons, List.length_cons, length_cellsE l]; omega
theorem cellsE_at : ∀ {l : List (Int × Int)} {i : Nat} {e : Int × Int}, l[i]? = some e → (cellsE l)[i * 2]? = some (.int .i64 e.1) ∧ (cellsE l)[i * 2 + 1]? = some (.int .i64 e.2)
  | [], i, e, h => by simp at h
  | f :: l, 0, e, h => by
    obtain rfl : f = e := by simpa using h
    exact ⟨rfl, rfl⟩
  | f :: l, i + 1, e, h => by
    have h2 : l[i]? = some e := by simpa using h
    have h3 := cellsE_at h2
    rw [cellsE_cons, show (i + 1) * 2 = i * 2 + 1 + 1 from by omega, List.getElem?_cons_succ, List.getElem?_cons_succ, List.getElem?_cons_succ, List.getElem?_cons_succ]
    exact h3
theorem cellsE_one {l : List (Int × Int)} : ∀ v ∈ cellsE l, v.oneCell' = true := by
  intro v hv
  obtain ⟨e, _, h⟩ := List.mem_flatMap.1 hv
  simp [encE] at h
  rcases h with rfl | rfl <;> rfl
/-- A slice of edges. -/
structure ArgE (w : World) (A : Option Addr) (n c : Nat) (l : List (Int × Int)) : Prop where
  rd : Rd w A (cellsE l)
  len : n = l.length
  le : n ≤ 9223372036854775807
  cap : n ≤ c
theorem ArgE.keep {w w' : World} {A : Option Addr} {n c : Nat} {l : List (Int × Int)} (h : ArgE w A n c l) (hb : Below w.heap.size w w') : ArgE w' A n c l := ⟨h.rd.below hb, h.len, h.le, h.cap⟩
theorem rd_edge {w : World} {A : Option Addr} {l : List (Int × Int)} (h : Rd w A (cellsE l)) (h0 : 0 < l.length) : ∃ b off, A = some ⟨b, off, none⟩ ∧ b < w.heap.size ∧ ∀ V, Below w.heap.size w V → ∀ (i : Nat) (e : Int × Int), l[i]? = some e → V.cell? ⟨b, off + i * 2, none⟩ = some (.int .i64 e.1) ∧ V.cell? ⟨b, off + i * 2 + 1, none⟩ = some (.int .i64 e.2) := by
  obtain ⟨b, off, e, hb, hc⟩ := h (by rw [length_cellsE]; omega)
  exact ⟨b, off, e, hb, fun V hV i x hx => ⟨((below_cells hV).1 _ _ hb).trans (hc _ _ (cellsE_at hx).1), ((below_cells hV).1 _ _ hb).trans (by have := hc _ _ (cellsE_at hx).2; rwa [← Nat.add_assoc] at this)⟩⟩
theorem below_grow (W : World) (q : Nat) (os : Array Obj) : Below W.heap.size W (grow (W.drewN q) os) :=
  ⟨rfl, rfl, rfl, by simp [grow, World.drewN], fun k hk => by simp [grow, World.drewN, Array.getElem?_append, hk]⟩
/-- Do edges rise from behind one, each right for so many vertices? -/
def okE (N : Int) : Option (Int × Int) → List (Int × Int) → Bool
  | _, [] => true
  | p, e :: r => (decide (0 ≤ e.1) && decide (e.1 < e.2) && decide (e.2 < N)) && (match p with
    | none => true
    | some q => decide (cmpE q e < 0)) && okE N (some e) r
/-- Is it a right graph? -/
def rightG (N : Int) (E : List (Int × Int)) : Bool := (decide (0 ≤ N) && decide (N ≤ 200) && decide (E.length ≤ 594)) && okE N none E
def prevE (E : List (Int × Int)) (k : Nat) : Option (Int × Int) := if k = 0 then none else E[k - 1]?
theorem okE_end {N : Int} {E : List (Int × Int)} {k : Nat} (h : E.length ≤ k) : okE N (prevE E k) (E.drop k) = true := by
  rw [List.drop_eq_nil_of_le h]; rfl
theorem okE_step {N : Int} {E : List (Int × Int)} {k : Nat} {e : Int × Int} (h : E[k]? = some e) : okE N (prevE E k) (E.drop k) = ((decide (0 ≤ e.1) && decide (e.1 < e.2) && decide (e.2 < N)) && (match prevE E k with
    | none => true
    | some q => decide (cmpE q e < 0)) && okE N (prevE E (k + 1)) (E.drop (k + 1))) := by
  obtain ⟨hl, he⟩ := List.getElem?_eq_some_iff.1 h
  rw [List.drop_eq_getElem_cons hl, he]
  have : prevE E (k + 1) = some e := by unfold prevE; rw [if_neg (by omega)]; exact h
  rw [this]
  rfl
def tblGRz (k : Nat) : List Pst := [Pst.val (.int .i64 (k : Nat)), Pst.val (.bool false), Pst.val (.bool false), Pst.none, Pst.none, Pst.none, Pst.none, Pst.none, Pst.none, Pst.none, Pst.none, Pst.none, Pst.val (.bool false)]
def tblGRs (b1 : Nat) (b : Nat) (off : Nat) (c : Nat) (n : Nat) (k : Nat) (p : Nat) (x0 : Int) (x1 : Int) (y0 : Int) (y1 : Int) (r : Int) (t : Bool) : List Pst := [Pst.val (.int .i64 (k : Nat)), Pst.val (.bool true), Pst.val (.bool true), Pst.val (.pointer (some ⟨b1, 1, none⟩)), Pst.val (.slice (some ⟨b, off, none⟩) n c), Pst.val (.int .i64 (k : Nat)), Pst.val (.int .i64 (p : Nat)), Pst.val (.pointer (some ⟨b, off + p * 2, none⟩)), Pst.val (.agg #[.int .i64 y0, .int .i64 y1]), Pst.val (.agg #[.int .i64 x0, .int .i64 x1]), Pst.val (.int .i64 r), Pst.val (.bool t), Pst.val (.bool t)]
set_option maxRecDepth 100000 in
set_option maxHeartbeats 8000000 in
theorem rightG_any (N : Int) (A : Option Addr) (n c : Nat) (E : List (Int × Int)) (w : World) (h : ArgE w A n c E) :
    Calls Tryd.prog 13 #[.agg #[.int .i64 N, .slice A n c]] w fun e w' => e = .returned (.bool (rightG N E)) ∧ Below w.heap.size w w' := by
  have H := Lib.hid h
  have hle := h.le
  clear h
  have HB0 := Lib.hid (alloc_below w (.cells #[.int .i64 N, .slice A n c] 26))
  by_cases hg : 0 ≤ N ∧ N ≤ 200 ∧ n ≤ 594
  · obtain ⟨h0, h1, h2⟩ := hg
    have d0 : decide (N < 0) = false := by rw [decide_eq_false_iff_not]; omega
    have d1 : decide (200 < N) = false := by rw [decide_eq_false_iff_not]; omega
    have d2 : decide (594 < (n : Int)) = false := by rw [decide_eq_false_iff_not]; omega
    have HR := Lib.hid (show rightG N E = okE N (prevE E 0) (E.drop 0) by
      have := H.out.len
      unfold rightG
      rw [show decide (0 ≤ N) = true from decide_eq_true h0, show decide (N ≤ 200) = true from decide_eq_true h1, show decide (E.length ≤ 594) = true from decide_eq_true (by omega)]
      rfl)
    have HN0 := Lib.hid h0
    clear h0 h1
    go_enter Tryd.func13, Tryd.ntmps13
    go_wp2
    go_loopw [3, 4, 22] (fun _ _ i wr => ∃ k : Nat, k ≤ n ∧ i = .int .i64 (k : Int) ∧ Hid (rightG N E = okE N (prevE E k) (E.drop k)) ∧ Hid (Below (w.alloc (.cells #[.int .i64 N, .slice A n c] 26)).heap.size (w.alloc (.cells #[.int .i64 N, .slice A n c] 26)) wr)) (fun _ _ i _ => n - (intOf i).toNat)
    case atStart => exact ⟨0, Nat.zero_le _, rfl, HR, Lib.hid (Below.refl _ _)⟩
    case round =>
      obtain ⟨k, hk, rfl, hS, hB⟩ := hrel
      have hOG := (Own.new' (t := 26) (w := w) (vs := [.int .i64 N, .slice A n c]) rfl).below' hB.out
      have g0 : wr.cell? ⟨w.heap.size, 0, none⟩ = some (.int .i64 N) := hOG.cell 0
      have g1 : wr.cell? ⟨w.heap.size, 1, none⟩ = some (.slice A n c) := hOG.cell 1
      have gz := hOG.lt
      have HBw := Lib.hid (HB0.out.trans (hB.out.mono (by simp)))
      clear hOG
      by_cases hlt : k < n
      · obtain ⟨b, off, rfl, hb, hc⟩ := rd_edge H.out.rd (by have := H.out.len; omega)
        obtain ⟨e, he⟩ : ∃ x, E[k]? = some x := ⟨_, List.getElem?_eq_getElem (by have := H.out.len; omega)⟩
        have hst := Lib.hid (hS.out.trans (okE_step he))
        obtain ⟨x0, x1⟩ := e
        obtain ⟨q0, q1⟩ := hc wr HBw.out k _ he
        have hbw : b < wr.heap.size := Nat.lt_of_lt_of_le hb HBw.out.size
        have HCE := Lib.hid hc
        have HBv := Lib.hid (HBw.out.trans ((alloc_below wr (.cells #[.int .i64 x0, .int .i64 x1] 49)).mono HBw.out.size))
        clear hc
        by_cases c0 : x0 < 0
        · have hS2 := Lib.hid (hst.out.trans (show _ = false by simp [show ¬ (0 ≤ x0) from by omega]))
          have k0 : decide (x0 < 0) = true := decide_eq_true c0
          clear hst hS he
          go_wp2
          go_ret
          exact ⟨by rw [hS2.out]; rfl, HBv.out⟩
        have k0 : decide (x0 < 0) = false := by rw [decide_eq_false_iff_not]; exact c0
        by_cases c1 : x1 ≤ x0
        · have hS2 := Lib.hid (hst.out.trans (show _ = false by simp [show ¬ (x0 < x1) from by omega]))
          have k1 : decide (x1 ≤ x0) = true := decide_eq_true c1
          clear hst hS he c0
          go_wp2
          go_ret
          exact ⟨by rw [hS2.out]; rfl, HBv.out⟩
        have k1 : decide (x1 ≤ x0) = false := by rw [decide_eq_false_iff_not]; exact c1
        by_cases c2 : N ≤ x1
        · have hS2 := Lib.hid (hst.out.trans (show _ = false by simp [show ¬ (x1 < N) from by omega]))
          have k2 : decide (N ≤ x1) = true := decide_eq_true c2
          clear hst hS he c0 c1
          go_wp2
          go_ret
          exact ⟨by rw [hS2.out]; rfl, HBv.out⟩
        have k2 : decide (N ≤ x1) = false := by rw [decide_eq_false_iff_not]; exact c2
        have hst2 := Lib.hid (hst.out.trans (show _ = ((match prevE E k with
          | none => true
          | some q => decide (cmpE q (x0, x1) < 0)) && okE N (prevE E (k + 1)) (E.drop (k + 1))) by
            rw [show decide (0 ≤ (x0, x1).1) = true from decide_eq_true (by show 0 ≤ x0; omega), show decide ((x0, x1).1 < (x0, x1).2) = true from decide_eq_true (by show x0 < x1; omega), show decide ((x0, x1).2 < N) = true from decide_eq_true (by show x1 < N; omega)]
            simp only [Bool.true_and]))
        clear hst
        by_cases hk0 : k = 0
        · have hS2 := Lib.hid (hst2.out.trans (show _ = okE N (prevE E (k + 1)) (E.drop (k + 1)) by
            rw [show prevE E k = none from if_pos hk0]; rfl))
          have HK := Lib.hid (show decide (0 < k) = false by rw [decide_eq_false_iff_not]; omega)
          have hB3 := HBv
          clear hst2 hS he c0 c1 c2 hk0
          go_wp2
          refine region_posts (by kernel_rfl) (tblGRz k) (by kernel_rfl) ?_ ?_
          · skip
            refine .yes rfl (fun a W Q hB hO hD => ?_) ?_
            · have e3 : a.tmps.getD 3 undef = .int .i64 (k : Nat) := hO.slot 3 _ rfl rfl
              clear hO hD
              go_wp2
              exact ⟨_, rfl, Below.refl _ _, rfl⟩
            refine .yes rfl (fun a W Q hB hO hD => ?_) ?_
            · have e44 : a.tmps.getD 44 undef = .int .i64 (k : Nat) := hD 0 rfl
              clear hO hD
              have hd := HK.out
              go_wp2
              exact ⟨_, rfl, Below.refl _ _, rfl⟩
            refine .yes rfl (fun a W Q hB hO hD => ?_) ?_
            · have e45 : a.tmps.getD 45 undef = .bool false := hD 1 rfl
              clear hO hD
              go_wp2
              exact ⟨_, rfl, Below.refl _ _, rfl⟩
            refine .no rfl (fun W => trivial) ?_
            refine .no rfl (fun W => trivial) ?_
            refine .no rfl (fun W => trivial) ?_
            refine .no rfl (fun W => trivial) ?_
            refine .no rfl (fun W => trivial) ?_
            refine .no rfl (fun W => trivial) ?_
            refine .no rfl (fun W => trivial) ?_
            refine .no rfl (fun W => trivial) ?_
            refine .no rfl (fun W => trivial) ?_
            refine .yes rfl (fun a W Q hB hO hD => ?_) ?_
            · have e46 : a.tmps.getD 46 undef = .bool false := hD 2 rfl
              clear hO hD
              go_wp2
              exact ⟨_, rfl, Below.refl _ _, rfl⟩
            exact .nil
          · intro f V hBz hR
            have e12 : f 12 = .bool false := hR 12 (by decide)
            have HB4 := Lib.hid (((alloc_below wr (.cells #[.int .i64 x0, .int .i64 x1] 49)).mono (Nat.le_refl _)).trans (hBz.mono (by simp)))
            clear hR hBz
            simp only [putAll, Nat.zero_add, Nat.reduceAdd, Act.put, List.setIfInBounds_toArray, List.set_cons_zero, List.set_cons_succ, e12]
            go_wp2
            go_roundw
            case rel => exact ⟨k + 1, by omega, by go_num, hS2, Lib.hid (hB.out.trans (HB4.out.mono hB.out.size))⟩
            case measure => simp [intOf]; omega

        · obtain ⟨p, hp⟩ : ∃ p, p + 1 = k := ⟨k - 1, by omega⟩
          obtain ⟨y, hy⟩ : ∃ x, E[p]? = some x := ⟨_, List.getElem?_eq_getElem (by have := H.out.len; omega)⟩
          obtain ⟨y0, y1⟩ := y
          obtain ⟨r, hr⟩ : ∃ r, cmpE (y0, y1) (x0, x1) = r := ⟨_, rfl⟩
          obtain ⟨t, ht⟩ : ∃ t, decide (0 ≤ r) = t := ⟨_, rfl⟩
          have HC := Lib.hid (show ∀ W, Calls Tryd.prog 42 #[.agg #[.int .i64 y0, .int .i64 y1], .agg #[.int .i64 x0, .int .i64 x1]] W fun e w' => e = .returned (.int .i64 r) ∧ ∃ q os', w' = grow (W.drewN q) os' from hr ▸ compareE_any (y0, y1) (x0, x1))
          have HT := Lib.hid ht
          have hS2 := Lib.hid (hst2.out.trans (show _ = (!t && okE N (prevE E (k + 1)) (E.drop (k + 1))) by
            rw [show prevE E k = some (y0, y1) from (if_neg hk0).trans (by rw [← hp, Nat.add_sub_cancel]; exact hy)]
            show (decide (cmpE (y0, y1) (x0, x1) < 0) && _) = _
            rw [hr, ← ht]
            congr 1
            by_cases hr0 : r < 0
            · rw [decide_eq_true hr0, decide_eq_false (by omega)]; rfl
            · rw [decide_eq_false hr0, decide_eq_true (by omega)]; rfl))
          have HK := Lib.hid (show decide (0 < k) = true from decide_eq_true (by omega))
          have HP := Lib.hid (show 0 < k by omega)
          have HPN := Lib.hid (show p < n by omega)
          have HPZ := Lib.hid (show (k : Int) - 1 = (p : Nat) by omega)
          have hB3 := HBv
          have CX := Lib.hid (fun V (hV : Below (wr.alloc (.cells #[.int .i64 x0, .int .i64 x1] 49)).heap.size (wr.alloc (.cells #[.int .i64 x0, .int .i64 x1] 49)) V) => (show V.cell? ⟨wr.heap.size, 0, none⟩ = some (.int .i64 x0) ∧ V.cell? ⟨wr.heap.size, 1, none⟩ = some (.int .i64 x1) from have hO := (Own.new' (t := 49) (w := wr) (vs := [.int .i64 x0, .int .i64 x1]) rfl).below' hV; ⟨hO.cell 0, hO.cell 1⟩))
          have CG := Lib.hid (fun V (hV : Below (wr.alloc (.cells #[.int .i64 x0, .int .i64 x1] 49)).heap.size (wr.alloc (.cells #[.int .i64 x0, .int .i64 x1] 49)) V) => (show V.cell? ⟨w.heap.size, 1, none⟩ = some (.slice (some ⟨b, off, none⟩) n c) from ((below_cells ((alloc_below wr (.cells #[.int .i64 x0, .int .i64 x1] 49)).trans (hV.mono (by simp)))).1 _ _ gz).trans g1))
          have CY := Lib.hid (fun V (hV : Below (wr.alloc (.cells #[.int .i64 x0, .int .i64 x1] 49)).heap.size (wr.alloc (.cells #[.int .i64 x0, .int .i64 x1] 49)) V) => HCE.out V (HBv.out.trans (hV.mono HBv.out.size)) p _ hy)
          clear hr ht hst2 hS he c0 c1 c2 hy hk0 hp HCE
          go_wp2
          refine region_posts (by kernel_rfl) (tblGRs w.heap.size b off c n k p x0 x1 y0 y1 r t) (by kernel_rfl) ?_ ?_
          · skip
            refine .yes rfl (fun a W Q hB hO hD => ?_) ?_
            · have e3 : a.tmps.getD 3 undef = .int .i64 (k : Nat) := hO.slot 3 _ rfl rfl
              clear hO hD
              go_wp2
              exact ⟨_, rfl, Below.refl _ _, rfl⟩
            refine .yes rfl (fun a W Q hB hO hD => ?_) ?_
            · have e44 : a.tmps.getD 44 undef = .int .i64 (k : Nat) := hD 0 rfl
              clear hO hD
              have hd := HK.out
              go_wp2
              exact ⟨_, rfl, Below.refl _ _, rfl⟩
            refine .yes rfl (fun a W Q hB hO hD => ?_) ?_
            · have e45 : a.tmps.getD 45 undef = .bool true := hD 1 rfl
              clear hO hD
              go_wp2
              exact ⟨_, rfl, Below.refl _ _, rfl⟩
            refine .yes rfl (fun a W Q hB hO hD => ?_) ?_
            · have e1 : a.tmps.getD 1 undef = .pointer (some ⟨w.heap.size, 0, none⟩) := hO.slot 1 _ rfl rfl
              clear hO hD
              go_wp2
              exact ⟨_, rfl, Below.refl _ _, rfl⟩
            refine .yes rfl (fun a W Q hB hO hD => ?_) ?_
            · have e47 : a.tmps.getD 47 undef = .pointer (some ⟨w.heap.size, 1, none⟩) := hD 3 rfl
              clear hO hD
              have hc := CG.out W hB
              go_wp2
              exact ⟨_, rfl, Below.refl _ _, rfl⟩
            refine .yes rfl (fun a W Q hB hO hD => ?_) ?_
            · have e3 : a.tmps.getD 3 undef = .int .i64 (k : Nat) := hO.slot 3 _ rfl rfl
              clear hO hD
              go_wp2
              exact ⟨_, rfl, Below.refl _ _, rfl⟩
            refine .yes rfl (fun a W Q hB hO hD => ?_) ?_
            · have e49 : a.tmps.getD 49 undef = .int .i64 (k : Nat) := hD 5 rfl
              clear hO hD
              have hc := HP.out
              go_wp2
              exact ⟨_, rfl, Below.refl _ _, congrArg (Value.int .i64) HPZ.out⟩
            refine .yes rfl (fun a W Q hB hO hD => ?_) ?_
            · have e48 : a.tmps.getD 48 undef = .slice (some ⟨b, off, none⟩) n c := hD 4 rfl
              have e50 : a.tmps.getD 50 undef = .int .i64 (p : Nat) := hD 6 rfl
              clear hO hD
              have hc := HPN.out
              go_wp2
              exact ⟨_, rfl, Below.refl _ _, rfl⟩
            refine .yes rfl (fun a W Q hB hO hD => ?_) ?_
            · have e51 : a.tmps.getD 51 undef = .pointer (some ⟨b, off + p * 2, none⟩) := hD 7 rfl
              clear hO hD
              have ⟨hc, hc2⟩ := CY.out W hB
              go_wp2
              exact ⟨_, rfl, Below.refl _ _, rfl⟩
            refine .yes rfl (fun a W Q hB hO hD => ?_) ?_
            · have e4 : a.tmps.getD 4 undef = .pointer (some ⟨wr.heap.size, 0, none⟩) := hO.slot 4 _ rfl rfl
              clear hO hD
              have ⟨hc, hc2⟩ := CX.out W hB
              go_wp2
              exact ⟨_, rfl, Below.refl _ _, rfl⟩
            refine .yes rfl (fun a W Q hB hO hD => ?_) ?_
            · have e52 : a.tmps.getD 52 undef = .agg #[.int .i64 y0, .int .i64 y1] := hD 8 rfl
              have e53 : a.tmps.getD 53 undef = .agg #[.int .i64 x0, .int .i64 x1] := hD 9 rfl
              clear hO hD
              go_wp2_with fail
              refine (HC.out W).mono ?_
              rintro e w' ⟨rfl, q, os', rfl⟩
              go_wp2
              exact ⟨_, rfl, below_grow _ _ _, rfl⟩
            refine .yes rfl (fun a W Q hB hO hD => ?_) ?_
            · have e54 : a.tmps.getD 54 undef = .int .i64 r := hD 10 rfl
              clear hO hD
              have hd := HT.out
              go_wp2
              exact ⟨_, rfl, Below.refl _ _, rfl⟩
            refine .yes rfl (fun a W Q hB hO hD => ?_) ?_
            · have e46 : a.tmps.getD 46 undef = .bool true := hD 2 rfl
              have e55 : a.tmps.getD 55 undef = .bool t := hD 11 rfl
              clear hO hD
              go_wp2
              exact ⟨_, rfl, Below.refl _ _, rfl⟩
            exact .nil
          · intro f V hBz hR
            have e12 : f 12 = .bool t := hR 12 (by decide)
            have HB2 := Lib.hid (hB3.out.trans (hBz.mono hB3.out.size))
            have HB4 := Lib.hid (((alloc_below wr (.cells #[.int .i64 x0, .int .i64 x1] 49)).mono (Nat.le_refl _)).trans (hBz.mono (by simp)))
            clear hR hBz
            simp only [putAll, Nat.zero_add, Nat.reduceAdd, Act.put, List.setIfInBounds_toArray, List.set_cons_zero, List.set_cons_succ, e12]
            cases t with
            | true =>
              go_wp2
              go_ret
              exact ⟨by rw [hS2.out]; rfl, HB2.out⟩
            | false =>
              go_wp2
              go_roundw
              case rel => exact ⟨k + 1, by omega, by go_num, Lib.hid (hS2.out.trans (by rw [Bool.not_false, Bool.true_and])), Lib.hid (hB.out.trans (HB4.out.mono hB.out.size))⟩
              case measure => simp [intOf]; omega

      · obtain rfl : n = k := by omega
        have hS2 := Lib.hid (hS.out.trans (okE_end (by have := H.out.len; omega)))
        clear hS
        go_wp2
        go_ret
        exact ⟨by rw [hS2.out]; rfl, HBw.out⟩
  · have HR := Lib.hid (show rightG N E = false by
      have := H.out.len
      unfold rightG
      rw [Bool.and_eq_false_iff]; left
      rw [← Bool.not_eq_true, Bool.and_eq_true, Bool.and_eq_true, decide_eq_true_eq, decide_eq_true_eq, decide_eq_true_eq]
      omega)
    by_cases h0 : N < 0
    · have d0 : decide (N < 0) = true := decide_eq_true h0
      go_enter Tryd.func13, Tryd.ntmps13
      go_wp2
      go_ret
      exact ⟨by rw [HR.out]; rfl, HB0.out⟩
    · have d0 : decide (N < 0) = false := by rw [decide_eq_false_iff_not]; exact h0
      by_cases h1 : 200 < N
      · have d1 : decide (200 < N) = true := decide_eq_true h1
        go_enter Tryd.func13, Tryd.ntmps13
        go_wp2
        go_ret
        exact ⟨by rw [HR.out]; rfl, HB0.out⟩
      · have d1 : decide (200 < N) = false := by rw [decide_eq_false_iff_not]; exact h1
        have d2 : decide (594 < (n : Int)) = true := by rw [decide_eq_true_eq]; omega
        go_enter Tryd.func13, Tryd.ntmps13
        go_wp2
        go_ret
        exact ⟨by rw [HR.out]; rfl, HB0.out⟩
end Go.Proofs.YtljihclpgpmfeaaDoor
