/- Bundle of texts: Dg Dh. -/
import Derived.Test.YtljihclpgpmfeaaDoorGm
import Derived.Test.YtljihclpgpmfeaaDoorUa
/- Plain: a square of truths holds the edges met; the edges read from it in order. -/
namespace Go.Proofs.YtljihclpgpmfeaaDoor
set_option maxRecDepth 100000
open Go.RowKit

theorem infoB1 : (Tryd.prog.info? 4).map (fun i => (i.zero, i.size, i.bytes)) = some (some (.bool false), 1, 1) := by kernel_rfl
/-- The square of truths, row behind row. -/
def cellsQ (n : Nat) (S : List (Int × Int)) : List Value := (List.range (n * n)).map fun t => .bool (S.contains (normE (((t / n : Nat) : Int), ((t % n : Nat) : Int))))
theorem length_cellsQ (n : Nat) (S : List (Int × Int)) : (cellsQ n S).length = n * n := by simp [cellsQ]
theorem place_in {n a b : Nat} (ha : a < n) (hb : b < n) : a * n + b < n * n ∧ (a * n + b) / n = a ∧ (a * n + b) % n = b := by
  have h1 : (a + 1) * n ≤ n * n := Nat.mul_le_mul_right n ha
  rw [Nat.add_mul, Nat.one_mul] at h1
  refine ⟨by omega, ?_, ?_⟩
  · rw [Nat.add_comm, Nat.add_mul_div_right _ _ (by omega), Nat.div_eq_of_lt hb, Nat.zero_add]
  · rw [Nat.add_comm, Nat.add_mul_mod_self_right, Nat.mod_eq_of_lt hb]
theorem cellsQ_at {n a b : Nat} (S : List (Int × Int)) (ha : a < n) (hb : b < n) : (cellsQ n S)[a * n + b]? = some (.bool (S.contains (normE ((a : Int), (b : Int))))) := by
  obtain ⟨h1, h2, h3⟩ := place_in ha hb
  unfold cellsQ
  rw [List.getElem?_map, List.getElem?_range h1]
  show some (Value.bool (S.contains (normE ((((a * n + b) / n : Nat) : Int), (((a * n + b) % n : Nat) : Int))))) = _
  rw [h2, h3]
theorem norm_eq {a b c d : Int} : normE (a, b) = normE (c, d) ↔ (a = c ∧ b = d) ∨ (a = d ∧ b = c) := by
  unfold normE
  simp only [Prod.mk.injEq]
  omega
theorem cellsQ_set {n a b : Nat} (S : List (Int × Int)) (ha : a < n) (hb : b < n) : ((cellsQ n S).set (a * n + b) (.bool true)).set (b * n + a) (.bool true) = cellsQ n (S ++ [normE ((a : Int), (b : Int))]) := by
  obtain ⟨h1, h2, h3⟩ := place_in ha hb
  obtain ⟨k1, k2, k3⟩ := place_in hb ha
  refine List.ext_getElem? fun t => ?_
  by_cases ht : t < n * n
  · have hn : 0 < n := by omega
    have hd := Nat.div_add_mod t n
    rw [Nat.mul_comm] at hd
    have hR : (cellsQ n (S ++ [normE ((a : Int), (b : Int))]))[t]? = some (.bool ((S ++ [normE ((a : Int), (b : Int))]).contains (normE (((t / n : Nat) : Int), ((t % n : Nat) : Int))))) := by
      unfold cellsQ
      rw [List.getElem?_map, List.getElem?_range ht]; rfl
    have hL : (cellsQ n S)[t]? = some (.bool (S.contains (normE (((t / n : Nat) : Int), ((t % n : Nat) : Int))))) := by
      unfold cellsQ
      rw [List.getElem?_map, List.getElem?_range ht]; rfl
    rw [hR]
    have hc : (S ++ [normE ((a : Int), (b : Int))]).contains (normE (((t / n : Nat) : Int), ((t % n : Nat) : Int))) = (S.contains (normE (((t / n : Nat) : Int), ((t % n : Nat) : Int))) || decide (t = a * n + b ∨ t = b * n + a)) := by
      rw [Bool.eq_iff_iff, List.contains_iff_mem, List.mem_append, List.mem_singleton, Bool.or_eq_true, List.contains_iff_mem, decide_eq_true_eq, norm_eq]
      constructor
      · rintro (h | ⟨e1, e2⟩ | ⟨e1, e2⟩)
        · exact .inl h
        · have e1 : t / n = a := by omega
          have e2 : t % n = b := by omega
          exact .inr (.inl (by rw [← hd, e1, e2]))
        · have e1 : t / n = b := by omega
          have e2 : t % n = a := by omega
          exact .inr (.inr (by rw [← hd, e1, e2]))
      · rintro (h | rfl | rfl)
        · exact .inl h
        · right; left; rw [h2, h3]; exact ⟨rfl, rfl⟩
        · right; right; rw [k2, k3]; exact ⟨rfl, rfl⟩
    rw [hc]
    by_cases e2 : b * n + a = t
    · subst e2
      rw [List.getElem?_set_self (by rw [List.length_set, length_cellsQ]; exact k1), decide_eq_true (Or.inr rfl), Bool.or_true]
    · rw [List.getElem?_set_ne e2]
      by_cases e1 : a * n + b = t
      · subst e1
        rw [List.getElem?_set_self (by rw [length_cellsQ]; exact h1), decide_eq_true (Or.inl rfl), Bool.or_true]
      · rw [List.getElem?_set_ne e1, hL, decide_eq_false (by omega), Bool.or_false]
  · rw [List.getElem?_eq_none (by simp only [List.length_set, length_cellsQ]; omega), List.getElem?_eq_none (by rw [length_cellsQ]; omega)]
theorem cellsQ_nil (n : Nat) : cellsQ n [] = List.replicate (n * n) (.bool false) := by
  refine List.ext_getElem? fun t => ?_
  unfold cellsQ
  rw [List.getElem?_map]
  by_cases ht : t < n * n
  · rw [List.getElem?_range ht, List.getElem?_replicate, if_pos ht]; rfl
  · rw [List.getElem?_eq_none (by simpa using ht), List.getElem?_replicate, if_neg ht]; rfl
theorem mk_square (n m : Nat) (hm : m = n * n) (h4 : m ≤ 100000) (W : World) : (Instr.makeSlice 81 (.int .i64 (m : Int)) (.int .i64 (m : Int))).run Tryd.prog W = .ok (.slice (some ⟨W.heap.size, 0, none⟩) m m) (W.alloc (.cells (cellsQ n []).toArray 4)) := by
  obtain ⟨i0, hi, hz0, hz1, hz2⟩ := info_parts infoB1
  have hmk := run_make (P := Tryd.prog) W 81 4 i0 _ Tryd.underlying81 hi hz0 .i64 .i64 m m (by omega) (by omega) (by rw [hz2]; omega) (by omega)
  rw [hz1] at hmk
  simp only [Int.toNat_natCast, Value.cells, replicate_cells, Nat.mul_one] at hmk
  rw [cellsQ_nil, ← hm]
  exact hmk
/-- The edges of S that stand before (a, b), in order. -/
def ScanE (S : List (Int × Int)) (a b : Nat) (L : List (Int × Int)) : Prop := RisesE L ∧ ∀ e, e ∈ L ↔ e ∈ S ∧ (e.1 < (a : Int) ∨ (e.1 = (a : Int) ∧ e.2 < (b : Int)))
theorem scan_start {S : List (Int × Int)} {n : Nat} (hv : ∀ e ∈ S, ValidE n e) : ScanE S 0 0 [] := by
  refine ⟨List.Pairwise.nil, fun e => ⟨fun h => (by simp at h), fun ⟨h, h2⟩ => ?_⟩⟩
  obtain ⟨v0, v1, v2⟩ := hv e h
  omega
theorem scan_row {S L : List (Int × Int)} {n a : Nat} (hv : ∀ e ∈ S, ValidE n e) (h : ScanE S a 0 L) : ScanE S a (a + 1) L := by
  refine ⟨h.1, fun e => (h.2 e).trans ⟨fun ⟨h1, h2⟩ => ⟨h1, by omega⟩, fun ⟨h1, h2⟩ => ⟨h1, ?_⟩⟩⟩
  obtain ⟨v0, v1, v2⟩ := hv e h1
  omega
theorem scan_yes {S L : List (Int × Int)} {a b : Nat} (h : ScanE S a b L) (hm : ((a : Int), (b : Int)) ∈ S) : ScanE S a (b + 1) (L ++ [((a : Int), (b : Int))]) := by
  constructor
  · refine List.pairwise_append.2 ⟨h.1, List.pairwise_singleton _ _, fun x hx y hy => ?_⟩
    rw [List.mem_singleton] at hy
    subst hy
    rw [cmpE_lt]
    exact ((h.2 x).1 hx).2
  · intro e
    rw [List.mem_append, List.mem_singleton, h.2 e]
    constructor
    · rintro (⟨h1, h2⟩ | rfl)
      · exact ⟨h1, by omega⟩
      · exact ⟨hm, .inr ⟨rfl, by simp only; omega⟩⟩
    · rintro ⟨h1, h2⟩
      by_cases e1 : e.1 = (a : Int) ∧ e.2 = (b : Int)
      · right; exact Prod.ext e1.1 e1.2
      · left; exact ⟨h1, by omega⟩
theorem scan_no {S L : List (Int × Int)} {a b : Nat} (h : ScanE S a b L) (hm : ((a : Int), (b : Int)) ∉ S) : ScanE S a (b + 1) L := by
  refine ⟨h.1, fun e => (h.2 e).trans ⟨fun ⟨h1, h2⟩ => ⟨h1, by omega⟩, fun ⟨h1, h2⟩ => ⟨h1, ?_⟩⟩⟩
  by_cases e1 : e.1 = (a : Int) ∧ e.2 = (b : Int)
  · exact absurd (show ((a : Int), (b : Int)) ∈ S by rw [← e1.1, ← e1.2]; exact h1) hm
  · omega
theorem scan_next {S L : List (Int × Int)} {n a : Nat} (hv : ∀ e ∈ S, ValidE n e) (h : ScanE S a n L) : ScanE S (a + 1) 0 L := by
  refine ⟨h.1, fun e => (h.2 e).trans ⟨fun ⟨h1, h2⟩ => ⟨h1, by omega⟩, fun ⟨h1, h2⟩ => ⟨h1, ?_⟩⟩⟩
  obtain ⟨v0, v1, v2⟩ := hv e h1
  omega
theorem scan_all {S L : List (Int × Int)} {n : Nat} (hv : ∀ e ∈ S, ValidE n e) (hn : S.Nodup) (h : ScanE S n 0 L) : L = riseE S := by
  refine rises_ext h.1 (riseE_rises hn) fun e => ?_
  rw [mem_rise, h.2 e]
  refine ⟨fun h1 => h1.1, fun h1 => ⟨h1, ?_⟩⟩
  obtain ⟨v0, v1, v2⟩ := hv e h1
  omega
end Go.Proofs.YtljihclpgpmfeaaDoor
/- Walk: fretworkref02.New. -/
namespace Go.Proofs.YtljihclpgpmfeaaDoor
set_option maxRecDepth 100000
open Go.RowKit

theorem rowE_slice {B : Nat} {W : World} {v : Value} {l : List (Int × Int)} (h : RowE B W v l) : ∃ A L c, v = .slice A L c := by
  rcases h with ⟨_, e⟩ | ⟨g, cap, more, e, _⟩
  · exact ⟨_, _, _, e⟩
  · exact ⟨_, _, _, e⟩
theorem rowE_box1 {B g : Nat} {W : World} {v : Value} {l : List (Int × Int)} {vs : List Value} (h : RowE B W v l) (ho : Own W g 26 vs) (y : Value) : RowE B (W.setCell ⟨g, 1, none⟩ y) v l := by
  rcases h with h | ⟨g1, cap, more, e, hgb, h1, h⟩
  · exact .inl h
  · have hn := h1.ne ho (by decide)
    exact .inr ⟨g1, cap, more, e, hgb, h1.far (p := ⟨g, 1, none⟩) hn y, h⟩
theorem rowE_box2 {B g : Nat} {W : World} {v : Value} {l : List (Int × Int)} {vs : List Value} (h : RowE B W v l) (ho : Own W g 26 vs) (x y : Value) : RowE B ((W.setCell ⟨g, 0, none⟩ x).setCell ⟨g, 1, none⟩ y) v l := by
  rcases h with h | ⟨g1, cap, more, e, hgb, h1, h⟩
  · exact .inl h
  · have hn := h1.ne ho (by decide)
    exact .inr ⟨g1, cap, more, e, hgb, (h1.far (p := ⟨g, 0, none⟩) hn x).far (p := ⟨g, 1, none⟩) hn y, h⟩
/-- A pair that may be added. -/
def StepN (M : Nat) (S : List (Int × Int)) (x0 x1 : Int) : Prop := 0 ≤ x0 ∧ 0 ≤ x1 ∧ x0 < (M : Int) ∧ x1 < (M : Int) ∧ x0 ≠ x1 ∧ S.contains (normE (x0, x1)) = false
theorem stepN_iff {M : Nat} {E : List (Int × Int)} {k : Nat} {x0 x1 : Int} (hx : E[k]? = some (x0, x1)) :
    (¬ StepN M ((E.take k).map normE) x0 x1 → okN M ((E.take k).map normE) (E.drop k) = false) ∧ (StepN M ((E.take k).map normE) x0 x1 → okN M ((E.take k).map normE) (E.drop k) = okN M ((E.take (k + 1)).map normE) (E.drop (k + 1))) := by
  rw [okN_step hx]
  obtain ⟨S, hS⟩ : ∃ S, (E.take k).map normE = S := ⟨_, rfl⟩
  rw [hS]
  have hiff : (decide (0 ≤ (normE (x0, x1)).1) && decide ((normE (x0, x1)).1 ≠ (normE (x0, x1)).2) && decide ((normE (x0, x1)).2 < (M : Int)) && !S.contains (normE (x0, x1))) = true ↔ StepN M S x0 x1 := by
    rw [Bool.and_eq_true, Bool.and_eq_true, Bool.and_eq_true, decide_eq_true_eq, decide_eq_true_eq, decide_eq_true_eq]
    unfold StepN
    cases S.contains (normE (x0, x1)) with
    | true => simp
    | false =>
      unfold normE
      simp only [Bool.not_false, and_true]
      omega
  constructor
  · intro h
    rw [Bool.eq_false_iff.2 (fun e => h (hiff.1 e)), Bool.false_and]
  · intro h
    rw [hiff.2 h, Bool.true_and]
def tblNw (b : Nat) (off : Nat) (n : Nat) (c : Nat) (k : Nat) (x0 : Int) (x1 : Int) : List Pst := [Pst.val (.slice (some ⟨b, off, none⟩) n c), Pst.val (.int .i64 (k : Nat)), Pst.val (.pointer (some ⟨b, off + k * 2, none⟩)), Pst.val (.pointer (some ⟨b, off + k * 2, none⟩)), Pst.val (.int .i64 x0), Pst.val (.slice (some ⟨b, off, none⟩) n c), Pst.val (.int .i64 (k : Nat)), Pst.val (.pointer (some ⟨b, off + k * 2, none⟩)), Pst.val (.pointer (some ⟨b, off + k * 2 + 1, none⟩)), Pst.val (.int .i64 x1), Pst.val (.int .i64 x0), Pst.val (.int .i64 x1)]
set_option maxRecDepth 100000 in
set_option maxHeartbeats 16000000 in
theorem newR_any (N0 : Int) (A : Option Addr) (n c : Nat) (E : List (Int × Int)) (w : World) (h : ArgE w A n c E) :
    Calls Tryd.prog 27 #[.int .i64 N0, .slice A n c] w (GrE w N0 (newO N0 E)) := by
  have HL := Lib.hid h.len
  have hle := h.le
  have HA := Lib.hid h
  clear h
  have HBW := Lib.hid (alloc_below w (.cells #[.int .i64 0, .slice none 0 0] 26))
  have OB := Lib.hid (Own.new' (t := 26) (w := w) (vs := [.int .i64 0, .slice none 0 0]) rfl)
  by_cases h1 : 200 < N0
  · have HX := Lib.hid (show newO N0 E = .error 21 from if_pos (.inl h1))
    have d1 : decide (200 < N0) = true := decide_eq_true h1
    clear h1
    go_enter Tryd.func27, Tryd.ntmps27
    go_wp2
    have q0 := OB.out.cell 0
    have q1 := OB.out.cell 1
    simp only [List.getElem?_cons_zero, List.getElem?_cons_succ] at q0 q1
    exact bodyPost_ret (v := .tuple #[.agg #[.int .i64 0, .slice none 0 0], .int .i64 21]) (by simp [results, Tryd.results27, go_sem, q0, q1]) rfl (by show GrE w N0 (newO N0 E) _ _; rw [HX.out]; exact ⟨rfl, HBW.out⟩)
  have d1 : decide (200 < N0) = false := decide_eq_false h1
  by_cases h2 : 594 < n
  · have HX := Lib.hid (show newO N0 E = .error 21 from if_pos (.inr (by have := HL.out; omega)))
    have d2 : decide (594 < (n : Int)) = true := by rw [decide_eq_true_eq]; omega
    have d2n : decide (594 < n) = true := decide_eq_true h2
    clear h1 h2
    go_enter Tryd.func27, Tryd.ntmps27
    go_wp2
    have q0 := OB.out.cell 0
    have q1 := OB.out.cell 1
    simp only [List.getElem?_cons_zero, List.getElem?_cons_succ] at q0 q1
    exact bodyPost_ret (v := .tuple #[.agg #[.int .i64 0, .slice none 0 0], .int .i64 21]) (by simp [results, Tryd.results27, go_sem, q0, q1]) rfl (by show GrE w N0 (newO N0 E) _ _; rw [HX.out]; exact ⟨rfl, HBW.out⟩)
  have d2 : decide (594 < (n : Int)) = false := by rw [decide_eq_false_iff_not]; omega
  have d2n : decide (594 < n) = false := decide_eq_false h2
  by_cases h3 : N0 < 0
  · have HX := Lib.hid (show newO N0 E = .error 20 from (if_neg (by have := HL.out; omega)).trans (if_pos h3))
    have d3 : decide (N0 < 0) = true := decide_eq_true h3
    clear h1 h2 h3
    go_enter Tryd.func27, Tryd.ntmps27
    go_wp2
    have q0 := OB.out.cell 0
    have q1 := OB.out.cell 1
    simp only [List.getElem?_cons_zero, List.getElem?_cons_succ] at q0 q1
    exact bodyPost_ret (v := .tuple #[.agg #[.int .i64 0, .slice none 0 0], .int .i64 20]) (by simp [results, Tryd.results27, go_sem, q0, q1]) rfl (by show GrE w N0 (newO N0 E) _ _; rw [HX.out]; exact ⟨rfl, HBW.out⟩)
  have d3 : decide (N0 < 0) = false := decide_eq_false h3
  have HNO := Lib.hid (show newO N0 E = if okN N0 [] E = true then .ok (riseE (E.map normE)) else .error 20 from (if_neg (by have := HL.out; omega)).trans (if_neg h3))
  obtain ⟨M, hM⟩ : ∃ M : Nat, N0 = (M : Int) := ⟨N0.toNat, by omega⟩
  have hM2 : M ≤ 200 := by omega
  obtain ⟨m, hm⟩ : ∃ m, m = M * M := ⟨_, rfl⟩
  have hm4 : m ≤ 40000 := by rw [hm]; exact Nat.mul_le_mul hM2 hM2
  have hmI : (M : Int) * (M : Int) = (m : Int) := by rw [hm]; simp
  obtain ⟨W1, hW1⟩ : ∃ W, w.alloc (.cells #[.int .i64 0, .slice none 0 0] 26) = W := ⟨_, rfl⟩
  have hmk := mk_square M m hm (by omega) W1
  have HMM := Lib.hid hm
  have OB0 := Lib.hid (show Own W1 w.heap.size 26 [.int .i64 0, .slice none 0 0] from by rw [← hW1]; exact OB.out)
  have HBW' := Lib.hid (show Below w.heap.size w W1 from by rw [← hW1]; exact HBW.out)
  have HA1 := Lib.hid (HA.out.keep HBW'.out)
  have OB1 := OB0
  clear OB HBW HA
  have HBW := HBW'; clear HBW'
  have HOQ0 := Lib.hid (show Own (W1.alloc (.cells (cellsQ M []).toArray 4)) W1.heap.size 4 (cellsQ M []) from Own.new _ _ _)
  have HBQ0 := Lib.hid (alloc_below W1 (.cells (cellsQ M []).toArray 4))
  have hwz := HBW.out.size
  clear hm h1 h2 h3
  subst hM
  have HN0 := Lib.hid (show ∃ N0 : Int, N0 = (M : Int) from ⟨_, rfl⟩)
  go_enter Tryd.func27, Tryd.ntmps27
  go_wp2_with fail
  clear hmk
  go_loopw [7, 8, 9] (fun i _ _ wr => ∃ k : Nat, k ≤ n ∧ i = .int .i64 (k : Int) ∧ Hid (okN (M : Int) [] E = okN (M : Int) ((E.take k).map normE) (E.drop k)) ∧ Hid (Own wr W1.heap.size 4 (cellsQ M ((E.take k).map normE))) ∧ Hid (Below W1.heap.size W1 wr)) (fun i _ _ _ => n - (intOf i).toNat)
  case atStart => exact ⟨0, Nat.zero_le _, rfl, Lib.hid rfl, HOQ0, HBQ0⟩
  case round =>
    obtain ⟨k, hk, rfl, HS, HO, HB⟩ := hrel
    by_cases hlt : k < n
    · have HAr := Lib.hid (HA1.out.keep HB.out)
      obtain ⟨b, off, rfl, hb, hc⟩ := rd_edge HAr.out.rd (by have := HL.out; omega)
      obtain ⟨⟨x0, x1⟩, hx⟩ : ∃ x, E[k]? = some x := ⟨_, List.getElem?_eq_getElem (by have := HL.out; omega)⟩
      have C1 := Lib.hid (fun V (hV : Below wr.heap.size wr V) => (show V.cell? ⟨b, off + k * 2, none⟩ = some (.int .i64 x0) ∧ V.cell? ⟨b, off + k * 2 + 1, none⟩ = some (.int .i64 x1) from hc V hV k _ hx))
      obtain ⟨hst1, hst2⟩ := stepN_iff (M := M) hx
      have HBAD := Lib.hid (show ¬ StepN M ((E.take k).map normE) x0 x1 → newO (M : Int) E = .error 20 from fun hn => by rw [HNO.out, HS.out, hst1 hn]; exact if_neg (by simp))
      have HGOOD := Lib.hid (show StepN M ((E.take k).map normE) x0 x1 → okN (M : Int) [] E = okN (M : Int) ((E.take (k + 1)).map normE) (E.drop (k + 1)) from fun hy => by rw [HS.out, hst2 hy])
      have HX := Lib.hid hx; have HH := Lib.hid hlt
      clear hc hx hst1 hst2 HS HAr
      go_wp2_with fail
      refine region_posts (by kernel_rfl) (tblNw b off n c k x0 x1) (by kernel_rfl) ?_ ?_
      · skip
        refine .yes rfl (fun a W Q hB hO hD => ?_) ?_
        · have e1 : a.tmps.getD 1 undef = .slice (some ⟨b, off, none⟩) n c := hO.slot 1 _ rfl rfl
          clear hO hD
          go_wp2
          exact ⟨_, rfl, Below.refl _ _, rfl⟩
        refine .yes rfl (fun a W Q hB hO hD => ?_) ?_
        · have e7 : a.tmps.getD 7 undef = .int .i64 (k : Nat) := hO.slot 7 _ rfl rfl
          clear hO hD
          go_wp2
          exact ⟨_, rfl, Below.refl _ _, rfl⟩
        refine .yes rfl (fun a W Q hB hO hD => ?_) ?_
        · have e34 : a.tmps.getD 34 undef = .slice (some ⟨b, off, none⟩) n c := hD 0 rfl
          have e35 : a.tmps.getD 35 undef = .int .i64 (k : Nat) := hD 1 rfl
          clear hO hD
          have hh := HH.out
          go_wp2
          exact ⟨_, rfl, Below.refl _ _, rfl⟩
        refine .yes rfl (fun a W Q hB hO hD => ?_) ?_
        · have e36 : a.tmps.getD 36 undef = .pointer (some ⟨b, off + k * 2, none⟩) := hD 2 rfl
          clear hO hD
          go_wp2
          exact ⟨_, rfl, Below.refl _ _, rfl⟩
        refine .yes rfl (fun a W Q hB hO hD => ?_) ?_
        · have e37 : a.tmps.getD 37 undef = .pointer (some ⟨b, off + k * 2, none⟩) := hD 3 rfl
          clear hO hD
          have ⟨hc, hc2⟩ := C1.out W hB
          go_wp2
          exact ⟨_, rfl, Below.refl _ _, rfl⟩
        refine .yes rfl (fun a W Q hB hO hD => ?_) ?_
        · have e1 : a.tmps.getD 1 undef = .slice (some ⟨b, off, none⟩) n c := hO.slot 1 _ rfl rfl
          clear hO hD
          go_wp2
          exact ⟨_, rfl, Below.refl _ _, rfl⟩
        refine .yes rfl (fun a W Q hB hO hD => ?_) ?_
        · have e7 : a.tmps.getD 7 undef = .int .i64 (k : Nat) := hO.slot 7 _ rfl rfl
          clear hO hD
          go_wp2
          exact ⟨_, rfl, Below.refl _ _, rfl⟩
        refine .yes rfl (fun a W Q hB hO hD => ?_) ?_
        · have e39 : a.tmps.getD 39 undef = .slice (some ⟨b, off, none⟩) n c := hD 5 rfl
          have e40 : a.tmps.getD 40 undef = .int .i64 (k : Nat) := hD 6 rfl
          clear hO hD
          have hh := HH.out
          go_wp2
          exact ⟨_, rfl, Below.refl _ _, rfl⟩
        refine .yes rfl (fun a W Q hB hO hD => ?_) ?_
        · have e41 : a.tmps.getD 41 undef = .pointer (some ⟨b, off + k * 2, none⟩) := hD 7 rfl
          clear hO hD
          go_wp2
          exact ⟨_, rfl, Below.refl _ _, rfl⟩
        refine .yes rfl (fun a W Q hB hO hD => ?_) ?_
        · have e42 : a.tmps.getD 42 undef = .pointer (some ⟨b, off + k * 2 + 1, none⟩) := hD 8 rfl
          clear hO hD
          have ⟨hc, hc2⟩ := C1.out W hB
          go_wp2
          exact ⟨_, rfl, Below.refl _ _, rfl⟩
        refine .yes rfl (fun a W Q hB hO hD => ?_) ?_
        · have e38 : a.tmps.getD 38 undef = .int .i64 x0 := hD 4 rfl
          clear hO hD
          go_wp2
          exact ⟨_, rfl, Below.refl _ _, rfl⟩
        refine .yes rfl (fun a W Q hB hO hD => ?_) ?_
        · have e43 : a.tmps.getD 43 undef = .int .i64 x1 := hD 9 rfl
          clear hO hD
          go_wp2
          exact ⟨_, rfl, Below.refl _ _, rfl⟩
        exact .nil
      · intro f V hBz hR
        have e8 : f 10 = .int .i64 x0 := hR 10 (by decide)
        have e9 : f 11 = .int .i64 x1 := hR 11 (by decide)
        have HB2 := Lib.hid (below_chain HB.out hBz)
        have HOQ := Lib.hid (HO.out.below' hBz)
        have OBX := Lib.hid (OB1.out.below' HB2.out)
        have HBF := Lib.hid (below_chain HBW.out HB2.out)
        clear hR hBz HO HB C1
        simp only [putAll, Nat.zero_add, Nat.reduceAdd, Act.put, List.setIfInBounds_toArray, List.set_cons_zero, List.set_cons_succ, e8, e9]
        by_cases g0 : x0 < 0
        · have k0 : decide (x0 < 0) = true := decide_eq_true g0
          have HF := Lib.hid (HBAD.out (fun h => by have := h.1; have := h.2.1; have := h.2.2.1; have := h.2.2.2.1; omega))
          have yR := OBX.out.lt; have fR := OBX.out.frozen; have qR := OBX.out.cell
          go_wp2
          have hF := (OBX.out.set 0 (.int .i64 0)).set 1 (.slice none 0 0)
          have r0 := hF.cell 0
          have r1 := hF.cell 1
          simp only [List.set_cons_zero, List.set_cons_succ, List.getElem?_cons_zero, List.getElem?_cons_succ] at r0 r1
          exact bodyPost_ret (v := .tuple #[.agg #[.int .i64 0, .slice none 0 0], .int .i64 20]) (by simp [results, Tryd.results27, go_sem, r0, r1]) rfl (by show GrE w (M : Int) (newO (M : Int) E) _ _; rw [HF.out]; exact ⟨rfl, (HBF.out.setCell (by simp; try omega) _).setCell (by simp; try omega) _⟩)
        have k0 : decide (x0 < 0) = false := decide_eq_false g0
        by_cases g1 : x1 < 0
        · have k1 : decide (x1 < 0) = true := decide_eq_true g1
          have HF := Lib.hid (HBAD.out (fun h => by have := h.1; have := h.2.1; have := h.2.2.1; have := h.2.2.2.1; omega))
          have yR := OBX.out.lt; have fR := OBX.out.frozen; have qR := OBX.out.cell
          go_wp2
          have hF := (OBX.out.set 0 (.int .i64 0)).set 1 (.slice none 0 0)
          have r0 := hF.cell 0
          have r1 := hF.cell 1
          simp only [List.set_cons_zero, List.set_cons_succ, List.getElem?_cons_zero, List.getElem?_cons_succ] at r0 r1
          exact bodyPost_ret (v := .tuple #[.agg #[.int .i64 0, .slice none 0 0], .int .i64 20]) (by simp [results, Tryd.results27, go_sem, r0, r1]) rfl (by show GrE w (M : Int) (newO (M : Int) E) _ _; rw [HF.out]; exact ⟨rfl, (HBF.out.setCell (by simp; try omega) _).setCell (by simp; try omega) _⟩)
        have k1 : decide (x1 < 0) = false := decide_eq_false g1
        by_cases g2 : (M : Int) ≤ x0
        · have k2 : decide ((M : Int) ≤ x0) = true := decide_eq_true g2
          have HF := Lib.hid (HBAD.out (fun h => by have := h.1; have := h.2.1; have := h.2.2.1; have := h.2.2.2.1; omega))
          have yR := OBX.out.lt; have fR := OBX.out.frozen; have qR := OBX.out.cell
          go_wp2
          have hF := (OBX.out.set 0 (.int .i64 0)).set 1 (.slice none 0 0)
          have r0 := hF.cell 0
          have r1 := hF.cell 1
          simp only [List.set_cons_zero, List.set_cons_succ, List.getElem?_cons_zero, List.getElem?_cons_succ] at r0 r1
          exact bodyPost_ret (v := .tuple #[.agg #[.int .i64 0, .slice none 0 0], .int .i64 20]) (by simp [results, Tryd.results27, go_sem, r0, r1]) rfl (by show GrE w (M : Int) (newO (M : Int) E) _ _; rw [HF.out]; exact ⟨rfl, (HBF.out.setCell (by simp; try omega) _).setCell (by simp; try omega) _⟩)
        have k2 : decide ((M : Int) ≤ x0) = false := decide_eq_false g2
        by_cases g3 : (M : Int) ≤ x1
        · have k3 : decide ((M : Int) ≤ x1) = true := decide_eq_true g3
          have HF := Lib.hid (HBAD.out (fun h => by have := h.1; have := h.2.1; have := h.2.2.1; have := h.2.2.2.1; omega))
          have yR := OBX.out.lt; have fR := OBX.out.frozen; have qR := OBX.out.cell
          go_wp2
          have hF := (OBX.out.set 0 (.int .i64 0)).set 1 (.slice none 0 0)
          have r0 := hF.cell 0
          have r1 := hF.cell 1
          simp only [List.set_cons_zero, List.set_cons_succ, List.getElem?_cons_zero, List.getElem?_cons_succ] at r0 r1
          exact bodyPost_ret (v := .tuple #[.agg #[.int .i64 0, .slice none 0 0], .int .i64 20]) (by simp [results, Tryd.results27, go_sem, r0, r1]) rfl (by show GrE w (M : Int) (newO (M : Int) E) _ _; rw [HF.out]; exact ⟨rfl, (HBF.out.setCell (by simp; try omega) _).setCell (by simp; try omega) _⟩)
        have k3 : decide ((M : Int) ≤ x1) = false := decide_eq_false g3
        by_cases g4 : x0 = x1
        · have k4 : (x0 == x1) = true := beq_iff_eq.2 g4
          have HF := Lib.hid (HBAD.out (fun h => h.2.2.2.2.1 g4))
          clear g4
          have yR := OBX.out.lt; have fR := OBX.out.frozen; have qR := OBX.out.cell
          go_wp2
          have hF := (OBX.out.set 0 (.int .i64 0)).set 1 (.slice none 0 0)
          have r0 := hF.cell 0
          have r1 := hF.cell 1
          simp only [List.set_cons_zero, List.set_cons_succ, List.getElem?_cons_zero, List.getElem?_cons_succ] at r0 r1
          exact bodyPost_ret (v := .tuple #[.agg #[.int .i64 0, .slice none 0 0], .int .i64 20]) (by simp [results, Tryd.results27, go_sem, r0, r1]) rfl (by show GrE w (M : Int) (newO (M : Int) E) _ _; rw [HF.out]; exact ⟨rfl, (HBF.out.setCell (by simp; try omega) _).setCell (by simp; try omega) _⟩)
        have k4 : (x0 == x1) = false := beq_eq_false_iff_ne.2 g4
        obtain ⟨u, rfl⟩ : ∃ u : Nat, x0 = (u : Int) := ⟨x0.toNat, by omega⟩
        obtain ⟨v, rfl⟩ : ∃ v : Nat, x1 = (v : Int) := ⟨x1.toNat, by omega⟩
        have hu : u < M := by omega
        have hv : v < M := by omega
        have huv : u ≠ v := by omega
        obtain ⟨t1, t2, t3⟩ := place_in hu hv
        obtain ⟨s1, s2, s3⟩ := place_in hv hu
        have hc1 := cellsQ_at ((E.take k).map normE) hu hv
        have hc2 := cellsQ_at ((E.take k).map normE) hv hu
        have hset := cellsQ_set ((E.take k).map normE) hu hv
        obtain ⟨un, hun⟩ : ∃ t, t = u * M := ⟨_, rfl⟩
        obtain ⟨vn, hvn⟩ : ∃ t, t = v * M := ⟨_, rfl⟩
        have huI : (u : Int) * (M : Int) = (un : Int) := by rw [hun]; simp
        have hvI : (v : Int) * (M : Int) = (vn : Int) := by rw [hvn]; simp
        rw [← hun] at t1 t2 t3 hc1 hset
        rw [← hvn] at s1 s2 s3 hc2 hset
        rw [← HMM.out] at t1 s1
        have hne : ¬ un + v = vn + u := fun e => huv (by rw [e, s2] at t2; exact t2.symm)
        have hne2 : ¬ vn + u = un + v := fun e => hne e.symm
        have HSET := Lib.hid hset
        obtain ⟨p, hp⟩ : ∃ p, ((E.take k).map normE).contains (normE ((u : Int), (v : Int))) = p := ⟨_, rfl⟩
        obtain ⟨p2, hp2⟩ : ∃ p, ((E.take k).map normE).contains (normE ((v : Int), (u : Int))) = p := ⟨_, rfl⟩
        rw [hp] at hc1
        rw [hp2] at hc2
        have c5 : V.cell? ⟨W1.heap.size, un + v, none⟩ = some (.bool p) := (HOQ.out.cell _).trans hc1
        have c6 : V.cell? ⟨W1.heap.size, vn + u, none⟩ = some (.bool p2) := (HOQ.out.cell _).trans hc2
        have f5 := HOQ.out.frozen (un + v)
        have f6 := HOQ.out.frozen (vn + u)
        have z5 := HOQ.out.lt
        have HP := Lib.hid hp
        clear hun hvn hset hc1 hc2 t2 t3 s2 s3 hp hp2
        cases p with
        | true =>
          have HF := Lib.hid (HBAD.out (fun h => by have h := h.2.2.2.2.2; rw [HP.out] at h; cases h))
          have yR := OBX.out.lt; have fR := OBX.out.frozen; have qR := OBX.out.cell
          go_wp2
          have hF := (OBX.out.set 0 (.int .i64 0)).set 1 (.slice none 0 0)
          have r0 := hF.cell 0
          have r1 := hF.cell 1
          simp only [List.set_cons_zero, List.set_cons_succ, List.getElem?_cons_zero, List.getElem?_cons_succ] at r0 r1
          exact bodyPost_ret (v := .tuple #[.agg #[.int .i64 0, .slice none 0 0], .int .i64 20]) (by simp [results, Tryd.results27, go_sem, r0, r1]) rfl (by show GrE w (M : Int) (newO (M : Int) E) _ _; rw [HF.out]; exact ⟨rfl, (HBF.out.setCell (by simp; try omega) _).setCell (by simp; try omega) _⟩)
        | false =>
          have HG := Lib.hid (HGOOD.out ⟨by omega, by omega, by omega, by omega, by omega, HP.out⟩)
          have HOX := Lib.hid (show Own ((V.setCell ⟨W1.heap.size, un + v, none⟩ (.bool true)).setCell ⟨W1.heap.size, vn + u, none⟩ (.bool true)) W1.heap.size 4 (cellsQ M ((E.take (k + 1)).map normE)) from by
            have h := (HOQ.out.set (un + v) (.bool true)).set (vn + u) (.bool true)
            rw [HSET.out] at h
            rw [List.take_add_one, HX.out, List.map_append]
            exact h)
          have HBX := Lib.hid (show Below W1.heap.size W1 ((V.setCell ⟨W1.heap.size, un + v, none⟩ (.bool true)).setCell ⟨W1.heap.size, vn + u, none⟩ (.bool true)) from (HB2.out.setCell (p := ⟨W1.heap.size, un + v, none⟩) (Nat.le_refl _) _).setCell (p := ⟨W1.heap.size, vn + u, none⟩) (Nat.le_refl _) _)
          clear OBX HBF
          go_wp2
          refine ⟨⟨k + 1, by omega, by go_num, HG, HOX, HBX⟩, ?_⟩
          simp [intOf]; omega
    · obtain rfl : k = n := by omega
      have HOK := Lib.hid (show okN (M : Int) [] E = true from by rw [HS.out, okN_end (by have := HL.out; omega)])
      have HFIN := Lib.hid (show newO (M : Int) E = .ok (riseE (E.map normE)) from by rw [HNO.out, if_pos HOK.out])
      obtain ⟨hv1, hv2, _⟩ := okN_iff.1 HOK.out
      have HVS := Lib.hid (show ∀ e ∈ E.map normE, ValidE (M : Int) e from fun e he => by
        obtain ⟨x, hx, rfl⟩ := List.mem_map.1 he
        exact hv1 x hx)
      have HND := Lib.hid hv2
      rw [List.take_of_length_le (by have := HL.out; omega)] at HO
      obtain ⟨S, hS⟩ : ∃ S, E.map normE = S := ⟨_, rfl⟩
      rw [hS] at HFIN HVS HND HO
      clear hv1 hv2 hS HS HNO
      go_wp2_with fail
      obtain ⟨G, hG⟩ : ∃ g, g = wr.heap.size := ⟨_, rfl⟩
      obtain ⟨W3, hW3⟩ : ∃ W, wr.alloc (.cells #[.int .i64 (M : Int), .slice none 0 0] 26) = W := ⟨_, rfl⟩
      have HG3 := Lib.hid (show Own W3 G 26 [.int .i64 (M : Int), .slice none 0 0] from by rw [← hW3]; exact Own.new' hG)
      have HWB := Lib.hid (show Below wr.heap.size wr W3 from by rw [← hW3]; exact alloc_below _ _)
      have HGW := Lib.hid (show wr.heap.size ≤ G from Nat.le_of_eq hG.symm)
      have HW3 := Lib.hid (show W3.heap.size = wr.heap.size + 1 from by rw [← hW3]; simp)
      have hs9 := HB.out.size
      rw [hW3, ← hG]
      have HOS := HO; have HBQ := HB
      clear hG HO HB
      obtain ⟨W2, hW2⟩ : ∃ W, W = wr := ⟨_, rfl⟩
      subst hW2
      go_loopw [11, 12] (fun i _ wr => ∃ (a : Nat) (v : Value) (L : List (Int × Int)), a ≤ M ∧ L.length ≤ 200 * a ∧ i = .int .i64 (a : Int) ∧ Hid (Own wr G 26 [.int .i64 (M : Int), v]) ∧ Hid (RowE W3.heap.size wr v L) ∧ Hid (ScanE S a 0 L) ∧ Hid (Below W2.heap.size W2 wr)) (fun i _ _ => M - (intOf i).toNat)
      case atStart => exact ⟨0, _, [], Nat.zero_le _, Nat.le_refl _, rfl, HG3, Lib.hid (.inl ⟨rfl, rfl⟩), Lib.hid (scan_start HVS.out), HWB⟩
      case round =>
        obtain ⟨a, v, L, haM', hLa, rfl, HG, HR, HS, HB⟩ := hrel
        by_cases haM : a < M
        · have HS0 := Lib.hid (scan_row HVS.out HS.out)
          go_wp2_with fail
          go_loopw [12] (fun j wr => ∃ (b : Nat) (v : Value) (L : List (Int × Int)), a + 1 ≤ b ∧ b ≤ M ∧ L.length ≤ 200 * a + b ∧ j = .int .i64 (b : Int) ∧ Hid (Own wr G 26 [.int .i64 (M : Int), v]) ∧ Hid (RowE W3.heap.size wr v L) ∧ Hid (ScanE S a b L) ∧ Hid (Below W2.heap.size W2 wr)) (fun j _ => M - (intOf j).toNat)
          case atStart => exact ⟨a + 1, v, L, Nat.le_refl _, by omega, by omega, by go_num, HG, HR, HS0, HB⟩
          case round =>
            clear HS0 HG HR HS HB hLa
            obtain ⟨b, v, L, hab, hbM', hLb, rfl, HG, HR, HS, HB⟩ := hrel
            by_cases hbM : b < M
            · obtain ⟨t1, t2, t3⟩ := place_in haM hbM
              have hc1 := cellsQ_at S haM hbM
              obtain ⟨an, han⟩ : ∃ t, t = a * M := ⟨_, rfl⟩
              have haI : (a : Int) * (M : Int) = (an : Int) := by rw [han]; simp
              rw [← han] at t1 hc1
              rw [← HMM.out] at t1
              have hnorm : normE ((a : Int), (b : Int)) = ((a : Int), (b : Int)) := by unfold normE; simp only [Prod.mk.injEq]; omega
              rw [hnorm] at hc1
              have HQ := Lib.hid (HOS.out.below' HB.out)
              obtain ⟨p, hp⟩ : ∃ p, S.contains ((a : Int), (b : Int)) = p := ⟨_, rfl⟩
              rw [hp] at hc1
              have c5 : wr.cell? ⟨W1.heap.size, an + b, none⟩ = some (.bool p) := (HQ.out.cell _).trans hc1
              have z5 := HQ.out.lt
              have HP := Lib.hid hp
              clear han hc1 t2 t3 hp hnorm
              cases p with
              | false =>
                have HN := Lib.hid (scan_no HS.out (by rw [← List.contains_iff_mem, HP.out]; simp))
                go_wp2
                go_roundw
                case rel => exact ⟨b + 1, v, L, by omega, by omega, by omega, by go_num, HG, HR, HN, HB⟩
                case measure => simp [intOf]; omega
              | true =>
                have HN := Lib.hid (scan_yes HS.out (List.contains_iff_mem.1 HP.out))
                have qG := HG.out.cell; have zG := HG.out.lt; have fG := HG.out.frozen
                have HV := Lib.hid (alloc_below wr (.cells #[.int .i64 (a : Int), .int .i64 (b : Int)] 49))
                have HE2 := Lib.hid (show Own (wr.alloc (.cells #[.int .i64 (a : Int), .int .i64 (b : Int)] 49)) wr.heap.size 49 (cellsE [((a : Int), (b : Int))]) from Own.new wr _ _)
                have HR1 := Lib.hid (HR.out.below HV.out)
                have HG1 := Lib.hid (HG.out.below' HV.out)
                have hs3 := HB.out.size
                have hs4 := HW3.out
                go_wp2_with (at_builtin; refine wpList_append_edges rfl (.tmp 113) (.tmp 117) rfl (some ⟨wr.heap.size, 0, none⟩) 1 1 (k := [((a : Int), (b : Int))]) rfl rfl HR1.out rfl HE2.out.rd (by omega) (by simp; omega) ?_)
                intro v' w' hr' hb' hq'
                have HG2 := Lib.hid (show Own w' G 26 [.int .i64 (M : Int), v] from (hq' G (by have h := HG1.out.lt; simp only [World.size_alloc] at h; omega) (by
                  rcases HR1.out with ⟨_, rfl⟩ | ⟨g1, cap, more, rfl, hg1, ho1, _⟩
                  · simp [Value.ownBlock]
                  · intro e
                    have e : some G = some g1 := e
                    injection e with e
                    subst e
                    exact HG1.out.ne ho1 (by decide) rfl)).trans HG1.out)
                obtain ⟨A9, n9, c9, rfl⟩ := rowE_slice hr'
                have HR2 := Lib.hid (show RowE W3.heap.size (w'.setCell ⟨G, 1, none⟩ (.slice A9 n9 c9)) (.slice A9 n9 c9) (L ++ [((a : Int), (b : Int))]) from (rowE_box1 hr' HG2.out (.slice A9 n9 c9)).base (by omega))
                have HG3 := Lib.hid (show Own (w'.setCell ⟨G, 1, none⟩ (.slice A9 n9 c9)) G 26 [.int .i64 (M : Int), .slice A9 n9 c9] from HG2.out.set 1 (.slice A9 n9 c9))
                have HB3 := Lib.hid ((((HB.out.trans (HV.out.mono hs3)).trans (hb'.mono (by omega))).setCell (p := ⟨G, 1, none⟩) HGW.out (.slice A9 n9 c9)))
                clear hq' hb' hr' qG zG fG HV HE2 HR1 HG1 HG HR HB
                have qG := HG2.out.cell; have zG := HG2.out.lt; have fG := HG2.out.frozen
                go_wp2
                refine ⟨⟨b + 1, _, L ++ [((a : Int), (b : Int))], by omega, by omega, by simp only [List.length_append, List.length_singleton]; omega, by go_num, HG3, HR2, HN, HB3⟩, ?_⟩
                simp [intOf]; omega
            · obtain rfl : b = M := by omega
              have HN := Lib.hid (scan_next HVS.out HS.out)
              go_wp2
              refine ⟨⟨a + 1, v, L, by omega, by omega, by go_num, HG, HR, HN, HB⟩, ?_⟩
              simp [intOf]; omega
        · obtain rfl : a = M := by omega
          obtain ⟨A9, n9, c9, rfl⟩ := rowE_slice HR.out
          have HEQ := Lib.hid (scan_all HVS.out HND.out HS.out)
          have OBX := Lib.hid (OB1.out.below' (below_chain HBQ.out HB.out))
          have HBF := Lib.hid (below_chain HBW.out (below_chain HBQ.out HB.out))
          have qG := HG.out.cell; have zG := HG.out.lt
          have yR := OBX.out.lt; have fR := OBX.out.frozen; have qR := OBX.out.cell
          have hsB := HB.out.size
          go_wp2
          have hF := (OBX.out.set 0 (.int .i64 (a : Int))).set 1 (.slice A9 n9 c9)
          have r0 := hF.cell 0
          have r1 := hF.cell 1
          simp only [List.set_cons_zero, List.set_cons_succ, List.getElem?_cons_zero, List.getElem?_cons_succ] at r0 r1
          exact bodyPost_ret (v := .tuple #[.agg #[.int .i64 (a : Int), .slice A9 n9 c9], .int .i64 0]) (by simp [results, Tryd.results27, go_sem, r0, r1]) rfl (by
            show GrE w (a : Int) (newO (a : Int) E) _ _
            rw [HFIN.out, ← HEQ.out]
            exact ⟨_, rfl, (rowE_box2 HR.out OBX.out _ _).base (by have := HW3.out; omega), (HBF.out.setCell (by simp; try omega) _).setCell (by simp; try omega) _⟩)
end Go.Proofs.YtljihclpgpmfeaaDoor
