/- Walk: fretworklaw02.GraphOwn. -/
import Derived.Test.YtljihclpgpmfeaaDoorGy
import Derived.Test.YtljihclpgpmfeaaDoorJk
import Derived.Test.YtljihclpgpmfeaaDoorGh
import Derived.Test.YtljihclpgpmfeaaDoorGg
import Derived.Test.YtljihclpgpmfeaaDoorPostL
import Derived.ArgAppend
import Derived.OwnWalkIn
namespace Go.Proofs.YtljihclpgpmfeaaDoor
set_option maxRecDepth 100000
open Go.RowKit
attribute [local go_sem] Oper.semAt_some

theorem RowE.low {B : Nat} {W : World} {v : Value} {l : List (Int × Int)} (h : RowE B W v l) {p : Addr} (hp : p.block < B) (u : Value) : RowE B (W.setCell p u) v l := by
  rcases h with h | ⟨g, cap, more, e, hgb, h1, h⟩
  · exact .inl h
  · exact .inr ⟨g, cap, more, e, hgb, h1.far (by omega) u, h⟩
/-- Edges of the call's own that are written over. -/
def Spoilt (B M : Nat) (W : World) (A : Option Addr) (n : Nat) : Prop := n = 0 ∨ ∃ g cs, A = some ⟨g, 0, none⟩ ∧ B ≤ g ∧ g < M ∧ Own W g 49 cs ∧ n * 2 ≤ cs.length
theorem RowsD.lower {B C gl : Nat} {V : World} {vs : List Value} {cs : List (List Int)} (h : RowsD B V gl vs cs) (hc : C ≤ B) : RowsD C V gl vs cs :=
  ⟨h.own, h.len, Nat.le_trans hc h.base, fun i u c hu hx => (h.row i u c hu hx).base hc, h.apart⟩
theorem RowsD.lows {B gl : Nat} {V : World} {vs : List Value} {cs : List (List Int)} (h : RowsD B V gl vs cs) : ∀ x ∈ vs, ∀ q, x.ownBlock = some q → q < V.heap.size := by
  intro x hx q hq
  obtain ⟨i, hi⟩ := List.mem_iff_getElem?.1 hx
  obtain ⟨d, hd⟩ : ∃ c, cs[i]? = some c := ⟨_, List.getElem?_eq_getElem (by rw [← h.len]; exact (List.getElem?_eq_some_iff.1 hi).1)⟩
  rcases (h.row i x d hi hd).home with e | ⟨g, xs, e, _, ho⟩
  · rw [e] at hq; cases hq
  · rw [e] at hq; injection hq with hq; subst hq; exact ho.lt
theorem RowsD.rows {B gl : Nat} {V : World} {vs : List Value} {cs : List (List Int)} (h : RowsD B V gl vs cs) : ∀ x ∈ vs, ∃ l, RowI B V x l := by
  intro x hx
  obtain ⟨i, hi⟩ := List.mem_iff_getElem?.1 hx
  obtain ⟨d, hd⟩ : ∃ c, cs[i]? = some c := ⟨_, List.getElem?_eq_getElem (by rw [← h.len]; exact (List.getElem?_eq_some_iff.1 hi).1)⟩
  exact ⟨d, h.row i x d hi hd⟩
/-- Rows of rows. -/
def Pst.rws (B K : Nat) (cs : List (List Int)) : Pst := Pst.mk' (fun v W => ∃ gl vs, v = .slice (some ⟨gl, 0, Option.none⟩) K K ∧ RowsD B W gl vs cs) (fun ⟨gl, vs, e, h⟩ hb => ⟨gl, vs, e, h.below hb⟩)
/-- Two rows of rows, the one older than the other. -/
def Lnk (B K : Nat) (cs : List (List Int)) (u v : Value) (W : World) : Prop := ∃ g1 v1 g2 v2 M, u = .slice (some ⟨g1, 0, none⟩) K K ∧ v = .slice (some ⟨g2, 0, none⟩) K K ∧ RowsD B W g1 v1 cs ∧ RowsD M W g2 v2 cs ∧ B ≤ M ∧ ∀ x ∈ v1, ∀ q, x.ownBlock = some q → q < M
theorem Lnk.mono {B K : Nat} {cs : List (List Int)} (u v : Value) (W W' : World) (h : Lnk B K cs u v W) (hb : Below W.heap.size W W') : Lnk B K cs u v W' := by
  obtain ⟨g1, v1, g2, v2, M, e1, e2, h1, h2, h3, h4⟩ := h
  exact ⟨g1, v1, g2, v2, M, e1, e2, h1.below hb, h2.below hb, h3, h4⟩
theorem blk_own {x : Value} (h : nilV x = false) : x.ownBlock = some (blk x) ∨ x.ownBlock = none := by
  cases x <;> first | (exact .inr rfl) | skip
  rename_i a n c
  cases a <;> first | (exact .inr rfl) | (exact .inl rfl)
theorem run_append_rows (ty : TypeId) {V : World} {g1 g2 K : Nat} {v1 v2 : List Value} (h1 : Own V g1 44 v1) (hl1 : v1.length = K) (h2 : Own V g2 44 v2) (hl2 : v2.length = K) (hK : K ≤ 1000) :
    ∃ g' cap more w', (Builtin.append_ #[42, 42] ty #[.slice (some ⟨g1, 0, none⟩) K K, .slice (some ⟨g2, 0, none⟩) K K]).run Tryd.prog V = .ok (.slice (some ⟨g', 0, none⟩) (K + K) cap) w' ∧ Own w' g' 44 ((v1 ++ v2) ++ more) ∧ Below V.heap.size V w' := by
  obtain ⟨i0, hi, hz0, hz1, hz2⟩ := info_parts infoS
  rcases Nat.eq_zero_or_pos K with h0 | h0
  · subst h0
    obtain rfl := List.eq_nil_of_length_eq_zero hl1
    obtain rfl := List.eq_nil_of_length_eq_zero hl2
    refine ⟨g1, 0, [], V, ?_, h1, Below.refl _ _⟩
    simp [Builtin.append_, run_underlying Tryd.underlying42, sizeOf, typeInfo, hi, Builtin.lenOf, Builtin.firstCells, storeCells, loadCells, loadCellsFrom]
  · obtain ⟨v', w', e, hown, hgr⟩ := run_append_arg_grows (P := Tryd.prog) V 42 ty 44 i0 (.slice none 0 0) 1 24 Tryd.underlying42 hi hz0 hz1 hz2 rfl (by decide) ⟨g1, 0, none⟩ K K v1 (by omega) (fun j u hj => h1.add hj) ⟨g2, 0, none⟩ K K v2 (by omega) (fun j u hj => h2.add hj) (by omega) (by unfold maxLen; omega) (by omega)
    have hv : v' ≠ .slice none 0 0 := by
      rintro rfl
      rcases hown.2 with ⟨_, h⟩ | ⟨g, cap, cur, e, _⟩
      · omega
      · cases e
    obtain ⟨g', cap', more', rfl, _, hO, _⟩ := row_own hown hv
    exact ⟨g', cap', more', w', e, hO, below_none hgr⟩
theorem wpListIn_append_rows {F : Fence} {nn : Nat} {a : Act} {ops : Array Oper} {rest : List Oper} {Q : Exit → Act → World → Prop} {o : Oper} {s y : Operand} {V : World} {g1 g2 K : Nat} {v1 v2 : List Value} (hgd : o.guard = none)
    (ho : o.op = .call { callee := .builtin .append, args := #[s, y], argTypes := #[42, 42] }) (hs : a.eval s = .slice (some ⟨g1, 0, none⟩) K K) (hy : a.eval y = .slice (some ⟨g2, 0, none⟩) K K) (h1 : Own V g1 44 v1) (hl1 : v1.length = K) (h2 : Own V g2 44 v2) (hl2 : v2.length = K) (hK : K ≤ 1000)
    (h : ∀ g' cap more w', Own w' g' 44 ((v1 ++ v2) ++ more) → Below V.heap.size V w' → wpListIn F nn Tryd.prog ops Q rest (a.put o.dst (.slice (some ⟨g', 0, none⟩) (K + K) cap)) w') : wpListIn F nn Tryd.prog ops Q (o :: rest) a V := by
  obtain ⟨g', cap, more, w', hrun, r1, r2⟩ := run_append_rows o.type h1 hl1 h2 hl2 hK
  refine wpListIn_plain hgd fun K hK' => ?_
  unfold Oper.wpIn
  refine ⟨?_, ?_⟩
  · simp [Oper.about, ho, resolve, Target.leads, Sem.run_pure]
  · rw [Oper.semAt_plain F _ _ (by rw [ho]; intro c hc'; cases hc')]
    simp [execOp, ho, resolve, invoke, builtin, hs, hy, hrun, Result.andThen]
    exact hK' _ _ (h _ _ _ _ r1 r2)
/-- Two rows of rows of unlike age share no block. -/
theorem Lnk.apart {B M g1 g2 : Nat} {W : World} {v1 v2 : List Value} {cs : List (List Int)} (d1 : RowsD B W g1 v1 cs) (d2 : RowsD M W g2 v2 cs) (hl : ∀ x ∈ v1, ∀ q, x.ownBlock = some q → q < M) : (v1 ++ v2).Pairwise ApartV := by
  have key : ∀ {B g : Nat} {v : List Value}, RowsD B W g v cs → v.Pairwise ApartV := by
    intro B g v d
    rw [List.pairwise_iff_getElem]
    intro i j hi hj hij n1 n2
    rcases d.apart i j _ _ (by omega) (List.getElem?_eq_getElem hi) (List.getElem?_eq_getElem hj) with h | h
    · rcases (d.row i _ _ (List.getElem?_eq_getElem hi) (List.getElem?_eq_getElem (by rw [← d.len]; exact hi))).shape with ⟨e, _⟩ | ⟨_, e, _⟩
      · rw [e] at n1; cases n1
      · rw [e] at h; cases h
    · intro e
      apply h
      rcases (d.row i _ _ (List.getElem?_eq_getElem hi) (List.getElem?_eq_getElem (by rw [← d.len]; exact hi))).shape with ⟨e1, _⟩ | ⟨_, e1, _⟩
      · rw [e1] at n1; cases n1
      rcases (d.row j _ _ (List.getElem?_eq_getElem hj) (List.getElem?_eq_getElem (by rw [← d.len]; exact hj))).shape with ⟨e2, _⟩ | ⟨_, e2, _⟩
      · rw [e2] at n2; cases n2
      rw [e1, e2]
      exact congrArg some e
  rw [List.pairwise_append]
  refine ⟨key d1, key d2, fun x hx y hy n1 n2 e => ?_⟩
  obtain ⟨l1, r1⟩ := d1.rows x hx
  obtain ⟨l2, r2⟩ := d2.rows y hy
  rcases r1.shape with ⟨e1, _⟩ | ⟨_, e1, _⟩
  · rw [e1] at n1; cases n1
  have h1 := hl x hx (blk x) (by rw [e1]; rfl)
  have h2 := (r2.bd n2).1
  omega
theorem RowE.spoil {B n : Nat} {W : World} {v : Value} {l : List (Int × Int)} (h : RowE B W v l) (hn : n = l.length) (hl : n ≤ 100000) : ∃ A c, v = .slice A n c ∧ ArgE W A n c l ∧ Spoilt B W.heap.size W A n := by
  subst hn
  rcases h with ⟨rfl, rfl⟩ | ⟨g, cap, more, rfl, hg, ho, h1, h2, h3⟩
  · exact ⟨none, 0, rfl, ⟨Rd.nil, rfl, by decide, Nat.le_refl _⟩, .inl rfl⟩
  · refine ⟨some ⟨g, 0, none⟩, cap, rfl, ⟨rd_front ho, rfl, by omega, h1⟩, .inr ⟨g, _, rfl, hg, ho.lt, ho, ?_⟩⟩
    rw [List.length_append, length_cellsE]; omega
theorem Spoilt.below {B M n : Nat} {W V : World} {A : Option Addr} (h : Spoilt B M W A n) (hb : Below W.heap.size W V) : Spoilt B M V A n := by
  rcases h with h | ⟨g, cs, e, hg, hm, ho, hl⟩
  · exact .inl h
  · exact .inr ⟨g, cs, e, hg, hm, ho.below' hb, hl⟩
def tblOw (N : Int) (A : Option Addr) (k : Nat) (c : Nat) (B : Nat) (K : Nat) (cs : List (List Int)) : List Pst := [Pst.val (.agg #[.int .i64 N, .slice A k c]), Pst.rws B K cs, Pst.val (.agg #[.int .i64 N, .slice A k c]), Pst.rws B K cs]
set_option maxRecDepth 100000 in
set_option maxHeartbeats 8000000 in
theorem graphOwn_true (N : Int) (A : Option Addr) (n c : Nat) (E : List (Int × Int)) (w : World) (h : ArgE w A n c E) (ht : TabW w.heap.size w) :
    Calls Tryd.prog 6 #[.agg #[.int .i64 N, .slice A n c]] w fun e w' => e = .returned (.bool true) ∧ Below w.heap.size w w' := by
  have HB0 := Lib.hid (alloc_below w (.cells #[.int .i64 N, .slice A n c] 26))
  have HA := Lib.hid (h.keep HB0.out)
  have G0 := Lib.hid (Own.new' (t := 26) (w := w) (vs := [.int .i64 N, .slice A n c]) rfl)
  have HL := Lib.hid h.len
  have HT := Lib.hid ht
  clear h ht
  have HR := Lib.hid (rightG_any N A n c E _ HA.out)
  obtain ⟨r, hr⟩ : ∃ r, rightG N E = r := ⟨_, rfl⟩
  have RG := Lib.hid hr
  rw [hr] at HR
  clear hr
  go_enter Tryd.func6, Tryd.ntmps6
  go_wp2_with fail
  refine HR.out.mono ?_
  rintro e w1 ⟨rfl, hb⟩
  have OG := Lib.hid (G0.out.below' hb)
  have HA1 := Lib.hid (HA.out.keep hb)
  have HB1 := Lib.hid (HB0.out.trans (hb.mono HB0.out.size))
  have g0 : w1.cell? ⟨w.heap.size, 0, none⟩ = some (.int .i64 N) := OG.out.cell 0
  have g1 : w1.cell? ⟨w.heap.size, 1, none⟩ = some (.slice A n c) := OG.out.cell 1
  have zg := OG.out.lt
  have hs1 := HB1.out.size
  have HAW := Lib.hid (awakeG_any w1 ((HT.out.on HB1.out).mono hs1))
  clear hb
  cases r with
  | false =>
    go_wp2_with fail
    refine HAW.out.mono ?_
    rintro e w2 ⟨rfl, hb⟩
    have HBf := Lib.hid (HB1.out.trans (hb.mono hs1))
    clear hb
    go_wp2
    go_ret
    exact ⟨rfl, HBf.out⟩
  | true =>
    by_cases h60 : 60 < N
    · have d60 : decide ((60 : Int) < N) = true := decide_eq_true h60
      clear h60
      go_wp2_with fail
      refine HAW.out.mono ?_
      rintro e w2 ⟨rfl, hb⟩
      have HBf := Lib.hid (HB1.out.trans (hb.mono hs1))
      clear hb
      go_wp2
      go_ret
      exact ⟨rfl, HBf.out⟩
    have d60 : decide ((60 : Int) < N) = false := decide_eq_false h60
    have HLE := Lib.hid (rightG_len RG.out)
    have HN := Lib.hid (show n ≤ 594 by have := HLE.out; have := HL.out; omega)
    have HC := Lib.hid (copyPairs_any A n c E w1 HA1.out (by have := HN.out; omega))
    clear h60
    go_wp2_with fail
    refine HC.out.mono ?_
    rintro e w2 ⟨v2, rfl, hr2, hb2⟩
    obtain ⟨A2, c2, rfl, ha2, hsp⟩ := hr2.spoil HL.out (by have := HN.out; omega)
    have HA2 := Lib.hid ha2
    have HS2 := Lib.hid hsp
    have OG2 := Lib.hid (OG.out.below' hb2)
    have HAi2 := Lib.hid (HA1.out.keep hb2)
    have HB2 := Lib.hid (HB1.out.trans (hb2.mono hs1))
    have HB12 := Lib.hid hb2
    have HNW := Lib.hid (newG_any N A2 n c2 E w2 HA2.out)
    rw [newO_self (rightG_iff.1 RG.out)] at HNW
    have hs2 := hb2.size
    clear hr2 ha2 hsp hb2 g0 g1 zg
    have g0 : w2.cell? ⟨w.heap.size, 0, none⟩ = some (.int .i64 N) := OG2.out.cell 0
    have g1 : w2.cell? ⟨w.heap.size, 1, none⟩ = some (.slice A n c) := OG2.out.cell 1
    have zg := OG2.out.lt
    go_wp2_with fail
    refine HNW.out.mono ?_
    rintro e w3 ⟨v3, rfl, hr3, hb3⟩
    obtain ⟨A3, c3, rfl, ha3⟩ : ∃ A c, v3 = .slice A n c ∧ ArgE w3 A n c E := by
      obtain ⟨A, c, e, ha⟩ := hr3.arg (by have := HLE.out; omega)
      rw [← HL.out] at e ha
      exact ⟨A, c, e, ha⟩
    have hs3 := hb3.size
    obtain ⟨OB, hOB⟩ : ∃ o, Obj.cells #[.int .i64 N, .slice A3 n c3] 26 = o := ⟨_, rfl⟩
    have HBo := Lib.hid (alloc_below w3 OB)
    have OH := Lib.hid (show Own (w3.alloc OB) w3.heap.size 26 [.int .i64 N, .slice A3 n c3] from by rw [← hOB]; exact Own.new w3 _ _)
    have HR3 := Lib.hid (hr3.below HBo.out)
    have HB23 := Lib.hid (hb3.trans (HBo.out.mono hb3.size))
    have HS3 := Lib.hid (HS2.out.below HB23.out)
    have HB13 := Lib.hid (HB12.out.trans (HB23.out.mono hs2))
    clear hr3 hb3 ha3
    go_wp2
    go_loopw [6, 28] (fun _ i wr => ∃ k : Nat, k ≤ n ∧ i = .int .i64 (k : Int) ∧ Hid (Spoilt w1.heap.size w2.heap.size wr A2 n) ∧ Hid (RowE w2.heap.size wr (.slice A3 n c3) E) ∧ Hid (Own wr w3.heap.size 26 [.int .i64 N, .slice A3 n c3]) ∧ Hid (Below w1.heap.size w1 wr)) (fun _ i _ => n - (intOf i).toNat)
    case atStart => exact ⟨0, Nat.zero_le _, rfl, HS3, HR3, OH, HB13⟩
    case round =>
      obtain ⟨k, hk, rfl, hS, hRh, hOh, hB⟩ := hrel
      have hn5 := HN.out
      by_cases hlt : k < n
      · rcases hS.out with h0 | ⟨g, cs, rfl, hg, hm, ho, hl⟩
        · omega
        have HO := Lib.hid ho
        obtain ⟨y0, hy0⟩ : ∃ y, cs[k * 2]? = some y := ⟨_, List.getElem?_eq_getElem (by omega)⟩
        obtain ⟨y1, hy1⟩ : ∃ y, cs[k * 2 + 1]? = some y := ⟨_, List.getElem?_eq_getElem (by omega)⟩
        have q0 : wr.cell? ⟨g, k * 2, none⟩ = some y0 := (ho.cell _).trans hy0
        have q1 : wr.cell? ⟨g, k * 2 + 1, none⟩ = some y1 := (ho.cell _).trans hy1
        have f0 := ho.frozen (k * 2)
        have f1 := ho.frozen (k * 2 + 1)
        have z0 := ho.lt
        have HF := Lib.hid (show Own ((wr.setCell ⟨g, k * 2, none⟩ (.int .i64 (-1))).setCell ⟨g, k * 2 + 1, none⟩ (.int .i64 (-1))) g 49 ((cs.set (k * 2) (.int .i64 (-1))).set (k * 2 + 1) (.int .i64 (-1))) from (ho.set _ _).set _ _)
        have HL2 := Lib.hid (show n * 2 ≤ ((cs.set (k * 2) (.int .i64 (-1))).set (k * 2 + 1) (.int .i64 (-1))).length from by rw [List.length_set, List.length_set]; exact hl)
        clear ho hl hy0 hy1
        go_wp2
        go_roundw
        case rel => exact ⟨k + 1, by omega, by go_num, Lib.hid (.inr ⟨g, _, rfl, hg, hm, HF.out, HL2.out⟩), Lib.hid ((hRh.out.low (p := ⟨g, k * 2, none⟩) hm _).low (p := ⟨g, k * 2 + 1, none⟩) hm _), Lib.hid ((hOh.out.far (p := ⟨g, k * 2, none⟩) (by simp; omega) _).far (p := ⟨g, k * 2 + 1, none⟩) (by simp; omega) _), Lib.hid ((hB.out.setCell (p := ⟨g, k * 2, none⟩) hg _).setCell (p := ⟨g, k * 2 + 1, none⟩) hg _)⟩
        case measure => simp [intOf]; omega
      · obtain rfl : k = n := by omega
        have HAr := Lib.hid (HA1.out.keep (hB.out.mono (Nat.le_refl _)))
        have OGr := Lib.hid (OG.out.below' hB.out)
        have HBr := Lib.hid (HB1.out.trans (hB.out.mono hs1))
        obtain ⟨hAh0, hAh1⟩ : (.slice A3 k c3 : Value) = .slice A3 k c3 ∧ ArgE wr A3 k c3 E := by
          obtain ⟨A, c, e, ha⟩ := hRh.out.arg (by have := HLE.out; omega)
          rw [← HL.out] at e ha
          injection e with e0 e1 e2
          subst e0; subst e2
          exact ⟨rfl, ha⟩
        have HSG := Lib.hid (sameGraph_any N N A A3 c c3 k k E E wr HAr.out hAh1)
        rw [show ((N == N) && (E == E)) = true by simp] at HSG
        have q1 := OGr.out.cell; have z1 := OGr.out.lt; have f1 := OGr.out.frozen
        have q2 := hOh.out.cell; have z2 := hOh.out.lt; have f2 := hOh.out.frozen
        clear hAh0 hAh1
        go_wp2_with fail
        refine HSG.out.mono ?_
        rintro e w4 ⟨rfl, hb⟩
        have OG4 := Lib.hid (OGr.out.below' hb)
        have HA4 := Lib.hid (HAr.out.keep hb)
        have HB4 := Lib.hid (HBr.out.trans (hb.mono HBr.out.size))
        have hs4 := HB4.out.size
        have HT4 := Lib.hid ((HT.out.on HB4.out).mono hs4)
        have HX := Lib.hid (show besideG N E = some (besideK N.toNat E) by unfold besideG; rw [RG.out]; rfl)
        clear hb q1 z1 f1 q2 z2 f2 HSG
        have CG := Lib.hid (fun V (hV : Below w4.heap.size w4 V) => OG4.out.below' hV)
        have AE := Lib.hid (fun V (hV : Below w4.heap.size w4 V) => HA4.out.keep hV)
        obtain ⟨cs, hcs⟩ : ∃ cs, besideK N.toNat E = cs := ⟨_, rfl⟩
        obtain ⟨K, hK⟩ : ∃ K, cs.length = K := ⟨_, rfl⟩
        have HK := Lib.hid hK
        have HK2 := Lib.hid (show K ≤ 200 from by
          rw [← hK, ← hcs, besideK_len]
          have := (rightG_iff.1 RG.out).n1
          omega)
        rw [hcs] at HX
        clear hcs hK
        go_wp2_with fail
        refine wpIn_wide (n := 1) |>.1 (regionIn_postsL (i1 := 1) (i3 := 3) (Lk := Lnk w4.heap.size K cs) 4 (fun _ => trivial) (by kernel_rfl) (tblOw N A k c w4.heap.size K cs) (by kernel_rfl) (by kernel_rfl) (by decide) (by decide) (fun o ho => by cases ho; rfl) Lnk.mono ?_ ?_)
        · simp only [List.take_succ_cons, List.take_zero]
          · skip
            refine .yes (by decide) rfl (fun a W Q hB hO hD _ => ?_) ?_
            · have e1 : a.tmps.getD 1 undef = .pointer (some ⟨w.heap.size, 0, none⟩) := hO.slot 1 _ rfl rfl
              clear hO hD
              have hO := CG.out W hB
              have q := hO.cell
              have z := hO.lt
              gi_wp2
              exact ⟨_, rfl, Below.refl _ _, rfl⟩
            refine .yes (by decide) rfl (fun a W Q hB hO hD _ => ?_) ?_
            · have e44 : a.tmps.getD 44 undef = .agg #[.int .i64 N, .slice A k c] := hD 0 rfl
              clear hO hD
              have kb := beside_any N A k c E W (AE.out W hB)
              rw [HX.out] at kb
              simp only [BesideP, HK.out] at kb
              have KB := Lib.hid kb
              clear kb
              gi_wp2_with (refine ⟨trivial, ?_⟩; gi_at_call 19; refine (callsIn_wide.2 KB.out).mono ?_; rintro e W1 ⟨g1, v1, rfl, hD1, hb1⟩)
              exact ⟨_, rfl, hb1, g1, v1, rfl, hD1.lower hB.size⟩
            refine .yes (by decide) rfl (fun a W Q hB hO hD _ => ?_) ?_
            · have e1 : a.tmps.getD 1 undef = .pointer (some ⟨w.heap.size, 0, none⟩) := hO.slot 1 _ rfl rfl
              clear hO hD
              have hO := CG.out W hB
              have q := hO.cell
              have z := hO.lt
              gi_wp2
              exact ⟨_, rfl, Below.refl _ _, rfl⟩
            refine .lnk rfl rfl (fun a W Q hB hO hD => ?_) ?_
            · have e46 : a.tmps.getD 46 undef = .agg #[.int .i64 N, .slice A k c] := hD 2 rfl
              obtain ⟨g45, v45, e45, h45⟩ : ∃ gl vs, (a.tmps.getD 45 undef) = .slice (some ⟨gl, 0, none⟩) K K ∧ RowsD w4.heap.size W gl vs cs := hD 1 rfl
              clear hO hD
              have kb := beside_any N A k c E W (AE.out W hB)
              rw [HX.out] at kb
              simp only [BesideP, HK.out] at kb
              have KB := Lib.hid kb
              clear kb
              gi_wp2_with (refine ⟨trivial, ?_⟩; gi_at_call 19; refine (callsIn_wide.2 KB.out).mono ?_; rintro e W1 ⟨g1, v1, rfl, hD1, hb1⟩)
              exact ⟨_, rfl, hb1, ⟨g1, v1, rfl, hD1.lower hB.size⟩, g45, v45, g1, v1, W.heap.size, (show a.tmps[45]?.getD undef = _ from by rw [← Array.getD_eq_getD_getElem?]; exact e45), rfl, h45.below hb1, hD1, hB.size, h45.lows⟩
            exact .nil
        · intro f W5 hB5 _ hLk
          obtain ⟨ga, va, gc, vc, M, e1, e3, d1, d2, hM, hlo⟩ := hLk
          have D1 := Lib.hid d1; have D2 := Lib.hid d2
          have HAP := Lib.hid (Lnk.apart d1 d2 hlo)
          have HB5 := Lib.hid hB5
          have HM := Lib.hid hM
          have l1 : va.length = K := by rw [d1.len]; exact HK.out
          have l2 : vc.length = K := by rw [d2.len]; exact HK.out
          clear hB5 hlo d1 d2 hM
          simp only [List.take_succ_cons, List.take_zero, List.drop_succ_cons, List.drop_zero, putAll, Nat.zero_add, Nat.reduceAdd, Act.put, List.setIfInBounds_toArray, List.set_cons_zero, List.set_cons_succ, e1, e3]
          gi_wp2_with (gi_at_builtin; refine wpListIn_append_rows rfl rfl (show _ = Value.slice (some ⟨ga, 0, none⟩) K K from rfl) (show _ = Value.slice (some ⟨gc, 0, none⟩) K K from rfl) D1.out.own l1 D2.out.own l2 (by have := HK2.out; omega) ?_; intro g' cap more w6 hO6 hb6)
          have HRR : ∀ v ∈ va ++ vc, ∃ l, RowI w4.heap.size w6 v l := by
            intro v hv
            rcases List.mem_append.1 hv with h | h
            · obtain ⟨l, hr⟩ := D1.out.rows v h
              exact ⟨l, hr.below hb6⟩
            · obtain ⟨l, hr⟩ := D2.out.rows v h
              exact ⟨l, (hr.below hb6).base HM.out⟩
          have HB6 := Lib.hid (HB5.out.trans (hb6.mono HB5.out.size))
          have HAV := Lib.hid (apartVals_any g' (K + K) cap (va ++ vc) more w6 hO6 (by rw [List.length_append, l1, l2]) (by have := HK2.out; omega) (fun v hv => (HRR v hv).elim fun l h => ⟨l, h.base (Nat.zero_le _)⟩) HAP.out)
          have HRW := Lib.hid HRR
          clear HRR hO6 hb6 e1 e3
          gi_wp2_with (refine ⟨trivial, ?_⟩; gi_at_call 23; refine (callsIn_wide.2 HAV.out).mono ?_; rintro e w7 ⟨rfl, ho7⟩)
          have HB67 := Lib.hid (ho7.below (B := w4.heap.size) (by
            rintro b ⟨v, hv, hn, rfl⟩
            obtain ⟨l, hr⟩ := HRW.out v hv
            exact (hr.bd hn).1) HB6.out.size)
          have HB7 := Lib.hid (HB6.out.trans HB67.out)
          have HAW7 := Lib.hid (awakeG_any w7 ((HT4.out.on HB7.out).mono HB7.out.size))
          clear ho7 HAV
          gi_wp2_with (refine ⟨trivial, ?_⟩; gi_at_call 10; refine (callsIn_wide.2 HAW7.out).mono ?_; rintro e w8 ⟨rfl, hb8⟩)
          have HB8 := Lib.hid (HB4.out.trans ((HB7.out.trans (hb8.mono HB7.out.size)).mono hs4))
          clear hb8
          gi_wp2
          clear HK2 HAP D1 D2 CG AE HX HRW HB67 HAW7 HB5 HB6 HB7 HM
          go_wp2
          go_ret
          exact ⟨rfl, HB8.out⟩
end Go.Proofs.YtljihclpgpmfeaaDoor
