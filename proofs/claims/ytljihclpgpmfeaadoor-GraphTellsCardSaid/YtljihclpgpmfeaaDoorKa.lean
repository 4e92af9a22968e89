/- Walks: graph.knot, graph.Read. -/
import Derived.Test.YtljihclpgpmfeaaDoorKn
import Derived.Test.YtljihclpgpmfeaaDoorUi
import Derived.Test.YtljihclpgpmfeaaDoorUa
namespace Go.Proofs.YtljihclpgpmfeaaDoor
set_option maxRecDepth 100000
open Go.RowKit

def KnV : Option (Nat × Nat) → Value
  | none => .tuple #[.int .i64 0, .int .i64 0, .bool false]
  | some (m, q) => .tuple #[.int .i64 (m : Int), .int .i64 (q : Int), .bool true]
set_option maxRecDepth 100000 in
set_option maxHeartbeats 4000000 in
theorem knotG_any (A : Option Addr) (n c L p G : Nat) (f : Nat → Bool) (w : World) (hr : Rd w A (cellsF f n)) (hs : RS L n f) (hp : p ≤ L) (hG : G ≤ 1000) :
    Calls Tryd.prog 39 #[.agg #[.slice A n c, .int .i64 L], .int .i64 p, .int .i64 G] w fun e w' => e = .returned (KnV (knotO f L p G)) ∧ Below w.heap.size w w' := by
  have HB0 := Lib.hid (alloc_below w (.cells #[.slice A n c, .int .i64 L] 63))
  have HG := Lib.hid (getKnot_any A n c L p f _ (hr.alloc (.cells #[.slice A n c, .int .i64 L] 63)) hs hp)
  have HO := Lib.hid (show knotO f L p G = knotZ f L p G (zerosF f p (min 64 (L - p))) from rfl)
  have hLb := hs.le
  obtain ⟨z, hz⟩ : ∃ z, zerosF f p (min 64 (L - p)) = z := ⟨_, rfl⟩
  rw [hz] at HG HO
  have wG : IntKind.u64.wrap (G : Int) = G := by rw [IntKind.wrap_u64]; omega
  clear hr hs hz
  go_enter Tryd.func39, Tryd.ntmps39
  go_wp2_with fail
  refine HG.out.mono ?_
  intro e w1 he
  rcases he with ⟨h1, rfl, hb⟩ | ⟨h1, h2, rfl, hb⟩ | ⟨h1, h2, rfl, hb⟩
  · have HX := Lib.hid (show knotO f L p G = none from HO.out.trans (by unfold knotZ; rw [if_pos h1]))
    have HB := Lib.hid (HB0.out.trans (hb.mono HB0.out.size))
    clear hb h1
    go_wp2
    go_ret3
    exact ⟨by rw [HX.out]; rfl, HB.out⟩
  · have HX := Lib.hid (show knotO f L p G = none from HO.out.trans (by unfold knotZ; rw [if_neg h1, if_pos h2]))
    have HB := Lib.hid (HB0.out.trans (hb.mono HB0.out.size))
    clear hb h1 h2
    go_wp2
    go_ret3
    exact ⟨by rw [HX.out]; rfl, HB.out⟩
  · have HX := Lib.hid (show knotO f L p G = if G < numF f (p + z) (z + 1) - 1 then none else some (numF f (p + z) (z + 1) - 1, p + 2 * z + 1) from HO.out.trans (by unfold knotZ; rw [if_neg h1, if_neg (by omega)]))
    have HB := Lib.hid (HB0.out.trans (hb.mono HB0.out.size))
    obtain ⟨M, hM⟩ : ∃ M, numF f (p + z) (z + 1) - 1 = M := ⟨_, rfl⟩
    obtain ⟨q, hq⟩ : ∃ q, p + 2 * z + 1 = q := ⟨_, rfl⟩
    rw [hM, hq] at HX ⊢
    clear hb h1 hM
    by_cases hGM : G < M
    · have HY := Lib.hid (HX.out.trans (if_pos hGM))
      have d1 : decide (G < M) = true := decide_eq_true hGM
      clear hGM h2 hq HX
      go_wp2
      go_ret3
      exact ⟨by rw [HY.out]; rfl, HB.out⟩
    · have HY := Lib.hid (HX.out.trans (if_neg hGM))
      have d1 : decide (G < M) = false := decide_eq_false hGM
      have wM : IntKind.i64.wrap (M : Int) = M := by rw [IntKind.wrap_i64]; omega
      clear HX
      go_wp2
      go_ret3
      exact ⟨by rw [HY.out]; rfl, HB.out⟩
def readX (f : Nat → Bool) (n : Nat) : Except Int (List (Int × Int)) := match readO f n with
  | none => .error 20
  | some x => .ok x.2
def readN (f : Nat → Bool) (n : Nat) : Int := ((readO f n).map Prod.fst).getD 0
theorem readX_none {f : Nat → Bool} {n : Nat} (h : readO f n = none) : readX f n = .error 20 := by unfold readX; rw [h]
theorem readX_some {f : Nat → Bool} {n : Nat} {N : Int} {E : List (Int × Int)} (h : readO f n = some (N, E)) : readX f n = .ok E ∧ readN f n = N := by unfold readX readN; rw [h]; exact ⟨rfl, rfl⟩
theorem readK_none1 {f : Nat → Bool} {L : Nat} (h : knotO f L 0 200 = none) : readK f L = none := by unfold readK; rw [h]; rfl
theorem readK_none2 {f : Nat → Bool} {L a p : Nat} (h : knotO f L 0 200 = some (a, p)) (h2 : knotO f L p 594 = none) : readK f L = none := by unfold readK; rw [h]; show (knotO f L p 594).bind _ = none; rw [h2]; rfl
theorem readK_go {f : Nat → Bool} {L a p b q : Nat} (h : knotO f L 0 200 = some (a, p)) (h2 : knotO f L p 594 = some (b, q)) : readK f L = (readE f L b q).bind fun y => if y.2 = L ∧ rightG (a : Int) y.1 = true then some ((a : Int), y.1) else none := by unfold readK; rw [h]; show (knotO f L p 594).bind _ = _; rw [h2]; rfl
theorem readE_none1 {f : Nat → Bool} {L m p : Nat} (h : knotO f L p 200 = none) : readE f L (m + 1) p = none := by unfold readE; rw [h]; rfl
theorem readE_none2 {f : Nat → Bool} {L m p a q : Nat} (h : knotO f L p 200 = some (a, q)) (h2 : knotO f L q 200 = none) : readE f L (m + 1) p = none := by unfold readE; rw [h]; show (knotO f L q 200).bind _ = none; rw [h2]; rfl
theorem readE_go {f : Nat → Bool} {L m p a q b r : Nat} (h : knotO f L p 200 = some (a, q)) (h2 : knotO f L q 200 = some (b, r)) : readE f L (m + 1) p = (readE f L m r).map fun y => (((a : Int), (b : Int)) :: y.1, y.2) := by show (knotO f L p 200).bind _ = _; rw [h]; show (knotO f L q 200).bind _ = _; rw [h2]; rfl
theorem knotO_le {f : Nat → Bool} {L p G m q : Nat} (hp : p ≤ L) (h : knotO f L p G = some (m, q)) : q ≤ L ∧ m ≤ G := ⟨(knotO_some hp h).2.2.1, (knotO_some hp h).2.2.2⟩
/-- What three values of a knot are. -/
theorem knV_parts (o : Option (Nat × Nat)) : ∃ (x q : Int) (b : Bool), KnV o = .tuple #[.int .i64 x, .int .i64 q, .bool b] := by
  cases o with
  | none => exact ⟨0, 0, false, rfl⟩
  | some a => exact ⟨_, _, true, rfl⟩
/-- Bytes that no strand has. -/
theorem unpack_bad (A : Option Addr) (n c : Nat) (f : Nat → Bool) (w : World) (hr : Rd w A (cellsF f n)) (hn : n ≤ 140737488351232) (h : ¬ (n ≤ 524289 ∧ 0 < n ∧ byteF f (n - 1) ≠ 0 ∧ unpackL f n ≤ 4194304)) :
    ∃ k : Int, k ≠ 0 ∧ Calls Tryd.prog 38 #[.slice A n c] w (BadS w k) := by
  by_cases h1 : n ≤ 524289
  · by_cases h2 : 0 < n ∧ byteF f (n - 1) ≠ 0
    · exact ⟨13, by decide, unpack_over A n c f w hr h1 h2.1 h2.2 (by
        refine Classical.byContradiction fun h3 => ?_
        exact h ⟨h1, h2.1, h2.2, by omega⟩)⟩
    · exact ⟨13, by decide, unpack_zero A n c f w hr h1 (fun h0 => Classical.byContradiction fun hz => h2 ⟨h0, hz⟩)⟩
  · exact ⟨3, by decide, unpack_long A n c w (by omega) hn⟩
def tblRd0 (gg : Nat) (ge : Nat) (m : Nat) (gb : Nat) (kb : Nat) (L : Nat) (x : Int) (q : Int) (b : Bool) (i : Nat) (p : Nat) : List Pst := [Pst.val (.pointer (some ⟨gg, 1, none⟩)), Pst.val (.slice (some ⟨ge, 0, none⟩) m m), Pst.val (.int .i64 (i : Nat)), Pst.val (.int .i64 0), Pst.val (.agg #[.slice (some ⟨gb, 0, none⟩) kb kb, .int .i64 (L : Nat)]), Pst.val (.int .i64 (p : Nat)), Pst.val (.tuple #[.int .i64 x, .int .i64 q, .bool b]), Pst.val (.tuple #[.int .i64 x, .int .i64 q, .bool b]), Pst.val (.int .i64 x), Pst.val (.int .i64 q), Pst.val (.bool b), Pst.val (.pointer (some ⟨ge, i * 2, none⟩)), Pst.val (.pointer (some ⟨ge, i * 2, none⟩)), Pst.none, Pst.val (.int .i64 q), Pst.val (.bool b)]
def tblRd1 (gg : Nat) (ge : Nat) (m : Nat) (gb : Nat) (kb : Nat) (L : Nat) (y : Int) (r : Int) (b2 : Bool) (i : Nat) (q0 : Nat) : List Pst := [Pst.val (.pointer (some ⟨gg, 1, none⟩)), Pst.val (.slice (some ⟨ge, 0, none⟩) m m), Pst.val (.int .i64 (i : Nat)), Pst.val (.int .i64 1), Pst.val (.agg #[.slice (some ⟨gb, 0, none⟩) kb kb, .int .i64 (L : Nat)]), Pst.val (.int .i64 (q0 : Nat)), Pst.val (.tuple #[.int .i64 y, .int .i64 r, .bool b2]), Pst.val (.tuple #[.int .i64 y, .int .i64 r, .bool b2]), Pst.val (.int .i64 y), Pst.val (.int .i64 r), Pst.val (.bool b2), Pst.val (.pointer (some ⟨ge, i * 2, none⟩)), Pst.val (.pointer (some ⟨ge, i * 2 + 1, none⟩)), Pst.none, Pst.val (.int .i64 r), Pst.val (.bool b2)]
set_option maxRecDepth 100000 in
set_option maxHeartbeats 16000000 in
theorem read_any (A : Option Addr) (n c : Nat) (f : Nat → Bool) (w : World) (hr : Rd w A (cellsF f n)) (hn : n ≤ 140737488351232) :
    Calls Tryd.prog 11 #[.slice A n c] w (GrE w (readN f n) (readX f n)) := by
  have O0 := Lib.hid (Own.new' (t := 26) (w := w) (vs := [.int .i64 0, .slice none 0 0]) rfl)
  have HB0 := Lib.hid (alloc_below w (.cells #[.int .i64 0, .slice none 0 0] 26))
  have HR := Lib.hid (hr.alloc (.cells #[.int .i64 0, .slice none 0 0] 26))
  clear hr
  by_cases hcond : n ≤ 524289 ∧ 0 < n ∧ byteF f (n - 1) ≠ 0 ∧ unpackL f n ≤ 4194304
  · have HRO0 := Lib.hid (show readO f n = readK (cutTo f (unpackL f n)) (unpackL f n) from if_pos hcond)
    have HU := Lib.hid (unpack_good A n c f _ HR.out hcond.1 hcond.2.1 hcond.2.2.1 hcond.2.2.2)
    have hrs := cutTo_RS (f := f) hcond.2.2.2
    obtain ⟨L, hL⟩ : ∃ L, unpackL f n = L := ⟨_, rfl⟩
    obtain ⟨g, hg⟩ : ∃ g, cutTo f L = g := ⟨_, rfl⟩
    rw [hL, hg] at HRO0 HU hrs
    obtain ⟨kb, hkb⟩ : ∃ k, (L + 7) / 8 = k := ⟨_, rfl⟩
    rw [hkb] at hrs
    have HU2 := HU.out
    unfold GoodS at HU2
    rw [hkb] at HU2
    have HU3 := Lib.hid HU2
    have HRS := Lib.hid hrs
    have hLb := hrs.le
    clear HU HU2 hrs hcond hL hg hkb hn
    go_enter Tryd.func11, Tryd.ntmps11
    go_wp2_with fail
    refine HU3.out.mono ?_
    rintro e w1 ⟨gb, rfl, hgb, hob, hb⟩
    have O1 := Lib.hid (O0.out.below' hb)
    have HB1 := Lib.hid (HB0.out.trans (hb.mono HB0.out.size))
    have HOB := Lib.hid hob
    have HGB := Lib.hid hgb
    have hz1 := hob.lt
    have OS := Lib.hid (Own.new' (t := 63) (w := w1) (vs := [.slice (some ⟨gb, 0, none⟩) kb kb, .int .i64 (L : Nat)]) rfl)
    have O2 := Lib.hid (O1.out.alloc (.cells #[.slice (some ⟨gb, 0, none⟩) kb kb, .int .i64 (L : Nat)] 63))
    have HB2 := Lib.hid (HB1.out.alloc HB1.out.size (.cells #[.slice (some ⟨gb, 0, none⟩) kb kb, .int .i64 (L : Nat)] 63))
    have RB2 := Lib.hid ((HOB.out.alloc (.cells #[.slice (some ⟨gb, 0, none⟩) kb kb, .int .i64 (L : Nat)] 63)).rd)
    have hs1 := HB1.out.size
    have HN1 := Lib.hid (knotG_any (some ⟨gb, 0, none⟩) kb kb L 0 200 g _ RB2.out HRS.out (Nat.zero_le _) (by decide))
    obtain ⟨o1, ho1⟩ : ∃ o, knotO g L 0 200 = o := ⟨_, rfl⟩
    rw [ho1] at HN1
    have K1 := Lib.hid ho1
    have qs := OS.out.cell; have zs := OS.out.lt
    clear hb hob ho1 hgb HR HU3
    go_wp2_with fail
    refine HN1.out.mono ?_
    rintro e w2 ⟨rfl, hb⟩
    have O3 := Lib.hid (O2.out.below' hb)
    have HB3 := Lib.hid (HB2.out.trans (hb.mono HB2.out.size))
    have OS3 := Lib.hid (OS.out.below' hb)
    have RB3 := Lib.hid ((HOB.out.alloc _).below' hb)
    have hs2 := hb.size
    have HSZ := Lib.hid (show w1.heap.size + 1 ≤ w2.heap.size from by simpa using hb.size)
    clear hb HN1 qs zs RB2
    cases o1 with
    | none =>
      have HXE := Lib.hid (readX_none (f := f) (n := n) (by rw [HRO0.out, readK_none1 K1.out]))
      have yR := O3.out.lt; have fR := O3.out.frozen; have qR := O3.out.cell
      unfold KnV
      go_wp2
      have hF := (O3.out.set 0 (.int .i64 0)).set 1 (.slice none 0 0)
      have r0 := hF.cell 0
      have r1 := hF.cell 1
      simp only [List.set_cons_zero, List.set_cons_succ, List.getElem?_cons_zero, List.getElem?_cons_succ] at r0 r1
      exact bodyPost_ret (v := .tuple #[.agg #[.int .i64 0, .slice none 0 0], .int .i64 20]) (by simp [results, Tryd.results11, go_sem, r0, r1]) rfl (by show GrE w (readN f n) (readX f n) _ _; rw [HXE.out]; exact ⟨rfl, (HB3.out.setCell (by simp; try omega) _).setCell (by simp; try omega) _⟩)
    | some a =>
      obtain ⟨nN, p1⟩ := a
      obtain ⟨hp1, hnN⟩ := knotO_le (Nat.zero_le _) K1.out
      have HN2 := Lib.hid (knotG_any (some ⟨gb, 0, none⟩) kb kb L p1 594 g _ RB3.out.rd HRS.out hp1 (by decide))
      obtain ⟨o2, ho2⟩ : ∃ o, knotO g L p1 594 = o := ⟨_, rfl⟩
      rw [ho2] at HN2
      have K2 := Lib.hid ho2
      have qs := OS3.out.cell; have zs := OS3.out.lt
      clear ho2
      unfold KnV
      go_wp2_with fail
      refine HN2.out.mono ?_
      rintro e w3 ⟨rfl, hb⟩
      have OR3 := Lib.hid (O3.out.below' hb)
      have HBE := Lib.hid (HB3.out.trans (hb.mono HB3.out.size))
      have OS4 := Lib.hid (OS3.out.below' hb)
      have RB4 := Lib.hid (RB3.out.below' hb)
      have HSZ3 := Lib.hid (show w1.heap.size + 1 ≤ w3.heap.size from Nat.le_trans HSZ.out hb.size)
      clear hb HN2 qs zs O3 HB3 OS3 RB3
      cases o2 with
      | none =>
        have HXE := Lib.hid (readX_none (f := f) (n := n) (by rw [HRO0.out, readK_none2 K1.out K2.out]))
        have yR := OR3.out.lt; have fR := OR3.out.frozen; have qR := OR3.out.cell
        unfold KnV
        go_wp2
        have hF := (OR3.out.set 0 (.int .i64 0)).set 1 (.slice none 0 0)
        have r0 := hF.cell 0
        have r1 := hF.cell 1
        simp only [List.set_cons_zero, List.set_cons_succ, List.getElem?_cons_zero, List.getElem?_cons_succ] at r0 r1
        exact bodyPost_ret (v := .tuple #[.agg #[.int .i64 0, .slice none 0 0], .int .i64 20]) (by simp [results, Tryd.results11, go_sem, r0, r1]) rfl (by show GrE w (readN f n) (readX f n) _ _; rw [HXE.out]; exact ⟨rfl, (HBE.out.setCell (by simp; try omega) _).setCell (by simp; try omega) _⟩)
      | some a =>
        obtain ⟨m, p2⟩ := a
        obtain ⟨hp2, hm⟩ := knotO_le hp1 K2.out
        have HRO := Lib.hid (show readO f n = (readE g L m p2).bind fun y => if y.2 = L ∧ rightG (nN : Int) y.1 = true then some ((nN : Int), y.1) else none from by rw [HRO0.out, readK_go K1.out K2.out])
        have hmk := mk_edges m m (Nat.le_refl _) (by omega) w3
        obtain ⟨GV, hGV⟩ : ∃ v : List Value, v = [.int .i64 (nN : Int), .slice (some ⟨w3.heap.size, 0, none⟩) m m] := ⟨_, rfl⟩
        have HZ := Lib.hid (show w.heap.size < w3.heap.size ∧ w1.heap.size < w3.heap.size ∧ gb < w3.heap.size from by have := HSZ3.out; have := HB1.out.size; have := O1.out.lt; omega)
        have CS := Lib.hid (fun V (hV : Below w3.heap.size w3 V) => (show Own V w1.heap.size 63 [.slice (some ⟨gb, 0, none⟩) kb kb, .int .i64 (L : Nat)] from OS4.out.below hV HZ.out.2.1))
        have RB := Lib.hid (fun V (hV : Below w3.heap.size w3 V) => (RB4.out.below hV HZ.out.2.2).rd)
        have HO0 := Lib.hid (show Own ((w3.alloc (.cells (cellsE (List.replicate m (0, 0))).toArray 49)).alloc (.cells #[.int .i64 (nN : Int), .slice (some ⟨w3.heap.size, 0, none⟩) m m] 26)) w3.heap.size 49 (cellsE (List.replicate m (0, 0))) from (Own.new' rfl).alloc _)
        have HG0 := Lib.hid (show Own ((w3.alloc (.cells (cellsE (List.replicate m (0, 0))).toArray 49)).alloc (.cells #[.int .i64 (nN : Int), .slice (some ⟨w3.heap.size, 0, none⟩) m m] 26)) (w3.heap.size + 1) 26 GV from by rw [hGV]; exact Own.new' (by simp))
        have HBB := Lib.hid (show Below w3.heap.size w3 ((w3.alloc (.cells (cellsE (List.replicate m (0, 0))).toArray 49)).alloc (.cells #[.int .i64 (nN : Int), .slice (some ⟨w3.heap.size, 0, none⟩) m m] 26)) from ((Below.refl w3.heap.size w3).alloc (Nat.le_refl _) _).alloc (by simp) _)
        have HGV := Lib.hid hGV
        have HP2 := Lib.hid hp2
        clear hGV OS4 RB4 HSZ3 HSZ O2 O1 OS HB2 HB1
        unfold KnV
        go_wp2_with fail
        go_loopw [3, 7, 8, 11, 12, 47] (fun _ s7 _ _ _ i wr => ∃ (k p : Nat) (Ek : List (Int × Int)), k ≤ m ∧ i = .int .i64 (k : Int) ∧ s7 = .int .i64 (p : Int) ∧ Hid (p ≤ L) ∧ Hid (Ek.length = k) ∧ Hid (readE g L m p2 = (readE g L (m - k) p).map fun y => (Ek ++ y.1, y.2)) ∧ Hid (Own wr w3.heap.size 49 (cellsE (Ek ++ List.replicate (m - k) (0, 0)))) ∧ Hid (Own wr (w3.heap.size + 1) 26 GV) ∧ Hid (Below w3.heap.size w3 wr)) (fun _ _ _ _ _ i _ => m - (intOf i).toNat)
        case atStart => exact ⟨0, p2, [], Nat.zero_le _, rfl, rfl, HP2, Lib.hid rfl, Lib.hid (by cases readE g L m p2 <;> rfl), HO0, HG0, HBB⟩
        case round =>
          obtain ⟨i, p, Ek, hi, rfl, rfl, HPL, HEK, HLN, HO, HG, HB⟩ := hrel
          have hp := HPL.out
          by_cases hlt : i < m
          · obtain ⟨j, hj⟩ : ∃ j, m - i = j + 1 := ⟨m - i - 1, by omega⟩
            have HJ := Lib.hid hj
            have HAT := Lib.hid (show (Ek ++ List.replicate (m - i) ((0 : Int), (0 : Int)))[i]? = some (0, 0) from by rw [hj, List.replicate_succ, List.getElem?_append_right (by rw [HEK.out]; exact Nat.le_refl _), HEK.out, Nat.sub_self]; rfl)
            obtain ⟨cs, hcs⟩ : ∃ c, cellsE (Ek ++ List.replicate (m - i) (0, 0)) = c := ⟨_, rfl⟩
            rw [hcs] at HO
            have HCS := Lib.hid hcs
            have HC0 := Lib.hid (show ∃ c, cs[i * 2]? = some c from ⟨_, by rw [← hcs]; exact (cellsE_at HAT.out).1⟩)
            clear hcs hj
            go_wp2
            refine wp_loop_rounds 3 ?_
            rw [rounds_succ]
            obtain ⟨o, ho⟩ : ∃ o, knotO g L p 200 = o := ⟨_, rfl⟩
            obtain ⟨x, q, b, hv⟩ := knV_parts o
            have CK := Lib.hid (fun V (hV : Below w3.heap.size w3 V) => (show Calls Tryd.prog 39 #[.agg #[.slice (some ⟨gb, 0, none⟩) kb kb, .int .i64 (L : Nat)], .int .i64 (p : Nat), .int .i64 200] V fun e w' => e = .returned (.tuple #[.int .i64 x, .int .i64 q, .bool b]) ∧ Below V.heap.size V w' from by
              have h := knotG_any (some ⟨gb, 0, none⟩) kb kb L p 200 g V (RB.out V hV) HRS.out hp (by decide)
              rw [ho, hv] at h
              exact h))
            have HKN := Lib.hid ho; have HV := Lib.hid hv
            clear ho hv
            go_wp2
            refine region_postsS [13] (fun k V => Own V w3.heap.size 49 (if k = 0 then cs else (cs.set (i * 2) (.int .i64 x))) ∧ Own V (w3.heap.size + 1) 26 GV ∧ Below w3.heap.size w3 V) (by kernel_rfl) (tblRd0 (w3.heap.size + 1) w3.heap.size m gb kb L x q b i p) (by kernel_rfl) (by kernel_rfl) ?_ ?_ ?_ (⟨by rw [if_pos rfl]; exact HO.out, HG.out, below_drewN HB.out 1⟩) ?_ ?_
            · rintro k V V' ⟨h1, h2, h3⟩ hb
              exact ⟨h1.below' hb, h2.below' hb, h3.trans (hb.mono h3.size)⟩
            · exact fun j v V V' h => postsS_val (tbl := (tblRd0 (w3.heap.size + 1) w3.heap.size m gb kb L x q b i p)) (by simp only [tblRd0, List.mem_cons, List.not_mem_nil, or_false, forall_eq_or_imp, forall_eq, pureP_val, pureP_none, and_self]) j v V V' h
            · intro s hs v W
              simp only [List.mem_cons, List.not_mem_nil, or_false] at hs
              rcases hs with rfl <;> exact trivial
            · skip
              refine .yes rfl rfl (fun a W Q k hR hM hO hD hN => ?_) ?_
              · have e10 : a.tmps.getD 10 undef = .pointer (some ⟨(w3.heap.size + 1), 0, none⟩) := hO.slot 10 _ rfl rfl
                clear hO hD hN
                go_wp2
                exact ⟨_, rfl, Below.refl _ _, rfl⟩
              refine .yes rfl rfl (fun a W Q k hR hM hO hD hN => ?_) ?_
              · have e54 : a.tmps.getD 54 undef = .pointer (some ⟨(w3.heap.size + 1), 1, none⟩) := hD 0 rfl
                clear hO hD hN
                obtain ⟨h1, h2, h3⟩ := hR
                have hc := (h2.cell 1).trans (show GV[1]? = some (.slice (some ⟨w3.heap.size, 0, none⟩) m m) from by rw [HGV.out]; rfl)
                have hz := h2.lt
                go_wp2
                exact ⟨_, rfl, Below.refl _ _, rfl⟩
              refine .yes rfl rfl (fun a W Q k hR hM hO hD hN => ?_) ?_
              · have e11 : a.tmps.getD 11 undef = .int .i64 (i : Nat) := hO.slot 11 _ rfl rfl
                clear hO hD hN
                go_wp2
                exact ⟨_, rfl, Below.refl _ _, rfl⟩
              refine .yes rfl rfl (fun a W Q k hR hM hO hD hN => ?_) ?_
              · have e12 : a.tmps.getD 12 undef = .int .i64 0 := hO.slot 12 _ rfl rfl
                clear hO hD hN
                go_wp2
                exact ⟨_, rfl, Below.refl _ _, rfl⟩
              refine .yes rfl rfl (fun a W Q k hR hM hO hD hN => ?_) ?_
              · have e4 : a.tmps.getD 4 undef = .pointer (some ⟨w1.heap.size, 0, none⟩) := hO.slot 4 _ rfl rfl
                clear hO hD hN
                obtain ⟨h1, h2, h3⟩ := hR
                have ho := CS.out W h3
                have hc := ho.cell
                have hz := ho.lt
                go_wp2
                exact ⟨_, rfl, Below.refl _ _, rfl⟩
              refine .yes rfl rfl (fun a W Q k hR hM hO hD hN => ?_) ?_
              · have e7 : a.tmps.getD 7 undef = .int .i64 (p : Nat) := (hN 14 7 _ rfl rfl rfl).trans rfl
                clear hO hD hN
                go_wp2
                exact ⟨_, rfl, Below.refl _ _, rfl⟩
              refine .yes rfl rfl (fun a W Q k hR hM hO hD hN => ?_) ?_
              · have e58 : a.tmps.getD 58 undef = .agg #[.slice (some ⟨gb, 0, none⟩) kb kb, .int .i64 (L : Nat)] := hD 4 rfl
                have e59 : a.tmps.getD 59 undef = .int .i64 (p : Nat) := hD 5 rfl
                clear hO hD hN
                obtain ⟨h1, h2, h3⟩ := hR
                have hk := CK.out W h3
                clear h1 h2 h3
                go_wp2_with fail
                refine hk.mono ?_
                rintro e w' ⟨rfl, hbc⟩
                go_wp2
                exact ⟨_, rfl, hbc, rfl⟩
              refine .yes rfl rfl (fun a W Q k hR hM hO hD hN => ?_) ?_
              · have e60 : a.tmps.getD 60 undef = .tuple #[.int .i64 x, .int .i64 q, .bool b] := hD 6 rfl
                clear hO hD hN
                go_wp2
                exact ⟨_, rfl, Below.refl _ _, rfl⟩
              refine .yes rfl rfl (fun a W Q k hR hM hO hD hN => ?_) ?_
              · have e53 : a.tmps.getD 53 undef = .tuple #[.int .i64 x, .int .i64 q, .bool b] := hD 7 rfl
                clear hO hD hN
                go_wp2
                exact ⟨_, rfl, Below.refl _ _, rfl⟩
              refine .yes rfl rfl (fun a W Q k hR hM hO hD hN => ?_) ?_
              · have e53 : a.tmps.getD 53 undef = .tuple #[.int .i64 x, .int .i64 q, .bool b] := hD 7 rfl
                clear hO hD hN
                go_wp2
                exact ⟨_, rfl, Below.refl _ _, rfl⟩
              refine .yes rfl rfl (fun a W Q k hR hM hO hD hN => ?_) ?_
              · have e53 : a.tmps.getD 53 undef = .tuple #[.int .i64 x, .int .i64 q, .bool b] := hD 7 rfl
                clear hO hD hN
                go_wp2
                exact ⟨_, rfl, Below.refl _ _, rfl⟩
              refine .yes rfl rfl (fun a W Q k hR hM hO hD hN => ?_) ?_
              · have e55 : a.tmps.getD 55 undef = .slice (some ⟨w3.heap.size, 0, none⟩) m m := hD 1 rfl
                have e56 : a.tmps.getD 56 undef = .int .i64 (i : Nat) := hD 2 rfl
                clear hO hD hN
                go_wp2
                exact ⟨_, rfl, Below.refl _ _, rfl⟩
              refine .yes rfl rfl (fun a W Q k hR hM hO hD hN => ?_) ?_
              · have e64 : a.tmps.getD 64 undef = .pointer (some ⟨w3.heap.size, i * 2, none⟩) := hD 11 rfl
                have e57 : a.tmps.getD 57 undef = .int .i64 0 := hD 3 rfl
                clear hO hD hN
                go_wp2
                exact ⟨_, rfl, Below.refl _ _, rfl⟩
              refine .st 0 rfl rfl rfl (fun a W Q hR hO hD hN => ?_) ?_
              · have e65 : a.tmps.getD 65 undef = .pointer (some ⟨w3.heap.size, i * 2, none⟩) := hD 12 rfl
                have e61 : a.tmps.getD 61 undef = .int .i64 x := hD 8 rfl
                clear hO hD hN
                obtain ⟨h1, h2, h3⟩ := hR
                rw [if_pos rfl] at h1
                obtain ⟨c0, hc0⟩ := HC0.out
                have hc := (h1.cell (i * 2)).trans hc0
                have hz := h1.lt
                have hf := h1.frozen (i * 2)
                have HN1 := Lib.hid (show Own (W.setCell ⟨w3.heap.size, i * 2, none⟩ (.int .i64 x)) w3.heap.size 49 (cs.set (i * 2) (.int .i64 x)) from h1.set _ _)
                have HN2 := Lib.hid (h2.far (p := ⟨w3.heap.size, i * 2, none⟩) (by simp) (.int .i64 x))
                have HN3 := Lib.hid (h3.setCell (p := ⟨w3.heap.size, i * 2, none⟩) (Nat.le_refl _) (.int .i64 x))
                clear h1 h2 h3 hc0
                go_wp2
                exact ⟨HN1.out, HN2.out, HN3.out⟩
              refine .yes rfl rfl (fun a W Q k hR hM hO hD hN => ?_) ?_
              · have e62 : a.tmps.getD 62 undef = .int .i64 q := hD 9 rfl
                clear hO hD hN
                go_wp2
                exact ⟨_, rfl, Below.refl _ _, rfl⟩
              refine .yes rfl rfl (fun a W Q k hR hM hO hD hN => ?_) ?_
              · have e63 : a.tmps.getD 63 undef = .bool b := hD 10 rfl
                clear hO hD hN
                go_wp2
                exact ⟨_, rfl, Below.refl _ _, rfl⟩
              exact .nil
            · intro F V hR hK
              have e7 : F 14 = .int .i64 q := hK 14 (by decide)
              have e8 : F 15 = .bool b := hK 15 (by decide)
              obtain ⟨hO1, hG1, hB1⟩ := hR
              rw [show (if [13].length = 0 then cs else (cs.set (i * 2) (.int .i64 x))) = (cs.set (i * 2) (.int .i64 x)) from if_neg (by decide)] at hO1
              have HO1 := Lib.hid hO1; have HG1 := Lib.hid hG1; have HB1 := Lib.hid hB1
              clear hO1 hG1 hB1 hK
              simp only [putAll, Nat.zero_add, Nat.reduceAdd, Act.put, List.setIfInBounds_toArray, List.set_cons_zero, List.set_cons_succ, e7, e8]
              cases o with
              | none =>
                obtain ⟨rfl, rfl, rfl⟩ : x = 0 ∧ q = 0 ∧ b = false := by
                  have h := HV.out
                  unfold KnV at h
                  simp at h
                  exact ⟨h.1.symm, h.2.1.symm, h.2.2⟩
                have HXE := Lib.hid (readX_none (f := f) (n := n) (by rw [HRO.out, HLN.out, HJ.out, readE_none1 HKN.out]; rfl))
                have OR := Lib.hid (OR3.out.below HB1.out HZ.out.1)
                have HBF := Lib.hid (HBE.out.trans (HB1.out.mono (Nat.le_of_lt HZ.out.1)))
                have yR := OR.out.lt; have fR := OR.out.frozen; have qR := OR.out.cell
                go_wp2
                have hF := (OR.out.set 0 (.int .i64 0)).set 1 (.slice none 0 0)
                have r0 := hF.cell 0
                have r1 := hF.cell 1
                simp only [List.set_cons_zero, List.set_cons_succ, List.getElem?_cons_zero, List.getElem?_cons_succ] at r0 r1
                exact bodyPost_ret (v := .tuple #[.agg #[.int .i64 0, .slice none 0 0], .int .i64 20]) (by simp [results, Tryd.results11, go_sem, r0, r1]) rfl (by show GrE w (readN f n) (readX f n) _ _; rw [HXE.out]; exact ⟨rfl, (HBF.out.setCell (by simp; try omega) _).setCell (by simp; try omega) _⟩)
              | some z =>
                obtain ⟨x0, q0⟩ := z
                obtain ⟨rfl, rfl, rfl⟩ : x = (x0 : Int) ∧ q = (q0 : Int) ∧ b = true := by
                  have h := HV.out
                  unfold KnV at h
                  simp at h
                  exact ⟨h.1.symm, h.2.1.symm, h.2.2⟩
                obtain ⟨hq0, hx2⟩ := knotO_le hp HKN.out
                obtain ⟨cs1, hcs1⟩ : ∃ c, cs.set (i * 2) (.int .i64 (x0 : Int)) = c := ⟨_, rfl⟩
                rw [hcs1] at HO1
                have HCS1 := Lib.hid hcs1
                have HC2 := Lib.hid (show ∃ c, cs1[i * 2 + 1]? = some c from ⟨.int .i64 0, by rw [← hcs1, ← HCS.out, List.getElem?_set_ne (by omega)]; exact (cellsE_at HAT.out).2⟩)
                clear hcs1
                go_wp2
                rw [rounds_succ]
                obtain ⟨o2, ho2⟩ : ∃ o, knotO g L q0 200 = o := ⟨_, rfl⟩
                obtain ⟨y, r, b2, hv⟩ := knV_parts o2
                have CK2 := Lib.hid (fun V (hV : Below w3.heap.size w3 V) => (show Calls Tryd.prog 39 #[.agg #[.slice (some ⟨gb, 0, none⟩) kb kb, .int .i64 (L : Nat)], .int .i64 (q0 : Nat), .int .i64 200] V fun e w' => e = .returned (.tuple #[.int .i64 y, .int .i64 r, .bool b2]) ∧ Below V.heap.size V w' from by
                  have h := knotG_any (some ⟨gb, 0, none⟩) kb kb L q0 200 g V (RB.out V hV) HRS.out hq0 (by decide)
                  rw [ho2, hv] at h
                  exact h))
                have HKN2 := Lib.hid ho2; have HV2 := Lib.hid hv
                clear ho2 hv
                go_wp2
                refine region_postsS [13] (fun k V => Own V w3.heap.size 49 (if k = 0 then cs1 else (cs1.set (i * 2 + 1) (.int .i64 y))) ∧ Own V (w3.heap.size + 1) 26 GV ∧ Below w3.heap.size w3 V) (by kernel_rfl) (tblRd1 (w3.heap.size + 1) w3.heap.size m gb kb L y r b2 i q0) (by kernel_rfl) (by kernel_rfl) ?_ ?_ ?_ (⟨by rw [if_pos rfl]; exact HO1.out, HG1.out, below_drewN HB1.out 1⟩) ?_ ?_
                · rintro k V V' ⟨h1, h2, h3⟩ hb
                  exact ⟨h1.below' hb, h2.below' hb, h3.trans (hb.mono h3.size)⟩
                · exact fun j v V V' h => postsS_val (tbl := (tblRd1 (w3.heap.size + 1) w3.heap.size m gb kb L y r b2 i q0)) (by simp only [tblRd1, List.mem_cons, List.not_mem_nil, or_false, forall_eq_or_imp, forall_eq, pureP_val, pureP_none, and_self]) j v V V' h
                · intro s hs v W
                  simp only [List.mem_cons, List.not_mem_nil, or_false] at hs
                  rcases hs with rfl <;> exact trivial
                · skip
                  refine .yes rfl rfl (fun a W Q k hR hM hO hD hN => ?_) ?_
                  · have e10 : a.tmps.getD 10 undef = .pointer (some ⟨(w3.heap.size + 1), 0, none⟩) := hO.slot 10 _ rfl rfl
                    clear hO hD hN
                    go_wp2
                    exact ⟨_, rfl, Below.refl _ _, rfl⟩
                  refine .yes rfl rfl (fun a W Q k hR hM hO hD hN => ?_) ?_
                  · have e54 : a.tmps.getD 54 undef = .pointer (some ⟨(w3.heap.size + 1), 1, none⟩) := hD 0 rfl
                    clear hO hD hN
                    obtain ⟨h1, h2, h3⟩ := hR
                    have hc := (h2.cell 1).trans (show GV[1]? = some (.slice (some ⟨w3.heap.size, 0, none⟩) m m) from by rw [HGV.out]; rfl)
                    have hz := h2.lt
                    go_wp2
                    exact ⟨_, rfl, Below.refl _ _, rfl⟩
                  refine .yes rfl rfl (fun a W Q k hR hM hO hD hN => ?_) ?_
                  · have e11 : a.tmps.getD 11 undef = .int .i64 (i : Nat) := hO.slot 11 _ rfl rfl
                    clear hO hD hN
                    go_wp2
                    exact ⟨_, rfl, Below.refl _ _, rfl⟩
                  refine .yes rfl rfl (fun a W Q k hR hM hO hD hN => ?_) ?_
                  · have e12 : a.tmps.getD 12 undef = .int .i64 1 := hO.slot 12 _ rfl rfl
                    clear hO hD hN
                    go_wp2
                    exact ⟨_, rfl, Below.refl _ _, rfl⟩
                  refine .yes rfl rfl (fun a W Q k hR hM hO hD hN => ?_) ?_
                  · have e4 : a.tmps.getD 4 undef = .pointer (some ⟨w1.heap.size, 0, none⟩) := hO.slot 4 _ rfl rfl
                    clear hO hD hN
                    obtain ⟨h1, h2, h3⟩ := hR
                    have ho := CS.out W h3
                    have hc := ho.cell
                    have hz := ho.lt
                    go_wp2
                    exact ⟨_, rfl, Below.refl _ _, rfl⟩
                  refine .yes rfl rfl (fun a W Q k hR hM hO hD hN => ?_) ?_
                  · have e7 : a.tmps.getD 7 undef = .int .i64 (q0 : Nat) := (hN 14 7 _ rfl rfl rfl).trans rfl
                    clear hO hD hN
                    go_wp2
                    exact ⟨_, rfl, Below.refl _ _, rfl⟩
                  refine .yes rfl rfl (fun a W Q k hR hM hO hD hN => ?_) ?_
                  · have e58 : a.tmps.getD 58 undef = .agg #[.slice (some ⟨gb, 0, none⟩) kb kb, .int .i64 (L : Nat)] := hD 4 rfl
                    have e59 : a.tmps.getD 59 undef = .int .i64 (q0 : Nat) := hD 5 rfl
                    clear hO hD hN
                    obtain ⟨h1, h2, h3⟩ := hR
                    have hk := CK2.out W h3
                    clear h1 h2 h3
                    go_wp2_with fail
                    refine hk.mono ?_
                    rintro e w' ⟨rfl, hbc⟩
                    go_wp2
                    exact ⟨_, rfl, hbc, rfl⟩
                  refine .yes rfl rfl (fun a W Q k hR hM hO hD hN => ?_) ?_
                  · have e60 : a.tmps.getD 60 undef = .tuple #[.int .i64 y, .int .i64 r, .bool b2] := hD 6 rfl
                    clear hO hD hN
                    go_wp2
                    exact ⟨_, rfl, Below.refl _ _, rfl⟩
                  refine .yes rfl rfl (fun a W Q k hR hM hO hD hN => ?_) ?_
                  · have e53 : a.tmps.getD 53 undef = .tuple #[.int .i64 y, .int .i64 r, .bool b2] := hD 7 rfl
                    clear hO hD hN
                    go_wp2
                    exact ⟨_, rfl, Below.refl _ _, rfl⟩
                  refine .yes rfl rfl (fun a W Q k hR hM hO hD hN => ?_) ?_
                  · have e53 : a.tmps.getD 53 undef = .tuple #[.int .i64 y, .int .i64 r, .bool b2] := hD 7 rfl
                    clear hO hD hN
                    go_wp2
                    exact ⟨_, rfl, Below.refl _ _, rfl⟩
                  refine .yes rfl rfl (fun a W Q k hR hM hO hD hN => ?_) ?_
                  · have e53 : a.tmps.getD 53 undef = .tuple #[.int .i64 y, .int .i64 r, .bool b2] := hD 7 rfl
                    clear hO hD hN
                    go_wp2
                    exact ⟨_, rfl, Below.refl _ _, rfl⟩
                  refine .yes rfl rfl (fun a W Q k hR hM hO hD hN => ?_) ?_
                  · have e55 : a.tmps.getD 55 undef = .slice (some ⟨w3.heap.size, 0, none⟩) m m := hD 1 rfl
                    have e56 : a.tmps.getD 56 undef = .int .i64 (i : Nat) := hD 2 rfl
                    clear hO hD hN
                    go_wp2
                    exact ⟨_, rfl, Below.refl _ _, rfl⟩
                  refine .yes rfl rfl (fun a W Q k hR hM hO hD hN => ?_) ?_
                  · have e64 : a.tmps.getD 64 undef = .pointer (some ⟨w3.heap.size, i * 2, none⟩) := hD 11 rfl
                    have e57 : a.tmps.getD 57 undef = .int .i64 1 := hD 3 rfl
                    clear hO hD hN
                    go_wp2
                    exact ⟨_, rfl, Below.refl _ _, rfl⟩
                  refine .st 0 rfl rfl rfl (fun a W Q hR hO hD hN => ?_) ?_
                  · have e65 : a.tmps.getD 65 undef = .pointer (some ⟨w3.heap.size, i * 2 + 1, none⟩) := hD 12 rfl
                    have e61 : a.tmps.getD 61 undef = .int .i64 y := hD 8 rfl
                    clear hO hD hN
                    obtain ⟨h1, h2, h3⟩ := hR
                    rw [if_pos rfl] at h1
                    obtain ⟨c0, hc0⟩ := HC2.out
                    have hc := (h1.cell (i * 2 + 1)).trans hc0
                    have hz := h1.lt
                    have hf := h1.frozen (i * 2 + 1)
                    have HN1 := Lib.hid (show Own (W.setCell ⟨w3.heap.size, i * 2 + 1, none⟩ (.int .i64 y)) w3.heap.size 49 (cs1.set (i * 2 + 1) (.int .i64 y)) from h1.set _ _)
                    have HN2 := Lib.hid (h2.far (p := ⟨w3.heap.size, i * 2 + 1, none⟩) (by simp) (.int .i64 y))
                    have HN3 := Lib.hid (h3.setCell (p := ⟨w3.heap.size, i * 2 + 1, none⟩) (Nat.le_refl _) (.int .i64 y))
                    clear h1 h2 h3 hc0
                    go_wp2
                    exact ⟨HN1.out, HN2.out, HN3.out⟩
                  refine .yes rfl rfl (fun a W Q k hR hM hO hD hN => ?_) ?_
                  · have e62 : a.tmps.getD 62 undef = .int .i64 r := hD 9 rfl
                    clear hO hD hN
                    go_wp2
                    exact ⟨_, rfl, Below.refl _ _, rfl⟩
                  refine .yes rfl rfl (fun a W Q k hR hM hO hD hN => ?_) ?_
                  · have e63 : a.tmps.getD 63 undef = .bool b2 := hD 10 rfl
                    clear hO hD hN
                    go_wp2
                    exact ⟨_, rfl, Below.refl _ _, rfl⟩
                  exact .nil
                · intro F2 V2 hR hK
                  have e7 : F2 14 = .int .i64 r := hK 14 (by decide)
                  have e8 : F2 15 = .bool b2 := hK 15 (by decide)
                  obtain ⟨hO1, hG1, hB1⟩ := hR
                  rw [show (if [13].length = 0 then cs1 else (cs1.set (i * 2 + 1) (.int .i64 y))) = (cs1.set (i * 2 + 1) (.int .i64 y)) from if_neg (by decide)] at hO1
                  have HO2 := Lib.hid hO1; have HG2 := Lib.hid hG1; have HB2 := Lib.hid hB1
                  clear hO1 hG1 hB1 hK
                  simp only [putAll, Nat.zero_add, Nat.reduceAdd, Act.put, List.setIfInBounds_toArray, List.set_cons_zero, List.set_cons_succ, e7, e8]
                  cases o2 with
                  | none =>
                    obtain ⟨rfl, rfl, rfl⟩ : y = 0 ∧ r = 0 ∧ b2 = false := by
                      have h := HV2.out
                      unfold KnV at h
                      simp at h
                      exact ⟨h.1.symm, h.2.1.symm, h.2.2⟩
                    have HXE := Lib.hid (readX_none (f := f) (n := n) (by rw [HRO.out, HLN.out, HJ.out, readE_none2 HKN.out HKN2.out]; rfl))
                    have OR := Lib.hid (OR3.out.below HB2.out HZ.out.1)
                    have HBF := Lib.hid (HBE.out.trans (HB2.out.mono (Nat.le_of_lt HZ.out.1)))
                    have yR := OR.out.lt; have fR := OR.out.frozen; have qR := OR.out.cell
                    go_wp2
                    have hF := (OR.out.set 0 (.int .i64 0)).set 1 (.slice none 0 0)
                    have r0 := hF.cell 0
                    have r1 := hF.cell 1
                    simp only [List.set_cons_zero, List.set_cons_succ, List.getElem?_cons_zero, List.getElem?_cons_succ] at r0 r1
                    exact bodyPost_ret (v := .tuple #[.agg #[.int .i64 0, .slice none 0 0], .int .i64 20]) (by simp [results, Tryd.results11, go_sem, r0, r1]) rfl (by show GrE w (readN f n) (readX f n) _ _; rw [HXE.out]; exact ⟨rfl, (HBF.out.setCell (by simp; try omega) _).setCell (by simp; try omega) _⟩)
                  | some z =>
                    obtain ⟨y0, r0⟩ := z
                    obtain ⟨rfl, rfl, rfl⟩ : y = (y0 : Int) ∧ r = (r0 : Int) ∧ b2 = true := by
                      have h := HV2.out
                      unfold KnV at h
                      simp at h
                      exact ⟨h.1.symm, h.2.1.symm, h.2.2⟩
                    obtain ⟨hr0, hx2⟩ := knotO_le hq0 HKN2.out
                    have HLN2 := Lib.hid (show readE g L m p2 = (readE g L (m - (i + 1)) r0).map fun y => ((Ek ++ [((x0 : Int), (y0 : Int))]) ++ y.1, y.2) from by
                      rw [HLN.out, HJ.out, readE_go HKN.out HKN2.out, show m - (i + 1) = j by have := HJ.out; omega]
                      cases readE g L j r0 with
                      | none => rfl
                      | some y => simp)
                    have HOF := Lib.hid (show Own V2 w3.heap.size 49 (cellsE ((Ek ++ [((x0 : Int), (y0 : Int))]) ++ List.replicate (m - (i + 1)) (0, 0))) from by
                      have h := HO2.out
                      rw [← HCS1.out, ← HCS.out, HJ.out, List.replicate_succ] at h
                      have h2 := set_edgeT (x0 : Int) (y0 : Int) (List.replicate j (0, 0)) Ek
                      rw [HEK.out] at h2
                      rw [h2] at h
                      rw [show m - (i + 1) = j by have := HJ.out; omega, List.append_assoc]
                      exact h)
                    have HRL := Lib.hid hr0
                    go_wp2
                    rw [rounds_succ]
                    go_wp2
                    refine ⟨⟨i + 1, r0, Ek ++ [((x0 : Int), (y0 : Int))], by omega, by go_num, rfl, HRL, Lib.hid (by rw [List.length_append, HEK.out]; rfl), HLN2, HOF, HG2, HB2⟩, ?_⟩
                    simp [intOf]; omega
          · obtain rfl : i = m := by omega
            have HLF := Lib.hid (show readE g L i p2 = some (Ek, p) from by rw [HLN.out, Nat.sub_self]; show some (Ek ++ [], p) = _; rw [List.append_nil])
            have HOF := Lib.hid (show Own wr w3.heap.size 49 (cellsE Ek) from by have h := HO.out; rw [Nat.sub_self, List.replicate_zero, List.append_nil] at h; exact h)
            have OR := Lib.hid (OR3.out.below HB.out HZ.out.1)
            have HBF := Lib.hid (HBE.out.trans (HB.out.mono (Nat.le_of_lt HZ.out.1)))
            have OSr := CS.out wr HB.out
            have qs0 : wr.cell? ⟨w1.heap.size, 1, none⟩ = some (.int .i64 (L : Nat)) := OSr.cell 1
            have zs0 := OSr.lt
            have hG := HG.out
            rw [HGV.out] at hG
            have g0 : wr.cell? ⟨(w3.heap.size + 1), 0, none⟩ = some (.int .i64 (nN : Int)) := hG.cell 0
            have g1 : wr.cell? ⟨(w3.heap.size + 1), 1, none⟩ = some (.slice (some ⟨w3.heap.size, 0, none⟩) i i) := hG.cell 1
            have zg := hG.lt
            have HGr := Lib.hid hG
            clear OSr hG
            by_cases hpL : p = L
            · have dpL : ((p : Int) != (L : Int)) = false := by rw [hpL]; simp
              have HPE := Lib.hid hpL
              have HA := Lib.hid (show ArgE wr (some ⟨w3.heap.size, 0, none⟩) i i Ek from ⟨HOF.out.rd, HEK.out.symm, by omega, Nat.le_refl _⟩)
              clear hpL
              go_wp2_with fail
              refine (rightG_any (nN : Int) (some ⟨w3.heap.size, 0, none⟩) i i Ek wr HA.out).mono ?_
              rintro e w4 ⟨rfl, hb⟩
              have OR4 := Lib.hid (OR.out.below' hb)
              have HBF4 := Lib.hid (below_chain HBF.out hb)
              have HO4 := Lib.hid (HOF.out.below' hb)
              have HG4 := Lib.hid (HGr.out.below' hb)
              have hs4 := hb.size
              clear hb g0 g1 zg qs0 zs0
              cases hrt : rightG (nN : Int) Ek with
              | false =>
                have HXE := Lib.hid (readX_none (f := f) (n := n) (by rw [HRO.out, HLF.out]; exact if_neg (by rw [hrt]; simp)))
                have yR := OR4.out.lt; have fR := OR4.out.frozen; have qR := OR4.out.cell
                clear hrt
                go_wp2
                have hF := (OR4.out.set 0 (.int .i64 0)).set 1 (.slice none 0 0)
                have r0 := hF.cell 0
                have r1 := hF.cell 1
                simp only [List.set_cons_zero, List.set_cons_succ, List.getElem?_cons_zero, List.getElem?_cons_succ] at r0 r1
                exact bodyPost_ret (v := .tuple #[.agg #[.int .i64 0, .slice none 0 0], .int .i64 20]) (by simp [results, Tryd.results11, go_sem, r0, r1]) rfl (by show GrE w (readN f n) (readX f n) _ _; rw [HXE.out]; exact ⟨rfl, (HBF4.out.setCell (by simp; try omega) _).setCell (by simp; try omega) _⟩)
              | true =>
                obtain ⟨HXE, HNE⟩ := readX_some (f := f) (n := n) (N := (nN : Int)) (E := Ek) (by rw [HRO.out, HLF.out]; exact if_pos ⟨HPE.out, hrt⟩)
                have HXE := Lib.hid HXE; have HNE := Lib.hid HNE
                have yR := OR4.out.lt; have fR := OR4.out.frozen; have qR := OR4.out.cell
                have g0 : w4.cell? ⟨(w3.heap.size + 1), 0, none⟩ = some (.int .i64 (nN : Int)) := HG4.out.cell 0
                have g1 : w4.cell? ⟨(w3.heap.size + 1), 1, none⟩ = some (.slice (some ⟨w3.heap.size, 0, none⟩) i i) := HG4.out.cell 1
                have zg := HG4.out.lt
                clear hrt
                go_wp2
                have hF := (OR4.out.set 0 (.int .i64 (nN : Int))).set 1 (.slice (some ⟨w3.heap.size, 0, none⟩) i i)
                have r0 := hF.cell 0
                have r1 := hF.cell 1
                simp only [List.set_cons_zero, List.set_cons_succ, List.getElem?_cons_zero, List.getElem?_cons_succ] at r0 r1
                have h2 := rowE_box (B := w.heap.size) (v := .slice (some ⟨w3.heap.size, 0, none⟩) i i) (l := Ek) (by
                  have h := RowE.made (B := w.heap.size) HO4.out (Nat.le_of_lt HZ.out.1) (by rw [HEK.out]; omega)
                  rw [HEK.out] at h
                  exact h) OR4.out (.int .i64 (nN : Int)) (.slice (some ⟨w3.heap.size, 0, none⟩) i i)
                exact bodyPost_ret (v := .tuple #[.agg #[.int .i64 (nN : Int), .slice (some ⟨w3.heap.size, 0, none⟩) i i], .int .i64 0]) (by simp [results, Tryd.results11, go_sem, r0, r1]) rfl (by show GrE w (readN f n) (readX f n) _ _; rw [HXE.out, HNE.out]; exact ⟨_, rfl, h2, (HBF4.out.setCell (by simp; try omega) _).setCell (by simp; try omega) _⟩)
            · have dpL : ((p : Int) != (L : Int)) = true := by rw [bne_iff_ne]; omega
              have HXE := Lib.hid (readX_none (f := f) (n := n) (by rw [HRO.out, HLF.out]; exact if_neg (fun h => hpL h.1)))
              have yR := OR.out.lt; have fR := OR.out.frozen; have qR := OR.out.cell
              clear hpL
              go_wp2
              have hF := (OR.out.set 0 (.int .i64 0)).set 1 (.slice none 0 0)
              have r0 := hF.cell 0
              have r1 := hF.cell 1
              simp only [List.set_cons_zero, List.set_cons_succ, List.getElem?_cons_zero, List.getElem?_cons_succ] at r0 r1
              exact bodyPost_ret (v := .tuple #[.agg #[.int .i64 0, .slice none 0 0], .int .i64 20]) (by simp [results, Tryd.results11, go_sem, r0, r1]) rfl (by show GrE w (readN f n) (readX f n) _ _; rw [HXE.out]; exact ⟨rfl, (HBF.out.setCell (by simp; try omega) _).setCell (by simp; try omega) _⟩)
  · have HXE := Lib.hid (readX_none (f := f) (n := n) (if_neg hcond))
    obtain ⟨kk, hkk, hU⟩ := unpack_bad A n c f _ HR.out hn hcond
    have HU := Lib.hid hU
    have dk : (kk != 0) = true := by rw [bne_iff_ne]; exact hkk
    clear hU hkk hcond
    go_enter Tryd.func11, Tryd.ntmps11
    go_wp2_with fail
    refine HU.out.mono ?_
    rintro e w1 ⟨rfl, hb⟩
    have OR := Lib.hid ((O0.out.below' hb).alloc (.cells #[.slice none 0 0, .int .i64 0] 63))
    have hb1 := HB0.out.trans (hb.mono HB0.out.size)
    have HBF := Lib.hid (hb1.alloc hb1.size (.cells #[.slice none 0 0, .int .i64 0] 63))
    have yR := OR.out.lt; have fR := OR.out.frozen; have qR := OR.out.cell
    clear hb hb1
    go_wp2
    have hF := (OR.out.set 0 (.int .i64 0)).set 1 (.slice none 0 0)
    have r0 := hF.cell 0
    have r1 := hF.cell 1
    simp only [List.set_cons_zero, List.set_cons_succ, List.getElem?_cons_zero, List.getElem?_cons_succ] at r0 r1
    exact bodyPost_ret (v := .tuple #[.agg #[.int .i64 0, .slice none 0 0], .int .i64 20]) (by simp [results, Tryd.results11, go_sem, r0, r1]) rfl (by show GrE w (readN f n) (readX f n) _ _; rw [HXE.out]; exact ⟨rfl, (HBF.out.setCell (by simp; try omega) _).setCell (by simp; try omega) _⟩)
end Go.Proofs.YtljihclpgpmfeaaDoor
