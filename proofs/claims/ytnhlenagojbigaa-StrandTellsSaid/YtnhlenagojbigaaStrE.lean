/- Walk: strand.Join, where it goes well. -/
import Derived.Test.YtnhlenagojbigaaStrD
namespace Go.Proofs.Ytnhlenagojbigaa
open Go.RowKit

/-- L bits f, and the bits g behind them. -/
def joinF (f : Nat → Bool) (L : Nat) (g : Nat → Bool) (i : Nat) : Bool := if i < L then f i else g (i - L)
/-- .. the first m bits of g alone. -/
def joinTo (f : Nat → Bool) (L : Nat) (g : Nat → Bool) (m i : Nat) : Bool := f i || (decide (L ≤ i ∧ i < L + m) && g (i - L))
theorem joinTo_zero (f : Nat → Bool) (L : Nat) (g : Nat → Bool) : joinTo f L g 0 = f := by
  funext i
  unfold joinTo
  have : ¬ (L ≤ i ∧ i < L + 0) := by omega
  rw [decide_eq_false this]; simp
theorem joinTo_all {f : Nat → Bool} {L : Nat} {g : Nat → Bool} {m : Nat} (hf : ∀ i, L ≤ i → f i = false) (hg : ∀ i, m ≤ i → g i = false) : joinTo f L g m = joinF f L g := by
  funext i
  unfold joinTo joinF
  by_cases h : i < L
  · have : ¬ (L ≤ i ∧ i < L + m) := by omega
    rw [decide_eq_false this]; simp [h]
  · rw [hf i (by omega), if_neg h]
    by_cases h2 : i < L + m
    · have : (L ≤ i ∧ i < L + m) := by omega
      simp [this]
    · rw [hg (i - L) (by omega)]; simp
/-- The first store: the high part of byte i of g. -/
theorem join_first (f : Nat → Bool) (L : Nat) (g : Nat → Bool) (i : Nat) :
    bits BinOp.or IntKind.u8 ((byteF (joinTo f L g (8 * i)) (L / 8 + i) : Nat) : Int) (((byteF g i : Nat) : Int) / 2 ^ (L % 8)) = ((byteF (joinTo f L g (8 * i + (8 - L % 8))) (L / 8 + i) : Nat) : Int) := by
  have e : ((byteF g i : Nat) : Int) / 2 ^ (L % 8) = ((byteF g i / 2 ^ (L % 8) : Nat) : Int) := by simp
  have hd : byteF g i / 2 ^ (L % 8) < 256 := Nat.lt_of_le_of_lt (Nat.div_le_self _ _) (byteF_lt g i)
  rw [e, u8_or_nat _ _ (byteF_lt _ _) hd]
  congr 1
  refine eq_byteF (Nat.or_lt_two_pow (n := 8) (byteF_lt _ _) hd) (fun t ht => ?_)
  rw [Nat.testBit_or, testBit_byteF, Nat.testBit_div_two_pow, testBit_byteF]
  unfold joinTo
  have e1 : 8 * (L / 8 + i) + (7 - t) = L + 8 * i + (7 - t) - L % 8 := by omega
  by_cases h : t + L % 8 < 8
  · have a1 : (L ≤ 8 * (L / 8 + i) + (7 - t) ∧ 8 * (L / 8 + i) + (7 - t) < L + (8 * i + (8 - L % 8))) := by omega
    have a2 : ¬ (L ≤ 8 * (L / 8 + i) + (7 - t) ∧ 8 * (L / 8 + i) + (7 - t) < L + 8 * i) := by omega
    have a3 : 8 * (L / 8 + i) + (7 - t) - L = 8 * i + (7 - (t + L % 8)) := by omega
    simp only [decide_eq_true a1, decide_eq_false a2, a3, h, ht, decide_true, Bool.true_and, Bool.false_and, Bool.or_false]
  · have a1 : (L ≤ 8 * (L / 8 + i) + (7 - t) ∧ 8 * (L / 8 + i) + (7 - t) < L + (8 * i + (8 - L % 8))) ↔ (L ≤ 8 * (L / 8 + i) + (7 - t) ∧ 8 * (L / 8 + i) + (7 - t) < L + 8 * i) := by omega
    simp only [a1, h, ht, decide_true, decide_false, Bool.true_and, Bool.false_and, Bool.or_false]
theorem join_first_far (f : Nat → Bool) (L : Nat) (g : Nat → Bool) (i j : Nat) (hj : j / 8 ≠ L / 8 + i) : joinTo f L g (8 * i + (8 - L % 8)) j = joinTo f L g (8 * i) j := by
  unfold joinTo
  have a1 : (L ≤ j ∧ j < L + (8 * i + (8 - L % 8))) ↔ (L ≤ j ∧ j < L + 8 * i) := by omega
  simp only [a1]
theorem rest_eq (g : Nat → Bool) (i u : Nat) : ((byteF g i : Nat) : Int) * 2 ^ (8 - u) % 256 = ((byteF g i * 2 ^ (8 - u) % 256 : Nat) : Int) := by simp
theorem testBit_rest (g : Nat → Bool) (i u t : Nat) : (byteF g i * 2 ^ (8 - u) % 256).testBit t = (decide (t < 8) && (decide (8 - u ≤ t) && (decide (t - (8 - u) < 8) && g (8 * i + (7 - (t - (8 - u))))))) := by
  rw [show 256 = 2 ^ 8 from rfl, Nat.testBit_mod_two_pow, Nat.testBit_mul_two_pow, testBit_byteF]
/-- The second store: the low part. -/
theorem join_second (f : Nat → Bool) (L : Nat) (g : Nat → Bool) (i : Nat) :
    bits BinOp.or IntKind.u8 ((byteF (joinTo f L g (8 * i + (8 - L % 8))) (L / 8 + i + 1) : Nat) : Int) ((byteF g i * 2 ^ (8 - L % 8) % 256 : Nat) : Int) = ((byteF (joinTo f L g (8 * (i + 1))) (L / 8 + i + 1) : Nat) : Int) := by
  have hd : byteF g i * 2 ^ (8 - L % 8) % 256 < 256 := Nat.mod_lt _ (by omega)
  rw [u8_or_nat _ _ (byteF_lt _ _) hd]
  congr 1
  refine eq_byteF (Nat.or_lt_two_pow (n := 8) (byteF_lt _ _) hd) (fun t ht => ?_)
  rw [Nat.testBit_or, testBit_byteF, testBit_rest]
  unfold joinTo
  by_cases h : 8 - L % 8 ≤ t
  · have a1 : (L ≤ 8 * (L / 8 + i + 1) + (7 - t) ∧ 8 * (L / 8 + i + 1) + (7 - t) < L + (8 * (i + 1))) := by omega
    have a2 : ¬ (L ≤ 8 * (L / 8 + i + 1) + (7 - t) ∧ 8 * (L / 8 + i + 1) + (7 - t) < L + (8 * i + (8 - L % 8))) := by omega
    have a3 : 8 * (L / 8 + i + 1) + (7 - t) - L = 8 * i + (7 - (t - (8 - L % 8))) := by omega
    have a4 : t - (8 - L % 8) < 8 := by omega
    simp only [decide_eq_true a1, decide_eq_false a2, a3, h, ht, a4, decide_true, Bool.true_and, Bool.false_and, Bool.or_false]
  · have a1 : (L ≤ 8 * (L / 8 + i + 1) + (7 - t) ∧ 8 * (L / 8 + i + 1) + (7 - t) < L + (8 * (i + 1))) ↔ (L ≤ 8 * (L / 8 + i + 1) + (7 - t) ∧ 8 * (L / 8 + i + 1) + (7 - t) < L + (8 * i + (8 - L % 8))) := by omega
    simp only [a1, h, ht, decide_true, decide_false, Bool.true_and, Bool.false_and, Bool.and_false, Bool.or_false]
theorem join_second_far (f : Nat → Bool) (L : Nat) (g : Nat → Bool) (i j : Nat) (hj : j / 8 ≠ L / 8 + i + 1) : joinTo f L g (8 * (i + 1)) j = joinTo f L g (8 * i + (8 - L % 8)) j := by
  unfold joinTo
  have a1 : (L ≤ j ∧ j < L + (8 * (i + 1))) ↔ (L ≤ j ∧ j < L + (8 * i + (8 - L % 8))) := by omega
  simp only [a1]
theorem join_rest_zero (f : Nat → Bool) (L : Nat) (g : Nat → Bool) (i : Nat) (h : byteF g i * 2 ^ (8 - L % 8) % 256 = 0) : joinTo f L g (8 * (i + 1)) = joinTo f L g (8 * i + (8 - L % 8)) := by
  funext j
  by_cases hj : j / 8 = L / 8 + i + 1
  · by_cases hj2 : j < L + 8 * (i + 1)
    · have ht := testBit_rest g i (L % 8) (7 - j % 8)
      rw [h, Nat.zero_testBit] at ht
      unfold joinTo
      have a1 : (L ≤ j ∧ j < L + (8 * (i + 1))) := by omega
      have a2 : ¬ (L ≤ j ∧ j < L + (8 * i + (8 - L % 8))) := by omega
      have e1 : 7 - j % 8 < 8 := by omega
      have e2 : 8 - L % 8 ≤ 7 - j % 8 := by omega
      have e3 : 7 - j % 8 - (8 - L % 8) < 8 := by omega
      have e4 : 8 * i + (7 - (7 - j % 8 - (8 - L % 8))) = j - L := by omega
      simp only [e1, e2, e3, e4, decide_true, Bool.true_and] at ht
      simp [← ht]
    · unfold joinTo
      have a1 : ¬ (L ≤ j ∧ j < L + (8 * (i + 1))) := by omega
      have a2 : ¬ (L ≤ j ∧ j < L + (8 * i + (8 - L % 8))) := by omega
      simp only [decide_eq_false a1, decide_eq_false a2]
  · exact join_second_far f L g i j hj
/-- Where the low part is not nought, there is a byte for it. -/
theorem join_room {L L' : Nat} {g : Nat → Bool} {i : Nat} (hg : ∀ i, L' ≤ i → g i = false) (h : ¬ byteF g i * 2 ^ (8 - L % 8) % 256 = 0) : L / 8 + i + 1 < (L + L' + 7) / 8 := by
  obtain ⟨t, ht⟩ := Nat.exists_testBit_of_ne_zero h
  rw [testBit_rest] at ht
  simp only [Bool.and_eq_true, decide_eq_true_eq] at ht
  obtain ⟨h1, h2, h3, h4⟩ := ht
  have : ¬ L' ≤ 8 * i + (7 - (t - (8 - L % 8))) := fun hle => by rw [hg _ hle] at h4; cases h4
  omega

set_option maxRecDepth 100000 in
set_option maxHeartbeats 4000000 in
theorem join_good (A A' : Option Addr) (n c n' c' : Nat) (L L' : Nat) (f f' : Nat → Bool) (w : World) (hr : Rd w A (cellsF f n)) (hs : RS L n f) (hr' : Rd w A' (cellsF f' n')) (hs' : RS L' n' f') (h : L + L' ≤ 4194304) :
    Calls Try.prog 18 #[.agg #[.slice A n c, .int .i64 L], .agg #[.slice A' n' c', .int .i64 L']] w (GoodS w (L + L') (joinF f L f')) := by
  have HS := Lib.hid hs; have HS' := Lib.hid hs'
  have h1 := hs.rightB; have h2 := hs'.rightB
  have hle := hs.le; have hle' := hs'.le
  have HF := Lib.hid (show ∀ i, 8 * n ≤ i → f i = false from fun i hi => hs.zero i (by have := hs.len; omega))
  have HF' := Lib.hid (show ∀ i, 8 * n' ≤ i → f' i = false from fun i hi => hs'.zero i (by have := hs'.len; omega))
  have hn : n ≤ 140737488351232 := by have := hs.len; omega
  have hn' : n' ≤ 140737488351232 := by have := hs'.len; omega
  have hL0 : -9223372036854775808 ≤ (L : Int) := by omega
  have hL1 : (L : Int) ≤ 9223372036854775807 := by omega
  have hL0' : -9223372036854775808 ≤ (L' : Int) := by omega
  have hL1' : (L' : Int) ≤ 9223372036854775807 := by omega
  have HR := Lib.hid hr; have HR' := Lib.hid hr'
  clear hr hr' hs hs'
  · skip
    go_enter Try.func18, Try.ntmps18
    go_wp2_with fail
    refine (right_any A n c L f _ (((HR.out.alloc _).alloc _).alloc _) HF.out hn hL0 hL1).mono ?_
    rintro e w1 ⟨rfl, hb1⟩
    have HR1 := ((((HR'.out.alloc _).alloc _).alloc _).below hb1)
    have hb := Lib.hid ((((((Below.refl w.heap.size w).alloc (by simp) _).alloc (by simp) _).alloc (by simp; omega) _).trans (hb1.mono (by simp; omega))))
    have hs := hb1.size
    have oA := Own.below' (((Own.new' (w := w) rfl).alloc _).alloc _) hb1
    have oB := Own.below' ((Own.new' (w := w.alloc _) rfl).alloc _) hb1
    have oC := Own.below' (Own.new' (w := (w.alloc _).alloc _) rfl) hb1
    simp only [World.size_alloc] at hs oA oB oC
    have qB := oB.cell; have qC := oC.cell; have fC := oC.frozen
    have HR2 := Lib.hid HR1; have OA := Lib.hid oA; have OB := Lib.hid oB; have OC := Lib.hid oC
    clear hb1 HR1 oA oB oC
    go_wp2_with fail
    refine (right_any A' n' c' L' f' _ HR2.out HF'.out hn' hL0' hL1').mono ?_
    rintro e w2 ⟨rfl, hb1⟩
    have hb2 := Lib.hid (below_chain hb.out hb1)
    have oA := OA.out.below' hb1; have oB := OB.out.below' hb1; have oC := OC.out.below' hb1
    have hs2 := hb1.size
    clear qB qC fC
    have qA := oA.cell; have qB := oB.cell; have qC := oC.cell; have fC := oC.frozen
    have OA2 := Lib.hid oA; have OB2 := Lib.hid oB; have OC2 := Lib.hid oC
    have HB1 := Lib.hid hb1
    clear oA oB oC hb1
    go_wp2_with fail
    refine (grown_any A n c L L' f _ (HR.out.below hb2.out) HF.out hle hle' (by have := HS.out.len; omega)).mono ?_
    rintro e w3 ⟨g, rfl, hg, hO, hb3⟩
    obtain ⟨k, hk⟩ : ∃ k, k = (L + L' + 7) / 8 := ⟨_, rfl⟩
    rw [← hk] at hO ⊢
    have HK := Lib.hid hk
    have hB3 := Lib.hid (below_chain hb2.out hb3)
    have oA := OA2.out.below' hb3; have oB := OB2.out.below' hb3; have oC := OC2.out.below' hb3
    have hs3 := hb3.size
    have hgl := hO.lt
    have z0 : w.heap.size < w3.heap.size := by omega
    have z1 : w.heap.size + 1 < w3.heap.size := by omega
    have z2 : w.heap.size + 1 + 1 < w3.heap.size := by omega
    clear qA qB qC fC hk hb3
    have qA := oA.cell
    have qB := oB.cell
    have OB3 := Lib.hid oB; have OC3 := Lib.hid oC; have HO := Lib.hid hO
    clear oA oB oC hO OA OB OC OA2 OB2 OC2 HB1 HR2 hb hb2
    go_wp2
    go_quiet (fail)
    go_wp2
    go_loopw [9, 10, 40] (fun _ _ v wr => ∃ i : Nat, i ≤ n' ∧ v = .int .i64 i ∧ Hid (Own wr g 5 (cellsF (joinTo f L f' (8 * i)) k)) ∧ Hid (Own wr (w.heap.size + 1) 24 [.slice A' n' c', .int .i64 L']) ∧ Hid (Own wr (w.heap.size + 1 + 1) 24 [.slice none 0 0, .int .i64 0]) ∧
         Hid (Own wr w3.heap.size 24 [.slice (some ⟨g, 0, none⟩) k k, .int .i64 ((L : Int) + L')]) ∧ Hid (Below w.heap.size w wr))
       (fun _ _ v _ => n' - (intOf v).toNat)
    case atStart => exact ⟨0, by omega, rfl, by rw [Nat.mul_zero, joinTo_zero]; exact (HO.out.alloc _).drewN _, (OB3.out.alloc _).drewN _, (OC3.out.alloc _).drewN _, Own.drewN (Own.new' rfl) _, below_drewN (hB3.out.alloc hB3.out.size _) _⟩
    case round =>
      obtain ⟨i, hi, rfl, HG, HB, HC, HS3, HW⟩ := hrel
      by_cases hlt : i < n'
      · obtain ⟨b, off, rfl, hbb, hcc⟩ := HR'.out (by rw [length_cellsF]; omega)
        have c1 : wr.cell? ⟨b, off + i, none⟩ = some (.int .u8 (byteF f' i : Nat)) := (HW.out.cell (p := ⟨b, off + i, none⟩) hbb).trans (hcc i _ (cellsF_at _ _ _ hlt))
        have qB := HB.out.cell
        have qS := HS3.out.cell
        have hLk : L / 8 + i < k := by have := HS'.out.len; have := HK.out; omega
        have g1 : wr.cell? ⟨g, L / 8 + i, none⟩ = some (.int .u8 (byteF (joinTo f L f' (8 * i)) (L / 8 + i) : Nat)) := (HG.out.cell _).trans (cellsF_at _ _ _ hLk)
        have gf := HG.out.frozen
        have J1 := Lib.hid (join_first f L f' i)
        have J2 := Lib.hid (join_second f L f' i)
        have JF1 := Lib.hid (join_first_far f L f' i)
        have JF2 := Lib.hid (join_second_far f L f' i)
        have JR := Lib.hid (rest_eq f' i (L % 8))
        clear hcc
        have S1 := Lib.hid (cellsF_set (f := joinTo f L f' (8 * i)) (g := joinTo f L f' (8 * i + (8 - L % 8))) (k := k) (q := L / 8 + i) rfl (fun j _ hj => JF1.out j hj))
        have S2 := Lib.hid (cellsF_set (f := joinTo f L f' (8 * i + (8 - L % 8))) (g := joinTo f L f' (8 * (i + 1))) (k := k) (q := L / 8 + i + 1) rfl (fun j _ hj => JF2.out j hj))
        have hgw : w.heap.size + 3 ≤ g := by omega
        by_cases hz : byteF f' i * 2 ^ (8 - L % 8) % 256 = 0
        · have hz' : (((byteF f' i : Nat) : Int) * 2 ^ (8 - L % 8) % 256 != 0) = false := by rw [JR.out, hz]; rfl
          have JZ := Lib.hid (join_rest_zero f L f' i hz)
          clear hz
          go_wp2
          refine region_tail 16 (by kernel_rfl) (by kernel_rfl) ?_
          simp only [List.take_succ_cons, List.take_zero, List.drop_succ_cons, List.drop_zero]
          repeat (refine still_step rfl rfl (fun K hK => ?_); go_wp2)
          refine wpStill_nil ?_
          go_wp2
          go_roundw
          case rel =>
            refine ⟨i + 1, by omega, by go_num, ?_, ?_, ?_, ?_, ?_⟩
            · rw [JZ.out, ← S1.out, ← J1.out]; exact (HG.out.set _ _).drew
            · exact (HB.out.far (by simp; omega) _).drew
            · exact (HC.out.far (by simp; omega) _).drew
            · exact (HS3.out.far (by simp; omega) _).drew
            · exact (HW.out.setCell (by simp; omega) _).drew
          case measure => simp [intOf]; omega
        · have hroom := join_room (L := L) HS'.out.zero hz
          have hz' : (((byteF f' i : Nat) : Int) * 2 ^ (8 - L % 8) % 256 != 0) = true := by rw [JR.out, bne_iff_ne]; omega
          have hL2 : L / 8 + i + 1 < k := by rw [HK.out]; exact hroom
          have g2 : wr.cell? ⟨g, L / 8 + i + 1, none⟩ = some (.int .u8 (byteF (joinTo f L f' (8 * i + (8 - L % 8))) (L / 8 + i + 1) : Nat)) := by
            rw [HG.out.cell, cellsF_at _ _ _ hL2]
            have := byteF_congr (f := joinTo f L f' (8 * i)) (g := joinTo f L f' (8 * i + (8 - L % 8))) (q := L / 8 + i + 1) (p := L / 8 + i + 1) (fun j hj => (JF1.out _ (by omega)).symm)
            rw [this]
          clear hz hroom
          go_wp2
          refine region_tail 16 (by kernel_rfl) (by kernel_rfl) ?_
          simp only [List.take_succ_cons, List.take_zero, List.drop_succ_cons, List.drop_zero]
          repeat (refine still_step rfl rfl (fun K hK => ?_); go_wp2)
          refine wpStill_nil ?_
          go_wp2
          go_roundw
          case rel =>
            refine ⟨i + 1, by omega, by go_num, ?_, ?_, ?_, ?_, ?_⟩
            · rw [← S2.out, ← J2.out, ← S1.out, ← J1.out, JR.out]; exact ((HG.out.set _ _).set _ _).drew
            · exact ((HB.out.far (by simp; omega) _).far (by simp; omega) _).drew
            · exact ((HC.out.far (by simp; omega) _).far (by simp; omega) _).drew
            · exact ((HS3.out.far (by simp; omega) _).far (by simp; omega) _).drew
            · exact ((HW.out.setCell (by simp; omega) _).setCell (by simp; omega) _).drew
          case measure => simp [intOf]; omega
      · obtain rfl : i = n' := by omega
        have JA := Lib.hid (joinTo_all (f := f) (L := L) (g := f') (m := 8 * i) (fun j hj => HS.out.zero j hj) (fun j hj => HS'.out.zero j (by have := HS'.out.len; omega)))
        have qS := HS3.out.cell; have qC := HC.out.cell; have fC := HC.out.frozen
        go_wp2
        have hF := (HC.out.set 0 (.slice (some ⟨g, 0, none⟩) k k)).set 1 (.int .i64 ((L : Int) + L'))
        have q0 := hF.cell 0
        have q1 := hF.cell 1
        simp only [List.set_cons_zero, List.set_cons_succ, List.getElem?_cons_zero, List.getElem?_cons_succ] at q0 q1
        refine bodyPost_ret (v := .tuple #[.agg #[.slice (some ⟨g, 0, none⟩) k k, .int .i64 ((L : Int) + L')], .int .i64 0]) (by simp [results, Try.results18, go_sem, q0, q1]) rfl ⟨g, ?_, by omega, ?_, ?_⟩
        · rw [← HK.out, Int.natCast_add]
        · rw [← HK.out, ← JA.out]
          exact (HG.out.far (by simp; omega) _).far (by simp; omega) _
        · exact (HW.out.setCell (by simp; omega) _).setCell (by simp; omega) _
end Go.Proofs.Ytnhlenagojbigaa
