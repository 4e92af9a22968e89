/- Bundle of texts: StrG StrI. -/
import Derived.Test.YtljihclpgpmfeaaDoorUb
/- Walk: strand.GetField. -/
namespace Go.Proofs.YtljihclpgpmfeaaDoor
set_option maxRecDepth 100000
open Go.RowKit

/-- An error: no number, no place. -/
def Bad3 (w : World) (k : Int) (e : Ending) (w' : World) : Prop := e = .returned (.tuple #[.int .u64 0, .int .i64 0, .int .i64 k]) ∧ Below w.heap.size w w'
/-- A number, the place behind it, and no error. -/
def Good3 (w : World) (m : Nat) (p : Int) (e : Ending) (w' : World) : Prop := e = .returned (.tuple #[.int .u64 m, .int .i64 p, .int .i64 0]) ∧ Below w.heap.size w w'

end Go.Proofs.YtljihclpgpmfeaaDoor
/- Walk: strand.GetKnot. -/
namespace Go.Proofs.YtljihclpgpmfeaaDoor
set_option maxRecDepth 100000
open Go.RowKit

/-- How many noughts stand from the place p on, of m places. -/
def zerosF (f : Nat → Bool) (p : Nat) : Nat → Nat
  | 0 => 0
  | m + 1 => if f p then 0 else 1 + zerosF f (p + 1) m
theorem zerosF_le (f : Nat → Bool) : ∀ (m p : Nat), zerosF f p m ≤ m
  | 0, p => by simp [zerosF]
  | m + 1, p => by
    have := zerosF_le f m (p + 1)
    unfold zerosF; split <;> omega
theorem zerosF_eq {f : Nat → Bool} : ∀ {m p i : Nat}, i ≤ m → (∀ j, j < i → f (p + j) = false) → (i = m ∨ f (p + i) = true) → zerosF f p m = i
  | 0, p, i, hi, _, _ => by simp [zerosF]; omega
  | m + 1, p, 0, _, _, h => by
    have h : f p = true := by simpa using h
    simp [zerosF, h]
  | m + 1, p, i + 1, hi, hz, h => by
    have h0 : f p = false := by simpa using hz 0 (by omega)
    have := zerosF_eq (f := f) (m := m) (p := p + 1) (i := i) (by omega) (fun j hj => by have := hz (j + 1) (by omega); rwa [Nat.add_assoc, Nat.add_comm 1 j]) (by
      rcases h with h | h
      · exact .inl (by omega)
      · exact .inr (by rwa [Nat.add_assoc, Nat.add_comm 1 i]))
    simp [zerosF, h0, this]; omega

theorem zerosF_stop (f : Nat → Bool) : ∀ (m p : Nat), zerosF f p m < m → f (p + zerosF f p m) = true
  | 0, p, h => by simp [zerosF] at h
  | m + 1, p, h => by
    unfold zerosF at h ⊢
    by_cases h0 : f p = true
    · simp [h0]
    · simp only [h0] at h ⊢
      have := zerosF_stop f m (p + 1) (by simp at h; omega)
      rw [Nat.add_assoc] at this
      exact this
theorem numF_pos {f : Nat → Bool} {p z : Nat} (h : f p = true) : 1 ≤ numF f p (z + 1) := by
  have ht := testBit_numF f p (z + 1) z
  simp only [Nat.add_sub_cancel, Nat.sub_self, Nat.add_zero, h, Bool.and_true, Nat.lt_succ_self, decide_true] at ht
  rcases Nat.eq_zero_or_pos (numF f p (z + 1)) with h0 | h0
  · rw [h0] at ht; simp at ht
  · exact h0
set_option maxRecDepth 100000 in
set_option maxHeartbeats 2000000 in
theorem getKnot_bits (A : Option Addr) (n c : Nat) (L p : Int) (f : Nat → Bool) (w : World) (hr : Rd w A (cellsF f n)) (hf : ∀ i, 8 * n ≤ i → f i = false) (hn : n ≤ 140737488351232) (hL0 : -9223372036854775808 ≤ L) (hL1 : L ≤ 9223372036854775807)
   (h1 : rightB L n f = false) : Calls Tryd.prog 57 #[.agg #[.slice A n c, .int .i64 L], .int .i64 p] w (Bad3 w 11) := by
  have HR := Lib.hid hr; have HF := Lib.hid hf
  clear hr hf
  · skip
    go_enter Tryd.func57, Tryd.ntmps57
    go_wp2_with fail
    refine (right_any A n c L f _ (HR.out.alloc _) HF.out hn hL0 hL1).mono ?_
    rintro e w1 ⟨rfl, hb1⟩
    have hb := Lib.hid (((Below.refl w.heap.size w).alloc (by simp) _).trans (hb1.mono (by simp)))
    have oA := Own.below' (Own.new' (w := w) rfl) hb1
    have hs := hb1.size
    simp only [World.size_alloc] at hs oA
    have qA := oA.cell
    have OA := Lib.hid oA
    have z0 : w.heap.size < w1.heap.size := by omega
    have HR1 := Lib.hid (HR.out.below hb.out)
    clear hb1 oA
    go_wp2
    go_ret3
    exact ⟨rfl, hb.out⟩
set_option maxRecDepth 100000 in
set_option maxHeartbeats 2000000 in
theorem getKnot_arg (A : Option Addr) (n c L : Nat) (p : Int) (f : Nat → Bool) (w : World) (hr : Rd w A (cellsF f n)) (hs : RS L n f)
   (h : ¬ (0 ≤ p ∧ p ≤ L)) : Calls Tryd.prog 57 #[.agg #[.slice A n c, .int .i64 L], .int .i64 p] w (Bad3 w 2) := by
  have h1 := hs.rightB
  have hle := hs.le
  have HF := Lib.hid (show ∀ i, 8 * n ≤ i → f i = false from fun i hi => hs.zero i (by have := hs.len; omega))
  have hn : n ≤ 140737488351232 := by have := hs.len; omega
  have hL0 : -9223372036854775808 ≤ (L : Int) := by omega
  have hL1 : (L : Int) ≤ 9223372036854775807 := by omega
  have HR := Lib.hid hr; have HS := Lib.hid hs
  clear hr hs
  by_cases c0 : p < 0
  · clear h
    go_enter Tryd.func57, Tryd.ntmps57
    go_wp2_with fail
    refine (right_any A n c L f _ (HR.out.alloc _) HF.out hn hL0 hL1).mono ?_
    rintro e w1 ⟨rfl, hb1⟩
    have hb := Lib.hid (((Below.refl w.heap.size w).alloc (by simp) _).trans (hb1.mono (by simp)))
    have oA := Own.below' (Own.new' (w := w) rfl) hb1
    have hs := hb1.size
    simp only [World.size_alloc] at hs oA
    have qA := oA.cell
    have OA := Lib.hid oA
    have z0 : w.heap.size < w1.heap.size := by omega
    have HR1 := Lib.hid (HR.out.below hb.out)
    clear hb1 oA
    go_wp2
    go_ret3
    exact ⟨rfl, hb.out⟩
  · have c4 : (L : Int) < p := by omega
    clear h
    go_enter Tryd.func57, Tryd.ntmps57
    go_wp2_with fail
    refine (right_any A n c L f _ (HR.out.alloc _) HF.out hn hL0 hL1).mono ?_
    rintro e w1 ⟨rfl, hb1⟩
    have hb := Lib.hid (((Below.refl w.heap.size w).alloc (by simp) _).trans (hb1.mono (by simp)))
    have oA := Own.below' (Own.new' (w := w) rfl) hb1
    have hs := hb1.size
    simp only [World.size_alloc] at hs oA
    have qA := oA.cell
    have OA := Lib.hid oA
    have z0 : w.heap.size < w1.heap.size := by omega
    have HR1 := Lib.hid (HR.out.below hb.out)
    clear hb1 oA
    go_wp2
    go_ret3
    exact ⟨rfl, hb.out⟩
/-- What strand.GetKnot tells, z noughts standing from the place on. -/
def KnotPost (w : World) (f : Nat → Bool) (L p z : Nat) (e : Ending) (w' : World) : Prop :=
  (z = 64 ∧ Bad3 w 12 e w') ∨ (z ≠ 64 ∧ L < p + 2 * z + 1 ∧ Bad3 w 10 e w') ∨ (z ≠ 64 ∧ p + 2 * z + 1 ≤ L ∧ Good3 w (numF f (p + z) (z + 1) - 1) ((p + 2 * z + 1 : Nat) : Int) e w')
set_option maxRecDepth 100000 in
set_option maxHeartbeats 4000000 in
theorem getKnot_any (A : Option Addr) (n c L p : Nat) (f : Nat → Bool) (w : World) (hr : Rd w A (cellsF f n)) (hs : RS L n f)
   (hp : p ≤ L) : Calls Tryd.prog 57 #[.agg #[.slice A n c, .int .i64 L], .int .i64 p] w (KnotPost w f L p (zerosF f p (min 64 (L - p)))) := by
  have h1 := hs.rightB
  have hle := hs.le
  have HF := Lib.hid (show ∀ i, 8 * n ≤ i → f i = false from fun i hi => hs.zero i (by have := hs.len; omega))
  have hn : n ≤ 140737488351232 := by have := hs.len; omega
  have hL0 : -9223372036854775808 ≤ (L : Int) := by omega
  have hL1 : (L : Int) ≤ 9223372036854775807 := by omega
  have HR := Lib.hid hr; have HS := Lib.hid hs
  clear hr hs
  obtain ⟨M, hM⟩ : ∃ M, M = min 64 (L - p) := ⟨_, rfl⟩
  have hM64 : M ≤ 64 := by omega
  have hMp : p + M ≤ L := by omega
  obtain ⟨z, hz⟩ : ∃ z, z = zerosF f p M := ⟨_, rfl⟩
  have hzM : z ≤ M := by rw [hz]; exact zerosF_le f M p
  rw [← hM, ← hz]
  have HM := Lib.hid hM; have HZ := Lib.hid hz
  clear hM hz
  · skip
    go_enter Tryd.func57, Tryd.ntmps57
    go_wp2_with fail
    refine (right_any A n c L f _ (HR.out.alloc _) HF.out hn hL0 hL1).mono ?_
    rintro e w1 ⟨rfl, hb1⟩
    have hb := Lib.hid (((Below.refl w.heap.size w).alloc (by simp) _).trans (hb1.mono (by simp)))
    have oA := Own.below' (Own.new' (w := w) rfl) hb1
    have hs := hb1.size
    simp only [World.size_alloc] at hs oA
    have qA := oA.cell
    have OA := Lib.hid oA
    have z0 : w.heap.size < w1.heap.size := by omega
    have HR1 := Lib.hid (HR.out.below hb.out)
    clear hb1 oA
    go_upto_region 5 with (fail)
    go_cut [7] from 10 (fun s7 W => s7 = .int .i64 M ∧ W = w1)
    case first =>
      go_wp2
      all_goals (go_meet; refine ⟨?_, rfl⟩; first
        | (rw [show (M : Int) = 64 from by have := HM.out; omega])
        | (rw [show (M : Int) = (L : Int) - p from by have := HM.out; omega]))
    case rest =>
      obtain ⟨rfl, rfl⟩ := hcut
      go_upto_block 0 with (fail)
      go_cut [7] from 10 (fun s7 W => s7 = .int .i64 z ∧ Hid (Own W w.heap.size 63 [.slice A n c, .int .i64 L]) ∧ Hid (Below w.heap.size w W))
      case first =>
        go_wp2
        go_loopw [7, 8, 27] (fun s7 _ v wr => ∃ i : Nat, i ≤ M ∧ v = .int .i64 i ∧ s7 = .int .i64 M ∧ Hid (∀ j, j < i → f (p + j) = false) ∧ Hid (Own wr w.heap.size 63 [.slice A n c, .int .i64 L]) ∧ Hid (Below w.heap.size w wr))
          (fun _ _ v _ => M - (intOf v).toNat)
        case atStart => exact ⟨0, by omega, rfl, rfl, fun j hj => absurd hj (by omega), OA.out, hb.out⟩
        case round =>
          obtain ⟨i, hi, rfl, rfl, HJ, HO, HB⟩ := hrel
          by_cases hlt : i < M
          · clear qA
            have qA := HO.out.cell
            go_wp2_with fail
            refine (bit_any A n c L _ f _ (HR.out.below HB.out) (by omega) (by have := HS.out.len; omega) hn).mono ?_
            rintro e w2 ⟨rfl, hb2⟩
            have OA2 := Lib.hid (HO.out.below' hb2)
            have HB2 := Lib.hid (below_chain HB.out hb2)
            rw [show ((p : Int) + i).toNat = p + i by omega]
            clear hb2 qA
            by_cases hbit : f (p + i) = true
            · have HBIT := Lib.hid hbit
              have hv : ((f (p + i)).toNat : Int) = 1 := by rw [hbit]; rfl
              rw [hv]
              clear hv hbit
              go_wp2
              go_meet
              exact ⟨by rw [HZ.out, zerosF_eq (by omega) HJ.out (.inr HBIT.out)], OA2.out, HB2.out⟩
            · have hbit : f (p + i) = false := by simpa using hbit
              have HBIT := Lib.hid hbit
              have hv : ((f (p + i)).toNat : Int) = 0 := by rw [hbit]; rfl
              rw [hv]
              clear hv hbit
              go_wp2
              go_roundw
              case rel => exact ⟨i + 1, by omega, by go_num, rfl, fun j hj => by
                rcases Nat.lt_or_ge j i with h | h
                · exact HJ.out j h
                · obtain rfl : j = i := by omega
                  exact HBIT.out, OA2.out, HB2.out⟩
              case measure => simp [intOf]; omega
          · obtain rfl : i = M := by omega
            go_wp2
            go_meet
            exact ⟨by rw [HZ.out, zerosF_eq (Nat.le_refl _) HJ.out (.inl rfl)], HO.out, HB.out⟩
      case rest =>
        obtain ⟨rfl, HO, HB⟩ := hcut
        clear qA
        have qA := HO.out.cell
        by_cases hz : z = 64
        · have hz' : ((z : Int) == 64) = true := by rw [beq_iff_eq]; omega
          have HZ64 := Lib.hid hz
          clear hz
          go_wp2
          go_ret3
          exact .inl ⟨HZ64.out, rfl, HB.out⟩
        · have hz' : ((z : Int) == 64) = false := by rw [beq_eq_false_iff_ne]; omega
          have HZ64 := Lib.hid hz
          have hz63 : z ≤ 63 := by omega
          clear hz
          by_cases hl : L < p + 2 * z + 1
          · go_wp2
            go_ret3
            exact .inr (.inl ⟨HZ64.out, hl, rfl, HB.out⟩)
          · go_wp2_with fail
            refine (get_any A n c L _ (z + 1) f _ (HR.out.below HB.out) (by omega) (by have := HS.out.len; omega) hn (by omega)).mono ?_
            rintro e w2 ⟨rfl, hb2⟩
            have HB2 := Lib.hid (below_chain HB.out hb2)
            clear qA hb2
            have hpos := numF_pos (z := z) (show f (p + z) = true by rw [HZ.out]; exact zerosF_stop f M p (by rw [← HZ.out]; have := HM.out; omega))
            have hlt := numF_lt f (p + z) (z + 1)
            rw [show ((p : Int) + z).toNat = p + z by omega]
            generalize hNe : numF f (p + z) (z + 1) = N at hpos hlt
            have hN64 : N < 18446744073709551616 := by have := Nat.pow_le_pow_right (n := 2) (by omega) (show z + 1 ≤ 64 by omega); omega
            have WN := Lib.hid (show IntKind.u64.wrap ((N : Int) - 1) = ((N - 1 : Nat) : Int) by rw [IntKind.wrap_u64]; omega)
            have HN := Lib.hid hNe
            have HP := Lib.hid hpos
            clear hNe hlt hN64 hpos
            go_wp2
            go_ret3
            refine .inr (.inr ⟨HZ64.out, by omega, ?_, HB2.out⟩)
            rw [HN.out, ← WN.out]
            simp
end Go.Proofs.YtljihclpgpmfeaaDoor
