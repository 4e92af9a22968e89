/- Walk: strand.Unpack. -/
import Derived.Test.YtnhlenagojbigaaStrJ
namespace Go.Proofs.Ytnhlenagojbigaa
open Go.RowKit

theorem tz8_spec : ∀ x : Fin 256, x.val ≠ 0 → Lib.trailingZeros8 x.val ≤ 7 ∧ x.val.testBit (Lib.trailingZeros8 x.val) = true ∧ ∀ t : Fin 8, t.val < Lib.trailingZeros8 x.val → x.val.testBit t.val = false := by decide +kernel
/-- How many bits the bytes f (n of them, the last one not nought) are the pack of. -/
def unpackL (f : Nat → Bool) (n : Nat) : Nat := 8 * n - 1 - Lib.trailingZeros8 (byteF f (n - 1))
/-- The last one among them stands there. -/
theorem unpackL_spec {f : Nat → Bool} {n : Nat} (hn : 0 < n) (h : byteF f (n - 1) ≠ 0) :
    Lib.trailingZeros8 (byteF f (n - 1)) ≤ 7 ∧ unpackL f n < 8 * n ∧ 8 * (n - 1) ≤ unpackL f n ∧ f (unpackL f n) = true ∧ ∀ i, unpackL f n < i → i < 8 * n → f i = false := by
  obtain ⟨h1, h2, h3⟩ := tz8_spec ⟨byteF f (n - 1), byteF_lt f (n - 1)⟩ h
  simp only at h1 h2 h3
  unfold unpackL
  generalize ht : Lib.trailingZeros8 (byteF f (n - 1)) = t at h1 h2 h3
  refine ⟨h1, by omega, by omega, ?_, fun i hi hi8 => ?_⟩
  · rw [testBit_byteF] at h2
    simp only [Bool.and_eq_true] at h2
    have e : 8 * (n - 1) + (7 - t) = 8 * n - 1 - t := by omega
    rw [← e]; exact h2.2
  · have := h3 ⟨7 - i % 8, by omega⟩ (by simp only; omega)
    rw [testBit_byteF] at this
    have e1 : 8 * (n - 1) + (7 - (7 - i % 8)) = i := by omega
    have e2 : 7 - i % 8 < 8 := by omega
    rw [e1] at this
    simpa [e2] using this
def cutTo (f : Nat → Bool) (L i : Nat) : Bool := f i && decide (i < L)
set_option maxRecDepth 100000 in
set_option maxHeartbeats 2000000 in
theorem unpack_long (A : Option Addr) (n c : Nat) (w : World) (h : 524289 < n) (hn : n ≤ 140737488351232) : Calls Try.prog 11 #[.slice A n c] w (BadS w 3) := by
  have hb := Lib.hid ((Below.refl w.heap.size w).alloc (Nat.le_refl _) (.cells #[.slice none 0 0, .int .i64 0] 24))
  · skip
    go_enter Try.func11, Try.ntmps11
    go_wp2
    exact bodyPost_ret (v := .tuple #[.agg #[.slice none 0 0, .int .i64 0], .int .i64 3]) (by simp [results, Try.results11, go_sem]) rfl ⟨rfl, hb.out⟩
set_option maxRecDepth 100000 in
set_option maxHeartbeats 2000000 in
theorem unpack_zero (A : Option Addr) (n c : Nat) (f : Nat → Bool) (w : World) (hr : Rd w A (cellsF f n)) (h : n ≤ 524289) (hz : 0 < n → byteF f (n - 1) = 0) : Calls Try.prog 11 #[.slice A n c] w (BadS w 13) := by
  have hb := Lib.hid ((Below.refl w.heap.size w).alloc (Nat.le_refl _) (.cells #[.slice none 0 0, .int .i64 0] 24))
  by_cases h0 : n = 0
  · have c0 : ((n : Int) == 0) = true := by rw [beq_iff_eq]; omega
    clear hr hz h0
    go_enter Try.func11, Try.ntmps11
    go_wp2
    exact bodyPost_ret (v := .tuple #[.agg #[.slice none 0 0, .int .i64 0], .int .i64 13]) (by simp [results, Try.results11, go_sem]) rfl ⟨rfl, hb.out⟩
  · have c0 : ((n : Int) == 0) = false := by rw [beq_eq_false_iff_ne]; omega
    have h1 : 1 ≤ n := by omega
    obtain ⟨b, off, rfl, hbb, hc⟩ := hr (by rw [length_cellsF]; omega)
    have hc1 := hc (n - 1) _ (cellsF_at f n (n - 1) (by omega))
    rw [hz (by omega)] at hc1
    have hc' : ∀ o, (w.alloc o).cell? ⟨b, off + (n - 1), none⟩ = some (.int .u8 ((0 : Nat) : Int)) := fun o => (World.cell?_alloc_lt w o _ hbb).trans hc1
    clear hr hz h0 hc hc1
    go_enter Try.func11, Try.ntmps11
    go_wp2
    exact bodyPost_ret (v := .tuple #[.agg #[.slice none 0 0, .int .i64 0], .int .i64 13]) (by simp [results, Try.results11, go_sem]) rfl ⟨rfl, hb.out⟩
set_option maxRecDepth 100000 in
set_option maxHeartbeats 2000000 in
theorem unpack_over (A : Option Addr) (n c : Nat) (f : Nat → Bool) (w : World) (hr : Rd w A (cellsF f n)) (h : n ≤ 524289) (hpos : 0 < n) (hz : byteF f (n - 1) ≠ 0) (h2 : 4194304 < unpackL f n) : Calls Try.prog 11 #[.slice A n c] w (BadS w 13) := by
  have hb := Lib.hid ((Below.refl w.heap.size w).alloc (Nat.le_refl _) (.cells #[.slice none 0 0, .int .i64 0] 24))
  obtain ⟨ht7, hu1, hu2, hu3, hu4⟩ := unpackL_spec hpos hz
  have hX := byteF_lt f (n - 1)
  obtain ⟨b, off, rfl, hbb, hc⟩ := hr (by rw [length_cellsF]; omega)
  have hc1 := hc (n - 1) _ (cellsF_at f n (n - 1) (by omega))
  have c0 : ((n : Int) == 0) = false := by rw [beq_eq_false_iff_ne]; omega
  have c1 : (((byteF f (n - 1) : Nat) : Int) == 0) = false := by rw [beq_eq_false_iff_ne]; omega
  obtain ⟨l, hl⟩ : ∃ l, l = unpackL f n := ⟨_, rfl⟩
  have hlt : (8 : Int) * n - 1 - (Lib.trailingZeros8 (byteF f (n - 1)) : Nat) = l := by rw [hl]; unfold unpackL; omega
  rw [← hl] at h2 hu1 hu2 hu3 hu4
  have HLT := Lib.hid hlt
  generalize byteF f (n - 1) = X at c1 hc1 HLT hX ht7
  have hc' : ∀ o, (w.alloc o).cell? ⟨b, off + (n - 1), none⟩ = some (.int .u8 (X : Int)) := fun o => (World.cell?_alloc_lt w o _ hbb).trans hc1
  clear hc hc1 hlt hl hz hu3 hu4 hr
  · skip
    go_enter Try.func11, Try.ntmps11
    go_wp2_with fail
    refine (Try.bits_TrailingZeros8 _ _ (by omega) (by omega)).mono ?_
    rintro e w' ⟨rfl, rfl⟩
    rw [Int.toNat_natCast]
    have hlt := HLT.out
    generalize Lib.trailingZeros8 X = tz at ht7 hlt
    go_wp2
    exact bodyPost_ret (v := .tuple #[.agg #[.slice none 0 0, .int .i64 0], .int .i64 13]) (by simp [results, Try.results11, go_sem]) rfl ⟨rfl, hb.out⟩
theorem and_mask (f : Nat → Bool) (l k : Nat) (hk : k = (l + 7) / 8) (hl : l % 8 ≠ 0) :
    bits BinOp.and IntKind.u8 ((byteF f (k - 1) : Nat) : Int) (255 * 2 ^ (8 - l % 8) % 256) = ((byteF (cutTo f l) (k - 1) : Nat) : Int) := by
  have e : ((255 : Int) * 2 ^ (8 - l % 8) % 256) = ((255 * 2 ^ (8 - l % 8) % 256 : Nat) : Int) := by simp
  have hm : 255 * 2 ^ (8 - l % 8) % 256 < 256 := Nat.mod_lt _ (by omega)
  rw [e, u8_and_nat _ _ (byteF_lt _ _) hm]
  congr 1
  refine eq_byteF (Nat.lt_of_le_of_lt Nat.and_le_left (byteF_lt _ _)) (fun t ht => ?_)
  rw [Nat.testBit_and, testBit_byteF, show 256 = 2 ^ 8 from rfl, Nat.testBit_mod_two_pow, Nat.testBit_mul_two_pow, show 255 = 2 ^ 8 - 1 from rfl, Nat.testBit_two_pow_sub_one]
  unfold cutTo
  by_cases h : 8 - l % 8 ≤ t
  · have h1 : 8 * (k - 1) + (7 - t) < l := by omega
    have h2 : t - (8 - l % 8) < 8 := by omega
    simp [ht, h, h1, h2]
  · have h1 : ¬ 8 * (k - 1) + (7 - t) < l := by omega
    simp [h, h1]
theorem cutTo_far (f : Nat → Bool) (l k j : Nat) (hk : k = (l + 7) / 8) (hj : j < 8 * k) (h : j / 8 ≠ k - 1) : cutTo f l j = f j := by
  unfold cutTo
  have : j < l := by omega
  simp [this]
theorem cutTo_even (f : Nat → Bool) (l k : Nat) (hk : k = (l + 7) / 8) (hl : l % 8 = 0) : cellsF (cutTo f l) k = cellsF f k :=
  cellsF_congr (fun i hi => by
    unfold cutTo
    have : i < l := by omega
    simp [this])
theorem splice_all (z : List Value) (f : Nat → Bool) (k : Nat) (h : z.length = k) : splice z 0 (cellsF f k) = cellsF f k := by
  unfold splice
  rw [List.take_zero, List.nil_append, Nat.zero_add, length_cellsF, List.drop_of_length_le (by omega), List.append_nil]
theorem take_cellsF (f : Nat → Bool) (n k : Nat) (h : k ≤ n) : (cellsF f n).take k = cellsF f k := by
  unfold cellsF
  rw [← List.map_take, List.take_range, Nat.min_eq_left h]
set_option maxRecDepth 100000 in
set_option maxHeartbeats 4000000 in
theorem unpack_good (A : Option Addr) (n c : Nat) (f : Nat → Bool) (w : World) (hr : Rd w A (cellsF f n)) (h : n ≤ 524289) (hpos : 0 < n) (hz : byteF f (n - 1) ≠ 0) (h2 : unpackL f n ≤ 4194304) : Calls Try.prog 11 #[.slice A n c] w (GoodS w (unpackL f n) (cutTo f (unpackL f n))) := by
  obtain ⟨ht7, hu1, hu2, hu3, hu4⟩ := unpackL_spec hpos hz
  have hX := byteF_lt f (n - 1)
  obtain ⟨b, off, rfl, hbb, hc⟩ := hr (by rw [length_cellsF]; omega)
  have hc1 := hc (n - 1) _ (cellsF_at f n (n - 1) (by omega))
  have c0 : ((n : Int) == 0) = false := by rw [beq_eq_false_iff_ne]; omega
  have c1 : (((byteF f (n - 1) : Nat) : Int) == 0) = false := by rw [beq_eq_false_iff_ne]; omega
  obtain ⟨l, hl⟩ : ∃ l, l = unpackL f n := ⟨_, rfl⟩
  have hlt : (8 : Int) * n - 1 - (Lib.trailingZeros8 (byteF f (n - 1)) : Nat) = l := by rw [hl]; unfold unpackL; omega
  rw [← hl] at h2 hu1 hu2 hu3 hu4 ⊢
  have HR := Lib.hid hr
  have HLT := Lib.hid hlt
  have HX1 := Lib.hid hc1
  obtain ⟨k, hk⟩ : ∃ k, k = (l + 7) / 8 := ⟨_, rfl⟩
  have hkk : ((l : Int) + 7) / 8 = k := by omega
  have hkn : k ≤ n := by omega
  have hmk := mk_bytes k (by omega)
  have HK := Lib.hid hk
  generalize byteF f (n - 1) = X at c1 hc1 HLT hX ht7
  have hc' : ∀ o, (w.alloc o).cell? ⟨b, off + (n - 1), none⟩ = some (.int .u8 (X : Int)) := fun o => (World.cell?_alloc_lt w o _ hbb).trans hc1
  clear hc hc1 hlt hl hz hu3 hu4 hr hk
  · skip
    go_enter Try.func11, Try.ntmps11
    go_wp2_with fail
    refine (Try.bits_TrailingZeros8 _ _ (by omega) (by omega)).mono ?_
    rintro e w' ⟨rfl, rfl⟩
    rw [Int.toNat_natCast]
    have hlt := HLT.out
    generalize Lib.trailingZeros8 X = tz at ht7 hlt
    go_wp2_with fail
    refine (size_any _ _ (by omega) (by omega)).mono ?_
    rintro e w' ⟨rfl, rfl⟩
    have HRK := Lib.hid (show ∀ o1 o2 o3, Rd (((w.alloc o1).alloc o2).alloc o3) (some ⟨b, off, none⟩) (cellsF f k) from fun o1 o2 o3 => by
      have := (((HR.out.alloc o1).alloc o2).alloc o3).take k
      rwa [take_cellsF f n k hkn] at this)
    clear hlt
    go_wp2_with (refine wpList_copy_mine rfl (.tmp 45) (.tmp 46) 22 22 rfl 5 Try.underlying22 (by kernel_rfl) (w.heap.size + 1) k k (some ⟨b, off, none⟩) n c rfl rfl (cellsF (fun _ => false) k) 5 ((Own.new' (by simp)).alloc _) (cellsF f k) (by rw [length_cellsF]; exact (Nat.min_eq_right hkn).symm) (HRK.out _ _ _) (by rw [length_cellsF, length_cellsF]; exact Nat.le_refl _) cells_one_of ?_)
    intro w2 HM2 hG2
    rw [splice_all _ f k (length_cellsF _ _)] at HM2
    have oC := Own.grown (((Own.new' (w := w) rfl).alloc _).alloc _) hG2 (by intro e; injection e with e; omega)
    have oS := Own.grown (Own.new' (g := w.heap.size + 1 + 1) (w := (w.alloc _).alloc _) (by simp)) hG2 (by intro e; injection e with e; omega)
    have hB2 := Lib.hid (((((Below.refl w.heap.size w).alloc (by simp) _).alloc (by simp) _).alloc (by simp; omega) _).trans (grown_below hG2 (B := w.heap.size) (by omega) (by simp; omega)))
    have hs2 := hG2.size
    simp only [World.size_alloc] at hs2 oC oS
    have qC := oC.cell; have qS := oS.cell; have fC := oC.frozen
    have hfr := HM2.frozen
    have OC := Lib.hid oC; have OS := Lib.hid oS; have HO := Lib.hid HM2
    have hc2 := HM2.cell
    clear oC oS hG2 HM2 hc' hmk
    by_cases hu : l % 8 = 0
    · have hu' : ((l : Int) % 8 != 0) = false := by rw [bne_eq_false_iff_eq]; omega
      have HU := Lib.hid hu
      clear hu hc2
      go_wp2
      have hF := (OC.out.set 0 (.slice (some ⟨w.heap.size + 1, 0, none⟩) k k)).set 1 (.int .i64 (l : Int))
      have q0 := hF.cell 0
      have q1 := hF.cell 1
      simp only [List.set_cons_zero, List.set_cons_succ, List.getElem?_cons_zero, List.getElem?_cons_succ] at q0 q1
      refine bodyPost_ret (v := .tuple #[.agg #[.slice (some ⟨w.heap.size + 1, 0, none⟩) k k, .int .i64 (l : Int)], .int .i64 0]) (by simp [results, Try.results11, go_sem, q0, q1]) rfl ⟨_, by rw [← HK.out], by omega, ?_, ?_⟩
      · rw [← HK.out, cutTo_even f l k HK.out HU.out]
        exact (HO.out.far (by simp) _).far (by simp) _
      · exact (hB2.out.setCell (by simp) _).setCell (by simp) _
    · have hu' : ((l : Int) % 8 != 0) = true := by rw [bne_iff_ne]; omega
      have hk1 : 1 ≤ k := by have := HK.out; omega
      have hcell : w2.cell? ⟨w.heap.size + 1, k - 1, none⟩ = some (.int .u8 (byteF f (k - 1) : Nat)) := (hc2 _).trans (cellsF_at _ _ _ (by omega))
      have HA := Lib.hid (and_mask f l k HK.out hu)
      have HG1 := Lib.hid (cellsF_set (f := f) (g := cutTo f l) (k := k) (q := k - 1) rfl (fun j hj hj2 => cutTo_far f l k j HK.out hj hj2))
      clear hu hc2
      go_wp2
      refine region_tail 13 (by kernel_rfl) (by kernel_rfl) ?_
      simp only [List.take_succ_cons, List.take_zero, List.drop_succ_cons, List.drop_zero]
      repeat (refine still_step rfl rfl (fun K hK => ?_); go_wp2)
      refine wpStill_nil ?_
      go_wp2
      rw [HA.out]
      have hF := (((OC.out.far (p := ⟨w.heap.size + 1, k - 1, none⟩) (by simp) (.int .u8 (byteF (cutTo f l) (k - 1) : Nat))).set 0 (.slice (some ⟨w.heap.size + 1, 0, none⟩) k k)).set 1 (.int .i64 (l : Int))).drew
      have q0 := hF.cell 0
      have q1 := hF.cell 1
      simp only [List.set_cons_zero, List.set_cons_succ, List.getElem?_cons_zero, List.getElem?_cons_succ] at q0 q1
      refine bodyPost_ret (v := .tuple #[.agg #[.slice (some ⟨w.heap.size + 1, 0, none⟩) k k, .int .i64 (l : Int)], .int .i64 0]) (by simp [results, Try.results11, go_sem, q0, q1]) rfl ⟨_, by rw [← HK.out], by omega, ?_, ?_⟩
      · rw [← HK.out, ← HG1.out]
        exact (((HO.out.set _ _).far (by simp) _).far (by simp) _).drew
      · exact (((hB2.out.setCell (by simp) _).setCell (by simp) _).setCell (by simp) _).drew
end Go.Proofs.Ytnhlenagojbigaa
