/- Walks: strand.get, Right. -/
import Derived.Test.YtljihclpgpmfeaaDoorStrB
namespace Go.Proofs.YtljihclpgpmfeaaDoor
set_option maxRecDepth 100000
open Go.RowKit

theorem or_u64 (N : Nat) (b : Bool) (hN : N < 9223372036854775808) : bits BinOp.or IntKind.u64 (IntKind.u64.wrap ((N : Int) * 2)) (IntKind.u64.wrap (b.toNat : Int)) = ((2 * N + b.toNat : Nat) : Int) := by
  have hb : b.toNat ≤ 1 := by cases b <;> simp
  have e1 : IntKind.u64.wrap ((N : Int) * 2) = ((2 * N : Nat) : Int) := by rw [IntKind.wrap_u64]; omega
  have e2 : IntKind.u64.wrap (b.toNat : Int) = (b.toNat : Int) := by rw [IntKind.wrap_u64]; omega
  rw [e1, e2, u64_or_nat _ _ (by omega) (by omega), nat_join 1 (2 * N) b.toNat (by omega) (by omega)]
set_option maxRecDepth 100000 in
set_option maxHeartbeats 1000000 in
theorem get_any (A : Option Addr) (n c : Nat) (L p : Int) (wd : Nat) (f : Nat → Bool) (w : World) (hr : Rd w A (cellsF f n)) (h0 : 0 ≤ p) (h1 : p + wd ≤ 8 * n) (hn : n ≤ 140737488351232) (hw : wd ≤ 64) :
    Calls Tryd.prog 76 #[.agg #[.slice A n c, .int .i64 L], .int .i64 p, .int .i64 wd] w fun e w' => e = .returned (.int .u64 (numF f p.toNat wd : Nat)) ∧ Below w.heap.size w w' := by
  obtain ⟨q, rfl⟩ := Int.eq_ofNat_of_zero_le h0
  simp only [Int.toNat_natCast]
  have HR := Lib.hid hr
  clear hr
  go_enter Tryd.func76, Tryd.ntmps76
  go_wp2
  go_loopw [7, 8, 10] (fun u _ v wr => ∃ i : Nat, i ≤ wd ∧ v = .int .i64 i ∧ u = .int .u64 (numF f q i : Nat) ∧ Hid (Below w.heap.size w wr) ∧ wr.cell? ⟨w.heap.size, 0, none⟩ = some (.slice A n c) ∧ wr.cell? ⟨w.heap.size, 1, none⟩ = some (.int .i64 L) ∧ w.heap.size < wr.heap.size)
     (fun _ _ v _ => wd - (intOf v).toNat)
  case atStart => exact ⟨0, by omega, rfl, rfl, (Below.refl _ _).alloc (by simp) _, by simp, by simp, by simp⟩
  case round =>
    obtain ⟨i, hi, rfl, rfl, HB, c0, c1, hsz⟩ := hrel
    by_cases hlt : i < wd
    · have hN := numF_lt f q i
      generalize hNe : numF f q i = N at hN
      have HN := Lib.hid hNe
      clear hNe
      go_wp2_with (go_at_call 75; refine (bit_any A n c L _ f _ (HR.out.below HB.out) (by omega) (by omega) hn).mono ?_; rintro e w1 ⟨rfl, hb1⟩; obtain ⟨k0, k1⟩ := below_cells hb1; have hs1 := hb1.size; have HB1 := Lib.hid hb1; clear hb1)
      go_roundw
      case rel =>
        refine ⟨i + 1, by omega, by go_num, ?_, HB.out.trans (HB1.out.mono (by omega)), by rw [k0 _ _ hsz]; exact c0, by rw [k0 _ _ hsz]; exact c1, by omega⟩
        rw [or_u64 N (f (q + i)) (by have := Nat.pow_le_pow_right (n := 2) (by omega) (show i ≤ 63 by omega); omega), numF, HN.out]
      case measure => simp [intOf]; omega
    · obtain rfl : i = wd := by omega
      go_wp2
      go_ret
      exact ⟨rfl, HB.out⟩
theorem right_lt {L : Int} {n : Nat} {f : Nat → Bool} (h : L < 0) : rightB L n f = false := by simp [rightB]; omega
theorem right_gt {L : Int} {n : Nat} {f : Nat → Bool} (h : 4194304 < L) : rightB L n f = false := by simp [rightB]; omega
theorem right_len {L : Int} {n : Nat} {f : Nat → Bool} (h0 : 0 ≤ L) (h : ¬ (n : Int) = (L + 7) / 8) : rightB L n f = false := by
  have : ¬ n = (L.toNat + 7) / 8 := by omega
  simp [rightB, this]
theorem right_even {L n : Nat} {f : Nat → Bool} (hf : ∀ i, 8 * n ≤ i → f i = false) (h : L ≤ 4194304) (hn : n = (L + 7) / 8) (he : L % 8 = 0) : rightB (L : Int) n f = true :=
  RS.rightB ⟨h, hn, fun i hi => hf i (by omega)⟩
theorem last_byte {L n : Nat} {f : Nat → Bool} (hf : ∀ i, 8 * n ≤ i → f i = false) (h : L ≤ 4194304) (hn : n = (L + 7) / 8) (he : L % 8 ≠ 0) :
    (((byteF f (n - 1) : Nat) : Int) * 2 ^ (L % 8) % 256 == 0) = rightB (L : Int) n f := by
  have e : ((byteF f (n - 1) : Nat) : Int) * 2 ^ (L % 8) % 256 = ((byteF f (n - 1) * 2 ^ (L % 8) % 256 : Nat) : Int) := by simp
  have key : byteF f (n - 1) * 2 ^ (L % 8) % 256 = 0 ↔ ∀ i, L ≤ i → f i = false := by
    constructor
    · intro h0 i hi
      by_cases hi8 : i < 8 * n
      · have h1 : (byteF f (n - 1) * 2 ^ (L % 8) % 2 ^ 8).testBit (7 - i % 8 + L % 8) = false := by
          rw [show (2 : Nat) ^ 8 = 256 from rfl, h0]; simp
        rw [Nat.testBit_mod_two_pow, Nat.testBit_mul_two_pow] at h1
        have e1 : 7 - i % 8 + L % 8 < 8 := by omega
        have e2 : L % 8 ≤ 7 - i % 8 + L % 8 := by omega
        have e3 : 7 - i % 8 + L % 8 - L % 8 = 7 - i % 8 := by omega
        have e4 : 7 - i % 8 < 8 := by omega
        have e5 : 8 * (n - 1) + (7 - (7 - i % 8)) = i := by omega
        rw [e3, testBit_byteF, e5] at h1
        simpa [e1, e2, e4] using h1
      · exact hf i (by omega)
    · intro hz
      apply Nat.eq_of_testBit_eq
      intro t
      rw [show 256 = 2 ^ 8 from rfl, Nat.testBit_mod_two_pow, Nat.testBit_mul_two_pow, Nat.zero_testBit, testBit_byteF]
      by_cases h1 : t < 8
      · by_cases h2 : L % 8 ≤ t
        · rw [hz _ (by omega)]; simp
        · simp [h2]
      · simp [h1]
  rw [e]
  have hb : (((byteF f (n - 1) * 2 ^ (L % 8) % 256 : Nat) : Int) == 0) = decide (byteF f (n - 1) * 2 ^ (L % 8) % 256 = 0) := by
    by_cases h0 : byteF f (n - 1) * 2 ^ (L % 8) % 256 = 0
    · simp [h0]
    · rw [decide_eq_false h0, beq_eq_false_iff_ne]; omega
  rw [hb, Bool.eq_iff_iff, decide_eq_true_iff, key, rightB_iff hf]
  constructor
  · intro hz; exact ⟨by omega, ⟨by simpa using h, by simpa using hn, by simpa using hz⟩⟩
  · rintro ⟨_, hs⟩; simpa using hs.zero

set_option maxRecDepth 100000 in
set_option maxHeartbeats 2000000 in
theorem right_any (A : Option Addr) (n c : Nat) (L : Int) (f : Nat → Bool) (w : World) (hr : Rd w A (cellsF f n)) (hf : ∀ i, 8 * n ≤ i → f i = false) (hn : n ≤ 140737488351232)
   (hL0 : -9223372036854775808 ≤ L) (hL1 : L ≤ 9223372036854775807) :
    Calls Tryd.prog 58 #[.agg #[.slice A n c, .int .i64 L]] w fun e w' => e = .returned (.bool (rightB L n f)) ∧ Below w.heap.size w w' := by
  by_cases h1 : L < 0
  · have hR := Lib.hid (right_lt (n := n) (f := f) h1)
    clear hr hf
    go_enter Tryd.func58, Tryd.ntmps58
    go_wp2
    go_quiet (fail)
    go_wp2
    go_ret
    exact ⟨by rw [hR.out]; rfl, below_drewN ((Below.refl _ _).alloc (by simp) _) _⟩
  by_cases h2 : 4194304 < L
  · have hR := Lib.hid (right_gt (n := n) (f := f) h2)
    clear hr hf
    go_enter Tryd.func58, Tryd.ntmps58
    go_wp2
    go_quiet (fail)
    go_wp2
    go_ret
    exact ⟨by rw [hR.out]; rfl, below_drewN ((Below.refl _ _).alloc (by simp) _) _⟩
  have h1' : decide (L < 0) = false := by simpa using h1
  have h2' : decide (4194304 < L) = false := by simpa using h2
  by_cases h3 : (n : Int) = (L + 7) / 8
  · obtain ⟨l, rfl⟩ := Int.eq_ofNat_of_zero_le (show 0 ≤ L by omega)
    have h3' : (((n : Int)) != ((l : Int) + 7) / 8) = false := by simpa using h3
    have hn2 : n = (l + 7) / 8 := by omega
    by_cases h4 : l % 8 = 0
    · have hR := Lib.hid (right_even hf (by omega) hn2 h4)
      have h4' : ((l : Int) % 8 != 0) = false := by simp; omega
      clear hr hf h3 hn2 h4
      go_enter Tryd.func58, Tryd.ntmps58
      go_wp2
      go_quiet ((go_at_call 56; exact Calls.quiet_of_same ((size_any _ _ (by omega) (by omega)).mono fun _ _ ⟨h1, h2⟩ => ⟨h1, h2.symm⟩)))
      go_wp2
      go_ret
      exact ⟨by rw [hR.out]; rfl, below_drewN ((Below.refl _ _).alloc (by simp) _) _⟩
    · have hR := Lib.hid (last_byte hf (by omega) hn2 h4)
      have h4' : ((l : Int) % 8 != 0) = true := by simp; omega
      obtain ⟨b, off, rfl, hb, hc⟩ := hr (by rw [length_cellsF]; omega)
      have hc1 := hc (n - 1) _ (cellsF_at f n (n - 1) (by omega))
      have hn1 : 1 ≤ n := by omega
      clear hr hf h3 hn2 h4 hc
      generalize byteF f (n - 1) = X at hR hc1
      have hc' : ∀ o k, ((w.alloc o).drewN k).cell? ⟨b, off + (n - 1), none⟩ = some (.int .u8 (X : Nat)) := fun o k => (World.cell?_alloc_lt w o _ hb).trans hc1
      go_enter Tryd.func58, Tryd.ntmps58
      go_wp2
      go_quiet ((go_at_call 56; exact Calls.quiet_of_same ((size_any _ _ (by omega) (by omega)).mono fun _ _ ⟨h1, h2⟩ => ⟨h1, h2.symm⟩)))
      go_wp2
      go_ret
      exact ⟨by rw [← hR.out]; rfl, below_drewN ((Below.refl _ _).alloc (by simp) _) _⟩
  · have hR := Lib.hid (right_len (f := f) (by omega) h3)
    have h3' : (((n : Int)) != (L + 7) / 8) = true := by simpa using h3
    clear hr hf h3
    go_enter Tryd.func58, Tryd.ntmps58
    go_wp2
    go_quiet ((go_at_call 56; exact Calls.quiet_of_same ((size_any _ _ (by omega) (by omega)).mono fun _ _ ⟨h1, h2⟩ => ⟨h1, h2.symm⟩)))
    go_wp2
    go_ret
    exact ⟨by rw [hR.out]; rfl, below_drewN ((Below.refl _ _).alloc (by simp) _) _⟩
end Go.Proofs.YtljihclpgpmfeaaDoor
