/- Walk: fretworkref02.Dec. -/
import Derived.Test.YtljihclpgpmfeaaDoorTx
import Derived.Test.YtljihclpgpmfeaaDoorSha
import Derived.Test.YtljihclpgpmfeaaDoorTxt
namespace Go.Proofs.YtljihclpgpmfeaaDoor
set_option maxRecDepth 100000
open Go.RowKit

theorem dec_piece (d : Nat) (h : d < 10) : (ByteArray.mk #[48, 49, 50, 51, 52, 53, 54, 55, 56, 57]).extract d (d + 1) = strB [UInt8.ofNat (48 + d)] := by
  have : d = 0 ∨ d = 1 ∨ d = 2 ∨ d = 3 ∨ d = 4 ∨ d = 5 ∨ d = 6 ∨ d = 7 ∨ d = 8 ∨ d = 9 := by omega
  rcases this with rfl | rfl | rfl | rfl | rfl | rfl | rfl | rfl | rfl | rfl <;> rfl
/-- What is left of a number, then the digits written. -/
def DecI (n m : Nat) (s : List UInt8) : Prop := Lib.decDigits n = (if m = 0 then [] else Lib.decDigits m) ++ s
theorem dec_first (n : Nat) : DecI n (n / 10) [UInt8.ofNat (48 + n % 10)] := by
  unfold DecI
  by_cases h : n < 10
  · rw [if_pos (by omega), Lib.decDigits_one h, Nat.mod_eq_of_lt h]; rfl
  · rw [if_neg (by omega)]
    conv => lhs; rw [Lib.decDigits, dif_neg h]
theorem dec_next {n m : Nat} {s : List UInt8} (h : DecI n m s) (hm : 0 < m) : DecI n (m / 10) (UInt8.ofNat (48 + m % 10) :: s) := by
  unfold DecI at h ⊢
  rw [h, if_neg (by omega)]
  have := dec_first m
  unfold DecI at this
  rw [this, List.append_assoc]
  rfl
set_option maxRecDepth 100000 in
set_option maxHeartbeats 2000000 in
theorem decR_any (n : Nat) (w : World) (hn : n < 1000000000) :
    Calls Tryd.prog 54 #[.int .i64 n] w fun e w' => e = .returned (.string (strB (Lib.itoa (n : Int)))) ∧ w = w' := by
  have HF := Lib.hid (dec_first n)
  obtain ⟨d, hd⟩ : ∃ d, d = n % 10 := ⟨_, rfl⟩
  have hd10 : d < 10 := by omega
  have hdI : (n : Int).tmod 10 = (d : Int) := by rw [Int.tmod_eq_emod_of_nonneg (by omega)]; omega
  have hP := Lib.hid (dec_piece d hd10)
  rw [← hd] at HF
  clear hd
  go_enter Tryd.func54, Tryd.ntmps54
  go_wp2_with fail
  go_loop [0, 3] (fun i v => ∃ (m : Nat) (s : List UInt8), m ≤ n ∧ s.length ≤ 1000000000 - m ∧ i = .int .i64 ((m : Nat) : Int) ∧ (∃ S, v = .string S ∧ Hid (S = strB s)) ∧ Hid (DecI n m s)) (fun i _ => (intOf i).toNat)
  case atStart => exact ⟨n / 10, [UInt8.ofNat (48 + d)], by omega, by simp only [List.length_singleton]; omega, by rw [Int.natCast_ediv]; rfl, ⟨_, rfl, hP⟩, HF⟩
  case round =>
    obtain ⟨m, s, hm, hl, rfl, ⟨S, rfl, HS⟩, HI⟩ := hrel
    clear hd10 hdI
    by_cases h0 : m = 0
    · subst h0
      have HE := Lib.hid (show S = strB (Lib.itoa (n : Int)) by
        have := HI.out
        unfold DecI at this
        rw [if_pos rfl] at this
        rw [HS.out, Lib.itoa_nonneg, this]; rfl)
      go_wp2
      go_ret
      exact ⟨by rw [HE.out]; rfl, rfl⟩
    · have d0 : decide (0 < (m : Int)) = true := by rw [decide_eq_true_eq]; omega
      have d0' : decide (0 < m) = true := by rw [decide_eq_true_eq]; omega
      have HN := Lib.hid (dec_next HI.out (by omega))
      obtain ⟨k, hk⟩ : ∃ k, k = m % 10 := ⟨_, rfl⟩
      have hk10 : k < 10 := by omega
      have hkI : (m : Int).tmod 10 = (k : Int) := by rw [Int.tmod_eq_emod_of_nonneg (by omega)]; omega
      have hP2 := Lib.hid (show (ByteArray.mk #[48, 49, 50, 51, 52, 53, 54, 55, 56, 57]).extract k (k + 1) ++ S = strB (UInt8.ofNat (48 + k) :: s) by rw [dec_piece k hk10, HS.out, strB_app]; rfl)
      have hSz : S.size ≤ 1000000000 := by rw [HS.out]; simp [strB, ByteArray.size]; omega
      have hXz : (((ByteArray.mk #[48, 49, 50, 51, 52, 53, 54, 55, 56, 57]).extract k (k + 1))).size = 1 := by rw [dec_piece k hk10]; rfl
      rw [← hk] at HN
      have hlim : ¬ 9223372036854775807 < (((ByteArray.mk #[48, 49, 50, 51, 52, 53, 54, 55, 56, 57]).extract k (k + 1))).size + S.size := by rw [hXz]; omega
      have hlim1 : ¬ 9223372036854775807 < 1 + S.size := by omega
      clear hk
      go_wp2
      go_round
      case rel => exact ⟨m / 10, _, by omega, by simp only [List.length_cons]; omega, by rw [Int.natCast_ediv]; rfl, ⟨_, rfl, hP2⟩, HN⟩
      case measure => simp [intOf]; omega
end Go.Proofs.YtljihclpgpmfeaaDoor
