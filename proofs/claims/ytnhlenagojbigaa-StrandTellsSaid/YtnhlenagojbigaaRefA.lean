/- Walks: fretworkref01: number, Digits, Tied. -/
import Derived.Test.YtnhlenagojbigaaStrA
import Derived.Test.YtnhlenagojbigaaStrH
import Derived.Test.YtnhlenagojbigaaTxt
import Derived.Test.YtnhlenagojbigaaCopy
namespace Go.Proofs.Ytnhlenagojbigaa
open Go.RowKit

theorem num_step (f : Nat → Bool) (k d : Nat) (hk : k < 64) (h : d = 48 + (f k).toNat) :
    IntKind.u64.wrap (IntKind.u64.wrap (((numF f 0 k : Nat) : Int) * 2) + ((d : Int) - 48) % 256) = ((numF f 0 (k + 1) : Nat) : Int) := by
  have h1 := numF_lt f 0 k
  have h2 : 2 ^ k ≤ 2 ^ 63 := Nat.pow_le_pow_right (by decide) (by omega)
  have h3 : (f k).toNat ≤ 1 := by cases f k <;> decide
  have h4 : numF f 0 (k + 1) = 2 * numF f 0 k + (f k).toNat := by rw [numF, Nat.zero_add]
  have h5 : ((d : Int) - 48) % 256 = ((f k).toNat : Int) := by omega
  have e1 : IntKind.u64.wrap (((numF f 0 k : Nat) : Int) * 2) = ((numF f 0 k : Nat) : Int) * 2 := IntWalk.u64_in _ (by omega)
  rw [h5, e1, IntWalk.u64_in _ (by omega), h4]
  omega
set_option maxRecDepth 100000 in
set_option maxHeartbeats 2000000 in
theorem number_ref (f : Nat → Bool) (m : Nat) (w : World) (hm : m ≤ 64) :
    Calls Try.prog 52 #[.string (txtF f m)] w fun e w' => e = .returned (.int .u64 (numF f 0 m : Nat)) ∧ w = w' := by
  have hsz := txtF_size f m
  have HG := Lib.hid (txtF_get f m)
  generalize txtF f m = X at hsz HG
  go_enter Try.func52, Try.ntmps52
  go_wp2
  go_loop [3, 4] (fun n i => ∃ k : Nat, k ≤ m ∧ i = .int .i64 k ∧ n = .int .u64 (numF f 0 k : Nat)) (fun _ i => m - (intOf i).toNat)
  case atStart => exact ⟨0, Nat.zero_le _, rfl, rfl⟩
  case round =>
    obtain ⟨k, hk, rfl, rfl⟩ := hrel
    by_cases hlt : k < m
    · have HE := Lib.hid (num_step f k (X[k]'(by omega)).toNat (by omega) (HG.out k (by omega)))
      go_wp2
      go_round
      case rel => exact ⟨k + 1, by omega, by go_num, by rw [HE.out]⟩
      case measure => simp [intOf]; omega
    · obtain rfl : k = m := by omega
      go_wp2
      go_ret
      exact ⟨rfl, rfl⟩
/-- How many digits: at least so many. -/
def manyD (n w : Nat) : Nat := max (Lib.bitLen n) w
theorem manyD_stop {n w j : Nat} (hn : n < 18446744073709551616) (hj : j ≤ manyD n w) (h : n / 2 ^ j = 0 ∧ w ≤ j) : j = manyD n w := by
  unfold manyD at hj ⊢
  obtain ⟨h1, h2, _⟩ := bitLen_spec n hn
  have h3 : n < 2 ^ j := by
    rcases Nat.lt_or_ge n (2 ^ j) with q | q
    · exact q
    · have := Nat.div_pos q (Nat.two_pow_pos j); omega
  by_cases h0 : n = 0
  · have : Lib.bitLen n ≤ w ∨ w < Lib.bitLen n := by omega
    rcases this with q | q
    · omega
    · subst h0
      have : Lib.bitLen 0 = 0 := rfl
      omega
  · have h4 := (h2 h0).2
    have h5 : Lib.bitLen n - 1 < j := by
      rcases Nat.lt_or_ge (Lib.bitLen n - 1) j with q | q
      · exact q
      · have := Nat.pow_le_pow_right (show 0 < 2 by decide) q; omega
    omega
theorem manyD_go {n w j : Nat} (hn : n < 18446744073709551616) (hj : j ≤ manyD n w) (h : ¬ (n / 2 ^ j = 0 ∧ w ≤ j)) : j < manyD n w := by
  unfold manyD at hj ⊢
  obtain ⟨h1, h2, _⟩ := bitLen_spec n hn
  rcases Nat.lt_or_ge j (max (Lib.bitLen n) w) with q | q
  · exact q
  · exfalso
    refine h ⟨?_, by omega⟩
    refine Nat.div_eq_of_lt (Nat.lt_of_lt_of_le h1 (Nat.pow_le_pow_right (by decide) (by omega)))
/-- The binary digits of a number, k of them. -/
def digF (n k i : Nat) : Bool := n.testBit (k - 1 - i)
theorem digF_step (n j : Nat) : txtF (digF n (j + 1)) (j + 1) = txtF (fun _ => n.testBit j) 1 ++ txtF (digF n j) j := by
  rw [txtF_append, Nat.add_comm 1 j]
  refine txtF_congr fun i hi => ?_
  unfold digF
  by_cases h : i < 1
  · rw [if_pos h]; congr 1; omega
  · rw [if_neg h]; congr 1; omega
theorem one_digit (n j : Nat) : strOfNums [48 + ((n / 2 ^ j : Nat) : Int) % 2] = txtF (fun _ => n.testBit j) 1 := by
  have h : [48 + ((n / 2 ^ j : Nat) : Int) % 2] = numsD (fun _ => n.testBit j) 1 := by
    show _ = [((48 + (n.testBit j).toNat : Nat) : Int)]
    congr 1
    rw [Nat.testBit_eq_decide_div_mod_eq]
    by_cases h : n / 2 ^ j % 2 = 1
    · rw [decide_eq_true h]; show _ = ((49 : Nat) : Int); omega
    · rw [decide_eq_false h]; show _ = ((48 : Nat) : Int); omega
  rw [h, strOf_numsD]
theorem ret_str {s t : ByteArray} (h : s = t) : Ending.returned (.string s) = .returned (.string t) := by rw [h]
set_option maxRecDepth 100000 in
set_option maxHeartbeats 2000000 in
theorem digits_ref (n w0 : Nat) (w : World) (hn : n < 18446744073709551616) (hw : w0 ≤ 64) :
    Calls Try.prog 50 #[.int .u64 n, .int .i64 w0] w fun e w' => e = .returned (.string (txtF (digF n (manyD n w0)) (manyD n w0))) ∧ Below w.heap.size w w' := by
  have HN := Lib.hid hn
  have hm64 := Lib.hid (show manyD n w0 ≤ 64 by unfold manyD; have := (bitLen_spec n hn).2.2; omega)
  clear hn
  go_enter Try.func50, Try.ntmps50
  go_wp2
  go_loopw [0, 1, 5] (fun s0 s1 s5 wr => ∃ j : Nat, j ≤ manyD n w0 ∧ s0 = .int .u64 (n / 2 ^ j : Nat) ∧ s1 = .int .i64 ((w0 : Int) - (j : Int)) ∧ (∃ S, s5 = .string S ∧ Hid (S = txtF (digF n j) j)) ∧ Hid (Below w.heap.size w wr)) (fun _ s1 _ _ => ((intOf s1) + 65).toNat)
  case atStart => exact ⟨0, Nat.zero_le _, by rw [Nat.pow_zero, Nat.div_one], by simp, ⟨_, rfl, rfl⟩, Below.refl _ _⟩
  case round =>
    obtain ⟨j, hj, rfl, rfl, ⟨S, rfl, hS⟩, hB⟩ := hrel
    obtain ⟨v, hv⟩ : ∃ v, v = n / 2 ^ j := ⟨_, rfl⟩
    have hv64 : v < 18446744073709551616 := by have := HN.out; have := Nat.div_le_self n (2 ^ j); omega
    rw [← hv]
    have HV := Lib.hid hv
    have hSz := Lib.hid (show S.size = j by rw [hS.out]; exact txtF_size _ _)
    clear hv
    by_cases hst : v = 0 ∧ w0 ≤ j
    · have he := Lib.hid (manyD_stop HN.out hj (by rw [← HV.out]; exact hst))
      have ht1 : decide (0 < v) = false := by rw [decide_eq_false_iff_not]; omega
      have ht2 : decide (j < w0) = false := by rw [decide_eq_false_iff_not]; omega
      clear hst
      go_wp2
      go_ret
      exact ⟨ret_str (by rw [hS.out, ← he.out]), hB.out⟩
    · have hgo := Lib.hid (manyD_go HN.out hj (by rw [← HV.out]; exact hst))
      have hw1 : (w0 : Int) - (j : Int) ≤ 64 := by omega
      have hw2 : -64 ≤ (w0 : Int) - (j : Int) := by have := hm64.out; omega
      have hj64 := hm64.out
      obtain ⟨X1, hX1⟩ : ∃ X, X = txtF (fun _ => n.testBit j) 1 := ⟨_, rfl⟩
      have hcv : (convert 22 9 (.slice (some ⟨wr.heap.size, 0, none⟩) 1 1)).run Try.prog (wr.alloc (.cells #[.int .u8 (48 + (v : Int) % 2)] 5)) = .ok (.string X1) (wr.alloc (.cells #[.int .u8 (48 + (v : Int) % 2)] 5)) := by
        have h := conv_nums (some ⟨wr.heap.size, 0, none⟩) 1 1 [48 + (v : Int) % 2] (wr.alloc (.cells #[.int .u8 (48 + (v : Int) % 2)] 5)) rfl (by decide) (Own.new' (vs := [.int .u8 (48 + (v : Int) % 2)]) rfl).rd
        rw [h, hX1, HV.out, one_digit]
      have hXs : X1.size = 1 := by rw [hX1]; exact txtF_size _ _
      have hstep := Lib.hid (show X1 ++ S = txtF (digF n (j + 1)) (j + 1) by rw [hX1, hS.out]; exact (digF_step n j).symm)
      have hlim : ¬ 9223372036854775807 < X1.size + S.size := by rw [hXs, hSz.out]; omega
      have hlim2 : ¬ 9223372036854775807 < 1 + S.size := by rw [hSz.out]; omega
      have hdv := Lib.hid (show v / 2 = n / 2 ^ (j + 1) by rw [HV.out, Nat.div_div_eq_div_mul]; rfl)
      have hb1 := Lib.hid (hB.out.alloc hB.out.size (.cells #[.int .u8 (48 + (v : Int) % 2)] 5))
      clear hX1
      rcases (show 0 < v ∨ (v = 0 ∧ j < w0) by omega) with hc | hc
      · have ht1 : decide (0 < v) = true := by rw [decide_eq_true_eq]; exact hc
        clear hc hst
        go_wp2
        go_roundw
        case rel => exact ⟨j + 1, by have := hgo.out; omega, by rw [← hdv.out]; rfl, by rw [Int.natCast_add]; congr 1; omega, ⟨_, rfl, hstep.out⟩, hb1.out⟩
        case measure => simp [intOf]; omega
      · have ht1 : decide (0 < v) = false := by rw [decide_eq_false_iff_not]; omega
        have ht2 : decide (j < w0) = true := by rw [decide_eq_true_eq]; exact hc.2
        clear hc hst
        go_wp2
        go_roundw
        case rel => exact ⟨j + 1, by have := hgo.out; omega, by rw [← hdv.out]; rfl, by rw [Int.natCast_add]; congr 1; omega, ⟨_, rfl, hstep.out⟩, hb1.out⟩
        case measure => simp [intOf]; omega
end Go.Proofs.Ytnhlenagojbigaa
