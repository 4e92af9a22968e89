/- Bundle of texts: RefA RefB. -/
import Derived.Test.YtljihclpgpmfeaaDoorUb
import Derived.Test.YtljihclpgpmfeaaDoorUn
import Derived.Test.YtljihclpgpmfeaaDoorTxt
import Derived.Test.YtljihclpgpmfeaaDoorCopy
import Derived.Test.YtljihclpgpmfeaaDoorStrP
/- Walks: fretworkref01: number, Digits, Tied. -/
namespace Go.Proofs.YtljihclpgpmfeaaDoor
set_option maxRecDepth 100000
open Go.RowKit

theorem num_step (f : Nat → Bool) (k d : Nat) (hk : k < 64) (h : d = 48 + (f k).toNat) :
    IntKind.u64.wrap (IntKind.u64.wrap (((numF f 0 k : Nat) : Int) * 2) + ((d : Int) - 48) % 256) = ((numF f 0 (k + 1) : Nat) : Int) := by
  have h1 := numF_lt f 0 k
  have h2 : 2 ^ k ≤ 2 ^ 63 := Nat.pow_le_pow_right (by decide) (by omega)
  have h3 : (f k).toNat ≤ 1 := by cases f k <;> decide
  have h4 : numF f 0 (k + 1) = 2 * numF f 0 k + (f k).toNat := by rw [numF, Nat.zero_add]
  have h5 : ((d : Int) - 48) % 256 = ((f k).toNat : Int) := by omega
  have e1 : IntKind.u64.wrap (((numF f 0 k : Nat) : Int) * 2) = ((numF f 0 k : Nat) : Int) * 2 := IntWalk.u64_in _ (by omega)
  rw [h5, e1, IntWalk.u64_in _ (by omega), h4]
  omega
set_option maxRecDepth 100000 in
set_option maxHeartbeats 2000000 in
theorem number_ref (f : Nat → Bool) (m : Nat) (w : World) (hm : m ≤ 64) :
    Calls Tryd.prog 72 #[.string (txtF f m)] w fun e w' => e = .returned (.int .u64 (numF f 0 m : Nat)) ∧ w = w' := by
  have hsz := txtF_size f m
  have HG := Lib.hid (txtF_get f m)
  generalize txtF f m = X at hsz HG
  go_enter Tryd.func72, Tryd.ntmps72
  go_wp2
  go_loop [3, 4] (fun n i => ∃ k : Nat, k ≤ m ∧ i = .int .i64 k ∧ n = .int .u64 (numF f 0 k : Nat)) (fun _ i => m - (intOf i).toNat)
  case atStart => exact ⟨0, Nat.zero_le _, rfl, rfl⟩
  case round =>
    obtain ⟨k, hk, rfl, rfl⟩ := hrel
    by_cases hlt : k < m
    · have HE := Lib.hid (num_step f k (X[k]'(by omega)).toNat (by omega) (HG.out k (by omega)))
      go_wp2
      go_round
      case rel => exact ⟨k + 1, by omega, by go_num, by rw [HE.out]⟩
      case measure => simp [intOf]; omega
    · obtain rfl : k = m := by omega
      go_wp2
      go_ret
      exact ⟨rfl, rfl⟩
/-- How many digits: at least so many. -/
def manyD (n w : Nat) : Nat := max (Lib.bitLen n) w
theorem manyD_stop {n w j : Nat} (hn : n < 18446744073709551616) (hj : j ≤ manyD n w) (h : n / 2 ^ j = 0 ∧ w ≤ j) : j = manyD n w := by
  unfold manyD at hj ⊢
  obtain ⟨h1, h2, _⟩ := bitLen_spec n hn
  have h3 : n < 2 ^ j := by
    rcases Nat.lt_or_ge n (2 ^ j) with q | q
    · exact q
    · have := Nat.div_pos q (Nat.two_pow_pos j); omega
  by_cases h0 : n = 0
  · have : Lib.bitLen n ≤ w ∨ w < Lib.bitLen n := by omega
    rcases this with q | q
    · omega
    · subst h0
      have : Lib.bitLen 0 = 0 := rfl
      omega
  · have h4 := (h2 h0).2
    have h5 : Lib.bitLen n - 1 < j := by
      rcases Nat.lt_or_ge (Lib.bitLen n - 1) j with q | q
      · exact q
      · have := Nat.pow_le_pow_right (show 0 < 2 by decide) q; omega
    omega
theorem manyD_go {n w j : Nat} (hn : n < 18446744073709551616) (hj : j ≤ manyD n w) (h : ¬ (n / 2 ^ j = 0 ∧ w ≤ j)) : j < manyD n w := by
  unfold manyD at hj ⊢
  obtain ⟨h1, h2, _⟩ := bitLen_spec n hn
  rcases Nat.lt_or_ge j (max (Lib.bitLen n) w) with q | q
  · exact q
  · exfalso
    refine h ⟨?_, by omega⟩
    refine Nat.div_eq_of_lt (Nat.lt_of_lt_of_le h1 (Nat.pow_le_pow_right (by decide) (by omega)))
/-- The binary digits of a number, k of them. -/
def digF (n k i : Nat) : Bool := n.testBit (k - 1 - i)
theorem digF_step (n j : Nat) : txtF (digF n (j + 1)) (j + 1) = txtF (fun _ => n.testBit j) 1 ++ txtF (digF n j) j := by
  rw [txtF_append, Nat.add_comm 1 j]
  refine txtF_congr fun i hi => ?_
  unfold digF
  by_cases h : i < 1
  · rw [if_pos h]; congr 1; omega
  · rw [if_neg h]; congr 1; omega
theorem one_digit (n j : Nat) : strOfNums [48 + ((n / 2 ^ j : Nat) : Int) % 2] = txtF (fun _ => n.testBit j) 1 := by
  have h : [48 + ((n / 2 ^ j : Nat) : Int) % 2] = numsD (fun _ => n.testBit j) 1 := by
    show _ = [((48 + (n.testBit j).toNat : Nat) : Int)]
    congr 1
    rw [Nat.testBit_eq_decide_div_mod_eq]
    by_cases h : n / 2 ^ j % 2 = 1
    · rw [decide_eq_true h]; show _ = ((49 : Nat) : Int); omega
    · rw [decide_eq_false h]; show _ = ((48 : Nat) : Int); omega
  rw [h, strOf_numsD]
theorem ret_str {s t : ByteArray} (h : s = t) : Ending.returned (.string s) = .returned (.string t) := by rw [h]
set_option maxRecDepth 100000 in
set_option maxHeartbeats 2000000 in
theorem digits_ref (n w0 : Nat) (w : World) (hn : n < 18446744073709551616) (hw : w0 ≤ 64) :
    Calls Tryd.prog 74 #[.int .u64 n, .int .i64 w0] w fun e w' => e = .returned (.string (txtF (digF n (manyD n w0)) (manyD n w0))) ∧ Below w.heap.size w w' := by
  have HN := Lib.hid hn
  have hm64 := Lib.hid (show manyD n w0 ≤ 64 by unfold manyD; have := (bitLen_spec n hn).2.2; omega)
  clear hn
  go_enter Tryd.func74, Tryd.ntmps74
  go_wp2
  go_loopw [0, 1, 5] (fun s0 s1 s5 wr => ∃ j : Nat, j ≤ manyD n w0 ∧ s0 = .int .u64 (n / 2 ^ j : Nat) ∧ s1 = .int .i64 ((w0 : Int) - (j : Int)) ∧ (∃ S, s5 = .string S ∧ Hid (S = txtF (digF n j) j)) ∧ Hid (Below w.heap.size w wr)) (fun _ s1 _ _ => ((intOf s1) + 65).toNat)
  case atStart => exact ⟨0, Nat.zero_le _, by rw [Nat.pow_zero, Nat.div_one], by simp, ⟨_, rfl, rfl⟩, Below.refl _ _⟩
  case round =>
    obtain ⟨j, hj, rfl, rfl, ⟨S, rfl, hS⟩, hB⟩ := hrel
    obtain ⟨v, hv⟩ : ∃ v, v = n / 2 ^ j := ⟨_, rfl⟩
    have hv64 : v < 18446744073709551616 := by have := HN.out; have := Nat.div_le_self n (2 ^ j); omega
    rw [← hv]
    have HV := Lib.hid hv
    have hSz := Lib.hid (show S.size = j by rw [hS.out]; exact txtF_size _ _)
    clear hv
    by_cases hst : v = 0 ∧ w0 ≤ j
    · have he := Lib.hid (manyD_stop HN.out hj (by rw [← HV.out]; exact hst))
      have ht1 : decide (0 < v) = false := by rw [decide_eq_false_iff_not]; omega
      have ht2 : decide (j < w0) = false := by rw [decide_eq_false_iff_not]; omega
      clear hst
      go_wp2
      go_ret
      exact ⟨ret_str (by rw [hS.out, ← he.out]), hB.out⟩
    · have hgo := Lib.hid (manyD_go HN.out hj (by rw [← HV.out]; exact hst))
      have hw1 : (w0 : Int) - (j : Int) ≤ 64 := by omega
      have hw2 : -64 ≤ (w0 : Int) - (j : Int) := by have := hm64.out; omega
      have hj64 := hm64.out
      obtain ⟨X1, hX1⟩ : ∃ X, X = txtF (fun _ => n.testBit j) 1 := ⟨_, rfl⟩
      have hcv : (convert 22 9 (.slice (some ⟨wr.heap.size, 0, none⟩) 1 1)).run Tryd.prog (wr.alloc (.cells #[.int .u8 (48 + (v : Int) % 2)] 5)) = .ok (.string X1) (wr.alloc (.cells #[.int .u8 (48 + (v : Int) % 2)] 5)) := by
        have h := conv_nums (some ⟨wr.heap.size, 0, none⟩) 1 1 [48 + (v : Int) % 2] (wr.alloc (.cells #[.int .u8 (48 + (v : Int) % 2)] 5)) rfl (by decide) (Own.new' (vs := [.int .u8 (48 + (v : Int) % 2)]) rfl).rd
        rw [h, hX1, HV.out, one_digit]
      have hXs : X1.size = 1 := by rw [hX1]; exact txtF_size _ _
      have hstep := Lib.hid (show X1 ++ S = txtF (digF n (j + 1)) (j + 1) by rw [hX1, hS.out]; exact (digF_step n j).symm)
      have hlim : ¬ 9223372036854775807 < X1.size + S.size := by rw [hXs, hSz.out]; omega
      have hlim2 : ¬ 9223372036854775807 < 1 + S.size := by rw [hSz.out]; omega
      have hdv := Lib.hid (show v / 2 = n / 2 ^ (j + 1) by rw [HV.out, Nat.div_div_eq_div_mul]; rfl)
      have hb1 := Lib.hid (hB.out.alloc hB.out.size (.cells #[.int .u8 (48 + (v : Int) % 2)] 5))
      clear hX1
      rcases (show 0 < v ∨ (v = 0 ∧ j < w0) by omega) with hc | hc
      · have ht1 : decide (0 < v) = true := by rw [decide_eq_true_eq]; exact hc
        clear hc hst
        go_wp2
        go_roundw
        case rel => exact ⟨j + 1, by have := hgo.out; omega, by rw [← hdv.out]; rfl, by rw [Int.natCast_add]; congr 1; omega, ⟨_, rfl, hstep.out⟩, hb1.out⟩
        case measure => simp [intOf]; omega
      · have ht1 : decide (0 < v) = false := by rw [decide_eq_false_iff_not]; omega
        have ht2 : decide (j < w0) = true := by rw [decide_eq_true_eq]; exact hc.2
        clear hc hst
        go_wp2
        go_roundw
        case rel => exact ⟨j + 1, by have := hgo.out; omega, by rw [← hdv.out]; rfl, by rw [Int.natCast_add]; congr 1; omega, ⟨_, rfl, hstep.out⟩, hb1.out⟩
        case measure => simp [intOf]; omega
end Go.Proofs.YtljihclpgpmfeaaDoor
/- Walks: fretworkref01: Said, Text. -/
namespace Go.Proofs.YtljihclpgpmfeaaDoor
set_option maxRecDepth 100000
open Go.RowKit

theorem half_step (f : Nat → Bool) (i j : Nat) (hj : j < 8) : (byteF f i / (128 / 2 ^ j)) % 2 = (f (8 * i + j)).toNat := by
  have h := testBit_byteF f i (7 - j)
  rw [decide_eq_true (show 7 - j < 8 by omega), Bool.true_and, show 7 - (7 - j) = j by omega, Nat.testBit_eq_decide_div_mod_eq] at h
  have e : 128 / 2 ^ j = 2 ^ (7 - j) := by
    have : j = 0 ∨ j = 1 ∨ j = 2 ∨ j = 3 ∨ j = 4 ∨ j = 5 ∨ j = 6 ∨ j = 7 := by omega
    rcases this with rfl | rfl | rfl | rfl | rfl | rfl | rfl | rfl <;> rfl
  rw [e, ← h]
  rcases Nat.mod_two_eq_zero_or_one (byteF f i / 2 ^ (7 - j)) with q | q <;> rw [q] <;> rfl
theorem half_next (j : Nat) (hj : j < 8) : 128 / 2 ^ j / 2 = 128 / 2 ^ (j + 1) ∧ 0 < 128 / 2 ^ j := by
  have : j = 0 ∨ j = 1 ∨ j = 2 ∨ j = 3 ∨ j = 4 ∨ j = 5 ∨ j = 6 ∨ j = 7 := by omega
  rcases this with rfl | rfl | rfl | rfl | rfl | rfl | rfl | rfl <;> decide
theorem conv_digits (A : Option Addr) (m c : Nat) (f : Nat → Bool) (w : World) (hr : Rd w A (cellsD f m)) : (convert 22 9 (.slice A m c)).run Tryd.prog w = .ok (.string (txtF f m)) w := by
  by_cases h0 : m = 0
  · subst h0
    exact conv_bytes A 0 c (fun _ => false) w (Rd.zero rfl)
  · have h := conv_nums A m c (numsD f m) w (length_numsD f m) (by omega) (by rw [numsD_map]; exact hr)
    rw [h, strOf_numsD]
theorem mk_room (n : Nat) (hn : n ≤ 281474976710656) (W : World) : (Instr.makeSlice 22 (.int .i64 0) (.int .i64 (n : Int))).run Tryd.prog W = .ok (.slice (some ⟨W.heap.size, 0, none⟩) 0 n) (W.alloc (.cells (List.replicate n (.int .u8 0)).toArray 5)) := by
  obtain ⟨i0, hi, hz0, hz1, hz2⟩ := info_parts info5
  have hmk := run_make (P := Tryd.prog) W 22 5 i0 _ Tryd.underlying22 hi hz0 .i64 .i64 0 n (by omega) (by omega) (by rw [hz2]; omega) (by omega)
  rw [hz1] at hmk
  simp only [Int.toNat_natCast, Value.cells, replicate_cells, Nat.mul_one] at hmk
  exact hmk
/-- A row that is written: its first m cells are digits. -/
def DigRow (w : World) (f : Nat → Bool) (m : Nat) (v : Value) (wr : World) : Prop :=
  ∃ g cap more, v = .slice (some ⟨g, 0, none⟩) m cap ∧ w.heap.size ≤ g ∧ Own wr g 5 (cellsD f m ++ more) ∧ m ≤ cap ∧ cap ≤ maxLen ∧ (cellsD f m ++ more).length = cap * 1 ∧ Below w.heap.size w wr

set_option maxRecDepth 100000 in
set_option maxHeartbeats 4000000 in
theorem said_ref (A : Option Addr) (n c : Nat) (f : Nat → Bool) (w : World) (hr : Rd w A (cellsF f n)) (hn : n ≤ 1000) :
    Calls Tryd.prog 69 #[.slice A n c] w fun e w' => e = .returned (.string (txtF f (8 * n))) ∧ Below w.heap.size w w' := by
  have HR := Lib.hid hr
  clear hr
  obtain ⟨N8, hN8⟩ : ∃ N, N = 8 * n := ⟨_, rfl⟩
  have hI8 : (8 : Int) * (n : Int) = (N8 : Int) := by omega
  have hmk : ∀ W : World, (Instr.makeSlice 22 (.int .i64 0) (.int .i64 (N8 : Int))).run Tryd.prog W = .ok (.slice (some ⟨W.heap.size, 0, none⟩) 0 N8) (W.alloc (.cells (List.replicate N8 (.int .u8 0)).toArray 5)) := mk_room N8 (by omega)
  have HN8 := Lib.hid hN8
  have hN8b : N8 ≤ 8000 := by omega
  clear hN8
  go_enter Tryd.func69, Tryd.ntmps69
  go_wp2
  go_loopw [3, 4, 5] (fun s3 s4 _ wr => ∃ i : Nat, i ≤ n ∧ s4 = .int .i64 i ∧ Hid (DigRow w f (8 * i) s3 wr)) (fun _ v _ _ => n - (intOf v).toNat)
  case atStart => exact ⟨0, Nat.zero_le _, rfl, ⟨w.heap.size, N8, List.replicate N8 (.int .u8 0), rfl, Nat.le_refl _, Own.new' (vs := List.replicate N8 (.int .u8 0)) rfl, Nat.zero_le _, by unfold maxLen; omega, by simp [cellsD], (Below.refl _ w).alloc (Nat.le_refl _) _⟩⟩
  case round =>
    obtain ⟨i, hi, rfl, hD⟩ := hrel
    by_cases hlt : i < n
    · obtain ⟨b, off, rfl, hb, hc⟩ := HR.out (by rw [length_cellsF]; omega)
      have hcB := Lib.hid (hc i _ (cellsF_at f n i hlt))
      have hbl := Lib.hid (byteF_lt f i)
      have hst := Lib.hid (half_step f i)
      clear hc
      generalize byteF f i = B at hcB hbl hst
      go_wp2_with fail
      go_loopw [3, 5] (fun s3 s5 wr => ∃ j : Nat, j ≤ 8 ∧ s5 = .int .i64 (128 / 2 ^ j : Nat) ∧ Hid (DigRow w f (8 * i + j) s3 wr)) (fun _ v _ => (intOf v).toNat)
      case atStart => exact ⟨0, by omega, rfl, hD.out⟩
      case round =>
        obtain ⟨j, hj, rfl, ⟨g, cap, more, rfl, hg, hO, h1, h2, h3, hbw⟩⟩ := hrel
        have HO := Lib.hid hO; have H3 := Lib.hid h3; have hbW := Lib.hid hbw
        clear hO h3 hbw
        obtain ⟨H, hH⟩ : ∃ H, H = 128 / 2 ^ j := ⟨_, rfl⟩
        rw [← hH]
        by_cases hl2 : j < 8
        · have hnx := half_next j hl2
          rw [← hH] at hnx
          have hH0 : (0 : Int) < (H : Int) := by omega
          have hHn := Lib.hid hnx.1
          have hH128 : H ≤ 128 := by rw [hH]; exact Nat.div_le_self _ _
          have ht1 : decide (0 < H) = true := by rw [decide_eq_true_eq]; omega
          have hHz : ((H : Int) == 0) = false := by rw [beq_eq_false_iff_ne]; omega
          have hHz2 : ¬ (H : Int) = 0 := by omega
          have hB0 : (B : Int) ≤ 255 := by have := hbl.out; omega
          have hcell : wr.cell? ⟨b, off + i, none⟩ = some (.int .u8 (B : Nat)) := (hbW.out.cell (p := ⟨b, off + i, none⟩) hb).trans hcB.out
          obtain ⟨d, hd⟩ : ∃ d, d = (f (8 * i + j)).toNat := ⟨_, rfl⟩
          have hd1 : d ≤ 1 := by rw [hd]; cases f (8 * i + j) <;> decide
          obtain ⟨Q, hQ⟩ : ∃ Q, Q = B / H := ⟨_, rfl⟩
          have hQB : Q ≤ 255 := by rw [hQ]; have := hbl.out; have := Nat.div_le_self B H; omega
          have hQI : (B : Int) / (H : Int) = (Q : Int) := by rw [hQ]; exact (Int.natCast_ediv B H).symm
          have hbit : (Q : Int) % 2 = (d : Int) := by
            have := hst.out j hl2
            rw [← hH, ← hd, ← hQ] at this
            omega
          clear hQ
          have HD := Lib.hid hd
          have hH2 : (H : Int) / 2 = ((128 / 2 ^ (j + 1) : Nat) : Int) := by have := hHn.out; omega
          have HH2 := Lib.hid hH2
          clear hH hd hnx hH2
          obtain ⟨i0, hi0, hz0, hz1, hz2⟩ := info_parts info5
          have I0 := Lib.hid hi0; have I1 := Lib.hid hz0; have I2 := Lib.hid hz1; have I3 := Lib.hid hz2
          clear hi0 hz0 hz1 hz2
          go_wp2_with (at_builtin; refine wpList_append_row rfl (.tmp 20) (.tmp 31) 22 rfl 5 i0 (.int .u8 0) 1 1 Tryd.underlying22 I0.out I1.out I2.out I3.out rfl (by omega) g (8 * i + j) cap (cellsD f (8 * i + j)) more rfl (HO.out.alloc _) (by rw [length_cellsD]; omega) h1 h2 H3.out ⟨wr.heap.size, 0, none⟩ 1 1 [.int .u8 (48 + (d : Int))] rfl rfl ?c1 ?c2 ?c3 ?c4 ?c5)
          case c1 => exact fun k u hu => (Own.new' (g := wr.heap.size) (t := 5) (vs := [.int .u8 (48 + (d : Int))]) (w := wr) rfl).add hu
          case c2 => intro u hu; simp only [List.mem_singleton] at hu; subst hu; rfl
          case c3 => unfold maxLen; omega
          case c4 => omega
          case c5 =>
            intro g' cap' more' w6 hO6 hg6 hgr hp1 hp2 hp3
            have vb := Lib.hid ((hbW.out.alloc hbW.out.size _).trans (grown_below hgr hg (by have := hbW.out.size; simp; try omega)))
            have hd6 := Lib.hid (show DigRow w f (8 * i + (j + 1)) (.slice (some ⟨g', 0, none⟩) (8 * i + j + 1) cap') w6 from ⟨g', cap', more', rfl, by have := hbW.out.size; omega, by
              have e := cellsD_succ f (8 * i + j)
              rw [← HD.out] at e
              show Own w6 g' _ (cellsD f (8 * i + j + 1) ++ more')
              rw [← e]; simpa using hO6, hp1, hp2, by
              have e := cellsD_succ f (8 * i + j)
              rw [← HD.out] at e
              show (cellsD f (8 * i + j + 1) ++ more').length = _
              rw [← e]; simpa using hp3, vb.out⟩)
            clear hgr hO6 hp3 hp1 hp2 hg6
            go_wp2
            go_roundw
            case rel => exact ⟨j + 1, by omega, by rw [← HH2.out], hd6.out⟩
            case measure => simp [intOf]; omega
        · obtain rfl : j = 8 := by omega
          have hH0 : H = 0 := hH
          subst hH0
          go_wp2
          go_roundw
          case rel => exact ⟨i + 1, by omega, by go_num, ⟨g, cap, more, rfl, hg, HO.out, h1, h2, H3.out, hbW.out⟩⟩
          case measure => simp [intOf]; omega
    · obtain rfl : i = n := by omega
      obtain ⟨g, cap, more, rfl, hg, hO, h1, h2, h3, hbw⟩ := hD
      have hcv := conv_digits (some ⟨g, 0, none⟩) (8 * i) cap f wr (by have h := hO.rd_take (8 * i); rwa [List.take_left' (length_cellsD _ _)] at h)
      have hbW := Lib.hid hbw
      clear hO h3 hbw
      go_wp2
      go_ret
      exact ⟨rfl, hbW.out⟩
/-- The text of a strand that is right, else none. -/
def textS (L : Int) (n : Nat) (f : Nat → Bool) : ByteArray := if rightB L n f then txtF f L.toNat else ⟨#[]⟩
theorem textS_no {L : Int} {n : Nat} {f : Nat → Bool} (h : rightB L n f = false) : textS L n f = ⟨#[]⟩ := by unfold textS; rw [h]; rfl
theorem textS_yes {l n : Nat} {f : Nat → Bool} (h : rightB (l : Int) n f = true) : textS l n f = txtF f l := by unfold textS; rw [h]; rfl

set_option maxRecDepth 100000 in
set_option maxHeartbeats 4000000 in
theorem textR_any (A : Option Addr) (n c : Nat) (L : Int) (f : Nat → Bool) (w : World) (hs : ArgS w A n L f) (hn : n ≤ 1000) :
    Calls Tryd.prog 71 #[.agg #[.slice A n c, .int .i64 L]] w fun e w' => e = .returned (.tuple #[.string (textS L n f), .bool (rightB L n f)]) ∧ Below w.heap.size w w' := by
  have HS := Lib.hid hs
  clear hs
  obtain ⟨N8, hN8⟩ : ∃ N, N = 8 * n := ⟨_, rfl⟩
  have hsd := fun W hr => said_ref A n c f W hr hn
  rw [← hN8] at hsd
  have HSD := Lib.hid hsd
  have hsz := txtF_size f N8
  have HG := Lib.hid (txtF_get f N8)
  have HX := Lib.hid (fun p (hp : p ≤ N8) => txtF_extract f (n := N8) (Nat.zero_le p) hp)
  clear hsd
  have hN8b : N8 ≤ 8000 := by omega
  have HN8 := Lib.hid hN8
  clear hN8
  have hB := Lib.hid ((Below.refl w.heap.size w).alloc (Nat.le_refl _) (.cells #[.slice A n c, .int .i64 L] 63))
  have hL0 := HS.out.lo; have hL1 := HS.out.hi
  by_cases c1 : L < 0
  · skip
    have hR := Lib.hid (right_lt (n := n) (f := f) c1)
    have d1 : decide (L < 0) = true := by rw [decide_eq_true_eq]; omega
    go_enter Tryd.func71, Tryd.ntmps71
    go_wp2_with fail
    refine (HSD.out _ (HS.out.rd.alloc _)).mono ?_
    rintro e w1 ⟨rfl, hbk⟩
    have hb := Lib.hid (hB.out.trans (hbk.mono (by simp)))
    have o1 := Lib.hid ((Own.new' (g := w.heap.size) (t := 63) (vs := [.slice A n c, .int .i64 L]) (w := w) rfl).below' hbk)
    have q1 := o1.out.cell; have z1 := o1.out.lt
    clear hbk
    generalize txtF f N8 = X at hsz HG HX
    go_wp2
    go_ret2
    exact ⟨by rw [textS_no hR.out, hR.out]; rfl, hb.out⟩
  by_cases c2 : 4194304 < L
  · skip
    have hR := Lib.hid (right_gt (n := n) (f := f) c2)
    have d1 : decide (L < 0) = false := by rw [decide_eq_false_iff_not]; omega
    have d2 : decide (4194304 < L) = true := by rw [decide_eq_true_eq]; omega
    go_enter Tryd.func71, Tryd.ntmps71
    go_wp2_with fail
    refine (HSD.out _ (HS.out.rd.alloc _)).mono ?_
    rintro e w1 ⟨rfl, hbk⟩
    have hb := Lib.hid (hB.out.trans (hbk.mono (by simp)))
    have o1 := Lib.hid ((Own.new' (g := w.heap.size) (t := 63) (vs := [.slice A n c, .int .i64 L]) (w := w) rfl).below' hbk)
    have q1 := o1.out.cell; have z1 := o1.out.lt
    clear hbk
    generalize txtF f N8 = X at hsz HG HX
    go_wp2
    go_ret2
    exact ⟨by rw [textS_no hR.out, hR.out]; rfl, hb.out⟩
  by_cases c3 : (N8 : Int) < L
  · skip
    have hR := Lib.hid (right_len (n := n) (f := f) (L := L) (by omega) (by have := HN8.out; omega))
    have d1 : decide (L < 0) = false := by rw [decide_eq_false_iff_not]; omega
    have d2 : decide (4194304 < L) = false := by rw [decide_eq_false_iff_not]; omega
    have d3 : decide ((N8 : Int) < L) = true := by rw [decide_eq_true_eq]; omega
    go_enter Tryd.func71, Tryd.ntmps71
    go_wp2_with fail
    refine (HSD.out _ (HS.out.rd.alloc _)).mono ?_
    rintro e w1 ⟨rfl, hbk⟩
    have hb := Lib.hid (hB.out.trans (hbk.mono (by simp)))
    have o1 := Lib.hid ((Own.new' (g := w.heap.size) (t := 63) (vs := [.slice A n c, .int .i64 L]) (w := w) rfl).below' hbk)
    have q1 := o1.out.cell; have z1 := o1.out.lt
    clear hbk
    generalize txtF f N8 = X at hsz HG HX
    go_wp2
    go_ret2
    exact ⟨by rw [textS_no hR.out, hR.out]; rfl, hb.out⟩
  by_cases c4 : 7 < (N8 : Int) - L
  · skip
    have hR := Lib.hid (right_len (n := n) (f := f) (L := L) (by omega) (by have := HN8.out; omega))
    have d1 : decide (L < 0) = false := by rw [decide_eq_false_iff_not]; omega
    have d2 : decide (4194304 < L) = false := by rw [decide_eq_false_iff_not]; omega
    have d3 : decide ((N8 : Int) < L) = false := by rw [decide_eq_false_iff_not]; omega
    have d4 : decide (7 < (N8 : Int) - L) = true := by rw [decide_eq_true_eq]; omega
    go_enter Tryd.func71, Tryd.ntmps71
    go_wp2_with fail
    refine (HSD.out _ (HS.out.rd.alloc _)).mono ?_
    rintro e w1 ⟨rfl, hbk⟩
    have hb := Lib.hid (hB.out.trans (hbk.mono (by simp)))
    have o1 := Lib.hid ((Own.new' (g := w.heap.size) (t := 63) (vs := [.slice A n c, .int .i64 L]) (w := w) rfl).below' hbk)
    have q1 := o1.out.cell; have z1 := o1.out.lt
    clear hbk
    generalize txtF f N8 = X at hsz HG HX
    go_wp2
    go_ret2
    exact ⟨by rw [textS_no hR.out, hR.out]; rfl, hb.out⟩
  obtain ⟨l, rfl⟩ := Int.eq_ofNat_of_zero_le (show 0 ≤ L by omega)
  have d1 : decide ((l : Int) < 0) = false := by rw [decide_eq_false_iff_not]; omega
  have d2 : decide (4194304 < (l : Int)) = false := by rw [decide_eq_false_iff_not]; omega
  have d3 : decide (N8 < l) = false := by rw [decide_eq_false_iff_not]; omega
  have d4 : decide (7 < (N8 : Int) - (l : Int)) = false := by rw [decide_eq_false_iff_not]; omega
  have hln := Lib.hid (show n = (l + 7) / 8 by have := HN8.out; omega)
  have hlN : l ≤ N8 := by omega
  go_enter Tryd.func71, Tryd.ntmps71
  go_wp2_with fail
  refine (HSD.out _ (HS.out.rd.alloc _)).mono ?_
  rintro e w1 ⟨rfl, hbk⟩
  have hb := Lib.hid (hB.out.trans (hbk.mono (by simp)))
  have o1 := Lib.hid ((Own.new' (g := w.heap.size) (t := 63) (vs := [.slice A n c, .int .i64 (l : Int)]) (w := w) rfl).below' hbk)
  have q1 := o1.out.cell; have z1 := o1.out.lt
  clear hbk
  generalize txtF f N8 = X at hsz HG HX
  go_wp2_with fail
  go_loop [5] (fun v => ∃ i : Nat, l ≤ i ∧ i ≤ N8 ∧ v = .int .i64 i ∧ Hid (∀ j, l ≤ j → j < i → f j = false)) (fun v => N8 - (intOf v).toNat)
  case atStart => exact ⟨l, Nat.le_refl _, hlN, rfl, fun j h1 h2 => by omega⟩
  case round =>
    obtain ⟨i, hi1, hi2, rfl, hz⟩ := hrel
    by_cases hlt : i < N8
    · have hg := HG.out i (by omega)
      cases hfi : f i with
      | true =>
        rw [hfi] at hg
        have hR := Lib.hid (show rightB (l : Int) n f = false by
          cases hb0 : rightB (l : Int) n f with
          | false => rfl
          | true =>
            have h := ((rightB_iff HS.out.zero).1 hb0).2.zero i (by rw [Int.toNat_natCast]; exact hi1)
            rw [hfi] at h; cases h)
        clear hfi
        have hg : (X[i]'(by omega)).toNat = 49 := hg
        go_wp2
        go_ret2
        exact ⟨by rw [textS_no hR.out, hR.out]; rfl, hb.out⟩
      | false =>
        rw [hfi] at hg
        have hz2 := Lib.hid (show ∀ j, l ≤ j → j < i + 1 → f j = false from fun j h1 h2 => by
          by_cases he : j = i
          · rw [he]; exact hfi
          · exact hz.out j h1 (by omega))
        clear hfi
        have hg : (X[i]'(by omega)).toNat = 48 := hg
        go_wp2
        go_round
        case rel => exact ⟨i + 1, by omega, by omega, by go_num, hz2.out⟩
        case measure => simp [intOf]; omega
    · obtain rfl : i = N8 := by omega
      have hR := Lib.hid (show rightB (l : Int) n f = true from RS.rightB ⟨by omega, hln.out, fun j hj => by
        rcases Nat.lt_or_ge j i with h | h
        · exact hz.out j hj h
        · exact HS.out.zero j (by have := HN8.out; omega)⟩)
      have hx := HX.out l hlN
      have hxx := Lib.hid (show X.extract 0 l = txtF f l by rw [hx, Nat.sub_zero]; exact txtF_congr fun j _ => by rw [Nat.zero_add])
      clear hx
      go_wp2
      go_ret2
      exact ⟨by rw [textS_yes hR.out, hR.out, ← hxx.out]; rfl, hb.out⟩
end Go.Proofs.YtljihclpgpmfeaaDoor
