/- Bundle of texts: RefC RefD. -/
import Derived.Test.YtljihclpgpmfeaaDoorUu
import Derived.Test.YtljihclpgpmfeaaDoorUn
import Derived.Test.YtljihclpgpmfeaaDoorUo
/- Walks: fretworkref01: Bytes, Of. -/
namespace Go.Proofs.YtljihclpgpmfeaaDoor
set_option maxRecDepth 100000
open Go.RowKit

/-- What a byte holds when i digits are written. -/
def partF (f : Nat → Bool) (i q : Nat) : Nat := numF f (8 * q) (min 8 (i - 8 * q))
def cellsP (f : Nat → Bool) (i k : Nat) : List Value := (List.range k).map fun q => .int .u8 (partF f i q : Nat)
theorem length_cellsP (f : Nat → Bool) (i k : Nat) : (cellsP f i k).length = k := by simp [cellsP]
theorem cellsP_at (f : Nat → Bool) (i : Nat) {k q : Nat} (h : q < k) : (cellsP f i k)[q]? = some (.int .u8 (partF f i q : Nat)) := by
  unfold cellsP
  rw [List.getElem?_map, List.getElem?_range h]
  rfl
theorem cellsP_zero (f : Nat → Bool) (k : Nat) : cellsP f 0 k = cellsF (fun _ => false) k := by
  rw [cellsF_zero]
  unfold cellsP partF
  apply List.ext_getElem?
  intro q
  rw [List.getElem?_map]
  rcases Nat.lt_or_ge q k with h | h
  · rw [List.getElem?_range h, List.getElem?_replicate_of_lt h]
    show some (Value.int .u8 ((numF f (8 * q) (min 8 (0 - 8 * q)) : Nat) : Int)) = _
    rw [show min 8 (0 - 8 * q) = 0 by omega]; rfl
  · rw [List.getElem?_eq_none (by simpa using h), List.getElem?_eq_none (by simpa using h)]; rfl
theorem cellsP_all (f : Nat → Bool) (k : Nat) : cellsP f (8 * k) k = cellsF f k := by
  unfold cellsP cellsF partF byteF
  refine List.map_congr_left fun q hq => ?_
  have := List.mem_range.1 hq
  rw [Nat.min_eq_left (by omega)]
theorem partF_at (f : Nat → Bool) (i : Nat) : partF f i (i / 8) < 128 ∧ partF f (i + 1) (i / 8) = 2 * partF f i (i / 8) + (f i).toNat := by
  unfold partF
  have e1 : min 8 (i - 8 * (i / 8)) = i % 8 := by omega
  have e2 : min 8 (i + 1 - 8 * (i / 8)) = i % 8 + 1 := by omega
  rw [e1, e2, numF, show 8 * (i / 8) + i % 8 = i by omega]
  refine ⟨?_, rfl⟩
  have h1 := numF_lt f (8 * (i / 8)) (i % 8)
  have h2 : 2 ^ (i % 8) ≤ 2 ^ 7 := Nat.pow_le_pow_right (by decide) (by omega)
  omega
theorem cellsP_step (f : Nat → Bool) (i k : Nat) (h : i / 8 < k) : (cellsP f i k).set (i / 8) (.int .u8 (2 * partF f i (i / 8) + (f i).toNat : Nat)) = cellsP f (i + 1) k := by
  apply List.ext_getElem?
  intro q
  rw [List.getElem?_set, length_cellsP]
  by_cases he : i / 8 = q
  · subst he
    rw [if_pos rfl, if_pos h, cellsP_at f (i + 1) h, (partF_at f i).2]
  · rw [if_neg he]
    rcases Nat.lt_or_ge q k with hq | hq
    · rw [cellsP_at f i hq, cellsP_at f (i + 1) hq]
      unfold partF
      rw [show min 8 (i - 8 * q) = min 8 (i + 1 - 8 * q) by omega]
    · rw [List.getElem?_eq_none (by rw [length_cellsP]; exact hq), List.getElem?_eq_none (by rw [length_cellsP]; exact hq)]

set_option maxRecDepth 100000 in
set_option maxHeartbeats 4000000 in
theorem bytes_ref (f : Nat → Bool) (m : Nat) (w : World) (hm : m ≤ 4194304) :
    Calls Tryd.prog 53 #[.string (txtF f m)] w fun e w' => ∃ g, e = .returned (.slice (some ⟨g, 0, none⟩) ((m + 7) / 8) ((m + 7) / 8)) ∧ w.heap.size ≤ g ∧ Own w' g 5 (cellsF (cutTo f m) ((m + 7) / 8)) ∧ Below w.heap.size w w' := by
  obtain ⟨k, hk⟩ : ∃ k, k = (m + 7) / 8 := ⟨_, rfl⟩
  have hkI : ((m : Int) + 7) / 8 = (k : Int) := by omega
  rw [← hk]
  have hmk := mk_bytes k (by omega)
  have HK := Lib.hid hk
  have hkb : k ≤ 600000 := by omega
  have hsz := txtF_size f m
  have HG := Lib.hid (txtF_get f m)
  generalize txtF f m = X at hsz HG
  clear hk
  go_enter Tryd.func53, Tryd.ntmps53
  go_wp2_with fail
  go_loopw [4] (fun v wr => ∃ i : Nat, i ≤ m ∧ v = .int .i64 i ∧ Hid (Own wr w.heap.size 5 (cellsP (cutTo f m) i k)) ∧ Hid (Below w.heap.size w wr)) (fun v _ => m - (intOf v).toNat)
  case atStart => exact ⟨0, Nat.zero_le _, rfl, by rw [cellsP_zero]; exact Own.new' rfl, (Below.refl _ w).alloc (Nat.le_refl _) _⟩
  case round =>
    obtain ⟨i, hi, rfl, hO, hB⟩ := hrel
    by_cases hlt : i < m
    · obtain ⟨q, hq⟩ : ∃ q, q = i / 8 := ⟨_, rfl⟩
      have hqk := Lib.hid (show i / 8 < k by have := HK.out; omega)
      have hqI : (i : Int) / 8 = (q : Int) := by omega
      have hp := Lib.hid (partF_at (cutTo f m) i)
      have hst := Lib.hid (cellsP_step (cutTo f m) i k hqk.out)
      have hcell := (hO.out.cell (i / 8)).trans (cellsP_at (cutTo f m) i hqk.out)
      have hfr := hO.out.frozen q
      obtain ⟨d, hd⟩ : ∃ d, d = (cutTo f m i).toNat := ⟨_, rfl⟩
      have hd1 : d ≤ 1 := by rw [hd]; cases cutTo f m i <;> decide
      have hXd : (X[i]'(by omega)).toNat = 48 + d := by rw [HG.out i (by omega), hd]; unfold cutTo; rw [decide_eq_true hlt, Bool.and_true]
      rw [← hd] at hst
      rw [← hq] at hcell hst hp hqk
      obtain ⟨P, hP⟩ : ∃ P, P = partF (cutTo f m) i q := ⟨_, rfl⟩
      rw [← hP] at hcell hst hp
      have hP7 : P < 128 := hp.out.1
      have hqk2 : (q : Int) < (k : Int) := by have := hqk.out; omega
      have hqk3 : q < k := hqk.out
      have hd48 : (48 : Int) + (d : Int) - 48 = (d : Int) := by omega
      clear hP hd hq hp
      go_upto_region 5 with (fail)
      refine region_tail 15 (by kernel_rfl) (by kernel_rfl) ?_
      simp only [List.take_succ_cons, List.take_zero, List.drop_succ_cons, List.drop_zero]
      repeat (refine still_step rfl rfl (fun K hK => ?_); go_wp2)
      refine wpStill_nil ?_
      go_wp2
      go_roundw
      case rel => exact ⟨i + 1, by omega, by go_num, by rw [← hst.out, show ((2 * P + d : Nat) : Int) = (P : Int) * 2 + (d : Int) by omega]; exact (hO.out.set q _).drew, (hB.out.setCell (by simp) _).drew⟩
      case measure => simp [intOf]; omega
    · obtain rfl : i = m := by omega
      obtain ⟨w5, hw5⟩ : ∃ V, V = wr := ⟨_, rfl⟩
      subst hw5
      obtain ⟨K8, hK8⟩ : ∃ K, K = 8 * k := ⟨_, rfl⟩
      have hK8I : (8 : Int) * (k : Int) = (K8 : Int) := by omega
      have HK8 := Lib.hid hK8
      have hiK : i ≤ K8 := by have := HK.out; omega
      have hK8b : K8 ≤ 4800000 := by omega
      clear hK8
      go_wp2_with fail
      go_loopw [5] (fun v wr => ∃ j : Nat, i ≤ j ∧ j ≤ K8 ∧ v = .int .i64 j ∧ Hid (Own wr w.heap.size 5 (cellsP (cutTo f i) j k)) ∧ Hid (Below w.heap.size w wr)) (fun v _ => K8 - (intOf v).toNat)
      case atStart => exact ⟨i, Nat.le_refl _, hiK, rfl, hO.out, hB.out⟩
      case round =>
        obtain ⟨j, hj1, hj2, rfl, hO, hB⟩ := hrel
        by_cases hlt2 : j < K8
        · obtain ⟨q, hq⟩ : ∃ q, q = j / 8 := ⟨_, rfl⟩
          have hqk := Lib.hid (show j / 8 < k by have := HK8.out; omega)
          have hqI : (j : Int) / 8 = (q : Int) := by omega
          have hp := Lib.hid (partF_at (cutTo f i) j)
          have hst := Lib.hid (cellsP_step (cutTo f i) j k hqk.out)
          have hcell := (hO.out.cell (j / 8)).trans (cellsP_at (cutTo f i) j hqk.out)
          have hfr := hO.out.frozen q
          have hd : (cutTo f i j).toNat = 0 := by unfold cutTo; rw [decide_eq_false (by omega), Bool.and_false]; rfl
          rw [hd] at hst
          rw [← hq] at hcell hst hp hqk
          obtain ⟨P, hP⟩ : ∃ P, P = partF (cutTo f i) j q := ⟨_, rfl⟩
          rw [← hP] at hcell hst hp
          have hP7 : P < 128 := hp.out.1
          have hqk2 : (q : Int) < (k : Int) := by have := hqk.out; omega
          have hqk3 : q < k := hqk.out
          clear hP hd hq hp
          go_wp2
          go_roundw
          case rel => exact ⟨j + 1, by omega, by omega, by go_num, by rw [← hst.out, show ((2 * P + 0 : Nat) : Int) = (P : Int) * 2 by omega]; exact hO.out.set q _, hB.out.setCell (by simp) _⟩
          case measure => simp [intOf]; omega
        · have hje := Lib.hid (show j = 8 * k by have := HK8.out; omega)
          rw [hje.out, cellsP_all] at hO
          go_wp2
          go_ret
          exact ⟨w.heap.size, rfl, Nat.le_refl _, hO.out, hB.out⟩
end Go.Proofs.YtljihclpgpmfeaaDoor
/- Walks: fretworkref01: Of, Tied, Join, Cut, Field, Knot. -/
namespace Go.Proofs.YtljihclpgpmfeaaDoor
set_option maxRecDepth 100000
open Go.RowKit

theorem cutTo_self {f : Nat → Bool} {L n : Nat} (h : RS L n f) : cutTo f L = f := by
  funext i
  unfold cutTo
  by_cases hi : i < L
  · rw [decide_eq_true hi, Bool.and_true]
  · rw [decide_eq_false hi, Bool.and_false]; exact (h.zero i (by omega)).symm
theorem text_good (A : Option Addr) (n c l : Nat) (f : Nat → Bool) (X : ByteArray) (w : World) (hr : Rd w A (cellsF f n)) (hs : RS l n f) (hn : n ≤ 1000) (hX : X = txtF f l) :
    Calls Tryd.prog 71 #[.agg #[.slice A n c, .int .i64 l]] w fun e w' => e = .returned (.tuple #[.string X, .bool true]) ∧ Below w.heap.size w w' := by
  have h := textR_any A n c l f w (ArgS.of hr hs) hn
  rw [textS_yes hs.rightB, hs.rightB, ← hX] at h
  exact h
theorem text_bad (A : Option Addr) (n c : Nat) (L : Int) (f : Nat → Bool) (w : World) (hs : ArgS w A n L f) (hn : n ≤ 1000) (hR : rightB L n f = false) :
    Calls Tryd.prog 71 #[.agg #[.slice A n c, .int .i64 L]] w fun e w' => e = .returned (.tuple #[.string ⟨#[]⟩, .bool false]) ∧ Below w.heap.size w w' := by
  have h := textR_any A n c L f w hs hn
  rw [textS_no hR, hR] at h
  exact h

set_option maxRecDepth 100000 in
set_option maxHeartbeats 2000000 in
theorem of_good (f : Nat → Bool) (m : Nat) (X : ByteArray) (w : World) (hX : X = txtF f m) (hm : m ≤ 4194304) :
    Calls Tryd.prog 70 #[.string X] w (GoodS w m (cutTo f m)) := by
  have hbr := fun W => bytes_ref f m W hm
  have hsz := txtF_size f m
  rw [← hX] at hbr hsz
  have HBR := Lib.hid hbr
  clear hbr hX
  have d1 : decide (4194304 < (m : Int)) = false := by rw [decide_eq_false_iff_not]; omega
  have d2 : decide (4194304 < m) = false := by rw [decide_eq_false_iff_not]; omega
  have hb := Lib.hid (Below.refl w.heap.size w)
  go_enter Tryd.func70, Tryd.ntmps70
  go_wp2_with fail
  refine (HBR.out _).mono ?_
  rintro e w1 ⟨g, rfl, hg, hO, hbk⟩
  have OR' := Lib.hid (Own.below' (Own.new' (g := w.heap.size) (w := w) (vs := [.slice none 0 0, .int .i64 0]) rfl) hbk)
  have hb' := Lib.hid ((hb.out.alloc (by have := hb.out.size; simp; try omega) _).trans (hbk.mono (by have := hb.out.size; simp; try omega)))
  have hs1 := hbk.size
  simp only [World.size_alloc] at hs1
  clear hb hbk 
  have hb := hb'; clear hb'
  have OR := OR'; clear OR'
  have OB := Lib.hid hO; clear hO
  have yR := OR.out.lt; have fR := OR.out.frozen; have qR := OR.out.cell
  simp only [World.size_alloc] at hg
  go_wp2
  have hF := (OR.out.set 0 (.slice (some ⟨g, 0, none⟩) ((m + 7) / 8) ((m + 7) / 8))).set 1 (.int .i64 (m : Nat))
  have q0 := hF.cell 0
  have q1 := hF.cell 1
  simp only [List.set_cons_zero, List.set_cons_succ, List.getElem?_cons_zero, List.getElem?_cons_succ] at q0 q1
  exact bodyPost_ret (v := .tuple #[.agg #[.slice (some ⟨g, 0, none⟩) ((m + 7) / 8) ((m + 7) / 8), .int .i64 (m : Nat)], .int .i64 0]) (by simp [results, Tryd.results70, go_sem, q0, q1]) rfl
    ⟨g, rfl, by omega, (OB.out.far (by intro e; simp at e; try omega) _).far (by intro e; simp at e; try omega) _, (hb.out.setCell (by simp; try omega) _).setCell (by simp; try omega) _⟩
theorem digits_at (n w0 d : Nat) (X : ByteArray) (w : World) (hn : n < 18446744073709551616) (hw : w0 ≤ 64) (hd : manyD n w0 = d) (hX : X = txtF (digF n d) d) :
    Calls Tryd.prog 74 #[.int .u64 n, .int .i64 w0] w fun e w' => e = .returned (.string X) ∧ Below w.heap.size w w' := by
  subst hd hX
  exact digits_ref n w0 w hn hw
theorem tied_text (n : Nat) (hn : n < 18446744073709551615) : txtF (digF 0 (digits n - 1)) (digits n - 1) ++ txtF (digF (n + 1) (digits n)) (digits n) = txtF (knotF n) (knotL n) := by
  obtain ⟨_, _, h1, _⟩ := digits_spec n hn
  rw [txtF_append, show digits n - 1 + digits n = knotL n by unfold knotL; omega]
  refine txtF_congr fun i hi => ?_
  unfold knotF putF digF noF
  by_cases h : i < digits n - 1
  · rw [if_pos h, decide_eq_false (by omega)]; simp
  · rw [if_neg h, decide_eq_true (by unfold knotL at hi; omega)]; simp
set_option maxRecDepth 100000 in
set_option maxHeartbeats 2000000 in
theorem tied_ref (n : Nat) (X : ByteArray) (w : World) (hn : n < 18446744073709551615) (hX : X = txtF (knotF n) (knotL n)) :
    Calls Tryd.prog 52 #[.int .u64 n] w fun e w' => e = .returned (.string X) ∧ Below w.heap.size w w' := by
  obtain ⟨hs1, hs2, hs3, hs4⟩ := digits_spec n hn
  have htt := tied_text n hn
  rw [← hX] at htt
  have hw := wrap_succ n hn
  obtain ⟨n1, h1⟩ : ∃ n1, n1 = n + 1 := ⟨_, rfl⟩
  rw [← h1] at htt hw
  obtain ⟨d, hd⟩ : ∃ d, d = digits n := ⟨_, rfl⟩
  have hd0 := Lib.hid (show manyD n1 0 = d by unfold manyD; rw [hd, h1]; unfold digits; omega)
  rw [← hd] at htt hs3 hs4
  obtain ⟨d1, hd1⟩ : ∃ d1, d1 = d - 1 := ⟨_, rfl⟩
  rw [← hd1] at htt
  have hdI : (d : Int) - 1 = (d1 : Int) := by omega
  have hd2 := Lib.hid (show manyD 0 d1 = d1 by unfold manyD; have : Lib.bitLen 0 = 0 := rfl; omega)
  obtain ⟨X1, hX1⟩ : ∃ X1, X1 = txtF (digF n1 d) d := ⟨_, rfl⟩
  obtain ⟨X2, hX2⟩ : ∃ X2, X2 = txtF (digF 0 d1) d1 := ⟨_, rfl⟩
  rw [← hX1, ← hX2] at htt
  have hz1 : X1.size = d := by rw [hX1]; exact txtF_size _ _
  have hz2 : X2.size = d1 := by rw [hX2]; exact txtF_size _ _
  have hn1 := Lib.hid (show n1 < 18446744073709551616 by omega)
  have hlim : ¬ 9223372036854775807 < d1 + d := by omega
  have hd64 : d1 ≤ 64 := by omega
  have HX1 := Lib.hid hX1; have HX2 := Lib.hid hX2; have hfin := Lib.hid htt
  clear hs1 hs2 h1 hd hd1 htt hX hn hX1 hX2
  have hb := Lib.hid (Below.refl w.heap.size w)
  go_enter Tryd.func52, Tryd.ntmps52
  go_wp2_with fail
  refine (digits_at n1 0 d X1 _ hn1.out (by omega) hd0.out HX1.out).mono ?_
  rintro e w1 ⟨rfl, hbk⟩
  have hb' := Lib.hid (hb.out.trans (hbk.mono (by have := hb.out.size; simp; try omega)))
  have hs1 := hbk.size
  clear hb hbk 
  have hb := hb'; clear hb'
  go_wp2_with fail
  refine (digits_at 0 d1 d1 X2 _ (by decide) hd64 hd2.out HX2.out).mono ?_
  rintro e w2 ⟨rfl, hbk⟩
  have hb' := Lib.hid (hb.out.trans (hbk.mono (by have := hb.out.size; simp; try omega)))
  have hs2 := hbk.size
  clear hb hbk 
  have hb := hb'; clear hb'
  go_wp2
  go_ret
  exact ⟨ret_str hfin.out, hb.out⟩
end Go.Proofs.YtljihclpgpmfeaaDoor
