/- Walks: fretworkref01: Pack, Unpack, GetField, GetKnot. -/
import Derived.Test.YtnhlenagojbigaaRefE
import Derived.Test.YtnhlenagojbigaaStrI
import Derived.Test.YtnhlenagojbigaaStrK
namespace Go.Proofs.Ytnhlenagojbigaa
open Go.RowKit

theorem txt_pack {f : Nat → Bool} {L n : Nat} (hs : RS L n f) : txtF f L ++ ⟨#[49]⟩ = txtF (packF f L) (L + 1) ∧ cellsF (cutTo (packF f L) (L + 1)) ((L + 1 + 7) / 8) = cellsF (packF f L) (L / 8 + 1) := by
  constructor
  · have e : (⟨#[49]⟩ : ByteArray) = txtF (fun _ => true) 1 := rfl
    rw [e, txtF_append]
    refine txtF_congr fun i hi => ?_
    unfold packF
    by_cases h : i < L
    · rw [if_pos h, decide_eq_false (by omega), Bool.or_false]
    · rw [if_neg h, decide_eq_true (by omega), Bool.or_true]
  · rw [show (L + 1 + 7) / 8 = L / 8 + 1 by omega]
    refine cellsF_congr fun i _ => ?_
    unfold cutTo packF
    by_cases h : i < L + 1
    · rw [decide_eq_true h, Bool.and_true]
    · rw [decide_eq_false h, Bool.and_false, decide_eq_false (by omega), Bool.or_false]; exact (hs.zero i (by omega)).symm
theorem bytes_at (f : Nat → Bool) (m k : Nat) (X : ByteArray) (vs : List Value) (w : World) (hX : X = txtF f m) (hm : m ≤ 4194304) (hk : (m + 7) / 8 = k) (hv : cellsF (cutTo f m) ((m + 7) / 8) = vs) :
    Calls Try.prog 53 #[.string X] w fun e w' => ∃ g, e = .returned (.slice (some ⟨g, 0, none⟩) k k) ∧ w.heap.size ≤ g ∧ Own w' g 5 vs ∧ Below w.heap.size w w' := by
  subst hX hk hv
  exact bytes_ref f m w hm
set_option maxRecDepth 100000 in
set_option maxHeartbeats 4000000 in
theorem pack_ref_bad (A : Option Addr) (n c : Nat) (L : Int)  (f : Nat → Bool) (w : World) (hs : ArgS w A n L f) (hn : n ≤ 1000) (hR : rightB L n f = false) :
    Calls Try.prog 40 #[.agg #[.slice A n c, .int .i64 L]] w (BadB w 11) := by
  have HS := Lib.hid hs; have HR := Lib.hid hR
  clear hs hR
  have hb := Lib.hid (Below.refl w.heap.size w)
  go_enter Try.func40, Try.ntmps40
  go_wp2_with fail
  refine (text_bad A n c L f _ (HS.out.alloc _) hn HR.out).mono ?_
  rintro e w1 ⟨rfl, hbk⟩
  have O1' := Lib.hid (Own.below' (Own.new' (g := w.heap.size) (t := 24) (vs := [.slice A n c, .int .i64 L]) (w := w) rfl) hbk)
  have hb' := Lib.hid ((hb.out.alloc (by have := hb.out.size; simp; try omega) _).trans (hbk.mono (by have := hb.out.size; simp; try omega)))
  have hs1 := hbk.size
  simp only [World.size_alloc] at hs1
  clear hb hbk 
  have hb := hb'; clear hb'
  have O1 := O1'; clear O1'
  go_wp2
  go_ret2
  exact ⟨rfl, hb.out⟩
set_option maxRecDepth 100000 in
set_option maxHeartbeats 4000000 in
theorem getField_ref_bad (A : Option Addr) (n c : Nat) (L : Int) (p wd : Int) (f : Nat → Bool) (w : World) (hs : ArgS w A n L f) (hn : n ≤ 1000) (hR : rightB L n f = false) :
    Calls Try.prog 38 #[.agg #[.slice A n c, .int .i64 L], .int .i64 p, .int .i64 wd] w (Bad3 w 11) := by
  have HS := Lib.hid hs; have HR := Lib.hid hR
  clear hs hR
  have hb := Lib.hid (Below.refl w.heap.size w)
  go_enter Try.func38, Try.ntmps38
  go_wp2_with fail
  refine (text_bad A n c L f _ (HS.out.alloc _) hn HR.out).mono ?_
  rintro e w1 ⟨rfl, hbk⟩
  have O1' := Lib.hid (Own.below' (Own.new' (g := w.heap.size) (t := 24) (vs := [.slice A n c, .int .i64 L]) (w := w) rfl) hbk)
  have hb' := Lib.hid ((hb.out.alloc (by have := hb.out.size; simp; try omega) _).trans (hbk.mono (by have := hb.out.size; simp; try omega)))
  have hs1 := hbk.size
  simp only [World.size_alloc] at hs1
  clear hb hbk 
  have hb := hb'; clear hb'
  have O1 := O1'; clear O1'
  go_wp2
  go_ret3
  exact ⟨rfl, hb.out⟩
set_option maxRecDepth 100000 in
set_option maxHeartbeats 4000000 in
theorem getKnot_ref_bad (A : Option Addr) (n c : Nat) (L : Int) (p : Int) (f : Nat → Bool) (w : World) (hs : ArgS w A n L f) (hn : n ≤ 1000) (hR : rightB L n f = false) :
    Calls Try.prog 39 #[.agg #[.slice A n c, .int .i64 L], .int .i64 p] w (Bad3 w 11) := by
  have HS := Lib.hid hs; have HR := Lib.hid hR
  clear hs hR
  have hb := Lib.hid (Below.refl w.heap.size w)
  go_enter Try.func39, Try.ntmps39
  go_wp2_with fail
  refine (text_bad A n c L f _ (HS.out.alloc _) hn HR.out).mono ?_
  rintro e w1 ⟨rfl, hbk⟩
  have O1' := Lib.hid (Own.below' (Own.new' (g := w.heap.size) (t := 24) (vs := [.slice A n c, .int .i64 L]) (w := w) rfl) hbk)
  have hb' := Lib.hid ((hb.out.alloc (by have := hb.out.size; simp; try omega) _).trans (hbk.mono (by have := hb.out.size; simp; try omega)))
  have hs1 := hbk.size
  simp only [World.size_alloc] at hs1
  clear hb hbk 
  have hb := hb'; clear hb'
  have O1 := O1'; clear O1'
  go_wp2
  go_ret3
  exact ⟨rfl, hb.out⟩
set_option maxRecDepth 100000 in
set_option maxHeartbeats 4000000 in
theorem pack_ref_good (A : Option Addr) (n c L : Nat) (N1 : Nat) (f : Nat → Bool) (w : World) (hr : Rd w A (cellsF f n)) (hs : RS L n f) (hn : n ≤ 1000) (hN : L / 8 + 1 = N1) (hL : L ≤ 4000) :
    Calls Try.prog 40 #[.agg #[.slice A n c, .int .i64 L]] w (GoodB w N1 (packF f L)) := by
  have HB1 := Lib.hid hr; have R1 := Lib.hid hs
  obtain ⟨X1, hX1⟩ : ∃ X, X = txtF f L := ⟨_, rfl⟩
  have hz1 : X1.size = L := by rw [hX1]; exact txtF_size _ _
  have HX1 := Lib.hid hX1
  have hle := hs.le
  have hj := txt_pack hs
  rw [← hX1, hN] at hj
  have HC := Lib.hid hj.2
  obtain ⟨Y, hY⟩ : ∃ Y, Y = txtF (packF f L) (L + 1) := ⟨_, rfl⟩
  have hXY := hj.1
  rw [← hY] at hXY
  have HX := Lib.hid hY
  have HN := Lib.hid (show (L + 1 + 7) / 8 = N1 by omega)
  have hlim : ¬ 9223372036854775807 < L + 1 := by omega
  clear hr hs hX1 hj hN hY
  have hb := Lib.hid (Below.refl w.heap.size w)
  go_enter Try.func40, Try.ntmps40
  go_wp2_with fail
  refine (text_good A n c L f X1 _ (HB1.out.alloc _) R1.out hn HX1.out).mono ?_
  rintro e w1 ⟨rfl, hbk⟩
  have O1' := Lib.hid (Own.below' (Own.new' (g := w.heap.size) (t := 24) (vs := [.slice A n c, .int .i64 (L : Nat)]) (w := w) rfl) hbk)
  have hb' := Lib.hid ((hb.out.alloc (by have := hb.out.size; simp; try omega) _).trans (hbk.mono (by have := hb.out.size; simp; try omega)))
  have hs1 := hbk.size
  simp only [World.size_alloc] at hs1
  clear hb hbk 
  have hb := hb'; clear hb'
  have O1 := O1'; clear O1'
  go_wp2_with fail
  refine (bytes_at (packF f L) (L + 1) N1 Y (cellsF (packF f L) N1) _ HX.out (by omega) HN.out HC.out).mono ?_
  rintro e w2 ⟨g, rfl, hg, hO, hbk⟩
  have O1' := Lib.hid (O1.out.below' hbk)
  have hb' := Lib.hid (hb.out.trans (hbk.mono (by have := hb.out.size; simp; try omega)))
  have hs2 := hbk.size
  clear hb hbk O1
  have hb := hb'; clear hb'
  have O1 := O1'; clear O1'
  have OB := Lib.hid hO; clear hO
  have sb := hb.out.size
  go_wp2
  go_ret2
  exact ⟨g, rfl, by omega, OB.out, hb.out⟩
set_option maxRecDepth 100000 in
set_option maxHeartbeats 4000000 in
theorem getField_ref_arg (A : Option Addr) (n c L : Nat) (p wd : Int) (f : Nat → Bool) (w : World) (hr : Rd w A (cellsF f n)) (hs : RS L n f) (hn : n ≤ 1000) (h : ¬ (0 ≤ wd ∧ wd ≤ 64 ∧ 0 ≤ p ∧ p ≤ L)) :
    Calls Try.prog 38 #[.agg #[.slice A n c, .int .i64 L], .int .i64 p, .int .i64 wd] w (Bad3 w 2) := by
  have HB1 := Lib.hid hr; have R1 := Lib.hid hs
  obtain ⟨X1, hX1⟩ : ∃ X, X = txtF f L := ⟨_, rfl⟩
  have hz1 : X1.size = L := by rw [hX1]; exact txtF_size _ _
  have HX1 := Lib.hid hX1
  clear hr hs hX1
  by_cases c1 : wd < 0
  · have d1 : decide (wd < 0) = true := by rw [decide_eq_true_eq]; omega
    clear h
    have hb := Lib.hid (Below.refl w.heap.size w)
    go_enter Try.func38, Try.ntmps38
    go_wp2_with fail
    refine (text_good A n c L f X1 _ (HB1.out.alloc _) R1.out hn HX1.out).mono ?_
    rintro e w1 ⟨rfl, hbk⟩
    have O1' := Lib.hid (Own.below' (Own.new' (g := w.heap.size) (t := 24) (vs := [.slice A n c, .int .i64 (L : Nat)]) (w := w) rfl) hbk)
    have hb' := Lib.hid ((hb.out.alloc (by have := hb.out.size; simp; try omega) _).trans (hbk.mono (by have := hb.out.size; simp; try omega)))
    have hs1 := hbk.size
    simp only [World.size_alloc] at hs1
    clear hb hbk 
    have hb := hb'; clear hb'
    have O1 := O1'; clear O1'
    go_wp2
    go_ret3
    exact ⟨rfl, hb.out⟩
  · have d1 : decide (wd < 0) = false := by rw [decide_eq_false_iff_not]; omega
    by_cases c2 : 64 < wd
    · have d2 : decide (64 < wd) = true := by rw [decide_eq_true_eq]; omega
      clear h
      have hb := Lib.hid (Below.refl w.heap.size w)
      go_enter Try.func38, Try.ntmps38
      go_wp2_with fail
      refine (text_good A n c L f X1 _ (HB1.out.alloc _) R1.out hn HX1.out).mono ?_
      rintro e w1 ⟨rfl, hbk⟩
      have O1' := Lib.hid (Own.below' (Own.new' (g := w.heap.size) (t := 24) (vs := [.slice A n c, .int .i64 (L : Nat)]) (w := w) rfl) hbk)
      have hb' := Lib.hid ((hb.out.alloc (by have := hb.out.size; simp; try omega) _).trans (hbk.mono (by have := hb.out.size; simp; try omega)))
      have hs1 := hbk.size
      simp only [World.size_alloc] at hs1
      clear hb hbk 
      have hb := hb'; clear hb'
      have O1 := O1'; clear O1'
      go_wp2
      go_ret3
      exact ⟨rfl, hb.out⟩
    · have d2 : decide (64 < wd) = false := by rw [decide_eq_false_iff_not]; omega
      by_cases c3 : p < 0
      · have d3 : decide (p < 0) = true := by rw [decide_eq_true_eq]; omega
        clear h
        have hb := Lib.hid (Below.refl w.heap.size w)
        go_enter Try.func38, Try.ntmps38
        go_wp2_with fail
        refine (text_good A n c L f X1 _ (HB1.out.alloc _) R1.out hn HX1.out).mono ?_
        rintro e w1 ⟨rfl, hbk⟩
        have O1' := Lib.hid (Own.below' (Own.new' (g := w.heap.size) (t := 24) (vs := [.slice A n c, .int .i64 (L : Nat)]) (w := w) rfl) hbk)
        have hb' := Lib.hid ((hb.out.alloc (by have := hb.out.size; simp; try omega) _).trans (hbk.mono (by have := hb.out.size; simp; try omega)))
        have hs1 := hbk.size
        simp only [World.size_alloc] at hs1
        clear hb hbk 
        have hb := hb'; clear hb'
        have O1 := O1'; clear O1'
        go_wp2
        go_ret3
        exact ⟨rfl, hb.out⟩
      · have d3 : decide (p < 0) = false := by rw [decide_eq_false_iff_not]; omega
        have d4 : decide ((L : Int) < p) = true := by rw [decide_eq_true_eq]; omega
        clear h
        have hb := Lib.hid (Below.refl w.heap.size w)
        go_enter Try.func38, Try.ntmps38
        go_wp2_with fail
        refine (text_good A n c L f X1 _ (HB1.out.alloc _) R1.out hn HX1.out).mono ?_
        rintro e w1 ⟨rfl, hbk⟩
        have O1' := Lib.hid (Own.below' (Own.new' (g := w.heap.size) (t := 24) (vs := [.slice A n c, .int .i64 (L : Nat)]) (w := w) rfl) hbk)
        have hb' := Lib.hid ((hb.out.alloc (by have := hb.out.size; simp; try omega) _).trans (hbk.mono (by have := hb.out.size; simp; try omega)))
        have hs1 := hbk.size
        simp only [World.size_alloc] at hs1
        clear hb hbk 
        have hb := hb'; clear hb'
        have O1 := O1'; clear O1'
        go_wp2
        go_ret3
        exact ⟨rfl, hb.out⟩
set_option maxRecDepth 100000 in
set_option maxHeartbeats 4000000 in
theorem getField_ref_short (A : Option Addr) (n c L : Nat) (p wd : Int) (f : Nat → Bool) (w : World) (hr : Rd w A (cellsF f n)) (hs : RS L n f) (hn : n ≤ 1000) (hw0 : 0 ≤ wd) (hw1 : wd ≤ 64) (hp0 : 0 ≤ p) (hp1 : p ≤ L) (h : (L : Int) < p + wd) :
    Calls Try.prog 38 #[.agg #[.slice A n c, .int .i64 L], .int .i64 p, .int .i64 wd] w (Bad3 w 10) := by
  have HB1 := Lib.hid hr; have R1 := Lib.hid hs
  obtain ⟨X1, hX1⟩ : ∃ X, X = txtF f L := ⟨_, rfl⟩
  have hz1 : X1.size = L := by rw [hX1]; exact txtF_size _ _
  have HX1 := Lib.hid hX1
  have d1 : decide (wd < 0) = false := by rw [decide_eq_false_iff_not]; omega
  have d2 : decide (64 < wd) = false := by rw [decide_eq_false_iff_not]; omega
  have d3 : decide (p < 0) = false := by rw [decide_eq_false_iff_not]; omega
  have d4 : decide ((L : Int) < p) = false := by rw [decide_eq_false_iff_not]; omega
  have hle := hs.le
  have b1 : (L : Int) - p ≤ 4194304 := by omega
  have b0 : 0 ≤ (L : Int) - p := by omega
  have d5 : decide ((L : Int) - p < wd) = true := by rw [decide_eq_true_eq]; omega
  clear hr hs hX1 h
  have hb := Lib.hid (Below.refl w.heap.size w)
  go_enter Try.func38, Try.ntmps38
  go_wp2_with fail
  refine (text_good A n c L f X1 _ (HB1.out.alloc _) R1.out hn HX1.out).mono ?_
  rintro e w1 ⟨rfl, hbk⟩
  have O1' := Lib.hid (Own.below' (Own.new' (g := w.heap.size) (t := 24) (vs := [.slice A n c, .int .i64 (L : Nat)]) (w := w) rfl) hbk)
  have hb' := Lib.hid ((hb.out.alloc (by have := hb.out.size; simp; try omega) _).trans (hbk.mono (by have := hb.out.size; simp; try omega)))
  have hs1 := hbk.size
  simp only [World.size_alloc] at hs1
  clear hb hbk 
  have hb := hb'; clear hb'
  have O1 := O1'; clear O1'
  go_wp2
  go_ret3
  exact ⟨rfl, hb.out⟩
theorem number_at (f : Nat → Bool) (m N : Nat) (X : ByteArray) (w : World) (hX : X = txtF f m) (hm : m ≤ 64) (hN : numF f 0 m = N) :
    Calls Try.prog 52 #[.string X] w fun e w' => e = .returned (.int .u64 N) ∧ w = w' := by
  subst hX hN
  exact number_ref f m w hm
theorem numF_shift (f : Nat → Bool) (p k : Nat) : numF (fun i => f (p + i)) 0 k = numF f p k := numF_congr fun i _ => by rw [Nat.zero_add]
set_option maxRecDepth 100000 in
set_option maxHeartbeats 4000000 in
theorem getField_ref_good (A : Option Addr) (n c L : Nat) (p wd : Int) (f : Nat → Bool) (w : World) (hr : Rd w A (cellsF f n)) (hs : RS L n f) (hn : n ≤ 1000) (hw0 : 0 ≤ wd) (hw1 : wd ≤ 64) (hp0 : 0 ≤ p) (h : p + wd ≤ L) :
    Calls Try.prog 38 #[.agg #[.slice A n c, .int .i64 L], .int .i64 p, .int .i64 wd] w (Good3 w (numF f p.toNat wd.toNat) (p + wd)) := by
  have HB1 := Lib.hid hr; have R1 := Lib.hid hs
  obtain ⟨X1, hX1⟩ : ∃ X, X = txtF f L := ⟨_, rfl⟩
  have hz1 : X1.size = L := by rw [hX1]; exact txtF_size _ _
  have HX1 := Lib.hid hX1
  have d1 : decide (wd < 0) = false := by rw [decide_eq_false_iff_not]; omega
  have d2 : decide (64 < wd) = false := by rw [decide_eq_false_iff_not]; omega
  have d3 : decide (p < 0) = false := by rw [decide_eq_false_iff_not]; omega
  have d4 : decide ((L : Int) < p) = false := by rw [decide_eq_false_iff_not]; omega
  have hle := hs.le
  have b1 : (L : Int) - p ≤ 4194304 := by omega
  have b0 : 0 ≤ (L : Int) - p := by omega
  have d5 : decide ((L : Int) - p < wd) = false := by rw [decide_eq_false_iff_not]; omega
  have hx := txtF_extract f (n := L) (p := p.toNat) (q := (p + wd).toNat) (by omega) (by omega)
  rw [← hX1, show (p + wd).toNat - p.toNat = wd.toNat by omega] at hx
  have HX := Lib.hid hx
  obtain ⟨N, hN⟩ : ∃ N, N = numF f p.toNat wd.toNat := ⟨_, rfl⟩
  have HNF := Lib.hid (show numF (fun i => f (p.toNat + i)) 0 wd.toNat = N by rw [hN]; exact numF_shift f p.toNat wd.toNat)
  rw [← hN]
  have s1 : decide (p + wd < p) = false := by rw [decide_eq_false_iff_not]; omega
  have s2 : 0 ≤ p + wd := by omega
  clear hr hs hX1 hx hN
  have hb := Lib.hid (Below.refl w.heap.size w)
  go_enter Try.func38, Try.ntmps38
  go_wp2_with fail
  refine (text_good A n c L f X1 _ (HB1.out.alloc _) R1.out hn HX1.out).mono ?_
  rintro e w1 ⟨rfl, hbk⟩
  have O1' := Lib.hid (Own.below' (Own.new' (g := w.heap.size) (t := 24) (vs := [.slice A n c, .int .i64 (L : Nat)]) (w := w) rfl) hbk)
  have hb' := Lib.hid ((hb.out.alloc (by have := hb.out.size; simp; try omega) _).trans (hbk.mono (by have := hb.out.size; simp; try omega)))
  have hs1 := hbk.size
  simp only [World.size_alloc] at hs1
  clear hb hbk 
  have hb := hb'; clear hb'
  have O1 := O1'; clear O1'
  go_wp2_with fail
  refine (number_at (fun i => f (p.toNat + i)) wd.toNat N _ _ HX.out (by omega) HNF.out).mono ?_
  rintro e w9 ⟨rfl, rfl⟩
  go_wp2
  go_ret3
  exact ⟨rfl, hb.out⟩
end Go.Proofs.Ytnhlenagojbigaa
