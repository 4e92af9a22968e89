/- Bundle of texts: RefF RefG. -/
import Derived.Test.YtljihclpgpmfeaaDoorUv
import Derived.Test.YtljihclpgpmfeaaDoorUc
import Derived.Test.YtljihclpgpmfeaaDoorUn
/- Walks: fretworkref01: Pack, Unpack, GetField, GetKnot. -/
namespace Go.Proofs.YtljihclpgpmfeaaDoor
set_option maxRecDepth 100000
open Go.RowKit

theorem txt_pack {f : Nat → Bool} {L n : Nat} (hs : RS L n f) : txtF f L ++ ⟨#[49]⟩ = txtF (packF f L) (L + 1) ∧ cellsF (cutTo (packF f L) (L + 1)) ((L + 1 + 7) / 8) = cellsF (packF f L) (L / 8 + 1) := by
  constructor
  · have e : (⟨#[49]⟩ : ByteArray) = txtF (fun _ => true) 1 := rfl
    rw [e, txtF_append]
    refine txtF_congr fun i hi => ?_
    unfold packF
    by_cases h : i < L
    · rw [if_pos h, decide_eq_false (by omega), Bool.or_false]
    · rw [if_neg h, decide_eq_true (by omega), Bool.or_true]
  · rw [show (L + 1 + 7) / 8 = L / 8 + 1 by omega]
    refine cellsF_congr fun i _ => ?_
    unfold cutTo packF
    by_cases h : i < L + 1
    · rw [decide_eq_true h, Bool.and_true]
    · rw [decide_eq_false h, Bool.and_false, decide_eq_false (by omega), Bool.or_false]; exact (hs.zero i (by omega)).symm
theorem bytes_at (f : Nat → Bool) (m k : Nat) (X : ByteArray) (vs : List Value) (w : World) (hX : X = txtF f m) (hm : m ≤ 4194304) (hk : (m + 7) / 8 = k) (hv : cellsF (cutTo f m) ((m + 7) / 8) = vs) :
    Calls Tryd.prog 53 #[.string X] w fun e w' => ∃ g, e = .returned (.slice (some ⟨g, 0, none⟩) k k) ∧ w.heap.size ≤ g ∧ Own w' g 5 vs ∧ Below w.heap.size w w' := by
  subst hX hk hv
  exact bytes_ref f m w hm
set_option maxRecDepth 100000 in
set_option maxHeartbeats 4000000 in
theorem getKnot_ref_bad (A : Option Addr) (n c : Nat) (L : Int) (p : Int) (f : Nat → Bool) (w : World) (hs : ArgS w A n L f) (hn : n ≤ 1000) (hR : rightB L n f = false) :
    Calls Tryd.prog 50 #[.agg #[.slice A n c, .int .i64 L], .int .i64 p] w (Bad3 w 11) := by
  have HS := Lib.hid hs; have HR := Lib.hid hR
  clear hs hR
  have hb := Lib.hid (Below.refl w.heap.size w)
  go_enter Tryd.func50, Tryd.ntmps50
  go_wp2_with fail
  refine (text_bad A n c L f _ (HS.out.alloc _) hn HR.out).mono ?_
  rintro e w1 ⟨rfl, hbk⟩
  have O1' := Lib.hid (Own.below' (Own.new' (g := w.heap.size) (t := 63) (vs := [.slice A n c, .int .i64 L]) (w := w) rfl) hbk)
  have hb' := Lib.hid ((hb.out.alloc (by have := hb.out.size; simp; try omega) _).trans (hbk.mono (by have := hb.out.size; simp; try omega)))
  have hs1 := hbk.size
  simp only [World.size_alloc] at hs1
  clear hb hbk 
  have hb := hb'; clear hb'
  have O1 := O1'; clear O1'
  go_wp2
  go_ret3
  exact ⟨rfl, hb.out⟩
theorem number_at (f : Nat → Bool) (m N : Nat) (X : ByteArray) (w : World) (hX : X = txtF f m) (hm : m ≤ 64) (hN : numF f 0 m = N) :
    Calls Tryd.prog 72 #[.string X] w fun e w' => e = .returned (.int .u64 N) ∧ w = w' := by
  subst hX hN
  exact number_ref f m w hm
theorem numF_shift (f : Nat → Bool) (p k : Nat) : numF (fun i => f (p + i)) 0 k = numF f p k := numF_congr fun i _ => by rw [Nat.zero_add]
end Go.Proofs.YtljihclpgpmfeaaDoor
/- Walks: fretworkref01: GetKnot, Unpack. -/
namespace Go.Proofs.YtljihclpgpmfeaaDoor
set_option maxRecDepth 100000
open Go.RowKit

set_option maxRecDepth 100000 in
set_option maxHeartbeats 4000000 in
theorem getKnot_ref_arg (A : Option Addr) (n c L : Nat) (p : Int) (f : Nat → Bool) (w : World) (hr : Rd w A (cellsF f n)) (hs : RS L n f) (hn : n ≤ 1000) (h : ¬ (0 ≤ p ∧ p ≤ L)) :
    Calls Tryd.prog 50 #[.agg #[.slice A n c, .int .i64 L], .int .i64 p] w (Bad3 w 2) := by
  have HB1 := Lib.hid hr; have R1 := Lib.hid hs
  obtain ⟨X1, hX1⟩ : ∃ X, X = txtF f L := ⟨_, rfl⟩
  have hz1 : X1.size = L := by rw [hX1]; exact txtF_size _ _
  have HX1 := Lib.hid hX1
  clear hr hs hX1
  by_cases c1 : p < 0
  · have d1 : decide (p < 0) = true := by rw [decide_eq_true_eq]; omega
    clear h
    have hb := Lib.hid (Below.refl w.heap.size w)
    go_enter Tryd.func50, Tryd.ntmps50
    go_wp2_with fail
    refine (text_good A n c L f X1 _ (HB1.out.alloc _) R1.out hn HX1.out).mono ?_
    rintro e w1 ⟨rfl, hbk⟩
    have O1' := Lib.hid (Own.below' (Own.new' (g := w.heap.size) (t := 63) (vs := [.slice A n c, .int .i64 (L : Nat)]) (w := w) rfl) hbk)
    have hb' := Lib.hid ((hb.out.alloc (by have := hb.out.size; simp; try omega) _).trans (hbk.mono (by have := hb.out.size; simp; try omega)))
    have hs1 := hbk.size
    simp only [World.size_alloc] at hs1
    clear hb hbk 
    have hb := hb'; clear hb'
    have O1 := O1'; clear O1'
    go_wp2
    go_ret3
    exact ⟨rfl, hb.out⟩
  · have d1 : decide (p < 0) = false := by rw [decide_eq_false_iff_not]; omega
    have d2 : decide ((L : Int) < p) = true := by rw [decide_eq_true_eq]; omega
    clear h
    have hb := Lib.hid (Below.refl w.heap.size w)
    go_enter Tryd.func50, Tryd.ntmps50
    go_wp2_with fail
    refine (text_good A n c L f X1 _ (HB1.out.alloc _) R1.out hn HX1.out).mono ?_
    rintro e w1 ⟨rfl, hbk⟩
    have O1' := Lib.hid (Own.below' (Own.new' (g := w.heap.size) (t := 63) (vs := [.slice A n c, .int .i64 (L : Nat)]) (w := w) rfl) hbk)
    have hb' := Lib.hid ((hb.out.alloc (by have := hb.out.size; simp; try omega) _).trans (hbk.mono (by have := hb.out.size; simp; try omega)))
    have hs1 := hbk.size
    simp only [World.size_alloc] at hs1
    clear hb hbk 
    have hb := hb'; clear hb'
    have O1 := O1'; clear O1'
    go_wp2
    go_ret3
    exact ⟨rfl, hb.out⟩
set_option maxRecDepth 100000 in
set_option maxHeartbeats 4000000 in
theorem getKnot_ref_any (A : Option Addr) (n c L : Nat) (p : Nat) (f : Nat → Bool) (w : World) (hr : Rd w A (cellsF f n)) (hs : RS L n f) (hn : n ≤ 1000) (hp : p ≤ L) :
    Calls Tryd.prog 50 #[.agg #[.slice A n c, .int .i64 L], .int .i64 p] w (KnotPost w f L p (zerosF f p (min 64 (L - p)))) := by
  have HB1 := Lib.hid hr; have R1 := Lib.hid hs
  obtain ⟨X1, hX1⟩ : ∃ X, X = txtF f L := ⟨_, rfl⟩
  have hz1 : X1.size = L := by rw [hX1]; exact txtF_size _ _
  have HX1 := Lib.hid hX1
  have hle := hs.le
  have hgg := txtF_get f L
  have hxx := fun a b (h1 : a ≤ b) (h2 : b ≤ L) => txtF_extract f (n := L) (p := a) (q := b) h1 h2
  rw [← hX1] at hgg hxx
  have HG := Lib.hid hgg; have HXX := Lib.hid hxx
  have d1 : decide ((p : Int) < 0) = false := by rw [decide_eq_false_iff_not]; omega
  have d2 : decide (L < p) = false := by rw [decide_eq_false_iff_not]; omega
  clear hr hs hX1 hgg hxx
  have hb := Lib.hid (Below.refl w.heap.size w)
  go_enter Tryd.func50, Tryd.ntmps50
  go_wp2_with fail
  refine (text_good A n c L f X1 _ (HB1.out.alloc _) R1.out hn HX1.out).mono ?_
  rintro e w1 ⟨rfl, hbk⟩
  have O1' := Lib.hid (Own.below' (Own.new' (g := w.heap.size) (t := 63) (vs := [.slice A n c, .int .i64 (L : Nat)]) (w := w) rfl) hbk)
  have hb' := Lib.hid ((hb.out.alloc (by have := hb.out.size; simp; try omega) _).trans (hbk.mono (by have := hb.out.size; simp; try omega)))
  have hs1 := hbk.size
  simp only [World.size_alloc] at hs1
  clear hb hbk 
  have hb := hb'; clear hb'
  have O1 := O1'; clear O1'
  go_wp2_with fail
  go_loop [9] (fun v => ∃ q : Nat, p ≤ q ∧ q ≤ L ∧ v = .int .i64 q ∧ Hid (∀ j, p ≤ j → j < q → f j = false)) (fun v => L - (intOf v).toNat)
  case atStart => exact ⟨p, Nat.le_refl _, hp, rfl, fun j h1 h2 => by omega⟩
  case round =>
    obtain ⟨q, hq1, hq2, rfl, hz⟩ := hrel
    by_cases hc : q < L ∧ f q = false
    · obtain ⟨hlt, hf⟩ := hc
      have hz2 := Lib.hid (show ∀ j, p ≤ j → j < q + 1 → f j = false from fun j h1 h2 => by
        by_cases he : j = q
        · rw [he]; exact hf
        · exact hz.out j h1 (by omega))
      have hg : (X1[q]'(by omega)).toNat = 48 := by rw [HG.out q (by omega), hf]; rfl
      clear hf
      go_wp2
      go_round
      case rel => exact ⟨q + 1, by omega, by omega, by go_num, hz2.out⟩
      case measure => simp [intOf]; omega
    · have hend := Lib.hid (show q = L ∨ f q = true by
        by_cases h1 : q < L
        · right
          cases h2 : f q with
          | true => rfl
          | false => exact absurd ⟨h1, h2⟩ hc
        · left; omega)
      clear hc
      have hgo : q < L → ∃ h, (X1[q]'h).toNat = 49 := fun h1 => ⟨by omega, by
        rcases hend.out with h | h
        · omega
        · rw [HG.out q (by omega), h]; rfl⟩
      by_cases c64 : 64 ≤ q - p
      · have hZ := Lib.hid (show zerosF f p (min 64 (L - p)) = 64 by
          rw [Nat.min_eq_left (by omega)]
          exact zerosF_eq (Nat.le_refl _) (fun j hj => hz.out (p + j) (by omega) (by omega)) (.inl rfl))
        have d3 : decide (64 ≤ (q : Int) - (p : Int)) = true := by rw [decide_eq_true_eq]; omega
        rcases Nat.lt_or_ge q L with hl | hl
        · obtain ⟨hh, hg⟩ := hgo hl
          clear hgo
          go_wp2
          go_ret3
          exact .inl ⟨hZ.out, rfl, hb.out⟩
        · clear hgo
          go_wp2
          go_ret3
          exact .inl ⟨hZ.out, rfl, hb.out⟩
      · obtain ⟨z, hzz⟩ : ∃ z, z = q - p := ⟨_, rfl⟩
        have hZ := Lib.hid (show zerosF f p (min 64 (L - p)) = z by
          rw [hzz]
          refine zerosF_eq (by omega) (fun j hj => hz.out (p + j) (by omega) (by omega)) ?_
          rcases hend.out with h | h
          · left; omega
          · right; rw [show p + (q - p) = q by omega]; exact h)
        have d3 : decide (64 ≤ (q : Int) - (p : Int)) = false := by rw [decide_eq_false_iff_not]; omega
        obtain ⟨E1, hE1⟩ : ∃ E, E = 2 * q - p := ⟨_, rfl⟩
        have hE1I : (2 : Int) * (q : Int) - (p : Int) = (E1 : Int) := by omega
        obtain ⟨E, hE⟩ : ∃ E, E = E1 + 1 := ⟨_, rfl⟩
        have hEI : (E1 : Int) + 1 = (E : Int) := by omega
        have hEb : E ≤ 9000000 := by omega
        have hE1b : E1 ≤ 9000000 := by omega
        have HE := Lib.hid (show E = p + 2 * z + 1 by omega)
        have Hqz := Lib.hid (show q = p + z by omega)
        have Hz64 := Lib.hid (show z ≠ 64 by omega)
        clear hE1 hE hzz
        by_cases c5 : L < E
        · have d5 : decide (L < E) = true := by rw [decide_eq_true_eq]; exact c5
          rcases Nat.lt_or_ge q L with hl | hl
          · obtain ⟨hh, hg⟩ := hgo hl
            clear hgo
            go_wp2
            go_ret3
            exact .inr (.inl ⟨by rw [hZ.out]; exact Hz64.out, by rw [hZ.out, ← HE.out]; exact c5, rfl, hb.out⟩)
          · clear hgo
            go_wp2
            go_ret3
            exact .inr (.inl ⟨by rw [hZ.out]; exact Hz64.out, by rw [hZ.out, ← HE.out]; exact c5, rfl, hb.out⟩)
        · have hqL : q < L := by have := HE.out; have := Hqz.out; omega
          have hfq : f q = true := by
            rcases hend.out with h | h
            · omega
            · exact h
          obtain ⟨hh, hg⟩ := hgo hqL
          have d5 : decide (L < E) = false := by rw [decide_eq_false_iff_not]; exact c5
          have hx := HXX.out q E (by have := HE.out; have := Hqz.out; omega) (by omega)
          have HX := Lib.hid hx
          obtain ⟨N, hN⟩ : ∃ N, N = numF f q (E - q) := ⟨_, rfl⟩
          have HNF := Lib.hid (show numF (fun i => f (q + i)) 0 (E - q) = N by rw [hN]; exact numF_shift f q (E - q))
          have hEq := Lib.hid (show E - q = z + 1 by have := HE.out; have := Hqz.out; omega)
          have hN1 : 1 ≤ N := by rw [hN, hEq.out]; exact numF_pos hfq
          have hN2 : N < 18446744073709551616 := by
            rw [hN]
            have h1 := numF_lt f q (E - q)
            have h2 := Nat.pow_le_pow_right (n := 2) (by decide) (show E - q ≤ 64 by have := hEq.out; omega)
            omega
          obtain ⟨M, hM⟩ : ∃ M, M = N - 1 := ⟨_, rfl⟩
          have hNI : IntKind.u64.wrap ((N : Int) - 1) = (M : Int) := by rw [IntWalk.u64_in _ (by omega)]; omega
          have HM := Lib.hid (show M = numF f (p + z) (z + 1) - 1 by rw [hM, hN, hEq.out, ← Hqz.out])
          have hqE : q ≤ E := by have := HE.out; have := Hqz.out; omega
          have d6 : decide (E < q) = false := by rw [decide_eq_false_iff_not]; omega
          have hEz := Lib.hid (show E - q ≤ 64 by have := hEq.out; omega)
          clear hgo hx hN hM hN1 hN2 hfq
          go_wp2_with fail
          refine (number_at (fun i => f (q + i)) (E - q) N _ _ HX.out hEz.out HNF.out).mono ?_
          rintro e w9 ⟨rfl, rfl⟩
          go_wp2
          go_ret3
          exact .inr (.inr ⟨by rw [hZ.out]; exact Hz64.out, by rw [hZ.out, ← HE.out]; omega, by rw [hZ.out, ← HM.out, ← HE.out]; rfl, hb.out⟩)
set_option maxRecDepth 100000 in
set_option maxHeartbeats 4000000 in
theorem unpack_ref_zero (A : Option Addr) (n c : Nat) (f : Nat → Bool) (w : World) (hr : Rd w A (cellsF f n)) (hn : n ≤ 1000) (hz : 0 < n → byteF f (n - 1) = 0) :
    Calls Tryd.prog 49 #[.slice A n c] w (BadS w 13) := by
  have HZ := Lib.hid hz
  clear hz
  obtain ⟨N8, hN8⟩ : ∃ N, N = 8 * n := ⟨_, rfl⟩
  have hsd := fun W hr => said_ref A n c f W hr hn
  rw [← hN8] at hsd
  have HSD := Lib.hid hsd
  have hsz := txtF_size f N8
  have HG := Lib.hid (txtF_get f N8)
  have HX := Lib.hid (fun p (hp : p ≤ N8) => txtF_extract f (n := N8) (Nat.zero_le p) hp)
  have HB1 := Lib.hid hr
  have hN8b : N8 ≤ 8000 := by omega
  have HN8 := Lib.hid hN8
  have d1 : decide (524289 < (n : Int)) = false := by rw [decide_eq_false_iff_not]; omega
  have d1n : decide (524289 < n) = false := by rw [decide_eq_false_iff_not]; omega
  clear hsd hr hN8
  have hb := Lib.hid (Below.refl w.heap.size w)
  go_enter Tryd.func49, Tryd.ntmps49
  go_wp2_with fail
  refine (HSD.out _ (HB1.out.alloc _)).mono ?_
  rintro e w1 ⟨rfl, hbk⟩
  have OR' := Lib.hid (Own.below' (Own.new' (g := w.heap.size) (t := 63) (vs := [.slice none 0 0, .int .i64 0]) (w := w) rfl) hbk)
  have hb' := Lib.hid ((hb.out.alloc (by have := hb.out.size; simp; try omega) _).trans (hbk.mono (by have := hb.out.size; simp; try omega)))
  have hs1 := hbk.size
  simp only [World.size_alloc] at hs1
  clear hb hbk 
  have hb := hb'; clear hb'
  have OR := OR'; clear OR'
  generalize txtF f N8 = X at hsz HG HX
  go_wp2_with fail
  go_loop [5] (fun v => ∃ q : Nat, q ≤ N8 ∧ v = .int .i64 ((q : Int) - 1) ∧ Hid (∀ j, q ≤ j → j < N8 → f j = false)) (fun v => (intOf v + 1).toNat)
  case atStart => exact ⟨N8, Nat.le_refl _, rfl, fun j h1 h2 => by omega⟩
  case round =>
    obtain ⟨q, hq, rfl, hz⟩ := hrel
    rcases Nat.eq_zero_or_pos q with h0 | h0
    · subst h0
      have yR := OR.out.lt; have fR := OR.out.frozen; have qR := OR.out.cell
      go_wp2
      have hF := (OR.out.set 0 (.slice none 0 0)).set 1 (.int .i64 0)
      have q0 := hF.cell 0
      have q1 := hF.cell 1
      simp only [List.set_cons_zero, List.set_cons_succ, List.getElem?_cons_zero, List.getElem?_cons_succ] at q0 q1
      exact bodyPost_ret (v := .tuple #[.agg #[.slice none 0 0, .int .i64 0], .int .i64 13]) (by simp [results, Tryd.results49, go_sem, q0, q1]) rfl ⟨rfl, (hb.out.setCell (by simp; try omega) _).setCell (by simp; try omega) _⟩
    · obtain ⟨r, hr⟩ : ∃ r, r = q - 1 := ⟨_, rfl⟩
      have hrI : (q : Int) - 1 = (r : Int) := by omega
      have Hqr := Lib.hid (show q = r + 1 by omega)
      have hrN : r < N8 := by omega
      have hr0 : (0 : Int) ≤ (r : Int) := by omega
      have hrb : r ≤ 8000 := by omega
      rw [hrI]
      cases hf : f r with
      | false =>
        have hz2 := Lib.hid (show ∀ j, r ≤ j → j < N8 → f j = false from fun j h1 h2 => by
          by_cases he : j = r
          · rw [he]; exact hf
          · exact hz.out j (by omega) h2)
        have hg : (X[r]'(by rw [hsz]; exact hrN)).toNat = 48 := by rw [HG.out r (by omega), hf]; rfl
        clear hf hr hrI hq h0 hz Hqr
        go_wp2
        go_round
        case rel => exact ⟨r, by omega, rfl, hz2.out⟩
        case measure => simp [intOf]; try omega
      | true =>
        have hg : (X[r]'(by rw [hsz]; exact hrN)).toNat = 49 := by rw [HG.out r (by omega), hf]; rfl
        have h8 : 8 < (N8 : Int) - (r : Int) := by
          rcases Nat.lt_or_ge r (8 * (n - 1)) with h1 | h1
          · have := HN8.out; omega
          · exfalso
            have h2 := (unpackL_eq (f := f) (n := n) (L := r) (by have := HN8.out; omega) (by have := HN8.out; omega) h1 hf (fun i h3 h4 => hz.out i (by omega) (by have := HN8.out; omega))).1
            exact h2 (HZ.out (by have := HN8.out; omega))
        have d3 : decide (8 < (N8 : Int) - (r : Int)) = true := by rw [decide_eq_true_eq]; exact h8
        clear hf hr hrI hz Hqr
        have yR := OR.out.lt; have fR := OR.out.frozen; have qR := OR.out.cell
        go_wp2
        have hF := (OR.out.set 0 (.slice none 0 0)).set 1 (.int .i64 0)
        have q0 := hF.cell 0
        have q1 := hF.cell 1
        simp only [List.set_cons_zero, List.set_cons_succ, List.getElem?_cons_zero, List.getElem?_cons_succ] at q0 q1
        exact bodyPost_ret (v := .tuple #[.agg #[.slice none 0 0, .int .i64 0], .int .i64 13]) (by simp [results, Tryd.results49, go_sem, q0, q1]) rfl ⟨rfl, (hb.out.setCell (by simp; try omega) _).setCell (by simp; try omega) _⟩
set_option maxRecDepth 100000 in
set_option maxHeartbeats 4000000 in
theorem unpack_ref_good (A : Option Addr) (n c : Nat) (f : Nat → Bool) (w : World) (hr : Rd w A (cellsF f n)) (hn : n ≤ 1000) (hpos : 0 < n) (hz : byteF f (n - 1) ≠ 0) :
    Calls Tryd.prog 49 #[.slice A n c] w (GoodS w (unpackL f n) (cutTo f (unpackL f n))) := by
  have HSP := Lib.hid (unpackL_spec hpos hz)
  clear hz hpos
  obtain ⟨N8, hN8⟩ : ∃ N, N = 8 * n := ⟨_, rfl⟩
  have hsd := fun W hr => said_ref A n c f W hr hn
  rw [← hN8] at hsd
  have HSD := Lib.hid hsd
  have hsz := txtF_size f N8
  have HG := Lib.hid (txtF_get f N8)
  have HX := Lib.hid (fun p (hp : p ≤ N8) => txtF_extract f (n := N8) (Nat.zero_le p) hp)
  have HB1 := Lib.hid hr
  have hN8b : N8 ≤ 8000 := by omega
  have HN8 := Lib.hid hN8
  have d1 : decide (524289 < (n : Int)) = false := by rw [decide_eq_false_iff_not]; omega
  have d1n : decide (524289 < n) = false := by rw [decide_eq_false_iff_not]; omega
  clear hsd hr hN8
  have hb := Lib.hid (Below.refl w.heap.size w)
  go_enter Tryd.func49, Tryd.ntmps49
  go_wp2_with fail
  refine (HSD.out _ (HB1.out.alloc _)).mono ?_
  rintro e w1 ⟨rfl, hbk⟩
  have OR' := Lib.hid (Own.below' (Own.new' (g := w.heap.size) (t := 63) (vs := [.slice none 0 0, .int .i64 0]) (w := w) rfl) hbk)
  have hb' := Lib.hid ((hb.out.alloc (by have := hb.out.size; simp; try omega) _).trans (hbk.mono (by have := hb.out.size; simp; try omega)))
  have hs1 := hbk.size
  simp only [World.size_alloc] at hs1
  clear hb hbk 
  have hb := hb'; clear hb'
  have OR := OR'; clear OR'
  generalize txtF f N8 = X at hsz HG HX
  go_wp2_with fail
  go_loop [5] (fun v => ∃ q : Nat, q ≤ N8 ∧ v = .int .i64 ((q : Int) - 1) ∧ Hid (∀ j, q ≤ j → j < N8 → f j = false)) (fun v => (intOf v + 1).toNat)
  case atStart => exact ⟨N8, Nat.le_refl _, rfl, fun j h1 h2 => by omega⟩
  case round =>
    obtain ⟨q, hq, rfl, hz⟩ := hrel
    rcases Nat.eq_zero_or_pos q with h0 | h0
    · subst h0
      exfalso
      have h := HSP.out
      have := hz.out (unpackL f n) (Nat.zero_le _) (by have := HN8.out; have := h.2.1; omega)
      rw [h.2.2.2.1] at this; cases this
    · obtain ⟨r, hr⟩ : ∃ r, r = q - 1 := ⟨_, rfl⟩
      have hrI : (q : Int) - 1 = (r : Int) := by omega
      have Hqr := Lib.hid (show q = r + 1 by omega)
      have hrN : r < N8 := by omega
      have hr0 : (0 : Int) ≤ (r : Int) := by omega
      have hrb : r ≤ 8000 := by omega
      rw [hrI]
      cases hf : f r with
      | false =>
        have hz2 := Lib.hid (show ∀ j, r ≤ j → j < N8 → f j = false from fun j h1 h2 => by
          by_cases he : j = r
          · rw [he]; exact hf
          · exact hz.out j (by omega) h2)
        have hg : (X[r]'(by rw [hsz]; exact hrN)).toNat = 48 := by rw [HG.out r (by omega), hf]; rfl
        clear hf hr hrI hq h0 hz Hqr
        go_wp2
        go_round
        case rel => exact ⟨r, by omega, rfl, hz2.out⟩
        case measure => simp [intOf]; try omega
      | true =>
        have hg : (X[r]'(by rw [hsz]; exact hrN)).toNat = 49 := by rw [HG.out r (by omega), hf]; rfl
        have hUL := Lib.hid (show unpackL f n = r by
          have h := HSP.out
          have hU : unpackL f n ≤ r := by
            rcases Nat.lt_or_ge r (unpackL f n) with h1 | h1
            · have := hz.out (unpackL f n) (show q ≤ unpackL f n by omega) (by have := HN8.out; have := h.2.1; omega)
              rw [h.2.2.2.1] at this; cases this
            · exact h1
          rcases Nat.lt_or_ge (unpackL f n) r with h1 | h1
          · have := h.2.2.2.2 r h1 (by have := HN8.out; omega)
            rw [hf] at this; cases this
          · omega)
        have h8 : (N8 : Int) - (r : Int) ≤ 8 := by have := HSP.out.2.2.1; have := hUL.out; have := HN8.out; omega
        have d3 : decide (8 < (N8 : Int) - (r : Int)) = false := by rw [decide_eq_false_iff_not]; omega
        have d4 : decide (4194304 < (r : Int)) = false := by rw [decide_eq_false_iff_not]; omega
        have d4n : decide (4194304 < r) = false := by rw [decide_eq_false_iff_not]; omega
        have hx := HX.out r (by omega)
        have HXr := Lib.hid (show X.extract 0 r = txtF f r by rw [hx, Nat.sub_zero]; exact txtF_congr fun j _ => by rw [Nat.zero_add])
        clear hf hr hrI hx hz Hqr
        go_wp2_with fail
        refine (of_good f r (X.extract 0 r) _ HXr.out (by omega)).mono ?_
        rintro e w9 ⟨g, rfl, hg9, hO, hbk⟩
        have oR := Lib.hid (OR.out.below' hbk)
        have hb9 := Lib.hid (hb.out.trans (hbk.mono hb.out.size))
        have OB := Lib.hid hO
        have sb := hb.out.size
        have yy := OR.out.lt
        clear hbk hO OR hb
        have OR := oR; have hb := hb9
        clear oR hb9
        have yR := OR.out.lt; have fR := OR.out.frozen; have qR := OR.out.cell
        go_wp2
        have hF := (OR.out.set 0 (.slice (some ⟨g, 0, none⟩) ((r + 7) / 8) ((r + 7) / 8))).set 1 (.int .i64 (r : Nat))
        have q0 := hF.cell 0
        have q1 := hF.cell 1
        simp only [List.set_cons_zero, List.set_cons_succ, List.getElem?_cons_zero, List.getElem?_cons_succ] at q0 q1
        exact bodyPost_ret (v := .tuple #[.agg #[.slice (some ⟨g, 0, none⟩) ((r + 7) / 8) ((r + 7) / 8), .int .i64 (r : Nat)], .int .i64 0]) (by simp [results, Tryd.results49, go_sem, q0, q1]) rfl
          ⟨g, by rw [hUL.out], by omega, by rw [hUL.out]; exact (OB.out.far (p := ⟨w.heap.size, 0, none⟩) (by intro e; have e : g = w.heap.size := e; omega) _).far (p := ⟨w.heap.size, 1, none⟩) (by intro e; have e : g = w.heap.size := e; omega) _, (hb.out.setCell (by simp; try omega) _).setCell (by simp; try omega) _⟩
end Go.Proofs.YtljihclpgpmfeaaDoor
