/- Walks: fretworkref01: Of, Tied, Join, Cut, Field, Knot. -/
import Derived.Test.YtnhlenagojbigaaRefC
import Derived.Test.YtnhlenagojbigaaStrE
import Derived.Test.YtnhlenagojbigaaStrF
import Derived.Test.YtnhlenagojbigaaStrQ
import Derived.Test.YtnhlenagojbigaaStrL
namespace Go.Proofs.Ytnhlenagojbigaa
open Go.RowKit

theorem cutTo_self {f : Nat → Bool} {L n : Nat} (h : RS L n f) : cutTo f L = f := by
  funext i
  unfold cutTo
  by_cases hi : i < L
  · rw [decide_eq_true hi, Bool.and_true]
  · rw [decide_eq_false hi, Bool.and_false]; exact (h.zero i (by omega)).symm
theorem text_good (A : Option Addr) (n c l : Nat) (f : Nat → Bool) (X : ByteArray) (w : World) (hr : Rd w A (cellsF f n)) (hs : RS l n f) (hn : n ≤ 1000) (hX : X = txtF f l) :
    Calls Try.prog 31 #[.agg #[.slice A n c, .int .i64 l]] w fun e w' => e = .returned (.tuple #[.string X, .bool true]) ∧ Below w.heap.size w w' := by
  have h := text_any A n c l f w (ArgS.of hr hs) hn
  rw [textS_yes hs.rightB, hs.rightB, ← hX] at h
  exact h
theorem text_bad (A : Option Addr) (n c : Nat) (L : Int) (f : Nat → Bool) (w : World) (hs : ArgS w A n L f) (hn : n ≤ 1000) (hR : rightB L n f = false) :
    Calls Try.prog 31 #[.agg #[.slice A n c, .int .i64 L]] w fun e w' => e = .returned (.tuple #[.string ⟨#[]⟩, .bool false]) ∧ Below w.heap.size w w' := by
  have h := text_any A n c L f w hs hn
  rw [textS_no hR, hR] at h
  exact h

set_option maxRecDepth 100000 in
set_option maxHeartbeats 2000000 in
theorem of_good (f : Nat → Bool) (m : Nat) (X : ByteArray) (w : World) (hX : X = txtF f m) (hm : m ≤ 4194304) :
    Calls Try.prog 49 #[.string X] w (GoodS w m (cutTo f m)) := by
  have hbr := fun W => bytes_ref f m W hm
  have hsz := txtF_size f m
  rw [← hX] at hbr hsz
  have HBR := Lib.hid hbr
  clear hbr hX
  have d1 : decide (4194304 < (m : Int)) = false := by rw [decide_eq_false_iff_not]; omega
  have d2 : decide (4194304 < m) = false := by rw [decide_eq_false_iff_not]; omega
  have hb := Lib.hid (Below.refl w.heap.size w)
  go_enter Try.func49, Try.ntmps49
  go_wp2_with fail
  refine (HBR.out _).mono ?_
  rintro e w1 ⟨g, rfl, hg, hO, hbk⟩
  have OR' := Lib.hid (Own.below' (Own.new' (g := w.heap.size) (w := w) (vs := [.slice none 0 0, .int .i64 0]) rfl) hbk)
  have hb' := Lib.hid ((hb.out.alloc (by have := hb.out.size; simp; try omega) _).trans (hbk.mono (by have := hb.out.size; simp; try omega)))
  have hs1 := hbk.size
  simp only [World.size_alloc] at hs1
  clear hb hbk 
  have hb := hb'; clear hb'
  have OR := OR'; clear OR'
  have OB := Lib.hid hO; clear hO
  have yR := OR.out.lt; have fR := OR.out.frozen; have qR := OR.out.cell
  simp only [World.size_alloc] at hg
  go_wp2
  have hF := (OR.out.set 0 (.slice (some ⟨g, 0, none⟩) ((m + 7) / 8) ((m + 7) / 8))).set 1 (.int .i64 (m : Nat))
  have q0 := hF.cell 0
  have q1 := hF.cell 1
  simp only [List.set_cons_zero, List.set_cons_succ, List.getElem?_cons_zero, List.getElem?_cons_succ] at q0 q1
  exact bodyPost_ret (v := .tuple #[.agg #[.slice (some ⟨g, 0, none⟩) ((m + 7) / 8) ((m + 7) / 8), .int .i64 (m : Nat)], .int .i64 0]) (by simp [results, Try.results49, go_sem, q0, q1]) rfl
    ⟨g, rfl, by omega, (OB.out.far (by intro e; simp at e; try omega) _).far (by intro e; simp at e; try omega) _, (hb.out.setCell (by simp; try omega) _).setCell (by simp; try omega) _⟩
theorem digits_at (n w0 d : Nat) (X : ByteArray) (w : World) (hn : n < 18446744073709551616) (hw : w0 ≤ 64) (hd : manyD n w0 = d) (hX : X = txtF (digF n d) d) :
    Calls Try.prog 50 #[.int .u64 n, .int .i64 w0] w fun e w' => e = .returned (.string X) ∧ Below w.heap.size w w' := by
  subst hd hX
  exact digits_ref n w0 w hn hw
theorem tied_text (n : Nat) (hn : n < 18446744073709551615) : txtF (digF 0 (digits n - 1)) (digits n - 1) ++ txtF (digF (n + 1) (digits n)) (digits n) = txtF (knotF n) (knotL n) := by
  obtain ⟨_, _, h1, _⟩ := digits_spec n hn
  rw [txtF_append, show digits n - 1 + digits n = knotL n by unfold knotL; omega]
  refine txtF_congr fun i hi => ?_
  unfold knotF putF digF noF
  by_cases h : i < digits n - 1
  · rw [if_pos h, decide_eq_false (by omega)]; simp
  · rw [if_neg h, decide_eq_true (by unfold knotL at hi; omega)]; simp
set_option maxRecDepth 100000 in
set_option maxHeartbeats 2000000 in
theorem tied_ref (n : Nat) (X : ByteArray) (w : World) (hn : n < 18446744073709551615) (hX : X = txtF (knotF n) (knotL n)) :
    Calls Try.prog 51 #[.int .u64 n] w fun e w' => e = .returned (.string X) ∧ Below w.heap.size w w' := by
  obtain ⟨hs1, hs2, hs3, hs4⟩ := digits_spec n hn
  have htt := tied_text n hn
  rw [← hX] at htt
  have hw := wrap_succ n hn
  obtain ⟨n1, h1⟩ : ∃ n1, n1 = n + 1 := ⟨_, rfl⟩
  rw [← h1] at htt hw
  obtain ⟨d, hd⟩ : ∃ d, d = digits n := ⟨_, rfl⟩
  have hd0 := Lib.hid (show manyD n1 0 = d by unfold manyD; rw [hd, h1]; unfold digits; omega)
  rw [← hd] at htt hs3 hs4
  obtain ⟨d1, hd1⟩ : ∃ d1, d1 = d - 1 := ⟨_, rfl⟩
  rw [← hd1] at htt
  have hdI : (d : Int) - 1 = (d1 : Int) := by omega
  have hd2 := Lib.hid (show manyD 0 d1 = d1 by unfold manyD; have : Lib.bitLen 0 = 0 := rfl; omega)
  obtain ⟨X1, hX1⟩ : ∃ X1, X1 = txtF (digF n1 d) d := ⟨_, rfl⟩
  obtain ⟨X2, hX2⟩ : ∃ X2, X2 = txtF (digF 0 d1) d1 := ⟨_, rfl⟩
  rw [← hX1, ← hX2] at htt
  have hz1 : X1.size = d := by rw [hX1]; exact txtF_size _ _
  have hz2 : X2.size = d1 := by rw [hX2]; exact txtF_size _ _
  have hn1 := Lib.hid (show n1 < 18446744073709551616 by omega)
  have hlim : ¬ 9223372036854775807 < d1 + d := by omega
  have hd64 : d1 ≤ 64 := by omega
  have HX1 := Lib.hid hX1; have HX2 := Lib.hid hX2; have hfin := Lib.hid htt
  clear hs1 hs2 h1 hd hd1 htt hX hn hX1 hX2
  have hb := Lib.hid (Below.refl w.heap.size w)
  go_enter Try.func51, Try.ntmps51
  go_wp2_with fail
  refine (digits_at n1 0 d X1 _ hn1.out (by omega) hd0.out HX1.out).mono ?_
  rintro e w1 ⟨rfl, hbk⟩
  have hb' := Lib.hid (hb.out.trans (hbk.mono (by have := hb.out.size; simp; try omega)))
  have hs1 := hbk.size
  clear hb hbk 
  have hb := hb'; clear hb'
  go_wp2_with fail
  refine (digits_at 0 d1 d1 X2 _ (by decide) hd64 hd2.out HX2.out).mono ?_
  rintro e w2 ⟨rfl, hbk⟩
  have hb' := Lib.hid (hb.out.trans (hbk.mono (by have := hb.out.size; simp; try omega)))
  have hs2 := hbk.size
  clear hb hbk 
  have hb := hb'; clear hb'
  go_wp2
  go_ret
  exact ⟨ret_str hfin.out, hb.out⟩
end Go.Proofs.Ytnhlenagojbigaa
