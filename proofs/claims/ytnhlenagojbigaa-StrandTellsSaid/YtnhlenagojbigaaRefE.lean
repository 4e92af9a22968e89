/- Walks: fretworkref01: Join, Cut, Field, Knot. -/
import Derived.Test.YtnhlenagojbigaaRefD
import Derived.Test.YtnhlenagojbigaaStrR
namespace Go.Proofs.Ytnhlenagojbigaa
open Go.RowKit

theorem txt_join {f g : Nat → Bool} {L M n m : Nat} (hs : RS L n f) (ht : RS M m g) (h : L + M ≤ 4194304) : txtF f L ++ txtF g M = txtF (joinF f L g) (L + M) ∧ cutTo (joinF f L g) (L + M) = joinF f L g :=
  ⟨txtF_append f g L M, cutTo_self (joinF_RS hs ht h)⟩
theorem txt_field {f : Nat → Bool} {L n N wd : Nat} (hs : RS L n f) (h : L + wd ≤ 4194304) : txtF f L ++ txtF (digF N wd) wd = txtF (putF f L N wd) (L + wd) ∧ cutTo (putF f L N wd) (L + wd) = putF f L N wd := by
  refine ⟨?_, cutTo_self (putF_RS hs (Nat.le_refl _) (by omega) h)⟩
  rw [txtF_append]
  refine txtF_congr fun i hi => ?_
  unfold putF digF
  by_cases hl : i < L
  · rw [if_pos hl, decide_eq_false (by omega)]; simp
  · rw [if_neg hl, decide_eq_true (by omega), hs.zero i (by omega)]; simp
theorem txt_knot {f : Nat → Bool} {L n m : Nat} (hs : RS L n f) (hm : m < 18446744073709551615) (h : L + knotL m ≤ 4194304) :
    txtF f L ++ txtF (knotF m) (knotL m) = txtF (putF f (L + digits m - 1) (m + 1) (digits m)) (L + knotL m) ∧ cutTo (putF f (L + digits m - 1) (m + 1) (digits m)) (L + knotL m) = putF f (L + digits m - 1) (m + 1) (digits m) := by
  obtain ⟨_, _, h1, _⟩ := digits_spec m hm
  refine ⟨?_, cutTo_self (putF_RS hs (knot_room m hm) (by omega) h)⟩
  rw [txtF_append]
  refine txtF_congr fun i hi => ?_
  have hi2 : i < L + (2 * digits m - 1) := hi
  unfold knotF putF noF
  by_cases hl : i < L
  · rw [if_pos hl, decide_eq_false (by omega)]; simp
  · rw [if_neg hl, hs.zero i (by omega)]
    simp only [Bool.false_or]
    by_cases h2 : i - L < digits m - 1
    · rw [decide_eq_false (by omega), decide_eq_false (by omega)]; simp
    · rw [decide_eq_true (by omega), decide_eq_true (by omega)]
      congr 2; omega
set_option maxRecDepth 100000 in
set_option maxHeartbeats 4000000 in
theorem join_ref_bad (A A' : Option Addr) (n c n' c' : Nat) (L L' : Int) (f f' : Nat → Bool) (w : World) (hs : ArgS w A n L f) (ht : ArgS w A' n' L' f') (hn : n ≤ 1000) (hn' : n' ≤ 1000) (h : (rightB L n f && rightB L' n' f') = false) :
    Calls Try.prog 32 #[.agg #[.slice A n c, .int .i64 L], .agg #[.slice A' n' c', .int .i64 L']] w (BadS w 11) := by
  have HS := Lib.hid hs; have HT := Lib.hid ht
  clear hs ht
  cases e1 : rightB L n f with
  | false =>
    clear h
    have hb := Lib.hid (Below.refl w.heap.size w)
    go_enter Try.func32, Try.ntmps32
    go_wp2_with fail
    refine (text_any A n c L f _ (((HS.out.alloc _).alloc _).alloc _) hn).mono ?_
    rintro e w1 ⟨rfl, hbk⟩
    have HT' := Lib.hid ((((HT.out.alloc _).alloc _).alloc _).keep hbk)
    have O1' := Lib.hid (Own.below' (((Own.new' (g := w.heap.size) (t := 24) (vs := [.slice A n c, .int .i64 L]) (w := w) rfl).alloc (.cells #[.slice A' n' c', .int .i64 L'] 24)).alloc (.cells #[.slice none 0 0, .int .i64 0] 24)) hbk)
    have O2' := Lib.hid (Own.below' ((Own.new' (g := w.heap.size + 1) (t := 24) (vs := [.slice A' n' c', .int .i64 L']) (w := w.alloc (.cells #[.slice A n c, .int .i64 L] 24)) (by simp)).alloc (.cells #[.slice none 0 0, .int .i64 0] 24)) hbk)
    have OR' := Lib.hid (Own.below' (Own.new' (g := w.heap.size + 2) (t := 24) (vs := [.slice none 0 0, .int .i64 0]) (w := (w.alloc (.cells #[.slice A n c, .int .i64 L] 24)).alloc (.cells #[.slice A' n' c', .int .i64 L'] 24)) (by simp)) hbk)
    have hb' := Lib.hid ((((hb.out.alloc (by have := hb.out.size; simp; try omega) _).alloc (by have := hb.out.size; simp; try omega) _).alloc (by have := hb.out.size; simp; try omega) _).trans (hbk.mono (by have := hb.out.size; simp; try omega)))
    have hs1 := hbk.size
    simp only [World.size_alloc] at hs1
    clear hb hbk HT
    have hb := hb'; clear hb'
    have HT := HT'; clear HT'
    have O1 := O1'; clear O1'
    have O2 := O2'; clear O2'
    have OR := OR'; clear OR'
    have qO2 := O2.out.cell; have zO2 := O2.out.lt
    go_wp2_with fail
    refine (text_any A' n' c' L' f' _ HT.out hn').mono ?_
    rintro e w2 ⟨rfl, hbk⟩
    have O1' := Lib.hid (O1.out.below' hbk)
    have O2' := Lib.hid (O2.out.below' hbk)
    have OR' := Lib.hid (OR.out.below' hbk)
    have HT' := Lib.hid (HT.out.keep hbk)
    have hb' := Lib.hid (hb.out.trans (hbk.mono (by have := hb.out.size; simp; try omega)))
    have hs2 := hbk.size
    clear qO2 zO2
    clear hb hbk O1 O2 OR HT
    have hb := hb'; clear hb'
    have O1 := O1'; clear O1'
    have O2 := O2'; clear O2'
    have OR := OR'; clear OR'
    have HT := HT'; clear HT'
    have yR := OR.out.lt; have fR := OR.out.frozen; have qR := OR.out.cell
    go_wp2
    have hF := (OR.out.set 0 (.slice none 0 0)).set 1 (.int .i64 0)
    have q0 := hF.cell 0
    have q1 := hF.cell 1
    simp only [List.set_cons_zero, List.set_cons_succ, List.getElem?_cons_zero, List.getElem?_cons_succ] at q0 q1
    exact bodyPost_ret (v := .tuple #[.agg #[.slice none 0 0, .int .i64 0], .int .i64 11]) (by simp [results, Try.results32, go_sem, q0, q1]) rfl ⟨rfl, (hb.out.setCell (by simp; try omega) _).setCell (by simp; try omega) _⟩
  | true =>
    have e2 : rightB L' n' f' = false := by rw [e1] at h; simpa using h
    clear h
    have hb := Lib.hid (Below.refl w.heap.size w)
    go_enter Try.func32, Try.ntmps32
    go_wp2_with fail
    refine (text_any A n c L f _ (((HS.out.alloc _).alloc _).alloc _) hn).mono ?_
    rintro e w1 ⟨rfl, hbk⟩
    have HT' := Lib.hid ((((HT.out.alloc _).alloc _).alloc _).keep hbk)
    have O1' := Lib.hid (Own.below' (((Own.new' (g := w.heap.size) (t := 24) (vs := [.slice A n c, .int .i64 L]) (w := w) rfl).alloc (.cells #[.slice A' n' c', .int .i64 L'] 24)).alloc (.cells #[.slice none 0 0, .int .i64 0] 24)) hbk)
    have O2' := Lib.hid (Own.below' ((Own.new' (g := w.heap.size + 1) (t := 24) (vs := [.slice A' n' c', .int .i64 L']) (w := w.alloc (.cells #[.slice A n c, .int .i64 L] 24)) (by simp)).alloc (.cells #[.slice none 0 0, .int .i64 0] 24)) hbk)
    have OR' := Lib.hid (Own.below' (Own.new' (g := w.heap.size + 2) (t := 24) (vs := [.slice none 0 0, .int .i64 0]) (w := (w.alloc (.cells #[.slice A n c, .int .i64 L] 24)).alloc (.cells #[.slice A' n' c', .int .i64 L'] 24)) (by simp)) hbk)
    have hb' := Lib.hid ((((hb.out.alloc (by have := hb.out.size; simp; try omega) _).alloc (by have := hb.out.size; simp; try omega) _).alloc (by have := hb.out.size; simp; try omega) _).trans (hbk.mono (by have := hb.out.size; simp; try omega)))
    have hs1 := hbk.size
    simp only [World.size_alloc] at hs1
    clear hb hbk HT
    have hb := hb'; clear hb'
    have HT := HT'; clear HT'
    have O1 := O1'; clear O1'
    have O2 := O2'; clear O2'
    have OR := OR'; clear OR'
    have qO2 := O2.out.cell; have zO2 := O2.out.lt
    go_wp2_with fail
    refine (text_any A' n' c' L' f' _ HT.out hn').mono ?_
    rintro e w2 ⟨rfl, hbk⟩
    have O1' := Lib.hid (O1.out.below' hbk)
    have O2' := Lib.hid (O2.out.below' hbk)
    have OR' := Lib.hid (OR.out.below' hbk)
    have HT' := Lib.hid (HT.out.keep hbk)
    have hb' := Lib.hid (hb.out.trans (hbk.mono (by have := hb.out.size; simp; try omega)))
    have hs2 := hbk.size
    clear qO2 zO2
    clear hb hbk O1 O2 OR HT
    have hb := hb'; clear hb'
    have O1 := O1'; clear O1'
    have O2 := O2'; clear O2'
    have OR := OR'; clear OR'
    have HT := HT'; clear HT'
    have yR := OR.out.lt; have fR := OR.out.frozen; have qR := OR.out.cell
    go_wp2
    have hF := (OR.out.set 0 (.slice none 0 0)).set 1 (.int .i64 0)
    have q0 := hF.cell 0
    have q1 := hF.cell 1
    simp only [List.set_cons_zero, List.set_cons_succ, List.getElem?_cons_zero, List.getElem?_cons_succ] at q0 q1
    exact bodyPost_ret (v := .tuple #[.agg #[.slice none 0 0, .int .i64 0], .int .i64 11]) (by simp [results, Try.results32, go_sem, q0, q1]) rfl ⟨rfl, (hb.out.setCell (by simp; try omega) _).setCell (by simp; try omega) _⟩
set_option maxRecDepth 100000 in
set_option maxHeartbeats 4000000 in
theorem join_ref_good (A A' : Option Addr) (n c n' c' L L' M : Nat) (f f' : Nat → Bool) (w : World) (hr : Rd w A (cellsF f n)) (hs : RS L n f) (hr' : Rd w A' (cellsF f' n')) (hs' : RS L' n' f') (hn : n ≤ 1000) (hn' : n' ≤ 1000) (hM : L + L' = M) (hM4 : M ≤ 4194304) :
    Calls Try.prog 32 #[.agg #[.slice A n c, .int .i64 L], .agg #[.slice A' n' c', .int .i64 L']] w (GoodS w M (joinF f L f')) := by
  have HB1 := Lib.hid hr; have HB2 := Lib.hid hr'; have R1 := Lib.hid hs; have R2 := Lib.hid hs'
  have hj := txt_join hs hs' (by omega)
  rw [hM] at hj
  obtain ⟨X1, hX1⟩ : ∃ X, X = txtF f L := ⟨_, rfl⟩
  obtain ⟨X2, hX2⟩ : ∃ X, X = txtF f' L' := ⟨_, rfl⟩
  rw [← hX1, ← hX2] at hj
  have hz1 : X1.size = L := by rw [hX1]; exact txtF_size _ _
  have hz2 : X2.size = L' := by rw [hX2]; exact txtF_size _ _
  have HX1 := Lib.hid hX1; have HX2 := Lib.hid hX2; have HX := Lib.hid hj.1; have HC := Lib.hid hj.2
  have hlim : ¬ 9223372036854775807 < L + L' := by omega
  clear hr hr' hs hs' hj hX1 hX2 hM
  have hb := Lib.hid (Below.refl w.heap.size w)
  go_enter Try.func32, Try.ntmps32
  go_wp2_with fail
  refine (text_good A n c L f X1 _ (((HB1.out.alloc _).alloc _).alloc _) R1.out hn HX1.out).mono ?_
  rintro e w1 ⟨rfl, hbk⟩
  have HB2' := Lib.hid ((((HB2.out.alloc _).alloc _).alloc _).below hbk)
  have O1' := Lib.hid (Own.below' (((Own.new' (g := w.heap.size) (t := 24) (vs := [.slice A n c, .int .i64 (L : Nat)]) (w := w) rfl).alloc (.cells #[.slice A' n' c', .int .i64 (L' : Nat)] 24)).alloc (.cells #[.slice none 0 0, .int .i64 0] 24)) hbk)
  have O2' := Lib.hid (Own.below' ((Own.new' (g := w.heap.size + 1) (t := 24) (vs := [.slice A' n' c', .int .i64 (L' : Nat)]) (w := w.alloc (.cells #[.slice A n c, .int .i64 (L : Nat)] 24)) (by simp)).alloc (.cells #[.slice none 0 0, .int .i64 0] 24)) hbk)
  have OR' := Lib.hid (Own.below' (Own.new' (g := w.heap.size + 2) (t := 24) (vs := [.slice none 0 0, .int .i64 0]) (w := (w.alloc (.cells #[.slice A n c, .int .i64 (L : Nat)] 24)).alloc (.cells #[.slice A' n' c', .int .i64 (L' : Nat)] 24)) (by simp)) hbk)
  have hb' := Lib.hid ((((hb.out.alloc (by have := hb.out.size; simp; try omega) _).alloc (by have := hb.out.size; simp; try omega) _).alloc (by have := hb.out.size; simp; try omega) _).trans (hbk.mono (by have := hb.out.size; simp; try omega)))
  have hs1 := hbk.size
  simp only [World.size_alloc] at hs1
  clear hb hbk HB2
  have hb := hb'; clear hb'
  have HB2 := HB2'; clear HB2'
  have O1 := O1'; clear O1'
  have O2 := O2'; clear O2'
  have OR := OR'; clear OR'
  have qO2 := O2.out.cell; have zO2 := O2.out.lt
  go_wp2_with fail
  refine (text_good A' n' c' L' f' X2 _ HB2.out R2.out hn' HX2.out).mono ?_
  rintro e w2 ⟨rfl, hbk⟩
  have O1' := Lib.hid (O1.out.below' hbk)
  have O2' := Lib.hid (O2.out.below' hbk)
  have OR' := Lib.hid (OR.out.below' hbk)
  have HB2' := Lib.hid (HB2.out.below hbk)
  have hb' := Lib.hid (hb.out.trans (hbk.mono (by have := hb.out.size; simp; try omega)))
  have hs2 := hbk.size
  clear qO2 zO2
  clear hb hbk O1 O2 OR HB2
  have hb := hb'; clear hb'
  have O1 := O1'; clear O1'
  have O2 := O2'; clear O2'
  have OR := OR'; clear OR'
  have HB2 := HB2'; clear HB2'
  go_wp2_with fail
  refine (of_good (joinF f L f') M (X1 ++ X2) _ HX.out hM4).mono ?_
  rintro e w3 ⟨g, rfl, hg, hO, hbk⟩
  rw [HC.out] at hO
  have O1' := Lib.hid (O1.out.below' hbk)
  have O2' := Lib.hid (O2.out.below' hbk)
  have OR' := Lib.hid (OR.out.below' hbk)
  have HB2' := Lib.hid (HB2.out.below hbk)
  have hb' := Lib.hid (hb.out.trans (hbk.mono (by have := hb.out.size; simp; try omega)))
  have hs3 := hbk.size
  clear hb hbk O1 O2 OR HB2
  have hb := hb'; clear hb'
  have O1 := O1'; clear O1'
  have O2 := O2'; clear O2'
  have OR := OR'; clear OR'
  have HB2 := HB2'; clear HB2'
  have OB := Lib.hid hO; clear hO
  have yR := OR.out.lt; have fR := OR.out.frozen; have qR := OR.out.cell
  have sb := hb.out.size
  go_wp2
  have hF := (OR.out.set 0 (.slice (some ⟨g, 0, none⟩) ((M + 7) / 8) ((M + 7) / 8))).set 1 (.int .i64 (M : Nat))
  have q0 := hF.cell 0
  have q1 := hF.cell 1
  simp only [List.set_cons_zero, List.set_cons_succ, List.getElem?_cons_zero, List.getElem?_cons_succ] at q0 q1
  exact bodyPost_ret (v := .tuple #[.agg #[.slice (some ⟨g, 0, none⟩) ((M + 7) / 8) ((M + 7) / 8), .int .i64 (M : Nat)], .int .i64 0]) (by simp [results, Try.results32, go_sem, q0, q1]) rfl
    ⟨g, rfl, by omega, (OB.out.far (by intro e; simp at e; try omega) _).far (by intro e; simp at e; try omega) _, (hb.out.setCell (by simp; try omega) _).setCell (by simp; try omega) _⟩
set_option maxRecDepth 100000 in
set_option maxHeartbeats 4000000 in
theorem cut_ref_bad (A : Option Addr) (n c : Nat) (L : Int) (p q : Int) (f : Nat → Bool) (w : World) (hs : ArgS w A n L f) (hn : n ≤ 1000) (hR : rightB L n f = false) :
    Calls Try.prog 33 #[.agg #[.slice A n c, .int .i64 L], .int .i64 p, .int .i64 q] w (BadS w 11) := by
  have HS := Lib.hid hs; have HR := Lib.hid hR
  clear hs hR
  have hb := Lib.hid (Below.refl w.heap.size w)
  go_enter Try.func33, Try.ntmps33
  go_wp2_with fail
  refine (text_bad A n c L f _ ((HS.out.alloc _).alloc _) hn HR.out).mono ?_
  rintro e w1 ⟨rfl, hbk⟩
  have O1' := Lib.hid (Own.below' ((Own.new' (g := w.heap.size) (t := 24) (vs := [.slice A n c, .int .i64 L]) (w := w) rfl).alloc (.cells #[.slice none 0 0, .int .i64 0] 24)) hbk)
  have OR' := Lib.hid (Own.below' (Own.new' (g := w.heap.size + 1) (t := 24) (vs := [.slice none 0 0, .int .i64 0]) (w := w.alloc (.cells #[.slice A n c, .int .i64 L] 24)) (by simp)) hbk)
  have hb' := Lib.hid (((hb.out.alloc (by have := hb.out.size; simp; try omega) _).alloc (by have := hb.out.size; simp; try omega) _).trans (hbk.mono (by have := hb.out.size; simp; try omega)))
  have hs1 := hbk.size
  simp only [World.size_alloc] at hs1
  clear hb hbk 
  have hb := hb'; clear hb'
  have O1 := O1'; clear O1'
  have OR := OR'; clear OR'
  have yR := OR.out.lt; have fR := OR.out.frozen; have qR := OR.out.cell
  go_wp2
  have hF := (OR.out.set 0 (.slice none 0 0)).set 1 (.int .i64 0)
  have q0 := hF.cell 0
  have q1 := hF.cell 1
  simp only [List.set_cons_zero, List.set_cons_succ, List.getElem?_cons_zero, List.getElem?_cons_succ] at q0 q1
  exact bodyPost_ret (v := .tuple #[.agg #[.slice none 0 0, .int .i64 0], .int .i64 11]) (by simp [results, Try.results33, go_sem, q0, q1]) rfl ⟨rfl, (hb.out.setCell (by simp; try omega) _).setCell (by simp; try omega) _⟩
set_option maxRecDepth 100000 in
set_option maxHeartbeats 4000000 in
theorem field_ref_bad (A : Option Addr) (n c : Nat) (L : Int) (wd : Int) (m : Nat) (f : Nat → Bool) (w : World) (hs : ArgS w A n L f) (hn : n ≤ 1000) (hR : rightB L n f = false) :
    Calls Try.prog 34 #[.agg #[.slice A n c, .int .i64 L], .int .u64 m, .int .i64 wd] w (BadS w 11) := by
  have HS := Lib.hid hs; have HR := Lib.hid hR
  clear hs hR
  have hb := Lib.hid (Below.refl w.heap.size w)
  go_enter Try.func34, Try.ntmps34
  go_wp2_with fail
  refine (text_bad A n c L f _ ((HS.out.alloc _).alloc _) hn HR.out).mono ?_
  rintro e w1 ⟨rfl, hbk⟩
  have O1' := Lib.hid (Own.below' ((Own.new' (g := w.heap.size) (t := 24) (vs := [.slice A n c, .int .i64 L]) (w := w) rfl).alloc (.cells #[.slice none 0 0, .int .i64 0] 24)) hbk)
  have OR' := Lib.hid (Own.below' (Own.new' (g := w.heap.size + 1) (t := 24) (vs := [.slice none 0 0, .int .i64 0]) (w := w.alloc (.cells #[.slice A n c, .int .i64 L] 24)) (by simp)) hbk)
  have hb' := Lib.hid (((hb.out.alloc (by have := hb.out.size; simp; try omega) _).alloc (by have := hb.out.size; simp; try omega) _).trans (hbk.mono (by have := hb.out.size; simp; try omega)))
  have hs1 := hbk.size
  simp only [World.size_alloc] at hs1
  clear hb hbk 
  have hb := hb'; clear hb'
  have O1 := O1'; clear O1'
  have OR := OR'; clear OR'
  have yR := OR.out.lt; have fR := OR.out.frozen; have qR := OR.out.cell
  go_wp2
  have hF := (OR.out.set 0 (.slice none 0 0)).set 1 (.int .i64 0)
  have q0 := hF.cell 0
  have q1 := hF.cell 1
  simp only [List.set_cons_zero, List.set_cons_succ, List.getElem?_cons_zero, List.getElem?_cons_succ] at q0 q1
  exact bodyPost_ret (v := .tuple #[.agg #[.slice none 0 0, .int .i64 0], .int .i64 11]) (by simp [results, Try.results34, go_sem, q0, q1]) rfl ⟨rfl, (hb.out.setCell (by simp; try omega) _).setCell (by simp; try omega) _⟩
set_option maxRecDepth 100000 in
set_option maxHeartbeats 4000000 in
theorem knot_ref_bad (A : Option Addr) (n c : Nat) (L : Int) (m : Nat) (f : Nat → Bool) (w : World) (hs : ArgS w A n L f) (hn : n ≤ 1000) (hR : rightB L n f = false) :
    Calls Try.prog 35 #[.agg #[.slice A n c, .int .i64 L], .int .u64 m] w (BadS w 11) := by
  have HS := Lib.hid hs; have HR := Lib.hid hR
  clear hs hR
  have hb := Lib.hid (Below.refl w.heap.size w)
  go_enter Try.func35, Try.ntmps35
  go_wp2_with fail
  refine (text_bad A n c L f _ ((HS.out.alloc _).alloc _) hn HR.out).mono ?_
  rintro e w1 ⟨rfl, hbk⟩
  have O1' := Lib.hid (Own.below' ((Own.new' (g := w.heap.size) (t := 24) (vs := [.slice A n c, .int .i64 L]) (w := w) rfl).alloc (.cells #[.slice none 0 0, .int .i64 0] 24)) hbk)
  have OR' := Lib.hid (Own.below' (Own.new' (g := w.heap.size + 1) (t := 24) (vs := [.slice none 0 0, .int .i64 0]) (w := w.alloc (.cells #[.slice A n c, .int .i64 L] 24)) (by simp)) hbk)
  have hb' := Lib.hid (((hb.out.alloc (by have := hb.out.size; simp; try omega) _).alloc (by have := hb.out.size; simp; try omega) _).trans (hbk.mono (by have := hb.out.size; simp; try omega)))
  have hs1 := hbk.size
  simp only [World.size_alloc] at hs1
  clear hb hbk 
  have hb := hb'; clear hb'
  have O1 := O1'; clear O1'
  have OR := OR'; clear OR'
  have yR := OR.out.lt; have fR := OR.out.frozen; have qR := OR.out.cell
  go_wp2
  have hF := (OR.out.set 0 (.slice none 0 0)).set 1 (.int .i64 0)
  have q0 := hF.cell 0
  have q1 := hF.cell 1
  simp only [List.set_cons_zero, List.set_cons_succ, List.getElem?_cons_zero, List.getElem?_cons_succ] at q0 q1
  exact bodyPost_ret (v := .tuple #[.agg #[.slice none 0 0, .int .i64 0], .int .i64 11]) (by simp [results, Try.results35, go_sem, q0, q1]) rfl ⟨rfl, (hb.out.setCell (by simp; try omega) _).setCell (by simp; try omega) _⟩
set_option maxRecDepth 100000 in
set_option maxHeartbeats 4000000 in
theorem cut_ref_arg (A : Option Addr) (n c L : Nat) (p q : Int) (f : Nat → Bool) (w : World) (hr : Rd w A (cellsF f n)) (hs : RS L n f) (hn : n ≤ 1000) (h : ¬ (0 ≤ p ∧ p ≤ q ∧ q ≤ L)) :
    Calls Try.prog 33 #[.agg #[.slice A n c, .int .i64 L], .int .i64 p, .int .i64 q] w (BadS w 2) := by
  have HB1 := Lib.hid hr; have R1 := Lib.hid hs
  obtain ⟨X1, hX1⟩ : ∃ X, X = txtF f L := ⟨_, rfl⟩
  have hz1 : X1.size = L := by rw [hX1]; exact txtF_size _ _
  have HX1 := Lib.hid hX1
  clear hr hs hX1
  by_cases c1 : p < 0
  · have d1 : decide (p < 0) = true := by rw [decide_eq_true_eq]; omega
    clear h
    have hb := Lib.hid (Below.refl w.heap.size w)
    go_enter Try.func33, Try.ntmps33
    go_wp2_with fail
    refine (text_good A n c L f X1 _ ((HB1.out.alloc _).alloc _) R1.out hn HX1.out).mono ?_
    rintro e w1 ⟨rfl, hbk⟩
    have O1' := Lib.hid (Own.below' ((Own.new' (g := w.heap.size) (t := 24) (vs := [.slice A n c, .int .i64 (L : Nat)]) (w := w) rfl).alloc (.cells #[.slice none 0 0, .int .i64 0] 24)) hbk)
    have OR' := Lib.hid (Own.below' (Own.new' (g := w.heap.size + 1) (t := 24) (vs := [.slice none 0 0, .int .i64 0]) (w := w.alloc (.cells #[.slice A n c, .int .i64 (L : Nat)] 24)) (by simp)) hbk)
    have hb' := Lib.hid (((hb.out.alloc (by have := hb.out.size; simp; try omega) _).alloc (by have := hb.out.size; simp; try omega) _).trans (hbk.mono (by have := hb.out.size; simp; try omega)))
    have hs1 := hbk.size
    simp only [World.size_alloc] at hs1
    clear hb hbk 
    have hb := hb'; clear hb'
    have O1 := O1'; clear O1'
    have OR := OR'; clear OR'
    have yR := OR.out.lt; have fR := OR.out.frozen; have qR := OR.out.cell
    go_wp2
    have hF := (OR.out.set 0 (.slice none 0 0)).set 1 (.int .i64 0)
    have q0 := hF.cell 0
    have q1 := hF.cell 1
    simp only [List.set_cons_zero, List.set_cons_succ, List.getElem?_cons_zero, List.getElem?_cons_succ] at q0 q1
    exact bodyPost_ret (v := .tuple #[.agg #[.slice none 0 0, .int .i64 0], .int .i64 2]) (by simp [results, Try.results33, go_sem, q0, q1]) rfl ⟨rfl, (hb.out.setCell (by simp; try omega) _).setCell (by simp; try omega) _⟩
  · have d1 : decide (p < 0) = false := by rw [decide_eq_false_iff_not]; omega
    by_cases c2 : q < p
    · have d2 : decide (q < p) = true := by rw [decide_eq_true_eq]; omega
      clear h
      have hb := Lib.hid (Below.refl w.heap.size w)
      go_enter Try.func33, Try.ntmps33
      go_wp2_with fail
      refine (text_good A n c L f X1 _ ((HB1.out.alloc _).alloc _) R1.out hn HX1.out).mono ?_
      rintro e w1 ⟨rfl, hbk⟩
      have O1' := Lib.hid (Own.below' ((Own.new' (g := w.heap.size) (t := 24) (vs := [.slice A n c, .int .i64 (L : Nat)]) (w := w) rfl).alloc (.cells #[.slice none 0 0, .int .i64 0] 24)) hbk)
      have OR' := Lib.hid (Own.below' (Own.new' (g := w.heap.size + 1) (t := 24) (vs := [.slice none 0 0, .int .i64 0]) (w := w.alloc (.cells #[.slice A n c, .int .i64 (L : Nat)] 24)) (by simp)) hbk)
      have hb' := Lib.hid (((hb.out.alloc (by have := hb.out.size; simp; try omega) _).alloc (by have := hb.out.size; simp; try omega) _).trans (hbk.mono (by have := hb.out.size; simp; try omega)))
      have hs1 := hbk.size
      simp only [World.size_alloc] at hs1
      clear hb hbk 
      have hb := hb'; clear hb'
      have O1 := O1'; clear O1'
      have OR := OR'; clear OR'
      have yR := OR.out.lt; have fR := OR.out.frozen; have qR := OR.out.cell
      go_wp2
      have hF := (OR.out.set 0 (.slice none 0 0)).set 1 (.int .i64 0)
      have q0 := hF.cell 0
      have q1 := hF.cell 1
      simp only [List.set_cons_zero, List.set_cons_succ, List.getElem?_cons_zero, List.getElem?_cons_succ] at q0 q1
      exact bodyPost_ret (v := .tuple #[.agg #[.slice none 0 0, .int .i64 0], .int .i64 2]) (by simp [results, Try.results33, go_sem, q0, q1]) rfl ⟨rfl, (hb.out.setCell (by simp; try omega) _).setCell (by simp; try omega) _⟩
    · have d2 : decide (q < p) = false := by rw [decide_eq_false_iff_not]; omega
      have d3 : decide ((L : Int) < q) = true := by rw [decide_eq_true_eq]; omega
      clear h
      have hb := Lib.hid (Below.refl w.heap.size w)
      go_enter Try.func33, Try.ntmps33
      go_wp2_with fail
      refine (text_good A n c L f X1 _ ((HB1.out.alloc _).alloc _) R1.out hn HX1.out).mono ?_
      rintro e w1 ⟨rfl, hbk⟩
      have O1' := Lib.hid (Own.below' ((Own.new' (g := w.heap.size) (t := 24) (vs := [.slice A n c, .int .i64 (L : Nat)]) (w := w) rfl).alloc (.cells #[.slice none 0 0, .int .i64 0] 24)) hbk)
      have OR' := Lib.hid (Own.below' (Own.new' (g := w.heap.size + 1) (t := 24) (vs := [.slice none 0 0, .int .i64 0]) (w := w.alloc (.cells #[.slice A n c, .int .i64 (L : Nat)] 24)) (by simp)) hbk)
      have hb' := Lib.hid (((hb.out.alloc (by have := hb.out.size; simp; try omega) _).alloc (by have := hb.out.size; simp; try omega) _).trans (hbk.mono (by have := hb.out.size; simp; try omega)))
      have hs1 := hbk.size
      simp only [World.size_alloc] at hs1
      clear hb hbk 
      have hb := hb'; clear hb'
      have O1 := O1'; clear O1'
      have OR := OR'; clear OR'
      have yR := OR.out.lt; have fR := OR.out.frozen; have qR := OR.out.cell
      go_wp2
      have hF := (OR.out.set 0 (.slice none 0 0)).set 1 (.int .i64 0)
      have q0 := hF.cell 0
      have q1 := hF.cell 1
      simp only [List.set_cons_zero, List.set_cons_succ, List.getElem?_cons_zero, List.getElem?_cons_succ] at q0 q1
      exact bodyPost_ret (v := .tuple #[.agg #[.slice none 0 0, .int .i64 0], .int .i64 2]) (by simp [results, Try.results33, go_sem, q0, q1]) rfl ⟨rfl, (hb.out.setCell (by simp; try omega) _).setCell (by simp; try omega) _⟩
set_option maxRecDepth 100000 in
set_option maxHeartbeats 4000000 in
theorem cut_ref_good (A : Option Addr) (n c L : Nat) (p q l : Nat) (f : Nat → Bool) (w : World) (hr : Rd w A (cellsF f n)) (hs : RS L n f) (hn : n ≤ 1000) (hpq : p ≤ q) (hq : q ≤ L) (hl : q - p = l) :
    Calls Try.prog 33 #[.agg #[.slice A n c, .int .i64 L], .int .i64 p, .int .i64 q] w (GoodS w l (cutF f p l)) := by
  have HB1 := Lib.hid hr; have R1 := Lib.hid hs
  obtain ⟨X1, hX1⟩ : ∃ X, X = txtF f L := ⟨_, rfl⟩
  have hz1 : X1.size = L := by rw [hX1]; exact txtF_size _ _
  have HX1 := Lib.hid hX1
  have hle := hs.le
  have hx := txtF_extract f hpq hq
  rw [← hX1, hl] at hx
  have HX := Lib.hid hx
  have d1 : decide ((p : Int) < 0) = false := by rw [decide_eq_false_iff_not]; omega
  have d2 : decide (q < p) = false := by rw [decide_eq_false_iff_not]; omega
  have d3 : decide (L < q) = false := by rw [decide_eq_false_iff_not]; omega
  have hl4 : l ≤ 4194304 := by omega
  clear hr hs hX1 hx hl
  have hb := Lib.hid (Below.refl w.heap.size w)
  go_enter Try.func33, Try.ntmps33
  go_wp2_with fail
  refine (text_good A n c L f X1 _ ((HB1.out.alloc _).alloc _) R1.out hn HX1.out).mono ?_
  rintro e w1 ⟨rfl, hbk⟩
  have O1' := Lib.hid (Own.below' ((Own.new' (g := w.heap.size) (t := 24) (vs := [.slice A n c, .int .i64 (L : Nat)]) (w := w) rfl).alloc (.cells #[.slice none 0 0, .int .i64 0] 24)) hbk)
  have OR' := Lib.hid (Own.below' (Own.new' (g := w.heap.size + 1) (t := 24) (vs := [.slice none 0 0, .int .i64 0]) (w := w.alloc (.cells #[.slice A n c, .int .i64 (L : Nat)] 24)) (by simp)) hbk)
  have hb' := Lib.hid (((hb.out.alloc (by have := hb.out.size; simp; try omega) _).alloc (by have := hb.out.size; simp; try omega) _).trans (hbk.mono (by have := hb.out.size; simp; try omega)))
  have hs1 := hbk.size
  simp only [World.size_alloc] at hs1
  clear hb hbk 
  have hb := hb'; clear hb'
  have O1 := O1'; clear O1'
  have OR := OR'; clear OR'
  go_wp2_with fail
  refine (of_good (fun i => f (p + i)) l (X1.extract p q) _ HX.out (by omega)).mono ?_
  rintro e w2 ⟨g, rfl, hg, hO, hbk⟩
  have O1' := Lib.hid (O1.out.below' hbk)
  have OR' := Lib.hid (OR.out.below' hbk)
  have hb' := Lib.hid (hb.out.trans (hbk.mono (by have := hb.out.size; simp; try omega)))
  have hs2 := hbk.size
  clear hb hbk O1 OR
  have hb := hb'; clear hb'
  have O1 := O1'; clear O1'
  have OR := OR'; clear OR'
  have OB := Lib.hid hO; clear hO
  have yR := OR.out.lt; have fR := OR.out.frozen; have qR := OR.out.cell
  have sb := hb.out.size
  go_wp2
  have hF := (OR.out.set 0 (.slice (some ⟨g, 0, none⟩) ((l + 7) / 8) ((l + 7) / 8))).set 1 (.int .i64 (l : Nat))
  have q0 := hF.cell 0
  have q1 := hF.cell 1
  simp only [List.set_cons_zero, List.set_cons_succ, List.getElem?_cons_zero, List.getElem?_cons_succ] at q0 q1
  exact bodyPost_ret (v := .tuple #[.agg #[.slice (some ⟨g, 0, none⟩) ((l + 7) / 8) ((l + 7) / 8), .int .i64 (l : Nat)], .int .i64 0]) (by simp [results, Try.results33, go_sem, q0, q1]) rfl
    ⟨g, rfl, by omega, (OB.out.far (by intro e; simp at e; try omega) _).far (by intro e; simp at e; try omega) _, (hb.out.setCell (by simp; try omega) _).setCell (by simp; try omega) _⟩
set_option maxRecDepth 100000 in
set_option maxHeartbeats 4000000 in
theorem knot_ref_arg (A : Option Addr) (n c L : Nat)  (f : Nat → Bool) (w : World) (hr : Rd w A (cellsF f n)) (hs : RS L n f) (hn : n ≤ 1000) :
    Calls Try.prog 35 #[.agg #[.slice A n c, .int .i64 L], .int .u64 18446744073709551615] w (BadS w 2) := by
  have HB1 := Lib.hid hr; have R1 := Lib.hid hs
  obtain ⟨X1, hX1⟩ : ∃ X, X = txtF f L := ⟨_, rfl⟩
  have hz1 : X1.size = L := by rw [hX1]; exact txtF_size _ _
  have HX1 := Lib.hid hX1
  clear hr hs hX1
  have hb := Lib.hid (Below.refl w.heap.size w)
  go_enter Try.func35, Try.ntmps35
  go_wp2_with fail
  refine (text_good A n c L f X1 _ ((HB1.out.alloc _).alloc _) R1.out hn HX1.out).mono ?_
  rintro e w1 ⟨rfl, hbk⟩
  have O1' := Lib.hid (Own.below' ((Own.new' (g := w.heap.size) (t := 24) (vs := [.slice A n c, .int .i64 (L : Nat)]) (w := w) rfl).alloc (.cells #[.slice none 0 0, .int .i64 0] 24)) hbk)
  have OR' := Lib.hid (Own.below' (Own.new' (g := w.heap.size + 1) (t := 24) (vs := [.slice none 0 0, .int .i64 0]) (w := w.alloc (.cells #[.slice A n c, .int .i64 (L : Nat)] 24)) (by simp)) hbk)
  have hb' := Lib.hid (((hb.out.alloc (by have := hb.out.size; simp; try omega) _).alloc (by have := hb.out.size; simp; try omega) _).trans (hbk.mono (by have := hb.out.size; simp; try omega)))
  have hs1 := hbk.size
  simp only [World.size_alloc] at hs1
  clear hb hbk 
  have hb := hb'; clear hb'
  have O1 := O1'; clear O1'
  have OR := OR'; clear OR'
  have yR := OR.out.lt; have fR := OR.out.frozen; have qR := OR.out.cell
  go_wp2
  have hF := (OR.out.set 0 (.slice none 0 0)).set 1 (.int .i64 0)
  have q0 := hF.cell 0
  have q1 := hF.cell 1
  simp only [List.set_cons_zero, List.set_cons_succ, List.getElem?_cons_zero, List.getElem?_cons_succ] at q0 q1
  exact bodyPost_ret (v := .tuple #[.agg #[.slice none 0 0, .int .i64 0], .int .i64 2]) (by simp [results, Try.results35, go_sem, q0, q1]) rfl ⟨rfl, (hb.out.setCell (by simp; try omega) _).setCell (by simp; try omega) _⟩
set_option maxRecDepth 100000 in
set_option maxHeartbeats 4000000 in
theorem knot_ref_good (A : Option Addr) (n c L : Nat) (m M : Nat) (f : Nat → Bool) (w : World) (hr : Rd w A (cellsF f n)) (hs : RS L n f) (hn : n ≤ 1000) (hm : m < 18446744073709551615) (hM : L + knotL m = M) (hM4 : M ≤ 4194304) :
    Calls Try.prog 35 #[.agg #[.slice A n c, .int .i64 L], .int .u64 m] w (GoodS w M (putF f (L + digits m - 1) (m + 1) (digits m))) := by
  have HB1 := Lib.hid hr; have R1 := Lib.hid hs
  obtain ⟨X1, hX1⟩ : ∃ X, X = txtF f L := ⟨_, rfl⟩
  have hz1 : X1.size = L := by rw [hX1]; exact txtF_size _ _
  have HX1 := Lib.hid hX1
  have hj := txt_knot hs hm (by omega)
  rw [hM] at hj
  obtain ⟨X2, hX2⟩ : ∃ X, X = txtF (knotF m) (knotL m) := ⟨_, rfl⟩
  rw [← hX1, ← hX2] at hj
  obtain ⟨K, hK⟩ : ∃ K, K = knotL m := ⟨_, rfl⟩
  have hz2 : X2.size = K := by rw [hX2, hK]; exact txtF_size _ _
  have HX2 := Lib.hid hX2; have HX := Lib.hid hj.1; have HC := Lib.hid hj.2; have Hm := Lib.hid hm
  have hlim : ¬ 9223372036854775807 < L + K := by omega
  have hne : ((m : Int) == 18446744073709551615) = false := by rw [beq_eq_false_iff_ne]; omega
  clear hr hs hj hX1 hX2 hM hK hm
  have hb := Lib.hid (Below.refl w.heap.size w)
  go_enter Try.func35, Try.ntmps35
  go_wp2_with fail
  refine (text_good A n c L f X1 _ ((HB1.out.alloc _).alloc _) R1.out hn HX1.out).mono ?_
  rintro e w1 ⟨rfl, hbk⟩
  have O1' := Lib.hid (Own.below' ((Own.new' (g := w.heap.size) (t := 24) (vs := [.slice A n c, .int .i64 (L : Nat)]) (w := w) rfl).alloc (.cells #[.slice none 0 0, .int .i64 0] 24)) hbk)
  have OR' := Lib.hid (Own.below' (Own.new' (g := w.heap.size + 1) (t := 24) (vs := [.slice none 0 0, .int .i64 0]) (w := w.alloc (.cells #[.slice A n c, .int .i64 (L : Nat)] 24)) (by simp)) hbk)
  have hb' := Lib.hid (((hb.out.alloc (by have := hb.out.size; simp; try omega) _).alloc (by have := hb.out.size; simp; try omega) _).trans (hbk.mono (by have := hb.out.size; simp; try omega)))
  have hs1 := hbk.size
  simp only [World.size_alloc] at hs1
  clear hb hbk 
  have hb := hb'; clear hb'
  have O1 := O1'; clear O1'
  have OR := OR'; clear OR'
  go_wp2_with fail
  refine (tied_ref m X2 _ Hm.out HX2.out).mono ?_
  rintro e w2 ⟨rfl, hbk⟩
  have O1' := Lib.hid (O1.out.below' hbk)
  have OR' := Lib.hid (OR.out.below' hbk)
  have hb' := Lib.hid (hb.out.trans (hbk.mono (by have := hb.out.size; simp; try omega)))
  have hs2 := hbk.size
  clear hb hbk O1 OR
  have hb := hb'; clear hb'
  have O1 := O1'; clear O1'
  have OR := OR'; clear OR'
  go_wp2_with fail
  refine (of_good (putF f (L + digits m - 1) (m + 1) (digits m)) M (X1 ++ X2) _ HX.out hM4).mono ?_
  rintro e w3 ⟨g, rfl, hg, hO, hbk⟩
  rw [HC.out] at hO
  have O1' := Lib.hid (O1.out.below' hbk)
  have OR' := Lib.hid (OR.out.below' hbk)
  have hb' := Lib.hid (hb.out.trans (hbk.mono (by have := hb.out.size; simp; try omega)))
  have hs3 := hbk.size
  clear hb hbk O1 OR
  have hb := hb'; clear hb'
  have O1 := O1'; clear O1'
  have OR := OR'; clear OR'
  have OB := Lib.hid hO; clear hO
  have yR := OR.out.lt; have fR := OR.out.frozen; have qR := OR.out.cell
  have sb := hb.out.size
  go_wp2
  have hF := (OR.out.set 0 (.slice (some ⟨g, 0, none⟩) ((M + 7) / 8) ((M + 7) / 8))).set 1 (.int .i64 (M : Nat))
  have q0 := hF.cell 0
  have q1 := hF.cell 1
  simp only [List.set_cons_zero, List.set_cons_succ, List.getElem?_cons_zero, List.getElem?_cons_succ] at q0 q1
  exact bodyPost_ret (v := .tuple #[.agg #[.slice (some ⟨g, 0, none⟩) ((M + 7) / 8) ((M + 7) / 8), .int .i64 (M : Nat)], .int .i64 0]) (by simp [results, Try.results35, go_sem, q0, q1]) rfl
    ⟨g, rfl, by omega, (OB.out.far (by intro e; simp at e; try omega) _).far (by intro e; simp at e; try omega) _, (hb.out.setCell (by simp; try omega) _).setCell (by simp; try omega) _⟩
set_option maxRecDepth 100000 in
set_option maxHeartbeats 4000000 in
theorem field_ref_arg (A : Option Addr) (n c L : Nat) (wd : Int) (m : Nat) (f : Nat → Bool) (w : World) (hr : Rd w A (cellsF f n)) (hs : RS L n f) (hn : n ≤ 1000) (hm : m < 18446744073709551616) (h : fieldB m wd = false) :
    Calls Try.prog 34 #[.agg #[.slice A n c, .int .i64 L], .int .u64 m, .int .i64 wd] w (BadS w 2) := by
  have HB1 := Lib.hid hr; have R1 := Lib.hid hs
  obtain ⟨X1, hX1⟩ : ∃ X, X = txtF f L := ⟨_, rfl⟩
  have hz1 : X1.size = L := by rw [hX1]; exact txtF_size _ _
  have HX1 := Lib.hid hX1
  obtain ⟨d, hd⟩ : ∃ d, d = Lib.bitLen m := ⟨_, rfl⟩
  have hsp := bitLen_spec m hm
  rw [← hd] at hsp
  obtain ⟨X2, hX2⟩ : ∃ X, X = txtF (digF m d) d := ⟨_, rfl⟩
  have hz2 : X2.size = d := by rw [hX2]; exact txtF_size _ _
  have HX2 := Lib.hid hX2; have Hm := Lib.hid hm
  have hd := Lib.hid (show manyD m 0 = d by unfold manyD; omega)
  clear hX2
  have hnb : ¬ (0 ≤ wd ∧ wd ≤ 64 ∧ m < 2 ^ wd.toNat) := fun hh => by rw [fieldB_iff.2 hh] at h; cases h
  clear hr hs hX1 hm h
  by_cases c1 : wd < 0
  · have d1 : decide (wd < 0) = true := by rw [decide_eq_true_eq]; omega
    clear hnb hsp
    have hb := Lib.hid (Below.refl w.heap.size w)
    go_enter Try.func34, Try.ntmps34
    go_wp2_with fail
    refine (text_good A n c L f X1 _ ((HB1.out.alloc _).alloc _) R1.out hn HX1.out).mono ?_
    rintro e w1 ⟨rfl, hbk⟩
    have O1' := Lib.hid (Own.below' ((Own.new' (g := w.heap.size) (t := 24) (vs := [.slice A n c, .int .i64 (L : Nat)]) (w := w) rfl).alloc (.cells #[.slice none 0 0, .int .i64 0] 24)) hbk)
    have OR' := Lib.hid (Own.below' (Own.new' (g := w.heap.size + 1) (t := 24) (vs := [.slice none 0 0, .int .i64 0]) (w := w.alloc (.cells #[.slice A n c, .int .i64 (L : Nat)] 24)) (by simp)) hbk)
    have hb' := Lib.hid (((hb.out.alloc (by have := hb.out.size; simp; try omega) _).alloc (by have := hb.out.size; simp; try omega) _).trans (hbk.mono (by have := hb.out.size; simp; try omega)))
    have hs1 := hbk.size
    simp only [World.size_alloc] at hs1
    clear hb hbk 
    have hb := hb'; clear hb'
    have O1 := O1'; clear O1'
    have OR := OR'; clear OR'
    have yR := OR.out.lt; have fR := OR.out.frozen; have qR := OR.out.cell
    go_wp2
    have hF := (OR.out.set 0 (.slice none 0 0)).set 1 (.int .i64 0)
    have q0 := hF.cell 0
    have q1 := hF.cell 1
    simp only [List.set_cons_zero, List.set_cons_succ, List.getElem?_cons_zero, List.getElem?_cons_succ] at q0 q1
    exact bodyPost_ret (v := .tuple #[.agg #[.slice none 0 0, .int .i64 0], .int .i64 2]) (by simp [results, Try.results34, go_sem, q0, q1]) rfl ⟨rfl, (hb.out.setCell (by simp; try omega) _).setCell (by simp; try omega) _⟩
  · have d1 : decide (wd < 0) = false := by rw [decide_eq_false_iff_not]; omega
    by_cases c2 : 64 < wd
    · have d2 : decide (64 < wd) = true := by rw [decide_eq_true_eq]; omega
      clear hnb hsp
      have hb := Lib.hid (Below.refl w.heap.size w)
      go_enter Try.func34, Try.ntmps34
      go_wp2_with fail
      refine (text_good A n c L f X1 _ ((HB1.out.alloc _).alloc _) R1.out hn HX1.out).mono ?_
      rintro e w1 ⟨rfl, hbk⟩
      have O1' := Lib.hid (Own.below' ((Own.new' (g := w.heap.size) (t := 24) (vs := [.slice A n c, .int .i64 (L : Nat)]) (w := w) rfl).alloc (.cells #[.slice none 0 0, .int .i64 0] 24)) hbk)
      have OR' := Lib.hid (Own.below' (Own.new' (g := w.heap.size + 1) (t := 24) (vs := [.slice none 0 0, .int .i64 0]) (w := w.alloc (.cells #[.slice A n c, .int .i64 (L : Nat)] 24)) (by simp)) hbk)
      have hb' := Lib.hid (((hb.out.alloc (by have := hb.out.size; simp; try omega) _).alloc (by have := hb.out.size; simp; try omega) _).trans (hbk.mono (by have := hb.out.size; simp; try omega)))
      have hs1 := hbk.size
      simp only [World.size_alloc] at hs1
      clear hb hbk 
      have hb := hb'; clear hb'
      have O1 := O1'; clear O1'
      have OR := OR'; clear OR'
      have yR := OR.out.lt; have fR := OR.out.frozen; have qR := OR.out.cell
      go_wp2
      have hF := (OR.out.set 0 (.slice none 0 0)).set 1 (.int .i64 0)
      have q0 := hF.cell 0
      have q1 := hF.cell 1
      simp only [List.set_cons_zero, List.set_cons_succ, List.getElem?_cons_zero, List.getElem?_cons_succ] at q0 q1
      exact bodyPost_ret (v := .tuple #[.agg #[.slice none 0 0, .int .i64 0], .int .i64 2]) (by simp [results, Try.results34, go_sem, q0, q1]) rfl ⟨rfl, (hb.out.setCell (by simp; try omega) _).setCell (by simp; try omega) _⟩
    · have d2 : decide (64 < wd) = false := by rw [decide_eq_false_iff_not]; omega
      have hdw : wd < (d : Int) := by
        by_cases q : wd < (d : Int)
        · exact q
        · exfalso
          refine hnb ⟨by omega, by omega, Nat.lt_of_lt_of_le hsp.1 (Nat.pow_le_pow_right (by decide) (by omega))⟩
      have d3 : decide (wd < (d : Int)) = true := by rw [decide_eq_true_eq]; exact hdw
      clear hnb hsp
      have hb := Lib.hid (Below.refl w.heap.size w)
      go_enter Try.func34, Try.ntmps34
      go_wp2_with fail
      refine (text_good A n c L f X1 _ ((HB1.out.alloc _).alloc _) R1.out hn HX1.out).mono ?_
      rintro e w1 ⟨rfl, hbk⟩
      have O1' := Lib.hid (Own.below' ((Own.new' (g := w.heap.size) (t := 24) (vs := [.slice A n c, .int .i64 (L : Nat)]) (w := w) rfl).alloc (.cells #[.slice none 0 0, .int .i64 0] 24)) hbk)
      have OR' := Lib.hid (Own.below' (Own.new' (g := w.heap.size + 1) (t := 24) (vs := [.slice none 0 0, .int .i64 0]) (w := w.alloc (.cells #[.slice A n c, .int .i64 (L : Nat)] 24)) (by simp)) hbk)
      have hb' := Lib.hid (((hb.out.alloc (by have := hb.out.size; simp; try omega) _).alloc (by have := hb.out.size; simp; try omega) _).trans (hbk.mono (by have := hb.out.size; simp; try omega)))
      have hs1 := hbk.size
      simp only [World.size_alloc] at hs1
      clear hb hbk 
      have hb := hb'; clear hb'
      have O1 := O1'; clear O1'
      have OR := OR'; clear OR'
      go_wp2_with fail
      refine (digits_at m 0 d X2 _ Hm.out (by omega) hd.out HX2.out).mono ?_
      rintro e w2 ⟨rfl, hbk⟩
      have O1' := Lib.hid (O1.out.below' hbk)
      have OR' := Lib.hid (OR.out.below' hbk)
      have hb' := Lib.hid (hb.out.trans (hbk.mono (by have := hb.out.size; simp; try omega)))
      have hs2 := hbk.size
      clear hb hbk O1 OR
      have hb := hb'; clear hb'
      have O1 := O1'; clear O1'
      have OR := OR'; clear OR'
      have yR := OR.out.lt; have fR := OR.out.frozen; have qR := OR.out.cell
      go_wp2
      have hF := (OR.out.set 0 (.slice none 0 0)).set 1 (.int .i64 0)
      have q0 := hF.cell 0
      have q1 := hF.cell 1
      simp only [List.set_cons_zero, List.set_cons_succ, List.getElem?_cons_zero, List.getElem?_cons_succ] at q0 q1
      exact bodyPost_ret (v := .tuple #[.agg #[.slice none 0 0, .int .i64 0], .int .i64 2]) (by simp [results, Try.results34, go_sem, q0, q1]) rfl ⟨rfl, (hb.out.setCell (by simp; try omega) _).setCell (by simp; try omega) _⟩
set_option maxRecDepth 100000 in
set_option maxHeartbeats 4000000 in
theorem field_ref_good (A : Option Addr) (n c L : Nat) (wd M : Nat) (m : Nat) (f : Nat → Bool) (w : World) (hr : Rd w A (cellsF f n)) (hs : RS L n f) (hn : n ≤ 1000) (hwd : wd ≤ 64) (hm : m < 2 ^ wd) (hM : L + wd = M) (hM4 : M ≤ 4194304) :
    Calls Try.prog 34 #[.agg #[.slice A n c, .int .i64 L], .int .u64 m, .int .i64 wd] w (GoodS w M (putF f L m wd)) := by
  have hm2 : m < 18446744073709551616 := Nat.lt_of_lt_of_le hm (Nat.pow_le_pow_right (n := 2) (by decide) hwd)
  have hmw := hm
  have hm := hm2
  have HB1 := Lib.hid hr; have R1 := Lib.hid hs
  obtain ⟨X1, hX1⟩ : ∃ X, X = txtF f L := ⟨_, rfl⟩
  have hz1 : X1.size = L := by rw [hX1]; exact txtF_size _ _
  have HX1 := Lib.hid hX1
  obtain ⟨d, hd⟩ : ∃ d, d = Lib.bitLen m := ⟨_, rfl⟩
  have hsp := bitLen_spec m hm
  rw [← hd] at hsp
  obtain ⟨X2, hX2⟩ : ∃ X, X = txtF (digF m d) d := ⟨_, rfl⟩
  have hz2 : X2.size = d := by rw [hX2]; exact txtF_size _ _
  have HX2 := Lib.hid hX2; have Hm := Lib.hid hm
  have hd := Lib.hid (show manyD m 0 = d by unfold manyD; omega)
  clear hX2
  have hdw : d ≤ wd := by
    rcases Nat.lt_or_ge wd d with q | q
    · exfalso
      have h0 : m ≠ 0 := fun h0 => by subst h0; have : d = 0 := by have := hd.out; unfold manyD at this; have h1 : Lib.bitLen 0 = 0 := rfl; omega
                                      omega
      have h1 := (hsp.2.1 h0).2
      have h2 := Nat.pow_le_pow_right (n := 2) (by decide) (show wd ≤ d - 1 by omega)
      omega
    · exact q
  have hd3 := Lib.hid (show manyD m wd = wd by have h := hd.out; unfold manyD at h ⊢; omega)
  obtain ⟨X3, hX3⟩ : ∃ X, X = txtF (digF m wd) wd := ⟨_, rfl⟩
  have hz3 : X3.size = wd := by rw [hX3]; exact txtF_size _ _
  have hj := txt_field (N := m) hs (wd := wd) (by omega)
  rw [hM, ← hX1, ← hX3] at hj
  have HX3 := Lib.hid hX3; have HX := Lib.hid hj.1; have HC := Lib.hid hj.2
  have hlim : ¬ 9223372036854775807 < L + wd := by omega
  have d1 : decide ((wd : Int) < 0) = false := by rw [decide_eq_false_iff_not]; omega
  have d2 : decide (64 < (wd : Int)) = false := by rw [decide_eq_false_iff_not]; omega
  have d2n : decide (64 < wd) = false := by rw [decide_eq_false_iff_not]; omega
  have d3 : decide (wd < d) = false := by rw [decide_eq_false_iff_not]; omega
  clear hr hs hj hX1 hX3 hM hm hmw hm2 hsp
  have hb := Lib.hid (Below.refl w.heap.size w)
  go_enter Try.func34, Try.ntmps34
  go_wp2_with fail
  refine (text_good A n c L f X1 _ ((HB1.out.alloc _).alloc _) R1.out hn HX1.out).mono ?_
  rintro e w1 ⟨rfl, hbk⟩
  have O1' := Lib.hid (Own.below' ((Own.new' (g := w.heap.size) (t := 24) (vs := [.slice A n c, .int .i64 (L : Nat)]) (w := w) rfl).alloc (.cells #[.slice none 0 0, .int .i64 0] 24)) hbk)
  have OR' := Lib.hid (Own.below' (Own.new' (g := w.heap.size + 1) (t := 24) (vs := [.slice none 0 0, .int .i64 0]) (w := w.alloc (.cells #[.slice A n c, .int .i64 (L : Nat)] 24)) (by simp)) hbk)
  have hb' := Lib.hid (((hb.out.alloc (by have := hb.out.size; simp; try omega) _).alloc (by have := hb.out.size; simp; try omega) _).trans (hbk.mono (by have := hb.out.size; simp; try omega)))
  have hs1 := hbk.size
  simp only [World.size_alloc] at hs1
  clear hb hbk 
  have hb := hb'; clear hb'
  have O1 := O1'; clear O1'
  have OR := OR'; clear OR'
  go_wp2_with fail
  refine (digits_at m 0 d X2 _ Hm.out (by omega) hd.out HX2.out).mono ?_
  rintro e w2 ⟨rfl, hbk⟩
  have O1' := Lib.hid (O1.out.below' hbk)
  have OR' := Lib.hid (OR.out.below' hbk)
  have hb' := Lib.hid (hb.out.trans (hbk.mono (by have := hb.out.size; simp; try omega)))
  have hs2 := hbk.size
  clear hb hbk O1 OR
  have hb := hb'; clear hb'
  have O1 := O1'; clear O1'
  have OR := OR'; clear OR'
  go_wp2_with fail
  refine (digits_at m wd wd X3 _ Hm.out hwd hd3.out HX3.out).mono ?_
  rintro e w3 ⟨rfl, hbk⟩
  have O1' := Lib.hid (O1.out.below' hbk)
  have OR' := Lib.hid (OR.out.below' hbk)
  have hb' := Lib.hid (hb.out.trans (hbk.mono (by have := hb.out.size; simp; try omega)))
  have hs3 := hbk.size
  clear hb hbk O1 OR
  have hb := hb'; clear hb'
  have O1 := O1'; clear O1'
  have OR := OR'; clear OR'
  go_wp2_with fail
  refine (of_good (putF f L m wd) M (X1 ++ X3) _ HX.out hM4).mono ?_
  rintro e w4 ⟨g, rfl, hg, hO, hbk⟩
  rw [HC.out] at hO
  have O1' := Lib.hid (O1.out.below' hbk)
  have OR' := Lib.hid (OR.out.below' hbk)
  have hb' := Lib.hid (hb.out.trans (hbk.mono (by have := hb.out.size; simp; try omega)))
  have hs4 := hbk.size
  clear hb hbk O1 OR
  have hb := hb'; clear hb'
  have O1 := O1'; clear O1'
  have OR := OR'; clear OR'
  have OB := Lib.hid hO; clear hO
  have yR := OR.out.lt; have fR := OR.out.frozen; have qR := OR.out.cell
  have sb := hb.out.size
  go_wp2
  have hF := (OR.out.set 0 (.slice (some ⟨g, 0, none⟩) ((M + 7) / 8) ((M + 7) / 8))).set 1 (.int .i64 (M : Nat))
  have q0 := hF.cell 0
  have q1 := hF.cell 1
  simp only [List.set_cons_zero, List.set_cons_succ, List.getElem?_cons_zero, List.getElem?_cons_succ] at q0 q1
  exact bodyPost_ret (v := .tuple #[.agg #[.slice (some ⟨g, 0, none⟩) ((M + 7) / 8) ((M + 7) / 8), .int .i64 (M : Nat)], .int .i64 0]) (by simp [results, Try.results34, go_sem, q0, q1]) rfl
    ⟨g, rfl, by omega, (OB.out.far (by intro e; simp at e; try omega) _).far (by intro e; simp at e; try omega) _, (hb.out.setCell (by simp; try omega) _).setCell (by simp; try omega) _⟩
end Go.Proofs.Ytnhlenagojbigaa
