/- Walks: strand.Field, GetField. -/
import Derived.Test.YtnhlenagojbigaaStrD
namespace Go.Proofs.Ytnhlenagojbigaa
open Go.RowKit

set_option maxRecDepth 100000 in
set_option maxHeartbeats 2000000 in
theorem field_bits (A : Option Addr) (n c : Nat) (L wd : Int) (m : Nat) (f : Nat → Bool) (w : World) (hr : Rd w A (cellsF f n)) (hf : ∀ i, 8 * n ≤ i → f i = false) (hn : n ≤ 140737488351232) (hL0 : -9223372036854775808 ≤ L) (hL1 : L ≤ 9223372036854775807)
   (h1 : rightB L n f = false) : Calls Try.prog 25 #[.agg #[.slice A n c, .int .i64 L], .int .u64 m, .int .i64 wd] w (BadS w 11) := by
  have HR := Lib.hid hr; have HF := Lib.hid hf
  clear hr hf
  · skip
    go_enter Try.func25, Try.ntmps25
    go_wp2_with fail
    refine (right_any A n c L f _ ((HR.out.alloc _).alloc _) HF.out hn hL0 hL1).mono ?_
    rintro e w1 ⟨rfl, hb1⟩
    have hb := Lib.hid ((((Below.refl w.heap.size w).alloc (by simp) _).alloc (by simp) _).trans (hb1.mono (by simp; omega)))
    have oA := Own.below' ((Own.new' (w := w) rfl).alloc _) hb1
    have oC := Own.below' (Own.new' (w := w.alloc _) rfl) hb1
    have hs := hb1.size
    simp only [World.size_alloc] at hs oA oC
    have qA := oA.cell; have qC := oC.cell; have fC := oC.frozen
    have OA := Lib.hid oA; have OC := Lib.hid oC
    have z0 : w.heap.size < w1.heap.size := by omega
    have z1 : w.heap.size + 1 < w1.heap.size := by omega
    have HR1 := Lib.hid (HR.out.below hb.out)
    clear hb1 oA oC
    go_wp2
    have hF := (OC.out.set 0 (.slice none 0 0)).set 1 (.int .i64 0)
    have q0 := hF.cell 0
    have q1 := hF.cell 1
    simp only [List.set_cons_zero, List.set_cons_succ, List.getElem?_cons_zero, List.getElem?_cons_succ] at q0 q1
    exact bodyPost_ret (v := .tuple #[.agg #[.slice none 0 0, .int .i64 0], .int .i64 11]) (by simp [results, Try.results25, go_sem, q0, q1]) rfl ⟨rfl, (hb.out.setCell (by simp; try omega) _).setCell (by simp; try omega) _⟩
/-- What a field's number may be. -/
def fieldB (m : Nat) (wd : Int) : Bool := decide (0 ≤ wd) && (decide (wd ≤ 64) && decide (m < 2 ^ wd.toNat))
theorem fieldB_iff {m : Nat} {wd : Int} : fieldB m wd = true ↔ 0 ≤ wd ∧ wd ≤ 64 ∧ m < 2 ^ wd.toNat := by simp [fieldB]
theorem div_pow_ne (m k : Nat) : (((m : Int) / 2 ^ k) != 0) = !decide (m < 2 ^ k) := by
  have e : (m : Int) / 2 ^ k = ((m / 2 ^ k : Nat) : Int) := by simp
  rw [e]
  by_cases h : m < 2 ^ k
  · rw [Nat.div_eq_of_lt h, decide_eq_true h]; rfl
  · have : m / 2 ^ k ≠ 0 := by rw [Ne, Nat.div_eq_zero_iff]; have := Nat.two_pow_pos k; omega
    rw [decide_eq_false h, Bool.not_false, bne_iff_ne]; omega
set_option maxRecDepth 100000 in
set_option maxHeartbeats 2000000 in
theorem field_arg (A : Option Addr) (n c L : Nat) (wd : Int) (m : Nat) (f : Nat → Bool) (w : World) (hr : Rd w A (cellsF f n)) (hs : RS L n f) (hw0 : -9223372036854775808 ≤ wd) (hw1 : wd ≤ 9223372036854775807)
   (h : fieldB m wd = false) : Calls Try.prog 25 #[.agg #[.slice A n c, .int .i64 L], .int .u64 m, .int .i64 wd] w (BadS w 2) := by
  have h1 := hs.rightB
  have hle := hs.le
  have HF := Lib.hid (show ∀ i, 8 * n ≤ i → f i = false from fun i hi => hs.zero i (by have := hs.len; omega))
  have hn : n ≤ 140737488351232 := by have := hs.len; omega
  have hL0 : -9223372036854775808 ≤ (L : Int) := by omega
  have hL1 : (L : Int) ≤ 9223372036854775807 := by omega
  have HR := Lib.hid hr; have HS := Lib.hid hs
  clear hr hs
  by_cases c1 : wd < 0
  · clear h
    go_enter Try.func25, Try.ntmps25
    go_wp2_with fail
    refine (right_any A n c L f _ ((HR.out.alloc _).alloc _) HF.out hn hL0 hL1).mono ?_
    rintro e w1 ⟨rfl, hb1⟩
    have hb := Lib.hid ((((Below.refl w.heap.size w).alloc (by simp) _).alloc (by simp) _).trans (hb1.mono (by simp; omega)))
    have oA := Own.below' ((Own.new' (w := w) rfl).alloc _) hb1
    have oC := Own.below' (Own.new' (w := w.alloc _) rfl) hb1
    have hs := hb1.size
    simp only [World.size_alloc] at hs oA oC
    have qA := oA.cell; have qC := oC.cell; have fC := oC.frozen
    have OA := Lib.hid oA; have OC := Lib.hid oC
    have z0 : w.heap.size < w1.heap.size := by omega
    have z1 : w.heap.size + 1 < w1.heap.size := by omega
    have HR1 := Lib.hid (HR.out.below hb.out)
    clear hb1 oA oC
    go_wp2
    have hF := (OC.out.set 0 (.slice none 0 0)).set 1 (.int .i64 0)
    have q0 := hF.cell 0
    have q1 := hF.cell 1
    simp only [List.set_cons_zero, List.set_cons_succ, List.getElem?_cons_zero, List.getElem?_cons_succ] at q0 q1
    exact bodyPost_ret (v := .tuple #[.agg #[.slice none 0 0, .int .i64 0], .int .i64 2]) (by simp [results, Try.results25, go_sem, q0, q1]) rfl ⟨rfl, (hb.out.setCell (by simp; try omega) _).setCell (by simp; try omega) _⟩
  by_cases c2 : 64 < wd
  · clear h
    go_enter Try.func25, Try.ntmps25
    go_wp2_with fail
    refine (right_any A n c L f _ ((HR.out.alloc _).alloc _) HF.out hn hL0 hL1).mono ?_
    rintro e w1 ⟨rfl, hb1⟩
    have hb := Lib.hid ((((Below.refl w.heap.size w).alloc (by simp) _).alloc (by simp) _).trans (hb1.mono (by simp; omega)))
    have oA := Own.below' ((Own.new' (w := w) rfl).alloc _) hb1
    have oC := Own.below' (Own.new' (w := w.alloc _) rfl) hb1
    have hs := hb1.size
    simp only [World.size_alloc] at hs oA oC
    have qA := oA.cell; have qC := oC.cell; have fC := oC.frozen
    have OA := Lib.hid oA; have OC := Lib.hid oC
    have z0 : w.heap.size < w1.heap.size := by omega
    have z1 : w.heap.size + 1 < w1.heap.size := by omega
    have HR1 := Lib.hid (HR.out.below hb.out)
    clear hb1 oA oC
    go_wp2
    have hF := (OC.out.set 0 (.slice none 0 0)).set 1 (.int .i64 0)
    have q0 := hF.cell 0
    have q1 := hF.cell 1
    simp only [List.set_cons_zero, List.set_cons_succ, List.getElem?_cons_zero, List.getElem?_cons_succ] at q0 q1
    exact bodyPost_ret (v := .tuple #[.agg #[.slice none 0 0, .int .i64 0], .int .i64 2]) (by simp [results, Try.results25, go_sem, q0, q1]) rfl ⟨rfl, (hb.out.setCell (by simp; try omega) _).setCell (by simp; try omega) _⟩
  · obtain ⟨d, rfl⟩ := Int.eq_ofNat_of_zero_le (show 0 ≤ wd by omega)
    have c3 : (((m : Int) / 2 ^ d) != 0) = true := by
      rw [div_pow_ne]
      have : ¬ m < 2 ^ d := fun hlt => by rw [fieldB_iff.2 ⟨by omega, by omega, by simpa using hlt⟩] at h; cases h
      simp [this]
    have c2' : d ≤ 64 := by omega
    clear h
    go_enter Try.func25, Try.ntmps25
    go_wp2_with fail
    refine (right_any A n c L f _ ((HR.out.alloc _).alloc _) HF.out hn hL0 hL1).mono ?_
    rintro e w1 ⟨rfl, hb1⟩
    have hb := Lib.hid ((((Below.refl w.heap.size w).alloc (by simp) _).alloc (by simp) _).trans (hb1.mono (by simp; omega)))
    have oA := Own.below' ((Own.new' (w := w) rfl).alloc _) hb1
    have oC := Own.below' (Own.new' (w := w.alloc _) rfl) hb1
    have hs := hb1.size
    simp only [World.size_alloc] at hs oA oC
    have qA := oA.cell; have qC := oC.cell; have fC := oC.frozen
    have OA := Lib.hid oA; have OC := Lib.hid oC
    have z0 : w.heap.size < w1.heap.size := by omega
    have z1 : w.heap.size + 1 < w1.heap.size := by omega
    have HR1 := Lib.hid (HR.out.below hb.out)
    clear hb1 oA oC
    go_wp2
    have hF := (OC.out.set 0 (.slice none 0 0)).set 1 (.int .i64 0)
    have q0 := hF.cell 0
    have q1 := hF.cell 1
    simp only [List.set_cons_zero, List.set_cons_succ, List.getElem?_cons_zero, List.getElem?_cons_succ] at q0 q1
    exact bodyPost_ret (v := .tuple #[.agg #[.slice none 0 0, .int .i64 0], .int .i64 2]) (by simp [results, Try.results25, go_sem, q0, q1]) rfl ⟨rfl, (hb.out.setCell (by simp; try omega) _).setCell (by simp; try omega) _⟩
set_option maxRecDepth 100000 in
set_option maxHeartbeats 2000000 in
theorem field_long (A : Option Addr) (n c L : Nat) (wd : Nat) (m : Nat) (f : Nat → Bool) (w : World) (hr : Rd w A (cellsF f n)) (hs : RS L n f) (hw : wd ≤ 64) (hm : m < 2 ^ wd)
   (h : 4194304 < L + wd) : Calls Try.prog 25 #[.agg #[.slice A n c, .int .i64 L], .int .u64 m, .int .i64 wd] w (BadS w 3) := by
  have h1 := hs.rightB
  have hle := hs.le
  have HF := Lib.hid (show ∀ i, 8 * n ≤ i → f i = false from fun i hi => hs.zero i (by have := hs.len; omega))
  have hn : n ≤ 140737488351232 := by have := hs.len; omega
  have hL0 : -9223372036854775808 ≤ (L : Int) := by omega
  have hL1 : (L : Int) ≤ 9223372036854775807 := by omega
  have HR := Lib.hid hr; have HS := Lib.hid hs
  clear hr hs
  have c3 : (((m : Int) / 2 ^ wd) != 0) = false := by rw [div_pow_ne]; simp [hm]
  clear hm
  · skip
    go_enter Try.func25, Try.ntmps25
    go_wp2_with fail
    refine (right_any A n c L f _ ((HR.out.alloc _).alloc _) HF.out hn hL0 hL1).mono ?_
    rintro e w1 ⟨rfl, hb1⟩
    have hb := Lib.hid ((((Below.refl w.heap.size w).alloc (by simp) _).alloc (by simp) _).trans (hb1.mono (by simp; omega)))
    have oA := Own.below' ((Own.new' (w := w) rfl).alloc _) hb1
    have oC := Own.below' (Own.new' (w := w.alloc _) rfl) hb1
    have hs := hb1.size
    simp only [World.size_alloc] at hs oA oC
    have qA := oA.cell; have qC := oC.cell; have fC := oC.frozen
    have OA := Lib.hid oA; have OC := Lib.hid oC
    have z0 : w.heap.size < w1.heap.size := by omega
    have z1 : w.heap.size + 1 < w1.heap.size := by omega
    have HR1 := Lib.hid (HR.out.below hb.out)
    clear hb1 oA oC
    go_wp2
    have hF := (OC.out.set 0 (.slice none 0 0)).set 1 (.int .i64 0)
    have q0 := hF.cell 0
    have q1 := hF.cell 1
    simp only [List.set_cons_zero, List.set_cons_succ, List.getElem?_cons_zero, List.getElem?_cons_succ] at q0 q1
    exact bodyPost_ret (v := .tuple #[.agg #[.slice none 0 0, .int .i64 0], .int .i64 3]) (by simp [results, Try.results25, go_sem, q0, q1]) rfl ⟨rfl, (hb.out.setCell (by simp; try omega) _).setCell (by simp; try omega) _⟩
set_option maxRecDepth 100000 in
set_option maxHeartbeats 4000000 in
theorem field_good (A : Option Addr) (n c L : Nat) (wd : Nat) (m : Nat) (f : Nat → Bool) (w : World) (hr : Rd w A (cellsF f n)) (hs : RS L n f) (hw : wd ≤ 64) (hm : m < 2 ^ wd)
   (h : L + wd ≤ 4194304) : Calls Try.prog 25 #[.agg #[.slice A n c, .int .i64 L], .int .u64 m, .int .i64 wd] w (GoodS w (L + wd) (putF f L m wd)) := by
  have h1 := hs.rightB
  have hle := hs.le
  have HF := Lib.hid (show ∀ i, 8 * n ≤ i → f i = false from fun i hi => hs.zero i (by have := hs.len; omega))
  have hn : n ≤ 140737488351232 := by have := hs.len; omega
  have hL0 : -9223372036854775808 ≤ (L : Int) := by omega
  have hL1 : (L : Int) ≤ 9223372036854775807 := by omega
  have HR := Lib.hid hr; have HS := Lib.hid hs
  clear hr hs
  have c3 : (((m : Int) / 2 ^ wd) != 0) = false := by rw [div_pow_ne]; simp [hm]
  have hm64 := Lib.hid (show m < 18446744073709551616 by have := Nat.pow_le_pow_right (n := 2) (by omega) hw; omega)
  clear hm
  · skip
    go_enter Try.func25, Try.ntmps25
    go_wp2_with fail
    refine (right_any A n c L f _ ((HR.out.alloc _).alloc _) HF.out hn hL0 hL1).mono ?_
    rintro e w1 ⟨rfl, hb1⟩
    have hb := Lib.hid ((((Below.refl w.heap.size w).alloc (by simp) _).alloc (by simp) _).trans (hb1.mono (by simp; omega)))
    have oA := Own.below' ((Own.new' (w := w) rfl).alloc _) hb1
    have oC := Own.below' (Own.new' (w := w.alloc _) rfl) hb1
    have hs := hb1.size
    simp only [World.size_alloc] at hs oA oC
    have qA := oA.cell; have qC := oC.cell; have fC := oC.frozen
    have OA := Lib.hid oA; have OC := Lib.hid oC
    have z0 : w.heap.size < w1.heap.size := by omega
    have z1 : w.heap.size + 1 < w1.heap.size := by omega
    have HR1 := Lib.hid (HR.out.below hb.out)
    clear hb1 oA oC
    go_wp2_with fail
    refine (grown_any A n c L wd f _ HR1.out HF.out hle (by omega) (by have := HS.out.len; omega)).mono ?_
    rintro e w2 ⟨g, rfl, hg, hO, hb2⟩
    obtain ⟨k, hk⟩ : ∃ k, k = (L + wd + 7) / 8 := ⟨_, rfl⟩
    rw [← hk] at hO ⊢
    have HK := Lib.hid hk
    have hB2 := Lib.hid (below_chain hb.out hb2)
    have oA := OA.out.below' hb2; have oC := OC.out.below' hb2
    have hs2 := hb2.size
    have hgl := hO.lt
    have z0' : w.heap.size < w2.heap.size := by omega
    have z1' : w.heap.size + 1 < w2.heap.size := by omega
    clear qA qC fC hk hb2
    have qA := oA.cell
    have OC2 := Lib.hid oC; have HO := Lib.hid hO
    clear oA oC hO OA OC hb
    go_wp2_with fail
    refine (put_any g k _ f L m wd _ (HO.out.alloc _) (by have := HK.out; omega) hw (by have := HK.out; omega) hm64.out).mono ?_
    rintro e w3 ⟨rfl, hO3, hG3⟩
    have oS := Own.grown (Own.new' (w := w2) rfl) hG3 (by intro e; injection e with e; omega)
    have oC := (OC2.out.alloc _).grown hG3 (by intro e; injection e with e; omega)
    have hB3 := Lib.hid ((hB2.out.alloc hB2.out.size _).trans (grown_below hG3 (B := w.heap.size) (by omega) (by simp; omega)))
    have hs3 := hG3.size
    simp only [World.size_alloc] at hs3 oC
    have HO3 := Lib.hid hO3
    clear qA hG3 hO3
    have qS := oS.cell; have qC := oC.cell; have fC := oC.frozen
    have OC3 := Lib.hid oC
    clear oS oC
    go_wp2
    have hF := (OC3.out.set 0 (.slice (some ⟨g, 0, none⟩) k k)).set 1 (.int .i64 ((L : Int) + wd))
    have q0 := hF.cell 0
    have q1 := hF.cell 1
    simp only [List.set_cons_zero, List.set_cons_succ, List.getElem?_cons_zero, List.getElem?_cons_succ] at q0 q1
    refine bodyPost_ret (v := .tuple #[.agg #[.slice (some ⟨g, 0, none⟩) k k, .int .i64 ((L : Int) + wd)], .int .i64 0]) (by simp [results, Try.results25, go_sem, q0, q1]) rfl ⟨g, ?_, by omega, ?_, ?_⟩
    · rw [← HK.out, Int.natCast_add]
    · rw [← HK.out]
      exact (HO3.out.far (by simp; omega) _).far (by simp; omega) _
    · exact (hB3.out.setCell (by simp) _).setCell (by simp) _
end Go.Proofs.Ytnhlenagojbigaa
