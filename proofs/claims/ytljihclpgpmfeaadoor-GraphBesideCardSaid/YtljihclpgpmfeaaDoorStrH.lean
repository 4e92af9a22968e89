/- Walk: strand.Knot. -/
import Derived.Test.YtljihclpgpmfeaaDoorStrD
import Derived.Test.YtljihclpgpmfeaaDoorShelfBits
namespace Go.Proofs.YtljihclpgpmfeaaDoor
set_option maxRecDepth 100000
open Go.RowKit

theorem bitLen_spec : ∀ x : Nat, x < 18446744073709551616 → x < 2 ^ Lib.bitLen x ∧ (x ≠ 0 → 1 ≤ Lib.bitLen x ∧ 2 ^ (Lib.bitLen x - 1) ≤ x) ∧ Lib.bitLen x ≤ 64 := by
  intro x
  induction x using Nat.strongRecOn with
  | _ x ih =>
    intro hx
    by_cases h0 : x = 0
    · subst h0
      have : Lib.bitLen 0 = 0 := by decide
      rw [this]; simp
    · have h := Lib.bitLen_half x h0 hx
      obtain ⟨i1, i2, i3⟩ := ih (x / 2) (by omega) (by omega)
      rw [h]
      generalize hb' : Lib.bitLen (x / 2) = b at i1 i2 i3
      have hz : x / 2 = 0 → b = 0 := fun e => by
        rw [e] at hb'
        rw [← hb']
        decide
      have hb : b ≤ 63 := by
        rcases Nat.lt_or_ge b 64 with h1 | h1
        · omega
        · have hb : b = 64 := by omega
          have := (i2 (fun e => by have := hz e; omega)).2
          subst hb
          simp at this
          omega
      refine ⟨by rw [Nat.add_comm, Nat.pow_succ]; omega, fun _ => ⟨by omega, ?_⟩, by omega⟩
      rw [show 1 + b - 1 = b by omega]
      by_cases h1 : x / 2 = 0
      · rw [hz h1]; omega
      · have := i2 h1
        have e : b = (b - 1) + 1 := by omega
        rw [e, Nat.pow_succ]; omega
/-- How many digits a number's knot is made of: twice as many but one. -/
def digits (m : Nat) : Nat := Lib.bitLen (m + 1)
set_option maxRecDepth 100000 in
set_option maxHeartbeats 2000000 in
theorem knot_bits (A : Option Addr) (n c : Nat) (L : Int) (m : Nat) (f : Nat → Bool) (w : World) (hr : Rd w A (cellsF f n)) (hf : ∀ i, 8 * n ≤ i → f i = false) (hn : n ≤ 140737488351232) (hL0 : -9223372036854775808 ≤ L) (hL1 : L ≤ 9223372036854775807)
   (h1 : rightB L n f = false) : Calls Tryd.prog 40 #[.agg #[.slice A n c, .int .i64 L], .int .u64 m] w (BadS w 11) := by
  have HR := Lib.hid hr; have HF := Lib.hid hf
  clear hr hf
  · skip
    go_enter Tryd.func40, Tryd.ntmps40
    go_wp2_with fail
    refine (right_any A n c L f _ ((HR.out.alloc _).alloc _) HF.out hn hL0 hL1).mono ?_
    rintro e w1 ⟨rfl, hb1⟩
    have hb := Lib.hid ((((Below.refl w.heap.size w).alloc (by simp) _).alloc (by simp) _).trans (hb1.mono (by simp; omega)))
    have oA := Own.below' ((Own.new' (w := w) rfl).alloc _) hb1
    have oC := Own.below' (Own.new' (w := w.alloc _) rfl) hb1
    have hs := hb1.size
    simp only [World.size_alloc] at hs oA oC
    have qA := oA.cell; have qC := oC.cell; have fC := oC.frozen
    have OA := Lib.hid oA; have OC := Lib.hid oC
    have z0 : w.heap.size < w1.heap.size := by omega
    have z1 : w.heap.size + 1 < w1.heap.size := by omega
    have HR1 := Lib.hid (HR.out.below hb.out)
    clear hb1 oA oC
    go_wp2
    have hF := (OC.out.set 0 (.slice none 0 0)).set 1 (.int .i64 0)
    have q0 := hF.cell 0
    have q1 := hF.cell 1
    simp only [List.set_cons_zero, List.set_cons_succ, List.getElem?_cons_zero, List.getElem?_cons_succ] at q0 q1
    exact bodyPost_ret (v := .tuple #[.agg #[.slice none 0 0, .int .i64 0], .int .i64 11]) (by simp [results, Tryd.results40, go_sem, q0, q1]) rfl ⟨rfl, (hb.out.setCell (by simp; try omega) _).setCell (by simp; try omega) _⟩
set_option maxRecDepth 100000 in
set_option maxHeartbeats 2000000 in
theorem knot_arg (A : Option Addr) (n c L : Nat) (f : Nat → Bool) (w : World) (hr : Rd w A (cellsF f n)) (hs : RS L n f)
   : Calls Tryd.prog 40 #[.agg #[.slice A n c, .int .i64 L], .int .u64 18446744073709551615] w (BadS w 2) := by
  have h1 := hs.rightB
  have hle := hs.le
  have HF := Lib.hid (show ∀ i, 8 * n ≤ i → f i = false from fun i hi => hs.zero i (by have := hs.len; omega))
  have hn : n ≤ 140737488351232 := by have := hs.len; omega
  have hL0 : -9223372036854775808 ≤ (L : Int) := by omega
  have hL1 : (L : Int) ≤ 9223372036854775807 := by omega
  have HR := Lib.hid hr; have HS := Lib.hid hs
  clear hr hs
  · skip
    go_enter Tryd.func40, Tryd.ntmps40
    go_wp2_with fail
    refine (right_any A n c L f _ ((HR.out.alloc _).alloc _) HF.out hn hL0 hL1).mono ?_
    rintro e w1 ⟨rfl, hb1⟩
    have hb := Lib.hid ((((Below.refl w.heap.size w).alloc (by simp) _).alloc (by simp) _).trans (hb1.mono (by simp; omega)))
    have oA := Own.below' ((Own.new' (w := w) rfl).alloc _) hb1
    have oC := Own.below' (Own.new' (w := w.alloc _) rfl) hb1
    have hs := hb1.size
    simp only [World.size_alloc] at hs oA oC
    have qA := oA.cell; have qC := oC.cell; have fC := oC.frozen
    have OA := Lib.hid oA; have OC := Lib.hid oC
    have z0 : w.heap.size < w1.heap.size := by omega
    have z1 : w.heap.size + 1 < w1.heap.size := by omega
    have HR1 := Lib.hid (HR.out.below hb.out)
    clear hb1 oA oC
    go_wp2
    have hF := (OC.out.set 0 (.slice none 0 0)).set 1 (.int .i64 0)
    have q0 := hF.cell 0
    have q1 := hF.cell 1
    simp only [List.set_cons_zero, List.set_cons_succ, List.getElem?_cons_zero, List.getElem?_cons_succ] at q0 q1
    exact bodyPost_ret (v := .tuple #[.agg #[.slice none 0 0, .int .i64 0], .int .i64 2]) (by simp [results, Tryd.results40, go_sem, q0, q1]) rfl ⟨rfl, (hb.out.setCell (by simp; try omega) _).setCell (by simp; try omega) _⟩
theorem wrap_succ (m : Nat) (hm : m < 18446744073709551615) : IntKind.u64.wrap ((m : Int) + 1) = ((m + 1 : Nat) : Int) := by rw [IntKind.wrap_u64]; omega
set_option maxRecDepth 100000 in
set_option maxHeartbeats 2000000 in
theorem knot_long (A : Option Addr) (n c L m : Nat) (f : Nat → Bool) (w : World) (hr : Rd w A (cellsF f n)) (hs : RS L n f) (hm : m < 18446744073709551615)
   (h : 4194304 < L + (2 * digits m - 1)) : Calls Tryd.prog 40 #[.agg #[.slice A n c, .int .i64 L], .int .u64 m] w (BadS w 3) := by
  have h1 := hs.rightB
  have hle := hs.le
  have HF := Lib.hid (show ∀ i, 8 * n ≤ i → f i = false from fun i hi => hs.zero i (by have := hs.len; omega))
  have hn : n ≤ 140737488351232 := by have := hs.len; omega
  have hL0 : -9223372036854775808 ≤ (L : Int) := by omega
  have hL1 : (L : Int) ≤ 9223372036854775807 := by omega
  have HR := Lib.hid hr; have HS := Lib.hid hs
  clear hr hs
  have hspec := bitLen_spec (m + 1) (by omega)
  obtain ⟨hd1, hd2, hd3⟩ := hspec
  obtain ⟨d, hd⟩ : ∃ d, d = Lib.bitLen (m + 1) := ⟨_, rfl⟩
  have hdd : digits m = d := hd.symm
  rw [hdd] at h
  rw [← hd] at hd1 hd2 hd3
  have hdge : 1 ≤ d := (hd2 (by omega)).1
  have HD := Lib.hid hd; have HDD := Lib.hid hdd; have HLT := Lib.hid hd1
  have c3 : ((m : Int) == 18446744073709551615) = false := by rw [beq_eq_false_iff_ne]; omega
  have HM := Lib.hid hm
  have WR := Lib.hid (wrap_succ m hm)
  clear hd hdd hd1 hd2 hm
  · skip
    go_enter Tryd.func40, Tryd.ntmps40
    go_wp2_with fail
    refine (right_any A n c L f _ ((HR.out.alloc _).alloc _) HF.out hn hL0 hL1).mono ?_
    rintro e w1 ⟨rfl, hb1⟩
    have hb := Lib.hid ((((Below.refl w.heap.size w).alloc (by simp) _).alloc (by simp) _).trans (hb1.mono (by simp; omega)))
    have oA := Own.below' ((Own.new' (w := w) rfl).alloc _) hb1
    have oC := Own.below' (Own.new' (w := w.alloc _) rfl) hb1
    have hs := hb1.size
    simp only [World.size_alloc] at hs oA oC
    have qA := oA.cell; have qC := oC.cell; have fC := oC.frozen
    have OA := Lib.hid oA; have OC := Lib.hid oC
    have z0 : w.heap.size < w1.heap.size := by omega
    have z1 : w.heap.size + 1 < w1.heap.size := by omega
    have HR1 := Lib.hid (HR.out.below hb.out)
    clear hb1 oA oC
    go_wp2_with fail
    rw [WR.out]
    refine (Tryd.bits_Len64 _ _ (by omega) (by have := HM.out; omega)).mono ?_
    rintro e w' ⟨rfl, rfl⟩
    rw [Int.toNat_natCast, ← HD.out]
    go_wp2
    have hF := (OC.out.set 0 (.slice none 0 0)).set 1 (.int .i64 0)
    have q0 := hF.cell 0
    have q1 := hF.cell 1
    simp only [List.set_cons_zero, List.set_cons_succ, List.getElem?_cons_zero, List.getElem?_cons_succ] at q0 q1
    exact bodyPost_ret (v := .tuple #[.agg #[.slice none 0 0, .int .i64 0], .int .i64 3]) (by simp [results, Tryd.results40, go_sem, q0, q1]) rfl ⟨rfl, (hb.out.setCell (by simp; try omega) _).setCell (by simp; try omega) _⟩
set_option maxRecDepth 100000 in
set_option maxHeartbeats 4000000 in
theorem knot_good (A : Option Addr) (n c L m : Nat) (f : Nat → Bool) (w : World) (hr : Rd w A (cellsF f n)) (hs : RS L n f) (hm : m < 18446744073709551615)
   (h : L + (2 * digits m - 1) ≤ 4194304) : Calls Tryd.prog 40 #[.agg #[.slice A n c, .int .i64 L], .int .u64 m] w (GoodS w (L + (2 * digits m - 1)) (putF f (L + digits m - 1) (m + 1) (digits m))) := by
  have h1 := hs.rightB
  have hle := hs.le
  have HF := Lib.hid (show ∀ i, 8 * n ≤ i → f i = false from fun i hi => hs.zero i (by have := hs.len; omega))
  have hn : n ≤ 140737488351232 := by have := hs.len; omega
  have hL0 : -9223372036854775808 ≤ (L : Int) := by omega
  have hL1 : (L : Int) ≤ 9223372036854775807 := by omega
  have HR := Lib.hid hr; have HS := Lib.hid hs
  clear hr hs
  have hspec := bitLen_spec (m + 1) (by omega)
  obtain ⟨hd1, hd2, hd3⟩ := hspec
  obtain ⟨d, hd⟩ : ∃ d, d = Lib.bitLen (m + 1) := ⟨_, rfl⟩
  have hdd : digits m = d := hd.symm
  rw [hdd] at h ⊢
  rw [← hd] at hd1 hd2 hd3
  have hdge : 1 ≤ d := (hd2 (by omega)).1
  have HD := Lib.hid hd; have HDD := Lib.hid hdd; have HLT := Lib.hid hd1
  have c3 : ((m : Int) == 18446744073709551615) = false := by rw [beq_eq_false_iff_ne]; omega
  have HM := Lib.hid hm
  have WR := Lib.hid (wrap_succ m hm)
  clear hd hdd hd1 hd2 hm
  · skip
    go_enter Tryd.func40, Tryd.ntmps40
    go_wp2_with fail
    refine (right_any A n c L f _ ((HR.out.alloc _).alloc _) HF.out hn hL0 hL1).mono ?_
    rintro e w1 ⟨rfl, hb1⟩
    have hb := Lib.hid ((((Below.refl w.heap.size w).alloc (by simp) _).alloc (by simp) _).trans (hb1.mono (by simp; omega)))
    have oA := Own.below' ((Own.new' (w := w) rfl).alloc _) hb1
    have oC := Own.below' (Own.new' (w := w.alloc _) rfl) hb1
    have hs := hb1.size
    simp only [World.size_alloc] at hs oA oC
    have qA := oA.cell; have qC := oC.cell; have fC := oC.frozen
    have OA := Lib.hid oA; have OC := Lib.hid oC
    have z0 : w.heap.size < w1.heap.size := by omega
    have z1 : w.heap.size + 1 < w1.heap.size := by omega
    have HR1 := Lib.hid (HR.out.below hb.out)
    clear hb1 oA oC
    go_wp2_with fail
    rw [WR.out]
    refine (Tryd.bits_Len64 _ _ (by omega) (by have := HM.out; omega)).mono ?_
    rintro e w' ⟨rfl, rfl⟩
    rw [Int.toNat_natCast, ← HD.out]
    go_wp2_with fail
    rw [show 2 * (d : Int) - 1 = ((2 * d - 1 : Nat) : Int) by omega]
    refine (grown_any A n c L (2 * d - 1) f _ HR1.out HF.out hle (by omega) (by have := HS.out.len; omega)).mono ?_
    rintro e w2 ⟨g, rfl, hg, hO, hb2⟩
    obtain ⟨k, hk⟩ : ∃ k, k = (L + (2 * d - 1) + 7) / 8 := ⟨_, rfl⟩
    obtain ⟨l, hl⟩ : ∃ l, l = L + (2 * d - 1) := ⟨_, rfl⟩
    rw [← hk] at hO ⊢
    rw [← hl]
    have HK := Lib.hid hk; have HL := Lib.hid hl
    have hB2 := Lib.hid (below_chain hb.out hb2)
    have oA := OA.out.below' hb2; have oC := OC.out.below' hb2
    have hs2 := hb2.size
    have hgl := hO.lt
    have z0' : w.heap.size < w2.heap.size := by omega
    have z1' : w.heap.size + 1 < w2.heap.size := by omega
    clear qA qC fC hk hl hb2
    have qA := oA.cell
    have OC2 := Lib.hid oC; have HO := Lib.hid hO
    clear oA oC hO OA OC hb
    go_wp2_with fail
    rw [WR.out, show (L : Int) + d - 1 = ((L + d - 1 : Nat) : Int) by omega]
    refine (put_any g k _ f (L + d - 1) (m + 1) d _ (HO.out.alloc _) (by have := HK.out; omega) hd3 (by have := HK.out; omega) (by have := HM.out; omega)).mono ?_
    rintro e w3 ⟨rfl, hO3, hG3⟩
    have oS := Own.grown (Own.new' (w := w2) rfl) hG3 (by intro e; injection e with e; omega)
    have oC := (OC2.out.alloc _).grown hG3 (by intro e; injection e with e; omega)
    have hB3 := Lib.hid ((hB2.out.alloc hB2.out.size _).trans (grown_below hG3 (B := w.heap.size) (by omega) (by simp; omega)))
    have hs3 := hG3.size
    simp only [World.size_alloc] at hs3 oC
    have HO3 := Lib.hid hO3
    clear qA hG3 hO3
    have qS := oS.cell; have qC := oC.cell; have fC := oC.frozen
    have OC3 := Lib.hid oC
    clear oS oC
    go_wp2
    have hF := (OC3.out.set 0 (.slice (some ⟨g, 0, none⟩) k k)).set 1 (.int .i64 (l : Int))
    have q0 := hF.cell 0
    have q1 := hF.cell 1
    simp only [List.set_cons_zero, List.set_cons_succ, List.getElem?_cons_zero, List.getElem?_cons_succ] at q0 q1
    refine bodyPost_ret (v := .tuple #[.agg #[.slice (some ⟨g, 0, none⟩) k k, .int .i64 (l : Int)], .int .i64 0]) (by simp [results, Tryd.results40, go_sem, q0, q1]) rfl ⟨g, ?_, by omega, ?_, ?_⟩
    · rw [← HK.out, ← HL.out]
    · rw [← HK.out]
      exact (HO3.out.far (by simp; omega) _).far (by simp; omega) _
    · exact (hB3.out.setCell (by simp) _).setCell (by simp) _
end Go.Proofs.YtljihclpgpmfeaaDoor
