/- Bundle of texts: ShelfBits StrH StrM StrJ StrK. -/
import Derived.Shelf.Small.Bits
import Derived.Shelf.Strconv.Itoa0
import Derived.Test.YtljihclpgpmfeaaDoorProg
import Derived.Test.YtljihclpgpmfeaaDoorUb
/- The library's contracts for bits.TrailingZeros8 and bits.Len64, laid at this program. -/
namespace Go.Proofs
set_option maxRecDepth 100000
open Go.Shelf
def Tryd.lays136_ren : Go.Shelf.Ren := ⟨fun | 136 => 55 | n => n, fun | 5 => 5 | 3 => 3 | 9 => 9 | n => n, fun | n => n⟩
theorem Tryd.lays136 : Go.Proofs.Lays.n136 Tryd.prog Tryd.lays136_ren := {
  mixed := by kernel_rfl
  f136 := Tryd.func55.trans (congrArg some (by kernel_rfl))
  t3 := Tryd.underlying3
  a3 := Tryd.isAgg3
  z3 := Tryd.sizeOf3
  v3 := Tryd.zeroValue3
  t5 := Tryd.underlying5
  a5 := Tryd.isAgg5
  z5 := Tryd.sizeOf5
  v5 := Tryd.zeroValue5
  t9 := Tryd.underlying9
  a9 := Tryd.isAgg9
  z9 := Tryd.sizeOf9
  v9 := Tryd.zeroValue9 }
theorem Tryd.bits_TrailingZeros8 (x : Int) (w : World) (h0 : 0 ≤ x) (h1 : x ≤ 255) :
    Calls Tryd.prog 55 #[.int .u8 x] w fun e w' => e = .returned (.int .i64 (Lib.trailingZeros8 x.toNat)) ∧ w' = w := Any.bits_TrailingZeros8 Tryd.lays136 x w h0 h1
def Tryd.lays129_ren : Go.Shelf.Ren := ⟨fun | 129 => 59 | n => n, fun | 53 => 69 | 3 => 3 | 4 => 4 | 46 => 97 | 5 => 5 | 9 => 9 | n => n, fun | n => n⟩
theorem Tryd.lays129 : Go.Proofs.Lays.n129 Tryd.prog Tryd.lays129_ren := {
  mixed := by kernel_rfl
  f129 := Tryd.func59.trans (congrArg some (by kernel_rfl))
  t3 := Tryd.underlying3
  a3 := Tryd.isAgg3
  z3 := Tryd.sizeOf3
  v3 := Tryd.zeroValue3
  t4 := Tryd.underlying4
  a4 := Tryd.isAgg4
  z4 := Tryd.sizeOf4
  v4 := Tryd.zeroValue4
  t5 := Tryd.underlying5
  a5 := Tryd.isAgg5
  z5 := Tryd.sizeOf5
  v5 := Tryd.zeroValue5
  t9 := Tryd.underlying9
  a9 := Tryd.isAgg9
  z9 := Tryd.sizeOf9
  v9 := Tryd.zeroValue9
  t46 := Tryd.underlying97
  a46 := Tryd.isAgg97
  z46 := Tryd.sizeOf97
  v46 := Tryd.zeroValue97
  t53 := Tryd.underlying69
  a53 := Tryd.isAgg69
  z53 := Tryd.sizeOf69
  v53 := Tryd.zeroValue69 }
theorem Tryd.bits_Len64 (x : Int) (w : World) (h0 : 0 ≤ x) (h1 : x ≤ 18446744073709551615) :
    Calls Tryd.prog 59 #[.int .u64 x] w fun e w' => e = .returned (.int .i64 (Lib.bitLen x.toNat)) ∧ w' = w := Any.bits_Len64 Tryd.lays129 x w h0 h1
end Go.Proofs
/- Walk: strand.Knot. -/
namespace Go.Proofs.YtljihclpgpmfeaaDoor
set_option maxRecDepth 100000
open Go.RowKit

theorem bitLen_spec : ∀ x : Nat, x < 18446744073709551616 → x < 2 ^ Lib.bitLen x ∧ (x ≠ 0 → 1 ≤ Lib.bitLen x ∧ 2 ^ (Lib.bitLen x - 1) ≤ x) ∧ Lib.bitLen x ≤ 64 := by
  intro x
  induction x using Nat.strongRecOn with
  | _ x ih =>
    intro hx
    by_cases h0 : x = 0
    · subst h0
      have : Lib.bitLen 0 = 0 := by decide
      rw [this]; simp
    · have h := Lib.bitLen_half x h0 hx
      obtain ⟨i1, i2, i3⟩ := ih (x / 2) (by omega) (by omega)
      rw [h]
      generalize hb' : Lib.bitLen (x / 2) = b at i1 i2 i3
      have hz : x / 2 = 0 → b = 0 := fun e => by
        rw [e] at hb'
        rw [← hb']
        decide
      have hb : b ≤ 63 := by
        rcases Nat.lt_or_ge b 64 with h1 | h1
        · omega
        · have hb : b = 64 := by omega
          have := (i2 (fun e => by have := hz e; omega)).2
          subst hb
          simp at this
          omega
      refine ⟨by rw [Nat.add_comm, Nat.pow_succ]; omega, fun _ => ⟨by omega, ?_⟩, by omega⟩
      rw [show 1 + b - 1 = b by omega]
      by_cases h1 : x / 2 = 0
      · rw [hz h1]; omega
      · have := i2 h1
        have e : b = (b - 1) + 1 := by omega
        rw [e, Nat.pow_succ]; omega
/-- How many digits a number's knot is made of: twice as many but one. -/
def digits (m : Nat) : Nat := Lib.bitLen (m + 1)
set_option maxRecDepth 100000 in
set_option maxHeartbeats 2000000 in
theorem knot_bits (A : Option Addr) (n c : Nat) (L : Int) (m : Nat) (f : Nat → Bool) (w : World) (hr : Rd w A (cellsF f n)) (hf : ∀ i, 8 * n ≤ i → f i = false) (hn : n ≤ 140737488351232) (hL0 : -9223372036854775808 ≤ L) (hL1 : L ≤ 9223372036854775807)
   (h1 : rightB L n f = false) : Calls Tryd.prog 40 #[.agg #[.slice A n c, .int .i64 L], .int .u64 m] w (BadS w 11) := by
  have HR := Lib.hid hr; have HF := Lib.hid hf
  clear hr hf
  · skip
    go_enter Tryd.func40, Tryd.ntmps40
    go_wp2_with fail
    refine (right_any A n c L f _ ((HR.out.alloc _).alloc _) HF.out hn hL0 hL1).mono ?_
    rintro e w1 ⟨rfl, hb1⟩
    have hb := Lib.hid ((((Below.refl w.heap.size w).alloc (by simp) _).alloc (by simp) _).trans (hb1.mono (by simp; omega)))
    have oA := Own.below' ((Own.new' (w := w) rfl).alloc _) hb1
    have oC := Own.below' (Own.new' (w := w.alloc _) rfl) hb1
    have hs := hb1.size
    simp only [World.size_alloc] at hs oA oC
    have qA := oA.cell; have qC := oC.cell; have fC := oC.frozen
    have OA := Lib.hid oA; have OC := Lib.hid oC
    have z0 : w.heap.size < w1.heap.size := by omega
    have z1 : w.heap.size + 1 < w1.heap.size := by omega
    have HR1 := Lib.hid (HR.out.below hb.out)
    clear hb1 oA oC
    go_wp2
    have hF := (OC.out.set 0 (.slice none 0 0)).set 1 (.int .i64 0)
    have q0 := hF.cell 0
    have q1 := hF.cell 1
    simp only [List.set_cons_zero, List.set_cons_succ, List.getElem?_cons_zero, List.getElem?_cons_succ] at q0 q1
    exact bodyPost_ret (v := .tuple #[.agg #[.slice none 0 0, .int .i64 0], .int .i64 11]) (by simp [results, Tryd.results40, go_sem, q0, q1]) rfl ⟨rfl, (hb.out.setCell (by simp; try omega) _).setCell (by simp; try omega) _⟩
set_option maxRecDepth 100000 in
set_option maxHeartbeats 2000000 in
theorem knot_arg (A : Option Addr) (n c L : Nat) (f : Nat → Bool) (w : World) (hr : Rd w A (cellsF f n)) (hs : RS L n f)
   : Calls Tryd.prog 40 #[.agg #[.slice A n c, .int .i64 L], .int .u64 18446744073709551615] w (BadS w 2) := by
  have h1 := hs.rightB
  have hle := hs.le
  have HF := Lib.hid (show ∀ i, 8 * n ≤ i → f i = false from fun i hi => hs.zero i (by have := hs.len; omega))
  have hn : n ≤ 140737488351232 := by have := hs.len; omega
  have hL0 : -9223372036854775808 ≤ (L : Int) := by omega
  have hL1 : (L : Int) ≤ 9223372036854775807 := by omega
  have HR := Lib.hid hr; have HS := Lib.hid hs
  clear hr hs
  · skip
    go_enter Tryd.func40, Tryd.ntmps40
    go_wp2_with fail
    refine (right_any A n c L f _ ((HR.out.alloc _).alloc _) HF.out hn hL0 hL1).mono ?_
    rintro e w1 ⟨rfl, hb1⟩
    have hb := Lib.hid ((((Below.refl w.heap.size w).alloc (by simp) _).alloc (by simp) _).trans (hb1.mono (by simp; omega)))
    have oA := Own.below' ((Own.new' (w := w) rfl).alloc _) hb1
    have oC := Own.below' (Own.new' (w := w.alloc _) rfl) hb1
    have hs := hb1.size
    simp only [World.size_alloc] at hs oA oC
    have qA := oA.cell; have qC := oC.cell; have fC := oC.frozen
    have OA := Lib.hid oA; have OC := Lib.hid oC
    have z0 : w.heap.size < w1.heap.size := by omega
    have z1 : w.heap.size + 1 < w1.heap.size := by omega
    have HR1 := Lib.hid (HR.out.below hb.out)
    clear hb1 oA oC
    go_wp2
    have hF := (OC.out.set 0 (.slice none 0 0)).set 1 (.int .i64 0)
    have q0 := hF.cell 0
    have q1 := hF.cell 1
    simp only [List.set_cons_zero, List.set_cons_succ, List.getElem?_cons_zero, List.getElem?_cons_succ] at q0 q1
    exact bodyPost_ret (v := .tuple #[.agg #[.slice none 0 0, .int .i64 0], .int .i64 2]) (by simp [results, Tryd.results40, go_sem, q0, q1]) rfl ⟨rfl, (hb.out.setCell (by simp; try omega) _).setCell (by simp; try omega) _⟩
theorem wrap_succ (m : Nat) (hm : m < 18446744073709551615) : IntKind.u64.wrap ((m : Int) + 1) = ((m + 1 : Nat) : Int) := by rw [IntKind.wrap_u64]; omega
set_option maxRecDepth 100000 in
set_option maxHeartbeats 2000000 in
theorem knot_long (A : Option Addr) (n c L m : Nat) (f : Nat → Bool) (w : World) (hr : Rd w A (cellsF f n)) (hs : RS L n f) (hm : m < 18446744073709551615)
   (h : 4194304 < L + (2 * digits m - 1)) : Calls Tryd.prog 40 #[.agg #[.slice A n c, .int .i64 L], .int .u64 m] w (BadS w 3) := by
  have h1 := hs.rightB
  have hle := hs.le
  have HF := Lib.hid (show ∀ i, 8 * n ≤ i → f i = false from fun i hi => hs.zero i (by have := hs.len; omega))
  have hn : n ≤ 140737488351232 := by have := hs.len; omega
  have hL0 : -9223372036854775808 ≤ (L : Int) := by omega
  have hL1 : (L : Int) ≤ 9223372036854775807 := by omega
  have HR := Lib.hid hr; have HS := Lib.hid hs
  clear hr hs
  have hspec := bitLen_spec (m + 1) (by omega)
  obtain ⟨hd1, hd2, hd3⟩ := hspec
  obtain ⟨d, hd⟩ : ∃ d, d = Lib.bitLen (m + 1) := ⟨_, rfl⟩
  have hdd : digits m = d := hd.symm
  rw [hdd] at h
  rw [← hd] at hd1 hd2 hd3
  have hdge : 1 ≤ d := (hd2 (by omega)).1
  have HD := Lib.hid hd; have HDD := Lib.hid hdd; have HLT := Lib.hid hd1
  have c3 : ((m : Int) == 18446744073709551615) = false := by rw [beq_eq_false_iff_ne]; omega
  have HM := Lib.hid hm
  have WR := Lib.hid (wrap_succ m hm)
  clear hd hdd hd1 hd2 hm
  · skip
    go_enter Tryd.func40, Tryd.ntmps40
    go_wp2_with fail
    refine (right_any A n c L f _ ((HR.out.alloc _).alloc _) HF.out hn hL0 hL1).mono ?_
    rintro e w1 ⟨rfl, hb1⟩
    have hb := Lib.hid ((((Below.refl w.heap.size w).alloc (by simp) _).alloc (by simp) _).trans (hb1.mono (by simp; omega)))
    have oA := Own.below' ((Own.new' (w := w) rfl).alloc _) hb1
    have oC := Own.below' (Own.new' (w := w.alloc _) rfl) hb1
    have hs := hb1.size
    simp only [World.size_alloc] at hs oA oC
    have qA := oA.cell; have qC := oC.cell; have fC := oC.frozen
    have OA := Lib.hid oA; have OC := Lib.hid oC
    have z0 : w.heap.size < w1.heap.size := by omega
    have z1 : w.heap.size + 1 < w1.heap.size := by omega
    have HR1 := Lib.hid (HR.out.below hb.out)
    clear hb1 oA oC
    go_wp2_with fail
    rw [WR.out]
    refine (Tryd.bits_Len64 _ _ (by omega) (by have := HM.out; omega)).mono ?_
    rintro e w' ⟨rfl, rfl⟩
    rw [Int.toNat_natCast, ← HD.out]
    go_wp2
    have hF := (OC.out.set 0 (.slice none 0 0)).set 1 (.int .i64 0)
    have q0 := hF.cell 0
    have q1 := hF.cell 1
    simp only [List.set_cons_zero, List.set_cons_succ, List.getElem?_cons_zero, List.getElem?_cons_succ] at q0 q1
    exact bodyPost_ret (v := .tuple #[.agg #[.slice none 0 0, .int .i64 0], .int .i64 3]) (by simp [results, Tryd.results40, go_sem, q0, q1]) rfl ⟨rfl, (hb.out.setCell (by simp; try omega) _).setCell (by simp; try omega) _⟩
set_option maxRecDepth 100000 in
set_option maxHeartbeats 4000000 in
theorem knot_good (A : Option Addr) (n c L m : Nat) (f : Nat → Bool) (w : World) (hr : Rd w A (cellsF f n)) (hs : RS L n f) (hm : m < 18446744073709551615)
   (h : L + (2 * digits m - 1) ≤ 4194304) : Calls Tryd.prog 40 #[.agg #[.slice A n c, .int .i64 L], .int .u64 m] w (GoodS w (L + (2 * digits m - 1)) (putF f (L + digits m - 1) (m + 1) (digits m))) := by
  have h1 := hs.rightB
  have hle := hs.le
  have HF := Lib.hid (show ∀ i, 8 * n ≤ i → f i = false from fun i hi => hs.zero i (by have := hs.len; omega))
  have hn : n ≤ 140737488351232 := by have := hs.len; omega
  have hL0 : -9223372036854775808 ≤ (L : Int) := by omega
  have hL1 : (L : Int) ≤ 9223372036854775807 := by omega
  have HR := Lib.hid hr; have HS := Lib.hid hs
  clear hr hs
  have hspec := bitLen_spec (m + 1) (by omega)
  obtain ⟨hd1, hd2, hd3⟩ := hspec
  obtain ⟨d, hd⟩ : ∃ d, d = Lib.bitLen (m + 1) := ⟨_, rfl⟩
  have hdd : digits m = d := hd.symm
  rw [hdd] at h ⊢
  rw [← hd] at hd1 hd2 hd3
  have hdge : 1 ≤ d := (hd2 (by omega)).1
  have HD := Lib.hid hd; have HDD := Lib.hid hdd; have HLT := Lib.hid hd1
  have c3 : ((m : Int) == 18446744073709551615) = false := by rw [beq_eq_false_iff_ne]; omega
  have HM := Lib.hid hm
  have WR := Lib.hid (wrap_succ m hm)
  clear hd hdd hd1 hd2 hm
  · skip
    go_enter Tryd.func40, Tryd.ntmps40
    go_wp2_with fail
    refine (right_any A n c L f _ ((HR.out.alloc _).alloc _) HF.out hn hL0 hL1).mono ?_
    rintro e w1 ⟨rfl, hb1⟩
    have hb := Lib.hid ((((Below.refl w.heap.size w).alloc (by simp) _).alloc (by simp) _).trans (hb1.mono (by simp; omega)))
    have oA := Own.below' ((Own.new' (w := w) rfl).alloc _) hb1
    have oC := Own.below' (Own.new' (w := w.alloc _) rfl) hb1
    have hs := hb1.size
    simp only [World.size_alloc] at hs oA oC
    have qA := oA.cell; have qC := oC.cell; have fC := oC.frozen
    have OA := Lib.hid oA; have OC := Lib.hid oC
    have z0 : w.heap.size < w1.heap.size := by omega
    have z1 : w.heap.size + 1 < w1.heap.size := by omega
    have HR1 := Lib.hid (HR.out.below hb.out)
    clear hb1 oA oC
    go_wp2_with fail
    rw [WR.out]
    refine (Tryd.bits_Len64 _ _ (by omega) (by have := HM.out; omega)).mono ?_
    rintro e w' ⟨rfl, rfl⟩
    rw [Int.toNat_natCast, ← HD.out]
    go_wp2_with fail
    rw [show 2 * (d : Int) - 1 = ((2 * d - 1 : Nat) : Int) by omega]
    refine (grown_any A n c L (2 * d - 1) f _ HR1.out HF.out hle (by omega) (by have := HS.out.len; omega)).mono ?_
    rintro e w2 ⟨g, rfl, hg, hO, hb2⟩
    obtain ⟨k, hk⟩ : ∃ k, k = (L + (2 * d - 1) + 7) / 8 := ⟨_, rfl⟩
    obtain ⟨l, hl⟩ : ∃ l, l = L + (2 * d - 1) := ⟨_, rfl⟩
    rw [← hk] at hO ⊢
    rw [← hl]
    have HK := Lib.hid hk; have HL := Lib.hid hl
    have hB2 := Lib.hid (below_chain hb.out hb2)
    have oA := OA.out.below' hb2; have oC := OC.out.below' hb2
    have hs2 := hb2.size
    have hgl := hO.lt
    have z0' : w.heap.size < w2.heap.size := by omega
    have z1' : w.heap.size + 1 < w2.heap.size := by omega
    clear qA qC fC hk hl hb2
    have qA := oA.cell
    have OC2 := Lib.hid oC; have HO := Lib.hid hO
    clear oA oC hO OA OC hb
    go_wp2_with fail
    rw [WR.out, show (L : Int) + d - 1 = ((L + d - 1 : Nat) : Int) by omega]
    refine (put_any g k _ f (L + d - 1) (m + 1) d _ (HO.out.alloc _) (by have := HK.out; omega) hd3 (by have := HK.out; omega) (by have := HM.out; omega)).mono ?_
    rintro e w3 ⟨rfl, hO3, hG3⟩
    have oS := Own.grown (Own.new' (w := w2) rfl) hG3 (by intro e; injection e with e; omega)
    have oC := (OC2.out.alloc _).grown hG3 (by intro e; injection e with e; omega)
    have hB3 := Lib.hid ((hB2.out.alloc hB2.out.size _).trans (grown_below hG3 (B := w.heap.size) (by omega) (by simp; omega)))
    have hs3 := hG3.size
    simp only [World.size_alloc] at hs3 oC
    have HO3 := Lib.hid hO3
    clear qA hG3 hO3
    have qS := oS.cell; have qC := oC.cell; have fC := oC.frozen
    have OC3 := Lib.hid oC
    clear oS oC
    go_wp2
    have hF := (OC3.out.set 0 (.slice (some ⟨g, 0, none⟩) k k)).set 1 (.int .i64 (l : Int))
    have q0 := hF.cell 0
    have q1 := hF.cell 1
    simp only [List.set_cons_zero, List.set_cons_succ, List.getElem?_cons_zero, List.getElem?_cons_succ] at q0 q1
    refine bodyPost_ret (v := .tuple #[.agg #[.slice (some ⟨g, 0, none⟩) k k, .int .i64 (l : Int)], .int .i64 0]) (by simp [results, Tryd.results40, go_sem, q0, q1]) rfl ⟨g, ?_, by omega, ?_, ?_⟩
    · rw [← HK.out, ← HL.out]
    · rw [← HK.out]
      exact (HO3.out.far (by simp; omega) _).far (by simp; omega) _
    · exact (hB3.out.setCell (by simp) _).setCell (by simp) _
end Go.Proofs.YtljihclpgpmfeaaDoor
/- Walk: fretworklaw01.knots, of one number. -/
namespace Go.Proofs.YtljihclpgpmfeaaDoor
set_option maxRecDepth 100000
open Go.RowKit

/-- No bit at all. -/
def noF (_ : Nat) : Bool := false
theorem noF_RS : RS 0 0 noF := ⟨by omega, by omega, fun _ _ => rfl⟩
/-- How long a number's knot is; its bits. -/
def knotL (m : Nat) : Nat := 2 * digits m - 1
def knotF (m : Nat) : Nat → Bool := putF noF (digits m - 1) (m + 1) (digits m)
theorem digits_bound (m : Nat) (hm : m < 18446744073709551615) : 1 ≤ digits m ∧ digits m ≤ 64 := by
  have h := bitLen_spec (m + 1) (by omega)
  exact ⟨(h.2.1 (by omega)).1, h.2.2⟩
end Go.Proofs.YtljihclpgpmfeaaDoor
/- Walks: strand.Pack, Unpack. -/
namespace Go.Proofs.YtljihclpgpmfeaaDoor
set_option maxRecDepth 100000
open Go.RowKit

/-- An error: no bytes. -/
def BadB (w : World) (k : Int) (e : Ending) (w' : World) : Prop := e = .returned (.tuple #[.slice none 0 0, .int .i64 k]) ∧ Below w.heap.size w w'
/-- Fresh bytes, and no error. -/
def GoodB (w : World) (m : Nat) (f : Nat → Bool) (e : Ending) (w' : World) : Prop :=
  ∃ g, e = .returned (.tuple #[.slice (some ⟨g, 0, none⟩) m m, .int .i64 0]) ∧ w.heap.size ≤ g ∧ Own w' g 5 (cellsF f m) ∧ Below w.heap.size w w'
/-- L bits f, and a one behind them. -/
def packF (f : Nat → Bool) (L i : Nat) : Bool := f i || decide (i = L)

theorem mk_bytes (n : Nat) (hn : n ≤ 281474976710656) (W : World) : (Instr.makeSlice 22 (.int .i64 (n : Int)) (.int .i64 (n : Int))).run Tryd.prog W = .ok (.slice (some ⟨W.heap.size, 0, none⟩) n n) (W.alloc (.cells (cellsF (fun _ => false) n).toArray 5)) := by
  obtain ⟨i0, hi, hz0, hz1, hz2⟩ := info_parts info5
  have hmk := run_make (P := Tryd.prog) W 22 5 i0 _ Tryd.underlying22 hi hz0 .i64 .i64 n n (by omega) (by omega) (by rw [hz2]; omega) (by omega)
  rw [hz1] at hmk
  simp only [Int.toNat_natCast, Value.cells, replicate_cells, Nat.mul_one, ← cellsF_zero] at hmk
  exact hmk

set_option maxRecDepth 100000 in
set_option maxHeartbeats 2000000 in
theorem pack_bits (A : Option Addr) (n c : Nat) (L : Int) (f : Nat → Bool) (w : World) (hr : Rd w A (cellsF f n)) (hf : ∀ i, 8 * n ≤ i → f i = false) (hn : n ≤ 140737488351232) (hL0 : -9223372036854775808 ≤ L) (hL1 : L ≤ 9223372036854775807)
   (h1 : rightB L n f = false) : Calls Tryd.prog 41 #[.agg #[.slice A n c, .int .i64 L]] w (BadB w 11) := by
  have HR := Lib.hid hr; have HF := Lib.hid hf
  clear hr hf
  · skip
    go_enter Tryd.func41, Tryd.ntmps41
    go_wp2_with fail
    refine (right_any A n c L f _ (HR.out.alloc _) HF.out hn hL0 hL1).mono ?_
    rintro e w1 ⟨rfl, hb1⟩
    have hb := Lib.hid (((Below.refl w.heap.size w).alloc (by simp) _).trans (hb1.mono (by simp)))
    have oA := Own.below' (Own.new' (w := w) rfl) hb1
    have hs := hb1.size
    simp only [World.size_alloc] at hs oA
    have qA := oA.cell
    have OA := Lib.hid oA
    have z0 : w.heap.size < w1.heap.size := by omega
    have HR1 := Lib.hid (HR.out.below hb.out)
    clear hb1 oA
    go_wp2
    go_ret2
    exact ⟨rfl, hb.out⟩
set_option maxRecDepth 100000 in
set_option maxHeartbeats 4000000 in
theorem pack_good (A : Option Addr) (n c L : Nat) (f : Nat → Bool) (w : World) (hr : Rd w A (cellsF f n)) (hs : RS L n f) : Calls Tryd.prog 41 #[.agg #[.slice A n c, .int .i64 L]] w (GoodB w (L / 8 + 1) (packF f L)) := by
  have h1 := hs.rightB
  have hle := hs.le
  have HF := Lib.hid (show ∀ i, 8 * n ≤ i → f i = false from fun i hi => hs.zero i (by have := hs.len; omega))
  have hn : n ≤ 140737488351232 := by have := hs.len; omega
  have hL0 : -9223372036854775808 ≤ (L : Int) := by omega
  have hL1 : (L : Int) ≤ 9223372036854775807 := by omega
  have HR := Lib.hid hr; have HS := Lib.hid hs
  clear hr hs
  obtain ⟨k, hk⟩ : ∃ k, k = L / 8 + 1 := ⟨_, rfl⟩
  rw [← hk]
  have hkk : (L : Int) / 8 + 1 = k := by omega
  have hnk : n ≤ k := by have := HS.out.len; omega
  have hkL : L / 8 < k := by omega
  have hmk := mk_bytes k (by omega)
  clear hk
  · skip
    go_enter Tryd.func41, Tryd.ntmps41
    go_wp2_with fail
    refine (right_any A n c L f _ (HR.out.alloc _) HF.out hn hL0 hL1).mono ?_
    rintro e w1 ⟨rfl, hb1⟩
    have hb := Lib.hid (((Below.refl w.heap.size w).alloc (by simp) _).trans (hb1.mono (by simp)))
    have oA := Own.below' (Own.new' (w := w) rfl) hb1
    have hs := hb1.size
    simp only [World.size_alloc] at hs oA
    have qA := oA.cell
    have OA := Lib.hid oA
    have z0 : w.heap.size < w1.heap.size := by omega
    have HR1 := Lib.hid (HR.out.below hb.out)
    clear hb1 oA
    go_wp2_with (refine wpList_copy_mine rfl (.tmp 13) (.tmp 15) 22 22 rfl 5 Tryd.underlying22 (by kernel_rfl) w1.heap.size k k A n c rfl rfl (cellsF (fun _ => false) k) _ (Own.new' rfl) (cellsF f n) (by rw [length_cellsF]; exact (Nat.min_eq_left hnk).symm) (HR1.out.alloc _) (by rw [length_cellsF, length_cellsF]; exact hnk) cells_one_of ?_)
    intro w2 HM2 hG2
    rw [cellsF_zero, splice_grown f n k HF.out hnk] at HM2
    have oA := (OA.out.alloc _).grown hG2 (by intro e; injection e with e; omega)
    have hB2 := Lib.hid ((hb.out.alloc hb.out.size _).trans (grown_below hG2 (B := w.heap.size) (by omega) (by simp; omega)))
    have hs2 := hG2.size
    simp only [World.size_alloc] at hs2
    clear qA
    have qA := oA.cell
    have OA2 := Lib.hid oA
    have hcell : w2.cell? ⟨w1.heap.size, L / 8, none⟩ = some (.int .u8 (byteF f (L / 8) : Nat)) := (HM2.cell _).trans (cellsF_at _ _ _ hkL)
    have hfr := HM2.frozen
    have HO := Lib.hid HM2
    have hor := Lib.hid (or_byte f (packF f L) L (fun j _ => rfl))
    have HG1 := Lib.hid (cellsF_set (f := f) (g := packF f L) (k := k) (q := L / 8) rfl (fun j _ hj => by unfold packF; have : ¬ j = L := (fun e => hj (by rw [e])); simp [this]))
    clear oA hG2 HM2 OA hb
    go_wp2
    refine region_tail 13 (by kernel_rfl) (by kernel_rfl) ?_
    simp only [List.take_succ_cons, List.take_zero, List.drop_succ_cons, List.drop_zero]
    repeat (refine still_step rfl rfl (fun K hK => ?_); go_wp2)
    refine wpStill_nil ?_
    go_wp2
    go_ret2
    rw [hor.out]
    exact ⟨w1.heap.size, rfl, by omega, by rw [← HG1.out]; exact (HO.out.set _ _).drew, (hB2.out.setCell (by simp; omega) _).drew⟩
end Go.Proofs.YtljihclpgpmfeaaDoor
/- Walk: strand.Unpack. -/
namespace Go.Proofs.YtljihclpgpmfeaaDoor
set_option maxRecDepth 100000
open Go.RowKit

theorem tz8_spec : ∀ x : Fin 256, x.val ≠ 0 → Lib.trailingZeros8 x.val ≤ 7 ∧ x.val.testBit (Lib.trailingZeros8 x.val) = true ∧ ∀ t : Fin 8, t.val < Lib.trailingZeros8 x.val → x.val.testBit t.val = false := by decide +kernel
/-- How many bits the bytes f (n of them, the last one not nought) are the pack of. -/
def unpackL (f : Nat → Bool) (n : Nat) : Nat := 8 * n - 1 - Lib.trailingZeros8 (byteF f (n - 1))
/-- The last one among them stands there. -/
theorem unpackL_spec {f : Nat → Bool} {n : Nat} (hn : 0 < n) (h : byteF f (n - 1) ≠ 0) :
    Lib.trailingZeros8 (byteF f (n - 1)) ≤ 7 ∧ unpackL f n < 8 * n ∧ 8 * (n - 1) ≤ unpackL f n ∧ f (unpackL f n) = true ∧ ∀ i, unpackL f n < i → i < 8 * n → f i = false := by
  obtain ⟨h1, h2, h3⟩ := tz8_spec ⟨byteF f (n - 1), byteF_lt f (n - 1)⟩ h
  simp only at h1 h2 h3
  unfold unpackL
  generalize ht : Lib.trailingZeros8 (byteF f (n - 1)) = t at h1 h2 h3
  refine ⟨h1, by omega, by omega, ?_, fun i hi hi8 => ?_⟩
  · rw [testBit_byteF] at h2
    simp only [Bool.and_eq_true] at h2
    have e : 8 * (n - 1) + (7 - t) = 8 * n - 1 - t := by omega
    rw [← e]; exact h2.2
  · have := h3 ⟨7 - i % 8, by omega⟩ (by simp only; omega)
    rw [testBit_byteF] at this
    have e1 : 8 * (n - 1) + (7 - (7 - i % 8)) = i := by omega
    have e2 : 7 - i % 8 < 8 := by omega
    rw [e1] at this
    simpa [e2] using this
def cutTo (f : Nat → Bool) (L i : Nat) : Bool := f i && decide (i < L)
set_option maxRecDepth 100000 in
set_option maxHeartbeats 2000000 in
theorem unpack_long (A : Option Addr) (n c : Nat) (w : World) (h : 524289 < n) (hn : n ≤ 140737488351232) : Calls Tryd.prog 38 #[.slice A n c] w (BadS w 3) := by
  have hb := Lib.hid ((Below.refl w.heap.size w).alloc (Nat.le_refl _) (.cells #[.slice none 0 0, .int .i64 0] 63))
  · skip
    go_enter Tryd.func38, Tryd.ntmps38
    go_wp2
    exact bodyPost_ret (v := .tuple #[.agg #[.slice none 0 0, .int .i64 0], .int .i64 3]) (by simp [results, Tryd.results38, go_sem]) rfl ⟨rfl, hb.out⟩
set_option maxRecDepth 100000 in
set_option maxHeartbeats 2000000 in
theorem unpack_zero (A : Option Addr) (n c : Nat) (f : Nat → Bool) (w : World) (hr : Rd w A (cellsF f n)) (h : n ≤ 524289) (hz : 0 < n → byteF f (n - 1) = 0) : Calls Tryd.prog 38 #[.slice A n c] w (BadS w 13) := by
  have hb := Lib.hid ((Below.refl w.heap.size w).alloc (Nat.le_refl _) (.cells #[.slice none 0 0, .int .i64 0] 63))
  by_cases h0 : n = 0
  · have c0 : ((n : Int) == 0) = true := by rw [beq_iff_eq]; omega
    clear hr hz h0
    go_enter Tryd.func38, Tryd.ntmps38
    go_wp2
    exact bodyPost_ret (v := .tuple #[.agg #[.slice none 0 0, .int .i64 0], .int .i64 13]) (by simp [results, Tryd.results38, go_sem]) rfl ⟨rfl, hb.out⟩
  · have c0 : ((n : Int) == 0) = false := by rw [beq_eq_false_iff_ne]; omega
    have h1 : 1 ≤ n := by omega
    obtain ⟨b, off, rfl, hbb, hc⟩ := hr (by rw [length_cellsF]; omega)
    have hc1 := hc (n - 1) _ (cellsF_at f n (n - 1) (by omega))
    rw [hz (by omega)] at hc1
    have hc' : ∀ o, (w.alloc o).cell? ⟨b, off + (n - 1), none⟩ = some (.int .u8 ((0 : Nat) : Int)) := fun o => (World.cell?_alloc_lt w o _ hbb).trans hc1
    clear hr hz h0 hc hc1
    go_enter Tryd.func38, Tryd.ntmps38
    go_wp2
    exact bodyPost_ret (v := .tuple #[.agg #[.slice none 0 0, .int .i64 0], .int .i64 13]) (by simp [results, Tryd.results38, go_sem]) rfl ⟨rfl, hb.out⟩
set_option maxRecDepth 100000 in
set_option maxHeartbeats 2000000 in
theorem unpack_over (A : Option Addr) (n c : Nat) (f : Nat → Bool) (w : World) (hr : Rd w A (cellsF f n)) (h : n ≤ 524289) (hpos : 0 < n) (hz : byteF f (n - 1) ≠ 0) (h2 : 4194304 < unpackL f n) : Calls Tryd.prog 38 #[.slice A n c] w (BadS w 13) := by
  have hb := Lib.hid ((Below.refl w.heap.size w).alloc (Nat.le_refl _) (.cells #[.slice none 0 0, .int .i64 0] 63))
  obtain ⟨ht7, hu1, hu2, hu3, hu4⟩ := unpackL_spec hpos hz
  have hX := byteF_lt f (n - 1)
  obtain ⟨b, off, rfl, hbb, hc⟩ := hr (by rw [length_cellsF]; omega)
  have hc1 := hc (n - 1) _ (cellsF_at f n (n - 1) (by omega))
  have c0 : ((n : Int) == 0) = false := by rw [beq_eq_false_iff_ne]; omega
  have c1 : (((byteF f (n - 1) : Nat) : Int) == 0) = false := by rw [beq_eq_false_iff_ne]; omega
  obtain ⟨l, hl⟩ : ∃ l, l = unpackL f n := ⟨_, rfl⟩
  have hlt : (8 : Int) * n - 1 - (Lib.trailingZeros8 (byteF f (n - 1)) : Nat) = l := by rw [hl]; unfold unpackL; omega
  rw [← hl] at h2 hu1 hu2 hu3 hu4
  have HLT := Lib.hid hlt
  generalize byteF f (n - 1) = X at c1 hc1 HLT hX ht7
  have hc' : ∀ o, (w.alloc o).cell? ⟨b, off + (n - 1), none⟩ = some (.int .u8 (X : Int)) := fun o => (World.cell?_alloc_lt w o _ hbb).trans hc1
  clear hc hc1 hlt hl hz hu3 hu4 hr
  · skip
    go_enter Tryd.func38, Tryd.ntmps38
    go_wp2_with fail
    refine (Tryd.bits_TrailingZeros8 _ _ (by omega) (by omega)).mono ?_
    rintro e w' ⟨rfl, rfl⟩
    rw [Int.toNat_natCast]
    have hlt := HLT.out
    generalize Lib.trailingZeros8 X = tz at ht7 hlt
    go_wp2
    exact bodyPost_ret (v := .tuple #[.agg #[.slice none 0 0, .int .i64 0], .int .i64 13]) (by simp [results, Tryd.results38, go_sem]) rfl ⟨rfl, hb.out⟩
theorem and_mask (f : Nat → Bool) (l k : Nat) (hk : k = (l + 7) / 8) (hl : l % 8 ≠ 0) :
    bits BinOp.and IntKind.u8 ((byteF f (k - 1) : Nat) : Int) (255 * 2 ^ (8 - l % 8) % 256) = ((byteF (cutTo f l) (k - 1) : Nat) : Int) := by
  have e : ((255 : Int) * 2 ^ (8 - l % 8) % 256) = ((255 * 2 ^ (8 - l % 8) % 256 : Nat) : Int) := by simp
  have hm : 255 * 2 ^ (8 - l % 8) % 256 < 256 := Nat.mod_lt _ (by omega)
  rw [e, u8_and_nat _ _ (byteF_lt _ _) hm]
  congr 1
  refine eq_byteF (Nat.lt_of_le_of_lt Nat.and_le_left (byteF_lt _ _)) (fun t ht => ?_)
  rw [Nat.testBit_and, testBit_byteF, show 256 = 2 ^ 8 from rfl, Nat.testBit_mod_two_pow, Nat.testBit_mul_two_pow, show 255 = 2 ^ 8 - 1 from rfl, Nat.testBit_two_pow_sub_one]
  unfold cutTo
  by_cases h : 8 - l % 8 ≤ t
  · have h1 : 8 * (k - 1) + (7 - t) < l := by omega
    have h2 : t - (8 - l % 8) < 8 := by omega
    simp [ht, h, h1, h2]
  · have h1 : ¬ 8 * (k - 1) + (7 - t) < l := by omega
    simp [h, h1]
theorem cutTo_far (f : Nat → Bool) (l k j : Nat) (hk : k = (l + 7) / 8) (hj : j < 8 * k) (h : j / 8 ≠ k - 1) : cutTo f l j = f j := by
  unfold cutTo
  have : j < l := by omega
  simp [this]
theorem cutTo_even (f : Nat → Bool) (l k : Nat) (hk : k = (l + 7) / 8) (hl : l % 8 = 0) : cellsF (cutTo f l) k = cellsF f k :=
  cellsF_congr (fun i hi => by
    unfold cutTo
    have : i < l := by omega
    simp [this])
theorem splice_all (z : List Value) (f : Nat → Bool) (k : Nat) (h : z.length = k) : splice z 0 (cellsF f k) = cellsF f k := by
  unfold splice
  rw [List.take_zero, List.nil_append, Nat.zero_add, length_cellsF, List.drop_of_length_le (by omega), List.append_nil]
theorem take_cellsF (f : Nat → Bool) (n k : Nat) (h : k ≤ n) : (cellsF f n).take k = cellsF f k := by
  unfold cellsF
  rw [← List.map_take, List.take_range, Nat.min_eq_left h]
set_option maxRecDepth 100000 in
set_option maxHeartbeats 4000000 in
theorem unpack_good (A : Option Addr) (n c : Nat) (f : Nat → Bool) (w : World) (hr : Rd w A (cellsF f n)) (h : n ≤ 524289) (hpos : 0 < n) (hz : byteF f (n - 1) ≠ 0) (h2 : unpackL f n ≤ 4194304) : Calls Tryd.prog 38 #[.slice A n c] w (GoodS w (unpackL f n) (cutTo f (unpackL f n))) := by
  obtain ⟨ht7, hu1, hu2, hu3, hu4⟩ := unpackL_spec hpos hz
  have hX := byteF_lt f (n - 1)
  obtain ⟨b, off, rfl, hbb, hc⟩ := hr (by rw [length_cellsF]; omega)
  have hc1 := hc (n - 1) _ (cellsF_at f n (n - 1) (by omega))
  have c0 : ((n : Int) == 0) = false := by rw [beq_eq_false_iff_ne]; omega
  have c1 : (((byteF f (n - 1) : Nat) : Int) == 0) = false := by rw [beq_eq_false_iff_ne]; omega
  obtain ⟨l, hl⟩ : ∃ l, l = unpackL f n := ⟨_, rfl⟩
  have hlt : (8 : Int) * n - 1 - (Lib.trailingZeros8 (byteF f (n - 1)) : Nat) = l := by rw [hl]; unfold unpackL; omega
  rw [← hl] at h2 hu1 hu2 hu3 hu4 ⊢
  have HR := Lib.hid hr
  have HLT := Lib.hid hlt
  have HX1 := Lib.hid hc1
  obtain ⟨k, hk⟩ : ∃ k, k = (l + 7) / 8 := ⟨_, rfl⟩
  have hkk : ((l : Int) + 7) / 8 = k := by omega
  have hkn : k ≤ n := by omega
  have hmk := mk_bytes k (by omega)
  have HK := Lib.hid hk
  generalize byteF f (n - 1) = X at c1 hc1 HLT hX ht7
  have hc' : ∀ o, (w.alloc o).cell? ⟨b, off + (n - 1), none⟩ = some (.int .u8 (X : Int)) := fun o => (World.cell?_alloc_lt w o _ hbb).trans hc1
  clear hc hc1 hlt hl hz hu3 hu4 hr hk
  · skip
    go_enter Tryd.func38, Tryd.ntmps38
    go_wp2_with fail
    refine (Tryd.bits_TrailingZeros8 _ _ (by omega) (by omega)).mono ?_
    rintro e w' ⟨rfl, rfl⟩
    rw [Int.toNat_natCast]
    have hlt := HLT.out
    generalize Lib.trailingZeros8 X = tz at ht7 hlt
    go_wp2_with fail
    refine (size_any _ _ (by omega) (by omega)).mono ?_
    rintro e w' ⟨rfl, rfl⟩
    have HRK := Lib.hid (show ∀ o1 o2 o3, Rd (((w.alloc o1).alloc o2).alloc o3) (some ⟨b, off, none⟩) (cellsF f k) from fun o1 o2 o3 => by
      have := (((HR.out.alloc o1).alloc o2).alloc o3).take k
      rwa [take_cellsF f n k hkn] at this)
    clear hlt
    go_wp2_with (refine wpList_copy_mine rfl (.tmp 45) (.tmp 46) 22 22 rfl 5 Tryd.underlying22 (by kernel_rfl) (w.heap.size + 1) k k (some ⟨b, off, none⟩) n c rfl rfl (cellsF (fun _ => false) k) 5 ((Own.new' (by simp)).alloc _) (cellsF f k) (by rw [length_cellsF]; exact (Nat.min_eq_right hkn).symm) (HRK.out _ _ _) (by rw [length_cellsF, length_cellsF]; exact Nat.le_refl _) cells_one_of ?_)
    intro w2 HM2 hG2
    rw [splice_all _ f k (length_cellsF _ _)] at HM2
    have oC := Own.grown (((Own.new' (w := w) rfl).alloc _).alloc _) hG2 (by intro e; injection e with e; omega)
    have oS := Own.grown (Own.new' (g := w.heap.size + 1 + 1) (w := (w.alloc _).alloc _) (by simp)) hG2 (by intro e; injection e with e; omega)
    have hB2 := Lib.hid (((((Below.refl w.heap.size w).alloc (by simp) _).alloc (by simp) _).alloc (by simp; omega) _).trans (grown_below hG2 (B := w.heap.size) (by omega) (by simp; omega)))
    have hs2 := hG2.size
    simp only [World.size_alloc] at hs2 oC oS
    have qC := oC.cell; have qS := oS.cell; have fC := oC.frozen
    have hfr := HM2.frozen
    have OC := Lib.hid oC; have OS := Lib.hid oS; have HO := Lib.hid HM2
    have hc2 := HM2.cell
    clear oC oS hG2 HM2 hc' hmk
    by_cases hu : l % 8 = 0
    · have hu' : ((l : Int) % 8 != 0) = false := by rw [bne_eq_false_iff_eq]; omega
      have HU := Lib.hid hu
      clear hu hc2
      go_wp2
      have hF := (OC.out.set 0 (.slice (some ⟨w.heap.size + 1, 0, none⟩) k k)).set 1 (.int .i64 (l : Int))
      have q0 := hF.cell 0
      have q1 := hF.cell 1
      simp only [List.set_cons_zero, List.set_cons_succ, List.getElem?_cons_zero, List.getElem?_cons_succ] at q0 q1
      refine bodyPost_ret (v := .tuple #[.agg #[.slice (some ⟨w.heap.size + 1, 0, none⟩) k k, .int .i64 (l : Int)], .int .i64 0]) (by simp [results, Tryd.results38, go_sem, q0, q1]) rfl ⟨_, by rw [← HK.out], by omega, ?_, ?_⟩
      · rw [← HK.out, cutTo_even f l k HK.out HU.out]
        exact (HO.out.far (by simp) _).far (by simp) _
      · exact (hB2.out.setCell (by simp) _).setCell (by simp) _
    · have hu' : ((l : Int) % 8 != 0) = true := by rw [bne_iff_ne]; omega
      have hk1 : 1 ≤ k := by have := HK.out; omega
      have hcell : w2.cell? ⟨w.heap.size + 1, k - 1, none⟩ = some (.int .u8 (byteF f (k - 1) : Nat)) := (hc2 _).trans (cellsF_at _ _ _ (by omega))
      have HA := Lib.hid (and_mask f l k HK.out hu)
      have HG1 := Lib.hid (cellsF_set (f := f) (g := cutTo f l) (k := k) (q := k - 1) rfl (fun j hj hj2 => cutTo_far f l k j HK.out hj hj2))
      clear hu hc2
      go_wp2
      refine region_tail 13 (by kernel_rfl) (by kernel_rfl) ?_
      simp only [List.take_succ_cons, List.take_zero, List.drop_succ_cons, List.drop_zero]
      repeat (refine still_step rfl rfl (fun K hK => ?_); go_wp2)
      refine wpStill_nil ?_
      go_wp2
      rw [HA.out]
      have hF := (((OC.out.far (p := ⟨w.heap.size + 1, k - 1, none⟩) (by simp) (.int .u8 (byteF (cutTo f l) (k - 1) : Nat))).set 0 (.slice (some ⟨w.heap.size + 1, 0, none⟩) k k)).set 1 (.int .i64 (l : Int))).drew
      have q0 := hF.cell 0
      have q1 := hF.cell 1
      simp only [List.set_cons_zero, List.set_cons_succ, List.getElem?_cons_zero, List.getElem?_cons_succ] at q0 q1
      refine bodyPost_ret (v := .tuple #[.agg #[.slice (some ⟨w.heap.size + 1, 0, none⟩) k k, .int .i64 (l : Int)], .int .i64 0]) (by simp [results, Tryd.results38, go_sem, q0, q1]) rfl ⟨_, by rw [← HK.out], by omega, ?_, ?_⟩
      · rw [← HK.out, ← HG1.out]
        exact (((HO.out.set _ _).far (by simp) _).far (by simp) _).drew
      · exact (((hB2.out.setCell (by simp) _).setCell (by simp) _).setCell (by simp) _).drew
end Go.Proofs.YtljihclpgpmfeaaDoor
