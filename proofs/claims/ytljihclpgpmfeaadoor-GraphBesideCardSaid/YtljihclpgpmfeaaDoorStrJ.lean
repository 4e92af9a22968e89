/- Walks: strand.Pack, Unpack. -/
import Derived.Test.YtljihclpgpmfeaaDoorStrD
import Derived.Test.YtljihclpgpmfeaaDoorShelfBits
namespace Go.Proofs.YtljihclpgpmfeaaDoor
set_option maxRecDepth 100000
open Go.RowKit

/-- An error: no bytes. -/
def BadB (w : World) (k : Int) (e : Ending) (w' : World) : Prop := e = .returned (.tuple #[.slice none 0 0, .int .i64 k]) ∧ Below w.heap.size w w'
/-- Fresh bytes, and no error. -/
def GoodB (w : World) (m : Nat) (f : Nat → Bool) (e : Ending) (w' : World) : Prop :=
  ∃ g, e = .returned (.tuple #[.slice (some ⟨g, 0, none⟩) m m, .int .i64 0]) ∧ w.heap.size ≤ g ∧ Own w' g 5 (cellsF f m) ∧ Below w.heap.size w w'
/-- L bits f, and a one behind them. -/
def packF (f : Nat → Bool) (L i : Nat) : Bool := f i || decide (i = L)

theorem mk_bytes (n : Nat) (hn : n ≤ 281474976710656) (W : World) : (Instr.makeSlice 22 (.int .i64 (n : Int)) (.int .i64 (n : Int))).run Tryd.prog W = .ok (.slice (some ⟨W.heap.size, 0, none⟩) n n) (W.alloc (.cells (cellsF (fun _ => false) n).toArray 5)) := by
  obtain ⟨i0, hi, hz0, hz1, hz2⟩ := info_parts info5
  have hmk := run_make (P := Tryd.prog) W 22 5 i0 _ Tryd.underlying22 hi hz0 .i64 .i64 n n (by omega) (by omega) (by rw [hz2]; omega) (by omega)
  rw [hz1] at hmk
  simp only [Int.toNat_natCast, Value.cells, replicate_cells, Nat.mul_one, ← cellsF_zero] at hmk
  exact hmk

set_option maxRecDepth 100000 in
set_option maxHeartbeats 2000000 in
theorem pack_bits (A : Option Addr) (n c : Nat) (L : Int) (f : Nat → Bool) (w : World) (hr : Rd w A (cellsF f n)) (hf : ∀ i, 8 * n ≤ i → f i = false) (hn : n ≤ 140737488351232) (hL0 : -9223372036854775808 ≤ L) (hL1 : L ≤ 9223372036854775807)
   (h1 : rightB L n f = false) : Calls Tryd.prog 41 #[.agg #[.slice A n c, .int .i64 L]] w (BadB w 11) := by
  have HR := Lib.hid hr; have HF := Lib.hid hf
  clear hr hf
  · skip
    go_enter Tryd.func41, Tryd.ntmps41
    go_wp2_with fail
    refine (right_any A n c L f _ (HR.out.alloc _) HF.out hn hL0 hL1).mono ?_
    rintro e w1 ⟨rfl, hb1⟩
    have hb := Lib.hid (((Below.refl w.heap.size w).alloc (by simp) _).trans (hb1.mono (by simp)))
    have oA := Own.below' (Own.new' (w := w) rfl) hb1
    have hs := hb1.size
    simp only [World.size_alloc] at hs oA
    have qA := oA.cell
    have OA := Lib.hid oA
    have z0 : w.heap.size < w1.heap.size := by omega
    have HR1 := Lib.hid (HR.out.below hb.out)
    clear hb1 oA
    go_wp2
    go_ret2
    exact ⟨rfl, hb.out⟩
set_option maxRecDepth 100000 in
set_option maxHeartbeats 4000000 in
theorem pack_good (A : Option Addr) (n c L : Nat) (f : Nat → Bool) (w : World) (hr : Rd w A (cellsF f n)) (hs : RS L n f) : Calls Tryd.prog 41 #[.agg #[.slice A n c, .int .i64 L]] w (GoodB w (L / 8 + 1) (packF f L)) := by
  have h1 := hs.rightB
  have hle := hs.le
  have HF := Lib.hid (show ∀ i, 8 * n ≤ i → f i = false from fun i hi => hs.zero i (by have := hs.len; omega))
  have hn : n ≤ 140737488351232 := by have := hs.len; omega
  have hL0 : -9223372036854775808 ≤ (L : Int) := by omega
  have hL1 : (L : Int) ≤ 9223372036854775807 := by omega
  have HR := Lib.hid hr; have HS := Lib.hid hs
  clear hr hs
  obtain ⟨k, hk⟩ : ∃ k, k = L / 8 + 1 := ⟨_, rfl⟩
  rw [← hk]
  have hkk : (L : Int) / 8 + 1 = k := by omega
  have hnk : n ≤ k := by have := HS.out.len; omega
  have hkL : L / 8 < k := by omega
  have hmk := mk_bytes k (by omega)
  clear hk
  · skip
    go_enter Tryd.func41, Tryd.ntmps41
    go_wp2_with fail
    refine (right_any A n c L f _ (HR.out.alloc _) HF.out hn hL0 hL1).mono ?_
    rintro e w1 ⟨rfl, hb1⟩
    have hb := Lib.hid (((Below.refl w.heap.size w).alloc (by simp) _).trans (hb1.mono (by simp)))
    have oA := Own.below' (Own.new' (w := w) rfl) hb1
    have hs := hb1.size
    simp only [World.size_alloc] at hs oA
    have qA := oA.cell
    have OA := Lib.hid oA
    have z0 : w.heap.size < w1.heap.size := by omega
    have HR1 := Lib.hid (HR.out.below hb.out)
    clear hb1 oA
    go_wp2_with (refine wpList_copy_mine rfl (.tmp 13) (.tmp 15) 22 22 rfl 5 Tryd.underlying22 (by kernel_rfl) w1.heap.size k k A n c rfl rfl (cellsF (fun _ => false) k) _ (Own.new' rfl) (cellsF f n) (by rw [length_cellsF]; exact (Nat.min_eq_left hnk).symm) (HR1.out.alloc _) (by rw [length_cellsF, length_cellsF]; exact hnk) cells_one_of ?_)
    intro w2 HM2 hG2
    rw [cellsF_zero, splice_grown f n k HF.out hnk] at HM2
    have oA := (OA.out.alloc _).grown hG2 (by intro e; injection e with e; omega)
    have hB2 := Lib.hid ((hb.out.alloc hb.out.size _).trans (grown_below hG2 (B := w.heap.size) (by omega) (by simp; omega)))
    have hs2 := hG2.size
    simp only [World.size_alloc] at hs2
    clear qA
    have qA := oA.cell
    have OA2 := Lib.hid oA
    have hcell : w2.cell? ⟨w1.heap.size, L / 8, none⟩ = some (.int .u8 (byteF f (L / 8) : Nat)) := (HM2.cell _).trans (cellsF_at _ _ _ hkL)
    have hfr := HM2.frozen
    have HO := Lib.hid HM2
    have hor := Lib.hid (or_byte f (packF f L) L (fun j _ => rfl))
    have HG1 := Lib.hid (cellsF_set (f := f) (g := packF f L) (k := k) (q := L / 8) rfl (fun j _ hj => by unfold packF; have : ¬ j = L := (fun e => hj (by rw [e])); simp [this]))
    clear oA hG2 HM2 OA hb
    go_wp2
    refine region_tail 13 (by kernel_rfl) (by kernel_rfl) ?_
    simp only [List.take_succ_cons, List.take_zero, List.drop_succ_cons, List.drop_zero]
    repeat (refine still_step rfl rfl (fun K hK => ?_); go_wp2)
    refine wpStill_nil ?_
    go_wp2
    go_ret2
    rw [hor.out]
    exact ⟨w1.heap.size, rfl, by omega, by rw [← HG1.out]; exact (HO.out.set _ _).drew, (hB2.out.setCell (by simp; omega) _).drew⟩
end Go.Proofs.YtljihclpgpmfeaaDoor
