/- Walks: strand.size, bit, grown, put, get, Right. -/
import Derived.Test.YtljihclpgpmfeaaDoorProg
import Derived.WalkKit
import Derived.WalkSpells
import Derived.WalkLawsBesides
import Derived.Outline
import Derived.Deep.DeepFit
import Derived.Deep.QuietTactic
import Derived.BigQuiet
import Derived.Deep.RegionHeld3
import Derived.Deep.DeepCutAuto
import Derived.Deep.CutBlock
import Derived.Lib.Hide
import Derived.Test.YtljihclpgpmfeaaDoorReg
import Derived.Test.YtljihclpgpmfeaaDoorMem
import Derived.Test.YtljihclpgpmfeaaDoorBits
namespace Go.Proofs.YtljihclpgpmfeaaDoor
set_option maxRecDepth 100000
open Go.RowKit

theorem info5 : (Tryd.prog.info? 5).map (fun i => (i.zero, i.size, i.bytes)) = some (some (.int .u8 0), 1, 1) := by kernel_rfl

set_option maxHeartbeats 400000 in
theorem size_any (n : Int) (w : World) (h0 : 0 ≤ n) (h1 : n ≤ 9223372036854775800) :
    Calls Tryd.prog 56 #[.int .i64 n] w fun e w' => e = .returned (.int .i64 ((n + 7) / 8)) ∧ w = w' := by
  go_enter Tryd.func56, Tryd.ntmps56
  go_wp2
  go_ret
  exact ⟨rfl, rfl⟩

theorem bit_of (f : Nat → Bool) (p : Nat) : bits BinOp.and IntKind.u8 ((byteF f (p / 8) : Nat) / 2 ^ (7 - p % 8)) 1 = ((f p).toNat : Int) := by
  have hlt := byteF_lt f (p / 8)
  have e : ((byteF f (p / 8) : Nat) : Int) / 2 ^ (7 - p % 8) = ((byteF f (p / 8) / 2 ^ (7 - p % 8) : Nat) : Int) := by simp
  have hd : byteF f (p / 8) / 2 ^ (7 - p % 8) < 256 := Nat.lt_of_le_of_lt (Nat.div_le_self _ _) hlt
  rw [e, show (1 : Int) = ((1 : Nat) : Int) from rfl, u8_and_nat _ 1 hd (by omega), nat_mask1]
  have h := testBit_byteF f (p / 8) (7 - p % 8)
  have e2 : 8 * (p / 8) + (7 - (7 - p % 8)) = p := by omega
  have e3 : 7 - p % 8 < 8 := by omega
  rw [e2, Nat.testBit_eq_decide_div_mod_eq] at h
  simp only [e3, decide_true, Bool.true_and] at h
  rw [← h]
  have : byteF f (p / 8) / 2 ^ (7 - p % 8) % 2 < 2 := Nat.mod_lt _ (by omega)
  by_cases h1 : byteF f (p / 8) / 2 ^ (7 - p % 8) % 2 = 1
  · simp [h1]
  · have : byteF f (p / 8) / 2 ^ (7 - p % 8) % 2 = 0 := by omega
    simp [this]

set_option maxHeartbeats 400000 in
theorem bit_any (A : Option Addr) (n c : Nat) (L p : Int) (f : Nat → Bool) (w : World) (hr : Rd w A (cellsF f n)) (h0 : 0 ≤ p) (h1 : p < 8 * n) (hn : n ≤ 140737488351232) :
    Calls Tryd.prog 75 #[.agg #[.slice A n c, .int .i64 L], .int .i64 p] w fun e w' => e = .returned (.int .u8 (f p.toNat).toNat) ∧ Below w.heap.size w w' := by
  obtain ⟨k, rfl⟩ := Int.eq_ofNat_of_zero_le h0
  obtain ⟨b, off, rfl, hb, hc⟩ := hr (by rw [length_cellsF]; omega)
  have hk : k / 8 < n := by omega
  have hX := bit_of f k
  have hc1 := hc (k / 8) _ (cellsF_at f n (k / 8) hk)
  generalize byteF f (k / 8) = X at hX hc1
  have HX := Lib.hid hX
  clear hX hr
  have hc' : ∀ o, (w.alloc o).cell? ⟨b, off + k / 8, none⟩ = some (.int .u8 (X : Nat)) := fun o => (World.cell?_alloc_lt w o _ hb).trans hc1
  clear hc
  go_enter Tryd.func75, Tryd.ntmps75
  go_wp2
  go_ret
  refine ⟨?_, (Below.refl _ _).alloc (Nat.le_refl _) _⟩
  have := HX.out
  simp only [Int.toNat_natCast]
  rw [← this]
  rfl

/-- The parts of a fresh strand value. -/
def FreshS (w : World) (L : Nat) (f : Nat → Bool) (e : Ending) (w' : World) : Prop :=
  ∃ g, e = .returned (.agg #[.slice (some ⟨g, 0, none⟩) ((L + 7) / 8) ((L + 7) / 8), .int .i64 L]) ∧ w.heap.size ≤ g ∧ Own w' g 5 (cellsF f ((L + 7) / 8)) ∧ Below w.heap.size w w'

theorem length_zero_of {A : Option Addr} {n : Nat} {f : Nat → Bool} {w : World} (_ : Rd w A (cellsF f n)) : (cellsF f n).length = n := length_cellsF f n
theorem splice_grown (f : Nat → Bool) (n k : Nat) (hf : ∀ i, 8 * n ≤ i → f i = false) (h : n ≤ k) : splice (List.replicate k (Value.int .u8 0)) 0 (cellsF f n) = cellsF f k := by
  unfold splice
  apply List.ext_getElem?
  intro j
  simp only [List.take_zero, List.nil_append, length_cellsF, Nat.zero_add]
  by_cases hj : j < n
  · rw [List.getElem?_append_left (by rw [length_cellsF]; exact hj), cellsF_at f n j hj, cellsF_at f k j (by omega)]
  · rw [List.getElem?_append_right (by rw [length_cellsF]; omega), length_cellsF, List.getElem?_drop]
    by_cases hk : j < k
    · rw [cellsF_at f k j hk]
      have : byteF f j = byteF (fun _ => false) 0 := byteF_congr (fun i hi => hf _ (by omega))
      have h0 : byteF (fun _ => false) 0 = 0 := by simp [byteF, numF]
      rw [this, h0, show n + (j - n) = j by omega]
      simp [hk]
    · rw [List.getElem?_eq_none (by simp; omega), List.getElem?_eq_none (by rw [length_cellsF]; omega)]

set_option maxRecDepth 100000 in
set_option maxHeartbeats 1000000 in
theorem grown_any (A : Option Addr) (n c : Nat) (L more : Nat) (f : Nat → Bool) (w : World) (hr : Rd w A (cellsF f n)) (hf : ∀ i, 8 * n ≤ i → f i = false)
   (hL : L ≤ 4194304) (hm : more ≤ 4194304) (hn : n ≤ (L + more + 7) / 8) :
    Calls Tryd.prog 60 #[.agg #[.slice A n c, .int .i64 L], .int .i64 more] w (FreshS w (L + more) f) := by
  obtain ⟨i0, hi, hz0, hz1, hz2⟩ := info_parts info5
  obtain ⟨k, hk⟩ : ∃ k, k = (L + more + 7) / 8 := ⟨_, rfl⟩
  have hs : IntKind.i64.wrap (L + more) = L + more := IntWalk.i64_in _ (by omega)
  have h0 : (0 : Int) ≤ L + more := by omega
  have hkk : ((L : Int) + more + 7) / 8 = k := by omega
  have hmk := fun (W : World) => run_make (P := Tryd.prog) W 22 5 i0 _ Tryd.underlying22 hi hz0 .i64 .i64 k k (by omega) (by omega) (by rw [hz2]; omega) (by omega)
  rw [hz1] at hmk
  simp only [Int.toNat_natCast, Value.cells, replicate_cells, Nat.mul_one, ← cellsF_zero] at hmk
  have hnk : n ≤ k := by omega
  have hkb : k ≤ 2000000 := by omega
  have HK := Lib.hid hk
  clear hk
  go_enter Tryd.func60, Tryd.ntmps60
  go_wp2
  go_cut [5] from 5 to 17 (fun s5 W => ∃ g m, s5 = .pointer (some ⟨g, 0, none⟩) ∧ Hid (Own W g 63 [.slice (some ⟨m, 0, none⟩) k k, .int .i64 ((L : Int) + more)]) ∧ Hid (Own W m 5 (cellsF (fun _ => false) k)) ∧ w.heap.size + 2 ≤ g ∧ w.heap.size + 2 ≤ m ∧
     Hid (Own W w.heap.size 63 [.slice A n c, .int .i64 L]) ∧ Hid (Own W (w.heap.size + 1) 63 [.slice none 0 0, .int .i64 0]) ∧ Hid (Below w.heap.size w W))
  case first =>
    go_region_held3 (fun W => W.cell? ⟨w.heap.size, 0, none⟩ = some (.slice A n c) ∧ W.cell? ⟨w.heap.size, 1, none⟩ = some (.int .i64 L)) (go_keep) (first | (go_at_call 56; refine (size_any _ _ (by omega) (by omega)).mono ?_; rintro e w' ⟨rfl, rfl⟩))
    all_goals (go_wp2_with fail; go_meet; first
      | exact ⟨_, _, rfl, Own.drew ((Own.new' (by simp)).alloc _), Own.drew (Own.new' (by simp)), by omega, by omega, Own.drew ((((Own.new' (by simp)).alloc _).alloc _).alloc _), Own.drew (((Own.new' (by simp)).alloc _).alloc _), Below.drew (((((Below.refl _ _).alloc (by simp) _).alloc (by simp) _).alloc (by simp; omega) _).alloc (by simp; omega) _)⟩
      | exact ⟨_, _, rfl, Own.drew (Own.new' (by simp)), Own.drew ((Own.new' (by simp)).alloc _), by omega, by omega, Own.drew ((((Own.new' (by simp)).alloc _).alloc _).alloc _), Own.drew (((Own.new' (by simp)).alloc _).alloc _), Below.drew (((((Below.refl _ _).alloc (by simp) _).alloc (by simp) _).alloc (by simp; omega) _).alloc (by simp; omega) _)⟩)
  case rest =>
    obtain ⟨g, m, rfl, HO, HM, hg, hm, HA, HR, HB⟩ := hcut
    have hrw : Rd wc A (cellsF f n) := hr.below HB.out
    have hc0 : wc.cell? ⟨g, 0, none⟩ = some (.slice (some ⟨m, 0, none⟩) k k) := HO.out.cell 0
    have hs0 : wc.cell? ⟨w.heap.size, 0, none⟩ = some (.slice A n c) := HA.out.cell 0
    go_wp2_with (refine wpList_copy_mine rfl (.tmp 18) (.tmp 20) 22 22 rfl 5 Tryd.underlying22 (by kernel_rfl) m k k A n c rfl rfl _ _ HM.out (cellsF f n) (by rw [length_cellsF]; exact (Nat.min_eq_left hnk).symm) hrw (by rw [length_cellsF, length_cellsF]; exact hnk) cells_one_of ?_)
    intro w2 HM2 hG2
    rw [cellsF_zero, splice_grown f n k hf hnk] at HM2
    have HO2 := HO.out.grown hG2 (by intro e; injection e with e; subst e; have h1 := HO.out; have h2 := HM.out; unfold Own at h1 h2; rw [h1] at h2; injection h2 with h2; injection h2 with _ h2; exact absurd h2 (by decide))
    have HR2 := HR.out.grown hG2 (by intro e; injection e with e; omega)
    have g0 : w2.cell? ⟨g, 0, none⟩ = some (.slice (some ⟨m, 0, none⟩) k k) := HO2.cell 0
    have g1 : w2.cell? ⟨g, 1, none⟩ = some (.int .i64 ((L : Int) + more)) := HO2.cell 1
    have r0 : w2.cell? ⟨w.heap.size + 1, 0, none⟩ = some (.slice none 0 0) := HR2.cell 0
    have r1 : w2.cell? ⟨w.heap.size + 1, 1, none⟩ = some (.int .i64 0) := HR2.cell 1
    have rf : ∀ i, w2.frozen? ⟨w.heap.size + 1, i, none⟩ = false := fun i => HR2.frozen i
    have HB2 : Below w.heap.size w w2 := HB.out.trans (grown_below hG2 (by omega) HB.out.size)
    have HM3 := Lib.hid HM2
    have HR3 := Lib.hid HR2
    have HB3 := Lib.hid HB2
    clear HM2 HR2 HO2 HB2 hG2 hc0 hs0 hrw hr hf
    go_wp2
    have hF := (HR3.out.set 0 (.slice (some ⟨m, 0, none⟩) k k)).set 1 (.int .i64 ((L : Int) + more))
    have q0 := hF.cell 0
    have q1 := hF.cell 1
    simp only [List.set_cons_zero, List.set_cons_succ, List.getElem?_cons_zero, List.getElem?_cons_succ] at q0 q1
    refine bodyPost_ret (v := .agg #[.slice (some ⟨m, 0, none⟩) k k, .int .i64 ((L : Int) + more)]) (by simp [results, Tryd.results60, go_sem, q0, q1]) rfl ⟨m, ?_, by omega, ?_, ?_⟩
    · rw [← HK.out, Int.natCast_add]
    · rw [← HK.out]
      exact (HM3.out.far (by simp; omega) _).far (by simp; omega) _
    · exact (HB3.out.setCell (by simp) _).setCell (by simp) _
end Go.Proofs.YtljihclpgpmfeaaDoor
