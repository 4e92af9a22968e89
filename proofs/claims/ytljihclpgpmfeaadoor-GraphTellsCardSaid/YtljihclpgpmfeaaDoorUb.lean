/- Bundle of texts: Bits StrA StrB StrC StrD. -/
import GoSem.Core.World
import Derived.Test.YtljihclpgpmfeaaDoorProg
import Derived.WalkKit
import Derived.WalkSpells
import Derived.WalkLawsBesides
import Derived.Outline
import Derived.Deep.DeepFit
import Derived.Deep.QuietTactic
import Derived.BigQuiet
import Derived.Deep.RegionHeld3
import Derived.Deep.DeepCutAuto
import Derived.Deep.CutBlock
import Derived.Lib.Hide
import Derived.Test.YtljihclpgpmfeaaDoorUa
/- Plain facts on bits: bytes as functions from places to bits, numbers read off them, and the list of a row's cells. No program is named. -/
namespace Go.Proofs.YtljihclpgpmfeaaDoor
set_option maxRecDepth 100000

/-- The number whose binary digits are f at, f (at + 1), .. (k of them, the highest first). -/
def numF (f : Nat → Bool) (at_ : Nat) : Nat → Nat
  | 0 => 0
  | k + 1 => 2 * numF f at_ k + (f (at_ + k)).toNat
theorem numF_lt (f : Nat → Bool) (a : Nat) : ∀ k, numF f a k < 2 ^ k
  | 0 => by simp [numF]
  | k + 1 => by
    have := numF_lt f a k
    have hb : (f (a + k)).toNat ≤ 1 := by cases f (a + k) <;> simp
    rw [numF, Nat.pow_succ]; omega
theorem testBit_two_mul_add (x : Nat) (b : Bool) (t : Nat) : (2 * x + b.toNat).testBit (t + 1) = x.testBit t := by
  rw [Nat.testBit_succ]
  congr 1
  cases b <;> simp <;> omega
theorem testBit_two_mul_add_zero (x : Nat) (b : Bool) : (2 * x + b.toNat).testBit 0 = b := by
  rw [Nat.testBit_zero]
  cases b <;> simp <;> omega
theorem testBit_numF (f : Nat → Bool) (a : Nat) : ∀ k t, (numF f a k).testBit t = (decide (t < k) && f (a + (k - 1 - t)))
  | 0, t => by simp [numF]
  | k + 1, 0 => by rw [numF, testBit_two_mul_add_zero]; simp
  | k + 1, t + 1 => by
    rw [numF, testBit_two_mul_add, testBit_numF f a k t]
    have e : k - 1 - t = k - (t + 1) := by omega
    simp [e]
theorem numF_congr {f g : Nat → Bool} {a b : Nat} : ∀ {k : Nat}, (∀ i, i < k → f (a + i) = g (b + i)) → numF f a k = numF g b k
  | 0, _ => rfl
  | k + 1, h => by rw [numF, numF, numF_congr (k := k) (fun i hi => h i (by omega)), h k (by omega)]
theorem numF_testBit (n w : Nat) (hn : n < 2 ^ w) : numF (fun i => n.testBit (w - 1 - i)) 0 w = n := by
  apply Nat.eq_of_testBit_eq
  intro t
  rw [testBit_numF]
  by_cases ht : t < w
  · have e : w - 1 - (w - 1 - t) = t := by omega
    simp [ht, e]
  · have : n.testBit t = false := Nat.testBit_lt_two_pow (Nat.lt_of_lt_of_le hn (Nat.pow_le_pow_right (by omega) (by omega)))
    simp [ht, this]
/-- Byte q of the bits f. -/
def byteF (f : Nat → Bool) (q : Nat) : Nat := numF f (8 * q) 8
theorem byteF_lt (f : Nat → Bool) (q : Nat) : byteF f q < 256 := numF_lt f (8 * q) 8
theorem testBit_byteF (f : Nat → Bool) (q t : Nat) : (byteF f q).testBit t = (decide (t < 8) && f (8 * q + (7 - t))) := testBit_numF f (8 * q) 8 t
theorem byteF_congr {f g : Nat → Bool} {q p : Nat} (h : ∀ i, i < 8 → f (8 * q + i) = g (8 * p + i)) : byteF f q = byteF g p := numF_congr h
theorem byteF_inj {f g : Nat → Bool} {q p : Nat} (h : byteF f q = byteF g p) : ∀ i, i < 8 → f (8 * q + i) = g (8 * p + i) := fun i hi => by
  have h1 := testBit_byteF f q (7 - i)
  have h2 := testBit_byteF g p (7 - i)
  rw [h, h2] at h1
  have e : 7 - (7 - i) = i := by omega
  have e2 : 7 - i < 8 := by omega
  simp [e, e2] at h1
  exact h1.symm
/-- A number below 256 is byte q of f, if its bits are f's there. -/
theorem eq_byteF {f : Nat → Bool} {q n : Nat} (hn : n < 256) (h : ∀ t, t < 8 → n.testBit t = f (8 * q + (7 - t))) : n = byteF f q := by
  apply Nat.eq_of_testBit_eq
  intro t
  rw [testBit_byteF]
  by_cases ht : t < 8
  · simp [ht, h t ht]
  · have : n.testBit t = false := Nat.testBit_lt_two_pow (Nat.lt_of_lt_of_le hn (by have := Nat.pow_le_pow_right (n := 2) (by omega) (show 8 ≤ t by omega); omega))
    simp [ht, this]
/-- Bit i of the byte row of numbers. -/
def bitsOf (zs : List Int) (i : Nat) : Bool := ((zs.getD (i / 8) 0).toNat).testBit (7 - i % 8)
theorem byteF_bitsOf (zs : List Int) (q : Nat) (h0 : 0 ≤ zs.getD q 0) (h1 : zs.getD q 0 < 256) : ((byteF (bitsOf zs) q : Nat) : Int) = zs.getD q 0 := by
  have := eq_byteF (f := bitsOf zs) (q := q) (n := (zs.getD q 0).toNat) (by omega) (fun t ht => by
    have e1 : (8 * q + (7 - t)) / 8 = q := by omega
    have e2 : 7 - (7 - t) % 8 = t := by omega
    simp [bitsOf, e1, e2])
  omega
theorem bitsOf_out (zs : List Int) (i : Nat) (h : 8 * zs.length ≤ i) : bitsOf zs i = false := by
  have : zs.length ≤ i / 8 := by omega
  simp [bitsOf, List.getD_eq_getElem?_getD, List.getElem?_eq_none this]

/-- The cells of k bytes of the bits f. -/
def cellsF (f : Nat → Bool) (k : Nat) : List Value := (List.range k).map fun q => .int .u8 (byteF f q : Nat)
theorem length_cellsF (f : Nat → Bool) (k : Nat) : (cellsF f k).length = k := by simp [cellsF]
theorem cellsF_at (f : Nat → Bool) (k q : Nat) (h : q < k) : (cellsF f k)[q]? = some (.int .u8 (byteF f q : Nat)) := by simp [cellsF, h]
theorem cellsF_congr {f g : Nat → Bool} {k : Nat} (h : ∀ i, i < 8 * k → f i = g i) : cellsF f k = cellsF g k := by
  unfold cellsF
  apply List.map_congr_left
  intro q hq
  have hq := List.mem_range.1 hq
  rw [byteF_congr (f := f) (g := g) (fun i hi => h _ (by omega))]
theorem cellsF_set {f g : Nat → Bool} {k q n : Nat} (hn : n = byteF g q) (h : ∀ i, i < 8 * k → i / 8 ≠ q → g i = f i) : (cellsF f k).set q (.int .u8 (n : Nat)) = cellsF g k := by
  apply List.ext_getElem?
  intro j
  rw [List.getElem?_set]
  by_cases hj : j < k
  · rw [cellsF_at g k j hj]
    split
    · rename_i e; subst e; simp [length_cellsF, hj, hn]
    · rename_i e
      rw [cellsF_at f k j hj, byteF_congr (f := f) (g := g) (q := j) (p := j) (fun i hi => (h _ (by omega) (by omega)).symm)]
  · have e1 : (cellsF g k)[j]? = none := List.getElem?_eq_none (by rw [length_cellsF]; omega)
    have e2 : (cellsF f k)[j]? = none := List.getElem?_eq_none (by rw [length_cellsF]; omega)
    rw [e1, e2]
    split
    · rename_i e; subst e; simp [length_cellsF, hj]
    · rfl
theorem cellsF_zero (k : Nat) : cellsF (fun _ => false) k = List.replicate k (.int .u8 0) := by
  apply List.ext_getElem?
  intro j
  by_cases hj : j < k
  · rw [cellsF_at _ k j hj]
    have : byteF (fun _ => false) j = 0 := by simp [byteF, numF]
    simp [this, hj]
  · rw [List.getElem?_eq_none (by rw [length_cellsF]; omega), List.getElem?_eq_none (by simp; omega)]
theorem cellsF_inj {f g : Nat → Bool} {k : Nat} (h : cellsF f k = cellsF g k) : ∀ i, i < 8 * k → f i = g i := fun i hi => by
  have h1 := cellsF_at f k (i / 8) (by omega)
  rw [h, cellsF_at g k (i / 8) (by omega)] at h1
  have h2 : byteF g (i / 8) = byteF f (i / 8) := by injection h1 with h1; injection h1 with _ h1; omega
  have h3 := byteF_inj h2 (i % 8) (by omega)
  have e : 8 * (i / 8) + i % 8 = i := by omega
  rw [e] at h3
  exact h3.symm
theorem cellsF_of (zs : List Int) (h : ∀ z ∈ zs, 0 ≤ z ∧ z < 256) : zs.map (Value.int .u8) = cellsF (bitsOf zs) zs.length := by
  apply List.ext_getElem?
  intro j
  by_cases hj : j < zs.length
  · have hm := h (zs.getD j 0) (by rw [List.getD_eq_getElem?_getD, List.getElem?_eq_getElem hj]; exact List.getElem_mem hj)
    rw [cellsF_at _ _ _ hj, byteF_bitsOf zs j hm.1 hm.2]
    simp [hj]
  · rw [List.getElem?_eq_none (by simp; omega), List.getElem?_eq_none (by rw [length_cellsF]; omega)]

/-- A right strand: L bits f, in n bytes; behind them nothing but noughts. -/
structure RS (L n : Nat) (f : Nat → Bool) : Prop where
  le : L ≤ 4194304
  len : n = (L + 7) / 8
  zero : ∀ i, L ≤ i → f i = false
/-- What strand.Right tells. -/
def rightB (L : Int) (n : Nat) (f : Nat → Bool) : Bool :=
  decide (0 ≤ L) && (decide (L ≤ 4194304) && (decide (n = (L.toNat + 7) / 8) && (List.range (8 * n)).all fun i => decide (i < L.toNat) || !f i))
theorem rightB_iff {L : Int} {n : Nat} {f : Nat → Bool} (hf : ∀ i, 8 * n ≤ i → f i = false) : rightB L n f = true ↔ 0 ≤ L ∧ RS L.toNat n f := by
  simp only [rightB, Bool.and_eq_true, decide_eq_true_eq, List.all_eq_true, List.mem_range, Bool.or_eq_true, Bool.not_eq_true']
  constructor
  · rintro ⟨h0, h1, h2, h3⟩
    refine ⟨h0, by omega, h2, fun i hi => ?_⟩
    by_cases h : i < 8 * n
    · rcases h3 i h with h4 | h4
      · omega
      · exact h4
    · exact hf i (by omega)
  · rintro ⟨h0, h1, h2, h3⟩
    refine ⟨h0, by omega, h2, fun i hi => ?_⟩
    by_cases h : i < L.toNat
    · exact .inl h
    · exact .inr (h3 i (by omega))
theorem RS.rightB {L n : Nat} {f : Nat → Bool} (h : RS L n f) : rightB (L : Int) n f = true := by
  have := (rightB_iff (L := (L : Int)) (n := n) (f := f) (fun i hi => h.zero i (by have := h.len; omega))).2 ⟨by omega, by simpa using h⟩
  exact this
end Go.Proofs.YtljihclpgpmfeaaDoor
/- Walks: strand.size, bit, grown, put, get, Right. -/
namespace Go.Proofs.YtljihclpgpmfeaaDoor
set_option maxRecDepth 100000
open Go.RowKit

theorem info5 : (Tryd.prog.info? 5).map (fun i => (i.zero, i.size, i.bytes)) = some (some (.int .u8 0), 1, 1) := by kernel_rfl

set_option maxHeartbeats 400000 in
theorem size_any (n : Int) (w : World) (h0 : 0 ≤ n) (h1 : n ≤ 9223372036854775800) :
    Calls Tryd.prog 56 #[.int .i64 n] w fun e w' => e = .returned (.int .i64 ((n + 7) / 8)) ∧ w = w' := by
  go_enter Tryd.func56, Tryd.ntmps56
  go_wp2
  go_ret
  exact ⟨rfl, rfl⟩

theorem bit_of (f : Nat → Bool) (p : Nat) : bits BinOp.and IntKind.u8 ((byteF f (p / 8) : Nat) / 2 ^ (7 - p % 8)) 1 = ((f p).toNat : Int) := by
  have hlt := byteF_lt f (p / 8)
  have e : ((byteF f (p / 8) : Nat) : Int) / 2 ^ (7 - p % 8) = ((byteF f (p / 8) / 2 ^ (7 - p % 8) : Nat) : Int) := by simp
  have hd : byteF f (p / 8) / 2 ^ (7 - p % 8) < 256 := Nat.lt_of_le_of_lt (Nat.div_le_self _ _) hlt
  rw [e, show (1 : Int) = ((1 : Nat) : Int) from rfl, u8_and_nat _ 1 hd (by omega), nat_mask1]
  have h := testBit_byteF f (p / 8) (7 - p % 8)
  have e2 : 8 * (p / 8) + (7 - (7 - p % 8)) = p := by omega
  have e3 : 7 - p % 8 < 8 := by omega
  rw [e2, Nat.testBit_eq_decide_div_mod_eq] at h
  simp only [e3, decide_true, Bool.true_and] at h
  rw [← h]
  have : byteF f (p / 8) / 2 ^ (7 - p % 8) % 2 < 2 := Nat.mod_lt _ (by omega)
  by_cases h1 : byteF f (p / 8) / 2 ^ (7 - p % 8) % 2 = 1
  · simp [h1]
  · have : byteF f (p / 8) / 2 ^ (7 - p % 8) % 2 = 0 := by omega
    simp [this]

set_option maxHeartbeats 400000 in
theorem bit_any (A : Option Addr) (n c : Nat) (L p : Int) (f : Nat → Bool) (w : World) (hr : Rd w A (cellsF f n)) (h0 : 0 ≤ p) (h1 : p < 8 * n) (hn : n ≤ 140737488351232) :
    Calls Tryd.prog 75 #[.agg #[.slice A n c, .int .i64 L], .int .i64 p] w fun e w' => e = .returned (.int .u8 (f p.toNat).toNat) ∧ Below w.heap.size w w' := by
  obtain ⟨k, rfl⟩ := Int.eq_ofNat_of_zero_le h0
  obtain ⟨b, off, rfl, hb, hc⟩ := hr (by rw [length_cellsF]; omega)
  have hk : k / 8 < n := by omega
  have hX := bit_of f k
  have hc1 := hc (k / 8) _ (cellsF_at f n (k / 8) hk)
  generalize byteF f (k / 8) = X at hX hc1
  have HX := Lib.hid hX
  clear hX hr
  have hc' : ∀ o, (w.alloc o).cell? ⟨b, off + k / 8, none⟩ = some (.int .u8 (X : Nat)) := fun o => (World.cell?_alloc_lt w o _ hb).trans hc1
  clear hc
  go_enter Tryd.func75, Tryd.ntmps75
  go_wp2
  go_ret
  refine ⟨?_, (Below.refl _ _).alloc (Nat.le_refl _) _⟩
  have := HX.out
  simp only [Int.toNat_natCast]
  rw [← this]
  rfl

/-- The parts of a fresh strand value. -/
def FreshS (w : World) (L : Nat) (f : Nat → Bool) (e : Ending) (w' : World) : Prop :=
  ∃ g, e = .returned (.agg #[.slice (some ⟨g, 0, none⟩) ((L + 7) / 8) ((L + 7) / 8), .int .i64 L]) ∧ w.heap.size ≤ g ∧ Own w' g 5 (cellsF f ((L + 7) / 8)) ∧ Below w.heap.size w w'

theorem length_zero_of {A : Option Addr} {n : Nat} {f : Nat → Bool} {w : World} (_ : Rd w A (cellsF f n)) : (cellsF f n).length = n := length_cellsF f n
theorem splice_grown (f : Nat → Bool) (n k : Nat) (hf : ∀ i, 8 * n ≤ i → f i = false) (h : n ≤ k) : splice (List.replicate k (Value.int .u8 0)) 0 (cellsF f n) = cellsF f k := by
  unfold splice
  apply List.ext_getElem?
  intro j
  simp only [List.take_zero, List.nil_append, length_cellsF, Nat.zero_add]
  by_cases hj : j < n
  · rw [List.getElem?_append_left (by rw [length_cellsF]; exact hj), cellsF_at f n j hj, cellsF_at f k j (by omega)]
  · rw [List.getElem?_append_right (by rw [length_cellsF]; omega), length_cellsF, List.getElem?_drop]
    by_cases hk : j < k
    · rw [cellsF_at f k j hk]
      have : byteF f j = byteF (fun _ => false) 0 := byteF_congr (fun i hi => hf _ (by omega))
      have h0 : byteF (fun _ => false) 0 = 0 := by simp [byteF, numF]
      rw [this, h0, show n + (j - n) = j by omega]
      simp [hk]
    · rw [List.getElem?_eq_none (by simp; omega), List.getElem?_eq_none (by rw [length_cellsF]; omega)]

set_option maxRecDepth 100000 in
set_option maxHeartbeats 1000000 in
theorem grown_any (A : Option Addr) (n c : Nat) (L more : Nat) (f : Nat → Bool) (w : World) (hr : Rd w A (cellsF f n)) (hf : ∀ i, 8 * n ≤ i → f i = false)
   (hL : L ≤ 4194304) (hm : more ≤ 4194304) (hn : n ≤ (L + more + 7) / 8) :
    Calls Tryd.prog 60 #[.agg #[.slice A n c, .int .i64 L], .int .i64 more] w (FreshS w (L + more) f) := by
  obtain ⟨i0, hi, hz0, hz1, hz2⟩ := info_parts info5
  obtain ⟨k, hk⟩ : ∃ k, k = (L + more + 7) / 8 := ⟨_, rfl⟩
  have hs : IntKind.i64.wrap (L + more) = L + more := IntWalk.i64_in _ (by omega)
  have h0 : (0 : Int) ≤ L + more := by omega
  have hkk : ((L : Int) + more + 7) / 8 = k := by omega
  have hmk := fun (W : World) => run_make (P := Tryd.prog) W 22 5 i0 _ Tryd.underlying22 hi hz0 .i64 .i64 k k (by omega) (by omega) (by rw [hz2]; omega) (by omega)
  rw [hz1] at hmk
  simp only [Int.toNat_natCast, Value.cells, replicate_cells, Nat.mul_one, ← cellsF_zero] at hmk
  have hnk : n ≤ k := by omega
  have hkb : k ≤ 2000000 := by omega
  have HK := Lib.hid hk
  clear hk
  go_enter Tryd.func60, Tryd.ntmps60
  go_wp2
  go_cut [5] from 5 to 17 (fun s5 W => ∃ g m, s5 = .pointer (some ⟨g, 0, none⟩) ∧ Hid (Own W g 63 [.slice (some ⟨m, 0, none⟩) k k, .int .i64 ((L : Int) + more)]) ∧ Hid (Own W m 5 (cellsF (fun _ => false) k)) ∧ w.heap.size + 2 ≤ g ∧ w.heap.size + 2 ≤ m ∧
     Hid (Own W w.heap.size 63 [.slice A n c, .int .i64 L]) ∧ Hid (Own W (w.heap.size + 1) 63 [.slice none 0 0, .int .i64 0]) ∧ Hid (Below w.heap.size w W))
  case first =>
    go_region_held3 (fun W => W.cell? ⟨w.heap.size, 0, none⟩ = some (.slice A n c) ∧ W.cell? ⟨w.heap.size, 1, none⟩ = some (.int .i64 L)) (go_keep) (first | (go_at_call 56; refine (size_any _ _ (by omega) (by omega)).mono ?_; rintro e w' ⟨rfl, rfl⟩))
    all_goals (go_wp2_with fail; go_meet; first
      | exact ⟨_, _, rfl, Own.drew ((Own.new' (by simp)).alloc _), Own.drew (Own.new' (by simp)), by omega, by omega, Own.drew ((((Own.new' (by simp)).alloc _).alloc _).alloc _), Own.drew (((Own.new' (by simp)).alloc _).alloc _), Below.drew (((((Below.refl _ _).alloc (by simp) _).alloc (by simp) _).alloc (by simp; omega) _).alloc (by simp; omega) _)⟩
      | exact ⟨_, _, rfl, Own.drew (Own.new' (by simp)), Own.drew ((Own.new' (by simp)).alloc _), by omega, by omega, Own.drew ((((Own.new' (by simp)).alloc _).alloc _).alloc _), Own.drew (((Own.new' (by simp)).alloc _).alloc _), Below.drew (((((Below.refl _ _).alloc (by simp) _).alloc (by simp) _).alloc (by simp; omega) _).alloc (by simp; omega) _)⟩)
  case rest =>
    obtain ⟨g, m, rfl, HO, HM, hg, hm, HA, HR, HB⟩ := hcut
    have hrw : Rd wc A (cellsF f n) := hr.below HB.out
    have hc0 : wc.cell? ⟨g, 0, none⟩ = some (.slice (some ⟨m, 0, none⟩) k k) := HO.out.cell 0
    have hs0 : wc.cell? ⟨w.heap.size, 0, none⟩ = some (.slice A n c) := HA.out.cell 0
    go_wp2_with (refine wpList_copy_mine rfl (.tmp 18) (.tmp 20) 22 22 rfl 5 Tryd.underlying22 (by kernel_rfl) m k k A n c rfl rfl _ _ HM.out (cellsF f n) (by rw [length_cellsF]; exact (Nat.min_eq_left hnk).symm) hrw (by rw [length_cellsF, length_cellsF]; exact hnk) cells_one_of ?_)
    intro w2 HM2 hG2
    rw [cellsF_zero, splice_grown f n k hf hnk] at HM2
    have HO2 := HO.out.grown hG2 (by intro e; injection e with e; subst e; have h1 := HO.out; have h2 := HM.out; unfold Own at h1 h2; rw [h1] at h2; injection h2 with h2; injection h2 with _ h2; exact absurd h2 (by decide))
    have HR2 := HR.out.grown hG2 (by intro e; injection e with e; omega)
    have g0 : w2.cell? ⟨g, 0, none⟩ = some (.slice (some ⟨m, 0, none⟩) k k) := HO2.cell 0
    have g1 : w2.cell? ⟨g, 1, none⟩ = some (.int .i64 ((L : Int) + more)) := HO2.cell 1
    have r0 : w2.cell? ⟨w.heap.size + 1, 0, none⟩ = some (.slice none 0 0) := HR2.cell 0
    have r1 : w2.cell? ⟨w.heap.size + 1, 1, none⟩ = some (.int .i64 0) := HR2.cell 1
    have rf : ∀ i, w2.frozen? ⟨w.heap.size + 1, i, none⟩ = false := fun i => HR2.frozen i
    have HB2 : Below w.heap.size w w2 := HB.out.trans (grown_below hG2 (by omega) HB.out.size)
    have HM3 := Lib.hid HM2
    have HR3 := Lib.hid HR2
    have HB3 := Lib.hid HB2
    clear HM2 HR2 HO2 HB2 hG2 hc0 hs0 hrw hr hf
    go_wp2
    have hF := (HR3.out.set 0 (.slice (some ⟨m, 0, none⟩) k k)).set 1 (.int .i64 ((L : Int) + more))
    have q0 := hF.cell 0
    have q1 := hF.cell 1
    simp only [List.set_cons_zero, List.set_cons_succ, List.getElem?_cons_zero, List.getElem?_cons_succ] at q0 q1
    refine bodyPost_ret (v := .agg #[.slice (some ⟨m, 0, none⟩) k k, .int .i64 ((L : Int) + more)]) (by simp [results, Tryd.results60, go_sem, q0, q1]) rfl ⟨m, ?_, by omega, ?_, ?_⟩
    · rw [← HK.out, Int.natCast_add]
    · rw [← HK.out]
      exact (HM3.out.far (by simp; omega) _).far (by simp; omega) _
    · exact (HB3.out.setCell (by simp) _).setCell (by simp) _
end Go.Proofs.YtljihclpgpmfeaaDoor
/- Walks: strand.put, get, Right. -/
namespace Go.Proofs.YtljihclpgpmfeaaDoor
set_option maxRecDepth 100000
open Go.RowKit

/-- The bits f, with w digits of n laid over from the place at on (over noughts). -/
def putF (f : Nat → Bool) (at_ n w : Nat) (i : Nat) : Bool := f i || (decide (at_ ≤ i ∧ i < at_ + w) && n.testBit (w - 1 - (i - at_)))
/-- .. the first i digits alone. -/
def putTo (f : Nat → Bool) (at_ n w k : Nat) (i : Nat) : Bool := f i || (decide (at_ ≤ i ∧ i < at_ + k) && n.testBit (w - 1 - (i - at_)))
theorem putTo_zero (f : Nat → Bool) (a n w : Nat) : putTo f a n w 0 = f := by
  funext i
  unfold putTo
  have : ¬ (a ≤ i ∧ i < a + 0) := by omega
  rw [decide_eq_false this]; simp
theorem putTo_all (f : Nat → Bool) (a n w : Nat) : putTo f a n w w = putF f a n w := rfl
theorem putTo_no {f : Nat → Bool} {a n w k : Nat} (h : n.testBit (w - 1 - k) = false) : putTo f a n w (k + 1) = putTo f a n w k := by
  funext i
  unfold putTo
  by_cases hi : i = a + k
  · subst hi
    simp [h]
  · have : (a ≤ i ∧ i < a + (k + 1)) ↔ (a ≤ i ∧ i < a + k) := by omega
    simp [this]
theorem putTo_yes {f : Nat → Bool} {a n w k : Nat} (h : n.testBit (w - 1 - k) = true) (i : Nat) : putTo f a n w (k + 1) i = (putTo f a n w k i || decide (i = a + k)) := by
  unfold putTo
  by_cases hi : i = a + k
  · subst hi
    simp [h]
  · have : (a ≤ i ∧ i < a + (k + 1)) ↔ (a ≤ i ∧ i < a + k) := by omega
    simp [this, hi]
theorem test_u64 (n s : Nat) (hn : n < 18446744073709551616) : (bits BinOp.and IntKind.u64 ((n : Int) / 2 ^ s) 1 == 1) = n.testBit s := by
  have e : (n : Int) / 2 ^ s = ((n / 2 ^ s : Nat) : Int) := by simp
  have hd : n / 2 ^ s < 18446744073709551616 := Nat.lt_of_le_of_lt (Nat.div_le_self _ _) hn
  rw [e, show (1 : Int) = ((1 : Nat) : Int) from rfl, u64_and_nat _ 1 hd (by omega), nat_mask1, Nat.testBit_eq_decide_div_mod_eq]
  have : n / 2 ^ s % 2 < 2 := Nat.mod_lt _ (by omega)
  by_cases h1 : n / 2 ^ s % 2 = 1
  · simp [h1]
  · have : n / 2 ^ s % 2 = 0 := by omega
    simp [this]
theorem or_byte (f g : Nat → Bool) (p : Nat) (h : ∀ i, i / 8 = p / 8 → g i = (f i || decide (i = p))) :
    bits BinOp.or IntKind.u8 ((byteF f (p / 8) : Nat) : Int) (2 ^ (7 - p % 8) % 256) = ((byteF g (p / 8) : Nat) : Int) := by
  have hr : p % 8 < 8 := Nat.mod_lt _ (by omega)
  have hp : (2 : Nat) ^ (7 - p % 8) < 256 := Nat.lt_of_lt_of_le (Nat.pow_lt_pow_right (by omega) (show 7 - p % 8 < 8 by omega)) (by omega)
  have e : ((2 : Int) ^ (7 - p % 8) % 256) = ((2 ^ (7 - p % 8) : Nat) : Int) := by
    have : ((2 ^ (7 - p % 8) : Nat) : Int) = (2 : Int) ^ (7 - p % 8) := by simp
    rw [← this]
    generalize 2 ^ (7 - p % 8) = P at hp
    omega
  rw [e, u8_or_nat _ _ (byteF_lt f _) hp]
  congr 1
  refine eq_byteF (Nat.or_lt_two_pow (n := 8) (byteF_lt f _) hp) (fun t ht => ?_)
  rw [Nat.testBit_or, testBit_byteF, Nat.testBit_two_pow, h _ (by omega)]
  have e1 : (7 - p % 8 = t) ↔ (8 * (p / 8) + (7 - t) = p) := by omega
  simp [ht, e1]

set_option maxRecDepth 100000 in
set_option maxHeartbeats 1000000 in
theorem put_any (g k : Nat) (L : Int) (f : Nat → Bool) (at_ n wd : Nat) (w : World) (hg : Own w g 5 (cellsF f k)) (hk : k ≤ 1000000) (hw : wd ≤ 64) (hat : at_ + wd ≤ 8 * k) (hn : n < 18446744073709551616) :
    Calls Tryd.prog 61 #[.agg #[.slice (some ⟨g, 0, none⟩) k k, .int .i64 L], .int .i64 at_, .int .u64 n, .int .i64 wd] w fun e w' =>
      e = .returned (.tuple #[]) ∧ Own w' g 5 (cellsF (putF f at_ n wd) k) ∧ w.grownBy w' (some g) := by
  have hgs := hg.lt
  have HG0 := Lib.hid hg
  have HN := Lib.hid hn
  clear hg hn
  go_enter Tryd.func61, Tryd.ntmps61
  go_wp2
  go_loopw [8, 10] (fun _ v wr => ∃ i : Nat, i ≤ wd ∧ v = .int .i64 i ∧ Hid (Own wr g 5 (cellsF (putTo f at_ n wd i) k)) ∧ wr.cell? ⟨w.heap.size, 0, none⟩ = some (.slice (some ⟨g, 0, none⟩) k k) ∧ Hid (w.grownBy wr (some g)))
     (fun _ v _ => wd - (intOf v).toNat)
  case atStart => exact ⟨0, by omega, rfl, by rw [putTo_zero]; exact HG0.out.alloc _, by simp, grown_of_below ((Below.refl _ _).alloc (by simp) _)⟩
  case round =>
    obtain ⟨i, hi, rfl, HG, hc, HB⟩ := hrel
    by_cases hlt : i < wd
    · have hcell : wr.cell? ⟨g, (at_ + i) / 8, none⟩ = some (.int .u8 (byteF (putTo f at_ n wd i) ((at_ + i) / 8) : Nat)) := (HG.out.cell _).trans (cellsF_at _ _ _ (by omega))
      have hfr : wr.frozen? ⟨g, (at_ + i) / 8, none⟩ = false := HG.out.frozen _
      have ht := test_u64 n (wd - 1 - i) HN.out
      by_cases hb : n.testBit (wd - 1 - i) = true
      · have hor := Lib.hid (or_byte (putTo f at_ n wd i) (putTo f at_ n wd (i + 1)) (at_ + i) (fun j _ => putTo_yes hb j))
        have HG1 := Lib.hid (cellsF_set (f := putTo f at_ n wd i) (g := putTo f at_ n wd (i + 1)) (k := k) (q := (at_ + i) / 8) rfl (fun j _ hj => by rw [putTo_yes hb j]; have : ¬ j = at_ + i := (fun e => hj (by rw [e])); simp [this]))
        generalize byteF (putTo f at_ n wd i) ((at_ + i) / 8) = X at hcell hor
        rw [hb] at ht
        clear hb
        go_wp2
        refine region_tail 16 (by kernel_rfl) (by kernel_rfl) ?_
        simp only [List.take_succ_cons, List.take_zero, List.drop_succ_cons, List.drop_zero]
        repeat (refine still_step rfl rfl (fun K hK => ?_); go_wp2)
        refine wpStill_nil ?_
        go_wp2
        go_roundw
        case rel =>
          rw [hor.out]
          exact ⟨i + 1, by omega, by go_num, by rw [← HG1.out]; exact (HG.out.set _ _).drew, by
            rw [World.cell?_drew, World.cell?_setCell_other _ _ _ _ (by intro e; injection e with e; omega)]; exact hc, grown_drew (grown_set HB.out (.inl rfl) _)⟩
        case measure => simp [intOf]; omega
      · simp only [Bool.not_eq_true] at hb
        have hno := Lib.hid (putTo_no (f := f) (a := at_) hb)
        rw [hb] at ht
        clear hb
        go_wp2
        go_roundw
        case rel => exact ⟨i + 1, by omega, by go_num, by rw [hno.out]; exact HG.out, hc, HB.out⟩
        case measure => simp [intOf]; omega
    · obtain rfl : i = wd := by omega
      go_wp2
      go_end0
      exact ⟨rfl, HG.out, HB.out⟩
end Go.Proofs.YtljihclpgpmfeaaDoor
/- Walks: strand.get, Right. -/
namespace Go.Proofs.YtljihclpgpmfeaaDoor
set_option maxRecDepth 100000
open Go.RowKit

theorem or_u64 (N : Nat) (b : Bool) (hN : N < 9223372036854775808) : bits BinOp.or IntKind.u64 (IntKind.u64.wrap ((N : Int) * 2)) (IntKind.u64.wrap (b.toNat : Int)) = ((2 * N + b.toNat : Nat) : Int) := by
  have hb : b.toNat ≤ 1 := by cases b <;> simp
  have e1 : IntKind.u64.wrap ((N : Int) * 2) = ((2 * N : Nat) : Int) := by rw [IntKind.wrap_u64]; omega
  have e2 : IntKind.u64.wrap (b.toNat : Int) = (b.toNat : Int) := by rw [IntKind.wrap_u64]; omega
  rw [e1, e2, u64_or_nat _ _ (by omega) (by omega), nat_join 1 (2 * N) b.toNat (by omega) (by omega)]
set_option maxRecDepth 100000 in
set_option maxHeartbeats 1000000 in
theorem get_any (A : Option Addr) (n c : Nat) (L p : Int) (wd : Nat) (f : Nat → Bool) (w : World) (hr : Rd w A (cellsF f n)) (h0 : 0 ≤ p) (h1 : p + wd ≤ 8 * n) (hn : n ≤ 140737488351232) (hw : wd ≤ 64) :
    Calls Tryd.prog 76 #[.agg #[.slice A n c, .int .i64 L], .int .i64 p, .int .i64 wd] w fun e w' => e = .returned (.int .u64 (numF f p.toNat wd : Nat)) ∧ Below w.heap.size w w' := by
  obtain ⟨q, rfl⟩ := Int.eq_ofNat_of_zero_le h0
  simp only [Int.toNat_natCast]
  have HR := Lib.hid hr
  clear hr
  go_enter Tryd.func76, Tryd.ntmps76
  go_wp2
  go_loopw [7, 8, 10] (fun u _ v wr => ∃ i : Nat, i ≤ wd ∧ v = .int .i64 i ∧ u = .int .u64 (numF f q i : Nat) ∧ Hid (Below w.heap.size w wr) ∧ wr.cell? ⟨w.heap.size, 0, none⟩ = some (.slice A n c) ∧ wr.cell? ⟨w.heap.size, 1, none⟩ = some (.int .i64 L) ∧ w.heap.size < wr.heap.size)
     (fun _ _ v _ => wd - (intOf v).toNat)
  case atStart => exact ⟨0, by omega, rfl, rfl, (Below.refl _ _).alloc (by simp) _, by simp, by simp, by simp⟩
  case round =>
    obtain ⟨i, hi, rfl, rfl, HB, c0, c1, hsz⟩ := hrel
    by_cases hlt : i < wd
    · have hN := numF_lt f q i
      generalize hNe : numF f q i = N at hN
      have HN := Lib.hid hNe
      clear hNe
      go_wp2_with (go_at_call 75; refine (bit_any A n c L _ f _ (HR.out.below HB.out) (by omega) (by omega) hn).mono ?_; rintro e w1 ⟨rfl, hb1⟩; obtain ⟨k0, k1⟩ := below_cells hb1; have hs1 := hb1.size; have HB1 := Lib.hid hb1; clear hb1)
      go_roundw
      case rel =>
        refine ⟨i + 1, by omega, by go_num, ?_, HB.out.trans (HB1.out.mono (by omega)), by rw [k0 _ _ hsz]; exact c0, by rw [k0 _ _ hsz]; exact c1, by omega⟩
        rw [or_u64 N (f (q + i)) (by have := Nat.pow_le_pow_right (n := 2) (by omega) (show i ≤ 63 by omega); omega), numF, HN.out]
      case measure => simp [intOf]; omega
    · obtain rfl : i = wd := by omega
      go_wp2
      go_ret
      exact ⟨rfl, HB.out⟩
theorem right_lt {L : Int} {n : Nat} {f : Nat → Bool} (h : L < 0) : rightB L n f = false := by simp [rightB]; omega
theorem right_gt {L : Int} {n : Nat} {f : Nat → Bool} (h : 4194304 < L) : rightB L n f = false := by simp [rightB]; omega
theorem right_len {L : Int} {n : Nat} {f : Nat → Bool} (h0 : 0 ≤ L) (h : ¬ (n : Int) = (L + 7) / 8) : rightB L n f = false := by
  have : ¬ n = (L.toNat + 7) / 8 := by omega
  simp [rightB, this]
theorem right_even {L n : Nat} {f : Nat → Bool} (hf : ∀ i, 8 * n ≤ i → f i = false) (h : L ≤ 4194304) (hn : n = (L + 7) / 8) (he : L % 8 = 0) : rightB (L : Int) n f = true :=
  RS.rightB ⟨h, hn, fun i hi => hf i (by omega)⟩
theorem last_byte {L n : Nat} {f : Nat → Bool} (hf : ∀ i, 8 * n ≤ i → f i = false) (h : L ≤ 4194304) (hn : n = (L + 7) / 8) (he : L % 8 ≠ 0) :
    (((byteF f (n - 1) : Nat) : Int) * 2 ^ (L % 8) % 256 == 0) = rightB (L : Int) n f := by
  have e : ((byteF f (n - 1) : Nat) : Int) * 2 ^ (L % 8) % 256 = ((byteF f (n - 1) * 2 ^ (L % 8) % 256 : Nat) : Int) := by simp
  have key : byteF f (n - 1) * 2 ^ (L % 8) % 256 = 0 ↔ ∀ i, L ≤ i → f i = false := by
    constructor
    · intro h0 i hi
      by_cases hi8 : i < 8 * n
      · have h1 : (byteF f (n - 1) * 2 ^ (L % 8) % 2 ^ 8).testBit (7 - i % 8 + L % 8) = false := by
          rw [show (2 : Nat) ^ 8 = 256 from rfl, h0]; simp
        rw [Nat.testBit_mod_two_pow, Nat.testBit_mul_two_pow] at h1
        have e1 : 7 - i % 8 + L % 8 < 8 := by omega
        have e2 : L % 8 ≤ 7 - i % 8 + L % 8 := by omega
        have e3 : 7 - i % 8 + L % 8 - L % 8 = 7 - i % 8 := by omega
        have e4 : 7 - i % 8 < 8 := by omega
        have e5 : 8 * (n - 1) + (7 - (7 - i % 8)) = i := by omega
        rw [e3, testBit_byteF, e5] at h1
        simpa [e1, e2, e4] using h1
      · exact hf i (by omega)
    · intro hz
      apply Nat.eq_of_testBit_eq
      intro t
      rw [show 256 = 2 ^ 8 from rfl, Nat.testBit_mod_two_pow, Nat.testBit_mul_two_pow, Nat.zero_testBit, testBit_byteF]
      by_cases h1 : t < 8
      · by_cases h2 : L % 8 ≤ t
        · rw [hz _ (by omega)]; simp
        · simp [h2]
      · simp [h1]
  rw [e]
  have hb : (((byteF f (n - 1) * 2 ^ (L % 8) % 256 : Nat) : Int) == 0) = decide (byteF f (n - 1) * 2 ^ (L % 8) % 256 = 0) := by
    by_cases h0 : byteF f (n - 1) * 2 ^ (L % 8) % 256 = 0
    · simp [h0]
    · rw [decide_eq_false h0, beq_eq_false_iff_ne]; omega
  rw [hb, Bool.eq_iff_iff, decide_eq_true_iff, key, rightB_iff hf]
  constructor
  · intro hz; exact ⟨by omega, ⟨by simpa using h, by simpa using hn, by simpa using hz⟩⟩
  · rintro ⟨_, hs⟩; simpa using hs.zero

set_option maxRecDepth 100000 in
set_option maxHeartbeats 2000000 in
theorem right_any (A : Option Addr) (n c : Nat) (L : Int) (f : Nat → Bool) (w : World) (hr : Rd w A (cellsF f n)) (hf : ∀ i, 8 * n ≤ i → f i = false) (hn : n ≤ 140737488351232)
   (hL0 : -9223372036854775808 ≤ L) (hL1 : L ≤ 9223372036854775807) :
    Calls Tryd.prog 58 #[.agg #[.slice A n c, .int .i64 L]] w fun e w' => e = .returned (.bool (rightB L n f)) ∧ Below w.heap.size w w' := by
  by_cases h1 : L < 0
  · have hR := Lib.hid (right_lt (n := n) (f := f) h1)
    clear hr hf
    go_enter Tryd.func58, Tryd.ntmps58
    go_wp2
    go_quiet (fail)
    go_wp2
    go_ret
    exact ⟨by rw [hR.out]; rfl, below_drewN ((Below.refl _ _).alloc (by simp) _) _⟩
  by_cases h2 : 4194304 < L
  · have hR := Lib.hid (right_gt (n := n) (f := f) h2)
    clear hr hf
    go_enter Tryd.func58, Tryd.ntmps58
    go_wp2
    go_quiet (fail)
    go_wp2
    go_ret
    exact ⟨by rw [hR.out]; rfl, below_drewN ((Below.refl _ _).alloc (by simp) _) _⟩
  have h1' : decide (L < 0) = false := by simpa using h1
  have h2' : decide (4194304 < L) = false := by simpa using h2
  by_cases h3 : (n : Int) = (L + 7) / 8
  · obtain ⟨l, rfl⟩ := Int.eq_ofNat_of_zero_le (show 0 ≤ L by omega)
    have h3' : (((n : Int)) != ((l : Int) + 7) / 8) = false := by simpa using h3
    have hn2 : n = (l + 7) / 8 := by omega
    by_cases h4 : l % 8 = 0
    · have hR := Lib.hid (right_even hf (by omega) hn2 h4)
      have h4' : ((l : Int) % 8 != 0) = false := by simp; omega
      clear hr hf h3 hn2 h4
      go_enter Tryd.func58, Tryd.ntmps58
      go_wp2
      go_quiet ((go_at_call 56; exact Calls.quiet_of_same ((size_any _ _ (by omega) (by omega)).mono fun _ _ ⟨h1, h2⟩ => ⟨h1, h2.symm⟩)))
      go_wp2
      go_ret
      exact ⟨by rw [hR.out]; rfl, below_drewN ((Below.refl _ _).alloc (by simp) _) _⟩
    · have hR := Lib.hid (last_byte hf (by omega) hn2 h4)
      have h4' : ((l : Int) % 8 != 0) = true := by simp; omega
      obtain ⟨b, off, rfl, hb, hc⟩ := hr (by rw [length_cellsF]; omega)
      have hc1 := hc (n - 1) _ (cellsF_at f n (n - 1) (by omega))
      have hn1 : 1 ≤ n := by omega
      clear hr hf h3 hn2 h4 hc
      generalize byteF f (n - 1) = X at hR hc1
      have hc' : ∀ o k, ((w.alloc o).drewN k).cell? ⟨b, off + (n - 1), none⟩ = some (.int .u8 (X : Nat)) := fun o k => (World.cell?_alloc_lt w o _ hb).trans hc1
      go_enter Tryd.func58, Tryd.ntmps58
      go_wp2
      go_quiet ((go_at_call 56; exact Calls.quiet_of_same ((size_any _ _ (by omega) (by omega)).mono fun _ _ ⟨h1, h2⟩ => ⟨h1, h2.symm⟩)))
      go_wp2
      go_ret
      exact ⟨by rw [← hR.out]; rfl, below_drewN ((Below.refl _ _).alloc (by simp) _) _⟩
  · have hR := Lib.hid (right_len (f := f) (by omega) h3)
    have h3' : (((n : Int)) != (L + 7) / 8) = true := by simpa using h3
    clear hr hf h3
    go_enter Tryd.func58, Tryd.ntmps58
    go_wp2
    go_quiet ((go_at_call 56; exact Calls.quiet_of_same ((size_any _ _ (by omega) (by omega)).mono fun _ _ ⟨h1, h2⟩ => ⟨h1, h2.symm⟩)))
    go_wp2
    go_ret
    exact ⟨by rw [hR.out]; rfl, below_drewN ((Below.refl _ _).alloc (by simp) _) _⟩
end Go.Proofs.YtljihclpgpmfeaaDoor
/- Walk: strand.Join. -/
namespace Go.Proofs.YtljihclpgpmfeaaDoor
set_option maxRecDepth 100000
open Go.RowKit

/-- An error: no strand. -/
def BadS (w : World) (k : Int) (e : Ending) (w' : World) : Prop :=
  e = .returned (.tuple #[.agg #[.slice none 0 0, .int .i64 0], .int .i64 k]) ∧ Below w.heap.size w w'
/-- A fresh strand of L bits f, and no error. -/
def GoodS (w : World) (L : Nat) (f : Nat → Bool) (e : Ending) (w' : World) : Prop :=
  ∃ g, e = .returned (.tuple #[.agg #[.slice (some ⟨g, 0, none⟩) ((L + 7) / 8) ((L + 7) / 8), .int .i64 L], .int .i64 0]) ∧ w.heap.size ≤ g ∧ Own w' g 5 (cellsF f ((L + 7) / 8)) ∧ Below w.heap.size w w'

end Go.Proofs.YtljihclpgpmfeaaDoor
