/- Plain facts on bits: bytes as functions from places to bits, numbers read off them, and the list of a row's cells. No program is named. -/
import GoSem.Core.World
namespace Go.Proofs.YtljihclpgpmfeaaDoor
set_option maxRecDepth 100000

/-- The number whose binary digits are f at, f (at + 1), .. (k of them, the highest first). -/
def numF (f : Nat → Bool) (at_ : Nat) : Nat → Nat
  | 0 => 0
  | k + 1 => 2 * numF f at_ k + (f (at_ + k)).toNat
theorem numF_lt (f : Nat → Bool) (a : Nat) : ∀ k, numF f a k < 2 ^ k
  | 0 => by simp [numF]
  | k + 1 => by
    have := numF_lt f a k
    have hb : (f (a + k)).toNat ≤ 1 := by cases f (a + k) <;> simp
    rw [numF, Nat.pow_succ]; omega
theorem testBit_two_mul_add (x : Nat) (b : Bool) (t : Nat) : (2 * x + b.toNat).testBit (t + 1) = x.testBit t := by
  rw [Nat.testBit_succ]
  congr 1
  cases b <;> simp <;> omega
theorem testBit_two_mul_add_zero (x : Nat) (b : Bool) : (2 * x + b.toNat).testBit 0 = b := by
  rw [Nat.testBit_zero]
  cases b <;> simp <;> omega
theorem testBit_numF (f : Nat → Bool) (a : Nat) : ∀ k t, (numF f a k).testBit t = (decide (t < k) && f (a + (k - 1 - t)))
  | 0, t => by simp [numF]
  | k + 1, 0 => by rw [numF, testBit_two_mul_add_zero]; simp
  | k + 1, t + 1 => by
    rw [numF, testBit_two_mul_add, testBit_numF f a k t]
    have e : k - 1 - t = k - (t + 1) := by omega
    simp [e]
theorem numF_congr {f g : Nat → Bool} {a b : Nat} : ∀ {k : Nat}, (∀ i, i < k → f (a + i) = g (b + i)) → numF f a k = numF g b k
  | 0, _ => rfl
  | k + 1, h => by rw [numF, numF, numF_congr (k := k) (fun i hi => h i (by omega)), h k (by omega)]
theorem numF_testBit (n w : Nat) (hn : n < 2 ^ w) : numF (fun i => n.testBit (w - 1 - i)) 0 w = n := by
  apply Nat.eq_of_testBit_eq
  intro t
  rw [testBit_numF]
  by_cases ht : t < w
  · have e : w - 1 - (w - 1 - t) = t := by omega
    simp [ht, e]
  · have : n.testBit t = false := Nat.testBit_lt_two_pow (Nat.lt_of_lt_of_le hn (Nat.pow_le_pow_right (by omega) (by omega)))
    simp [ht, this]
/-- Byte q of the bits f. -/
def byteF (f : Nat → Bool) (q : Nat) : Nat := numF f (8 * q) 8
theorem byteF_lt (f : Nat → Bool) (q : Nat) : byteF f q < 256 := numF_lt f (8 * q) 8
theorem testBit_byteF (f : Nat → Bool) (q t : Nat) : (byteF f q).testBit t = (decide (t < 8) && f (8 * q + (7 - t))) := testBit_numF f (8 * q) 8 t
theorem byteF_congr {f g : Nat → Bool} {q p : Nat} (h : ∀ i, i < 8 → f (8 * q + i) = g (8 * p + i)) : byteF f q = byteF g p := numF_congr h
theorem byteF_inj {f g : Nat → Bool} {q p : Nat} (h : byteF f q = byteF g p) : ∀ i, i < 8 → f (8 * q + i) = g (8 * p + i) := fun i hi => by
  have h1 := testBit_byteF f q (7 - i)
  have h2 := testBit_byteF g p (7 - i)
  rw [h, h2] at h1
  have e : 7 - (7 - i) = i := by omega
  have e2 : 7 - i < 8 := by omega
  simp [e, e2] at h1
  exact h1.symm
/-- A number below 256 is byte q of f, if its bits are f's there. -/
theorem eq_byteF {f : Nat → Bool} {q n : Nat} (hn : n < 256) (h : ∀ t, t < 8 → n.testBit t = f (8 * q + (7 - t))) : n = byteF f q := by
  apply Nat.eq_of_testBit_eq
  intro t
  rw [testBit_byteF]
  by_cases ht : t < 8
  · simp [ht, h t ht]
  · have : n.testBit t = false := Nat.testBit_lt_two_pow (Nat.lt_of_lt_of_le hn (by have := Nat.pow_le_pow_right (n := 2) (by omega) (show 8 ≤ t by omega); omega))
    simp [ht, this]
/-- Bit i of the byte row of numbers. -/
def bitsOf (zs : List Int) (i : Nat) : Bool := ((zs.getD (i / 8) 0).toNat).testBit (7 - i % 8)
theorem byteF_bitsOf (zs : List Int) (q : Nat) (h0 : 0 ≤ zs.getD q 0) (h1 : zs.getD q 0 < 256) : ((byteF (bitsOf zs) q : Nat) : Int) = zs.getD q 0 := by
  have := eq_byteF (f := bitsOf zs) (q := q) (n := (zs.getD q 0).toNat) (by omega) (fun t ht => by
    have e1 : (8 * q + (7 - t)) / 8 = q := by omega
    have e2 : 7 - (7 - t) % 8 = t := by omega
    simp [bitsOf, e1, e2])
  omega
theorem bitsOf_out (zs : List Int) (i : Nat) (h : 8 * zs.length ≤ i) : bitsOf zs i = false := by
  have : zs.length ≤ i / 8 := by omega
  simp [bitsOf, List.getD_eq_getElem?_getD, List.getElem?_eq_none this]

/-- The cells of k bytes of the bits f. -/
def cellsF (f : Nat → Bool) (k : Nat) : List Value := (List.range k).map fun q => .int .u8 (byteF f q : Nat)
theorem length_cellsF (f : Nat → Bool) (k : Nat) : (cellsF f k).length = k := by simp [cellsF]
theorem cellsF_at (f : Nat → Bool) (k q : Nat) (h : q < k) : (cellsF f k)[q]? = some (.int .u8 (byteF f q : Nat)) := by simp [cellsF, h]
theorem cellsF_congr {f g : Nat → Bool} {k : Nat} (h : ∀ i, i < 8 * k → f i = g i) : cellsF f k = cellsF g k := by
  unfold cellsF
  apply List.map_congr_left
  intro q hq
  have hq := List.mem_range.1 hq
  rw [byteF_congr (f := f) (g := g) (fun i hi => h _ (by omega))]
theorem cellsF_set {f g : Nat → Bool} {k q n : Nat} (hn : n = byteF g q) (h : ∀ i, i < 8 * k → i / 8 ≠ q → g i = f i) : (cellsF f k).set q (.int .u8 (n : Nat)) = cellsF g k := by
  apply List.ext_getElem?
  intro j
  rw [List.getElem?_set]
  by_cases hj : j < k
  · rw [cellsF_at g k j hj]
    split
    · rename_i e; subst e; simp [length_cellsF, hj, hn]
    · rename_i e
      rw [cellsF_at f k j hj, byteF_congr (f := f) (g := g) (q := j) (p := j) (fun i hi => (h _ (by omega) (by omega)).symm)]
  · have e1 : (cellsF g k)[j]? = none := List.getElem?_eq_none (by rw [length_cellsF]; omega)
    have e2 : (cellsF f k)[j]? = none := List.getElem?_eq_none (by rw [length_cellsF]; omega)
    rw [e1, e2]
    split
    · rename_i e; subst e; simp [length_cellsF, hj]
    · rfl
theorem cellsF_zero (k : Nat) : cellsF (fun _ => false) k = List.replicate k (.int .u8 0) := by
  apply List.ext_getElem?
  intro j
  by_cases hj : j < k
  · rw [cellsF_at _ k j hj]
    have : byteF (fun _ => false) j = 0 := by simp [byteF, numF]
    simp [this, hj]
  · rw [List.getElem?_eq_none (by rw [length_cellsF]; omega), List.getElem?_eq_none (by simp; omega)]
theorem cellsF_inj {f g : Nat → Bool} {k : Nat} (h : cellsF f k = cellsF g k) : ∀ i, i < 8 * k → f i = g i := fun i hi => by
  have h1 := cellsF_at f k (i / 8) (by omega)
  rw [h, cellsF_at g k (i / 8) (by omega)] at h1
  have h2 : byteF g (i / 8) = byteF f (i / 8) := by injection h1 with h1; injection h1 with _ h1; omega
  have h3 := byteF_inj h2 (i % 8) (by omega)
  have e : 8 * (i / 8) + i % 8 = i := by omega
  rw [e] at h3
  exact h3.symm
theorem cellsF_of (zs : List Int) (h : ∀ z ∈ zs, 0 ≤ z ∧ z < 256) : zs.map (Value.int .u8) = cellsF (bitsOf zs) zs.length := by
  apply List.ext_getElem?
  intro j
  by_cases hj : j < zs.length
  · have hm := h (zs.getD j 0) (by rw [List.getD_eq_getElem?_getD, List.getElem?_eq_getElem hj]; exact List.getElem_mem hj)
    rw [cellsF_at _ _ _ hj, byteF_bitsOf zs j hm.1 hm.2]
    simp [hj]
  · rw [List.getElem?_eq_none (by simp; omega), List.getElem?_eq_none (by rw [length_cellsF]; omega)]

/-- A right strand: L bits f, in n bytes; behind them nothing but noughts. -/
structure RS (L n : Nat) (f : Nat → Bool) : Prop where
  le : L ≤ 4194304
  len : n = (L + 7) / 8
  zero : ∀ i, L ≤ i → f i = false
/-- What strand.Right tells. -/
def rightB (L : Int) (n : Nat) (f : Nat → Bool) : Bool :=
  decide (0 ≤ L) && (decide (L ≤ 4194304) && (decide (n = (L.toNat + 7) / 8) && (List.range (8 * n)).all fun i => decide (i < L.toNat) || !f i))
theorem rightB_iff {L : Int} {n : Nat} {f : Nat → Bool} (hf : ∀ i, 8 * n ≤ i → f i = false) : rightB L n f = true ↔ 0 ≤ L ∧ RS L.toNat n f := by
  simp only [rightB, Bool.and_eq_true, decide_eq_true_eq, List.all_eq_true, List.mem_range, Bool.or_eq_true, Bool.not_eq_true']
  constructor
  · rintro ⟨h0, h1, h2, h3⟩
    refine ⟨h0, by omega, h2, fun i hi => ?_⟩
    by_cases h : i < 8 * n
    · rcases h3 i h with h4 | h4
      · omega
      · exact h4
    · exact hf i (by omega)
  · rintro ⟨h0, h1, h2, h3⟩
    refine ⟨h0, by omega, h2, fun i hi => ?_⟩
    by_cases h : i < L.toNat
    · exact .inl h
    · exact .inr (h3 i (by omega))
theorem RS.rightB {L n : Nat} {f : Nat → Bool} (h : RS L n f) : rightB (L : Int) n f = true := by
  have := (rightB_iff (L := (L : Int)) (n := n) (f := f) (fun i hi => h.zero i (by have := h.len; omega))).2 ⟨by omega, by simpa using h⟩
  exact this
end Go.Proofs.YtljihclpgpmfeaaDoor
