/- Plain facts: the least turn of a circle, by two places that are held against each other. No program is named. -/
import Derived.Test.YtmfeponanjgapaaPer
namespace Go.Proofs.Ytmfeponanjgapaa

/-- The turn from p on is less than the one from q on. -/
def Lt (f : Nat → Int) (n p q : Nat) : Prop := ∃ t, t < n ∧ (∀ u, u < t → f (p + u) = f (q + u)) ∧ f (p + t) < f (q + t)
def Eqv (f : Nat → Int) (n p q : Nat) : Prop := ∀ t, t < n → f (p + t) = f (q + t)
section
variable {f : Nat → Int} {n : Nat}
theorem Lt.irrefl {p : Nat} : ¬ Lt f n p p := fun ⟨_, _, _, h⟩ => by omega
theorem Lt.trans {p q s : Nat} (h : Lt f n p q) (k : Lt f n q s) : Lt f n p s := by
  obtain ⟨t, h1, h2, h3⟩ := h
  obtain ⟨u, k1, k2, k3⟩ := k
  rcases Nat.lt_trichotomy t u with hlt | heq | hgt
  · exact ⟨t, h1, fun x hx => (h2 x hx).trans (k2 x (by omega)), by have := k2 t hlt; omega⟩
  · subst heq
    exact ⟨t, h1, fun x hx => (h2 x hx).trans (k2 x hx), by omega⟩
  · exact ⟨u, k1, fun x hx => (h2 x (by omega)).trans (k2 x hx), by have := h2 u hgt; omega⟩
theorem tri (f : Nat → Int) (n p q : Nat) : Lt f n p q ∨ Eqv f n p q ∨ Lt f n q p := by
  induction n with
  | zero => exact .inr (.inl fun t h => by omega)
  | succ n ih =>
    rcases ih with ⟨t, h1, h2, h3⟩ | h | ⟨t, h1, h2, h3⟩
    · exact .inl ⟨t, by omega, h2, h3⟩
    · rcases Int.lt_trichotomy (f (p + n)) (f (q + n)) with h1 | h1 | h1
      · exact .inl ⟨n, by omega, h, h1⟩
      · refine .inr (.inl fun t ht => ?_)
        rcases Nat.lt_or_ge t n with h2 | h2
        · exact h t h2
        · rw [show t = n by omega]; exact h1
      · exact .inr (.inr ⟨n, by omega, fun u hu => (h u hu).symm, h1⟩)
    · exact .inr (.inr ⟨t, by omega, h2, h3⟩)
theorem Eqv.lt_left {p q s : Nat} (h : Eqv f n p q) (k : Lt f n q s) : Lt f n p s := by
  obtain ⟨t, h1, h2, h3⟩ := k
  exact ⟨t, h1, fun u hu => (h u (by omega)).trans (h2 u hu), by have := h t h1; omega⟩
theorem Eqv.lt_right {p q s : Nat} (h : Eqv f n p q) (k : Lt f n s p) : Lt f n s q := by
  obtain ⟨t, h1, h2, h3⟩ := k
  exact ⟨t, h1, fun u hu => (h2 u hu).trans (h u (by omega)), by have := h t h1; omega⟩
theorem Eqv.symm {p q : Nat} (h : Eqv f n p q) : Eqv f n q p := fun t ht => (h t ht).symm
/-- No turn is less. -/
def Min (f : Nat → Int) (n p : Nat) : Prop := ∀ q, ¬ Lt f n q p
def NotMin (f : Nat → Int) (n p : Nat) : Prop := ∃ q, Lt f n q p
theorem lt_mod (hf : FP f n) (p q : Nat) : Lt f n (p % n) q ↔ Lt f n p q := by
  have e : ∀ u, f (p % n + u) = f (p + u) := fun u => by
    have h := hf.mul (p / n) (p % n + u)
    rw [h]
    congr 1
    have := Nat.div_add_mod p n
    rw [Nat.mul_comm] at this
    omega
  unfold Lt
  simp only [e]
theorem exists_min (hn : 0 < n) (hf : FP f n) : ∃ p, p < n ∧ Min f n p := by
  have key : ∀ k, 0 < k → k ≤ n → ∃ p, p < k ∧ ∀ q, q < k → ¬ Lt f n q p := by
    intro k
    induction k with
    | zero => intro h; omega
    | succ k ih =>
      intro _ hk
      rcases Nat.eq_zero_or_pos k with h0 | h0
      · subst h0
        exact ⟨0, by omega, fun q hq => by rw [show q = 0 by omega]; exact Lt.irrefl⟩
      · obtain ⟨p, hp, hm⟩ := ih h0 (by omega)
        by_cases h : Lt f n k p
        · refine ⟨k, by omega, fun q hq hlt => ?_⟩
          rcases Nat.lt_or_ge q k with h1 | h1
          · exact hm q h1 (hlt.trans h)
          · rw [show q = k by omega] at hlt; exact Lt.irrefl hlt
        · refine ⟨p, by omega, fun q hq => ?_⟩
          rcases Nat.lt_or_ge q k with h1 | h1
          · exact hm q h1
          · rw [show q = k by omega]; exact h
  obtain ⟨p, hp, hm⟩ := key n hn (Nat.le_refl _)
  exact ⟨p, hp, fun q hq => hm (q % n) (Nat.mod_lt _ hn) ((lt_mod hf q p).2 hq)⟩
/-- What holds of the two places, and of how far they are held against each other. -/
structure TwoP (f : Nat → Int) (n i j same : Nat) : Prop where
  ne : i ≠ j
  one : i < n ∨ j < n
  le : same ≤ n
  bi : i ≤ 2 * n
  bj : j ≤ 2 * n
  eq : ∀ u, u < same → f (i + u) = f (j + u)
  ni : ∀ p, p < i → p ≠ j → NotMin f n p
  nj : ∀ p, p < j → p ≠ i → NotMin f n p
theorem TwoP.start (hn : 0 < n) : TwoP f n 0 1 0 := ⟨by omega, .inl hn, by omega, by omega, by omega, fun u hu => by omega, fun p hp => by omega, fun p hp h => by omega⟩
theorem TwoP.on {i j same : Nat} (h : TwoP f n i j same) (hs : same < n) (e : f (i + same) = f (j + same)) : TwoP f n i j (same + 1) :=
  { h with
    le := by omega
    eq := fun u hu => by
      rcases Nat.lt_or_ge u same with h1 | h1
      · exact h.eq u h1
      · rw [show u = same by omega]; exact e }
theorem TwoP.lost {i j same : Nat} (h : TwoP f n i j same) (hs : same < n) (e : f (j + same) < f (i + same)) : ∀ p, p < i + same + 1 → p ≠ j ∨ i ≤ p → NotMin f n p := by
  intro p hp hne
  rcases Nat.lt_or_ge p i with h1 | h1
  · exact h.ni p h1 (by omega)
  · refine ⟨j + (p - i), same - (p - i), by omega, fun u hu => ?_, ?_⟩
    · have := h.eq (p - i + u) (by omega)
      rw [show p + u = i + (p - i + u) by omega, this]
      congr 1; omega
    · rw [show j + (p - i) + (same - (p - i)) = j + same by omega, show p + (same - (p - i)) = i + same by omega]
      exact e
theorem TwoP.symm {i j same : Nat} (h : TwoP f n i j same) : TwoP f n j i same :=
  ⟨h.ne.symm, h.one.symm, h.le, h.bj, h.bi, fun u hu => (h.eq u hu).symm, h.nj, h.ni⟩
theorem TwoP.left {i j same : Nat} (h : TwoP f n i j same) (hi : i < n) (hj : j < n) (hs : same < n) (e : f (j + same) < f (i + same)) (hne : i + same + 1 ≠ j) : TwoP f n (i + same + 1) j 0 :=
  ⟨hne, .inr hj, by omega, by omega, h.bj, fun u hu => by omega, fun p hp hp' => h.lost hs e p hp (.inl hp'), fun p hp _ => by
    by_cases h1 : p = i
    · exact h.lost hs e p (by omega) (.inr (by omega))
    · exact h.nj p hp h1⟩
theorem TwoP.leftB {i j same : Nat} (h : TwoP f n i j same) (hj : j < n) (hs : same < n) (e : f (j + same) < f (i + same)) (he : i + same + 1 = j) : TwoP f n (i + same + 1) (j + 1) 0 := by
  refine ⟨by omega, .inl (by omega), by omega, by omega, by omega, fun u hu => by omega, fun p hp _ => ?_, fun p hp hp' => ?_⟩
  · exact h.lost hs e p hp (.inl (by omega))
  · exact h.lost hs e p (by omega) (.inl (by omega))
/-- The other place loses. -/
theorem TwoP.right {i j same : Nat} (h : TwoP f n i j same) (hi : i < n) (hj : j < n) (hs : same < n) (e : f (i + same) < f (j + same)) (hne : j + same + 1 ≠ i) : TwoP f n i (j + same + 1) 0 :=
  (h.symm.left hj hi hs e hne).symm
theorem TwoP.rightB {i j same : Nat} (h : TwoP f n i j same) (hi : i < n) (hs : same < n) (e : f (i + same) < f (j + same)) (he : j + same + 1 = i) : TwoP f n i (i + 1) 0 := by
  refine ⟨by omega, .inl hi, by omega, h.bi, by omega, fun u hu => by omega, fun p hp _ => ?_, fun p hp hp' => ?_⟩
  · exact h.symm.lost hs e p (by omega) (.inl (by omega))
  · exact h.symm.lost hs e p (by omega) (.inl (by omega))
theorem eqv_fp (hn : 0 < n) (hf : FP f n) {p q : Nat} (hle : p ≤ q) (h : Eqv f n p q) : FP f (q - p) := by
  intro x
  -- x is p + t, some turns on
  have e1 := hf.mul (p + 1) x
  have e2 := hf.mul (p + 1) (x + (q - p))
  have hge : p ≤ x + (p + 1) * n := by
    have : p * 1 ≤ (p + 1) * n := Nat.mul_le_mul (by omega) hn
    omega
  obtain ⟨y, hy⟩ : ∃ y, x + (p + 1) * n = p + y := ⟨x + (p + 1) * n - p, by omega⟩
  have e3 := h (y % n) (Nat.mod_lt _ hn)
  have e4 := hf.mul (y / n) (p + y % n)
  have e5 := hf.mul (y / n) (q + y % n)
  have hdm := Nat.div_add_mod y n
  rw [Nat.mul_comm] at hdm
  rw [e1, e2, hy, show x + (q - p) + (p + 1) * n = q + y by omega, show p + y = p + y % n + y / n * n by omega, show q + y = q + y % n + y / n * n by omega, ← e4, ← e5]
  exact e3
theorem FP.eqv {s : Nat} (h : FP f s) (p : Nat) : Eqv f n p (p + s) := fun t _ => by
  rw [h (p + t)]; congr 1; omega
theorem Eqv.min {p q : Nat} (h : Eqv f n p q) (k : Min f n q) : Min f n p := fun x hx => k x (h.lt_right hx)
theorem TwoP.done {i j same : Nat} (h : TwoP f n i j same) (hn : 0 < n) (hf : FP f n) (hd : n ≤ i ∨ n ≤ j ∨ n ≤ same) : min i j < n ∧ Min f n (min i j) := by
  obtain ⟨m, hm, hmin⟩ := exists_min hn hf
  have nm : ∀ p, NotMin f n p → p ≠ m := fun p ⟨q, hq⟩ e => hmin q (e ▸ hq)
  by_cases hi : n ≤ i
  · have hj : j < n := by have := h.one; omega
    have : m = j := Classical.byContradiction fun e => nm m (h.ni m (by omega) e) rfl
    rw [show min i j = j by omega]
    exact ⟨hj, this ▸ hmin⟩
  · by_cases hj : n ≤ j
    · have : m = i := Classical.byContradiction fun e => nm m (h.nj m (by omega) e) rfl
      rw [show min i j = i by omega]
      exact ⟨by omega, this ▸ hmin⟩
    · have hs : same = n := by have := h.le; omega
      have heq : Eqv f n i j := fun t ht => h.eq t (by omega)
      have hE : Eqv f n (min i j) (max i j) := by
        rcases Nat.le_total i j with h1 | h1
        · rw [Nat.min_eq_left h1, Nat.max_eq_right h1]; exact heq
        · rw [Nat.min_eq_right h1, Nat.max_eq_left h1]; exact heq.symm
      refine ⟨by omega, ?_⟩
      have hp := eqv_fp hn hf (show min i j ≤ max i j by omega) hE
      have hne := h.ne
      have low : ∀ p, p < max i j → p ≠ min i j → NotMin f n p := by
        intro p h1 h2
        rcases Nat.le_total i j with h3 | h3
        · rw [Nat.max_eq_right h3] at h1
          rw [Nat.min_eq_left h3] at h2
          exact h.nj p h1 h2
        · rw [Nat.max_eq_left h3] at h1
          rw [Nat.min_eq_right h3] at h2
          exact h.ni p h1 h2
      have key : ∀ m, Min f n m → min i j ≤ m → Min f n (min i j) := by
        intro m
        induction m using Nat.strongRecOn with
        | _ m ih =>
          intro k hle
          rcases Nat.lt_or_ge m (max i j) with h1 | h1
          · by_cases h2 : m = min i j
            · rw [← h2]; exact k
            · obtain ⟨q, hq⟩ := low m h1 h2
              exact absurd hq (k q)
          · have e := FP.eqv (n := n) hp (m - (max i j - min i j))
            rw [show m - (max i j - min i j) + (max i j - min i j) = m by omega] at e
            exact ih _ (by omega) (e.min k) (by omega)
      rcases Nat.lt_or_ge m (min i j) with h1 | h1
      · exact absurd rfl (nm m (low m (by omega) (by omega)))
      · exact key m hmin h1
end
end Go.Proofs.Ytmfeponanjgapaa
