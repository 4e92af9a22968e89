/- Plain facts: borders and periods of a list; turns that stay. No program is named. -/
import Derived.WalkKit
namespace Go.Proofs.Ytmfeponanjgapaa

/-- The first L values have the period p. -/
def Per (a : Nat → Int) (L p : Nat) : Prop := ∀ i, i + p < L → a i = a (i + p)
/-- b is the border of the first k + 1 values. -/
structure IsBd (a : Nat → Int) (k b : Nat) : Prop where
  le : b ≤ k
  per : Per a (k + 1) (k + 1 - b)
  min : ∀ p, 0 < p → Per a (k + 1) p → k + 1 - b ≤ p
/-- b is a border of the first k values, and no longer one goes on. -/
structure Cand (a : Nat → Int) (k b : Nat) : Prop where
  lt : b < k
  per : Per a k (k - b)
  no : ∀ p, 0 < p → Per a k p → p < k - b → a (k - p) ≠ a k
section
variable {a : Nat → Int} {k b : Nat}
theorem isBd_zero : IsBd a 0 0 := ⟨Nat.le_refl _, fun i hi => by omega, fun p hp _ => by omega⟩
theorem Cand.start (h : IsBd a k b) : Cand a (k + 1) b := ⟨by have := h.le; omega, h.per, fun p hp h1 h2 => by have := h.min p hp h1; omega⟩
theorem Cand.back {c : Nat} (h : Cand a k b) (h0 : 0 < b) (hne : a k ≠ a b) (hb : IsBd a (b - 1) c) : Cand a k c := by
  have hlt := h.lt
  have hcle := hb.le
  have hper : Per a b (b - c) := by
    have := hb.per
    rw [show b - 1 + 1 = b by omega] at this
    exact this
  refine ⟨by omega, fun i hi => ?_, fun p hp h1 h2 => ?_⟩
  · have e1 := hper i (by omega)
    have e2 := h.per (i + (b - c)) (by omega)
    rw [e1, e2]
    congr 1
    omega
  · rcases Nat.lt_or_ge p (k - b) with h3 | h3
    · exact h.no p hp h1 h3
    · rcases Nat.eq_or_lt_of_le h3 with h4 | h4
      · rw [show k - p = b by omega]
        exact Ne.symm hne
      · exfalso
        have hpk : p < k := by omega
        have : Per a (b - 1 + 1) (b - (k - p)) := by
          intro i hi
          have e1 := h1 i (by omega)
          have e2 := h.per (i + (b - (k - p))) (by omega)
          rw [e1, e2]
          congr 1
          omega
        have := hb.min _ (by omega) this
        omega
theorem Cand.hit (h : Cand a k b) (he : a k = a b) : IsBd a k (b + 1) := by
  have hlt := h.lt
  refine ⟨by omega, fun i hi => ?_, fun p hp h1 => ?_⟩
  · rcases Nat.lt_or_ge (i + (k - b)) k with h2 | h2
    · have := h.per i h2
      rw [this]
      congr 1; omega
    · rw [show i = b by omega, show b + (k + 1 - (b + 1)) = k by omega, he]
  · rcases Nat.lt_or_ge p (k - b) with h2 | h2
    · have h3 : Per a k p := fun i hi => h1 i (by omega)
      have h4 := h1 (k - p) (by omega)
      rw [show k - p + p = k by omega] at h4
      exact absurd h4 (h.no p hp h3 h2)
    · omega
theorem Cand.miss (h : Cand a k 0) (hne : a k ≠ a 0) : IsBd a k 0 := by
  have hlt := h.lt
  refine ⟨by omega, fun i hi => by omega, fun p hp h1 => ?_⟩
  rcases Nat.lt_or_ge p (k + 1) with h2 | h2
  · exfalso
    have h3 : Per a k p := fun i hi => h1 i (by omega)
    have h4 := h1 (k - p) (by omega)
    rw [show k - p + p = k by omega] at h4
    rcases Nat.lt_or_ge p k with h5 | h5
    · exact h.no p hp h3 (by omega) h4
    · rw [show k - p = 0 by omega] at h4
      exact hne h4.symm
  · omega
end
/-- Turned on by t it stays. -/
def FP (f : Nat → Int) (t : Nat) : Prop := ∀ i, f i = f (i + t)
structure LeastFP (f : Nat → Int) (s : Nat) : Prop where
  pos : 0 < s
  per : FP f s
  min : ∀ t, 0 < t → FP f t → s ≤ t
theorem FP.mul {f : Nat → Int} {s : Nat} (h : FP f s) (m : Nat) : FP f (m * s) := by
  induction m with
  | zero => intro i; simp
  | succ m ih =>
    intro i
    rw [ih i, h (i + m * s)]
    congr 1
    rw [Nat.succ_mul]; omega
theorem LeastFP.dvd {f : Nat → Int} {s : Nat} (h : LeastFP f s) {t : Nat} : FP f t ↔ s ∣ t := by
  constructor
  · intro ht
    have h1 : FP f (t % s) := by
      intro i
      have e := h.per.mul (t / s) (i + t % s)
      rw [ht i, e]
      congr 1
      have := Nat.div_add_mod t s
      rw [Nat.mul_comm] at this
      omega
    rcases Nat.eq_zero_or_pos (t % s) with h2 | h2
    · exact Nat.dvd_of_mod_eq_zero h2
    · have := h.min _ h2 h1
      have := Nat.mod_lt t h.pos
      omega
  · rintro ⟨m, rfl⟩
    rw [Nat.mul_comm]
    exact h.per.mul m
theorem exists_least {f : Nat → Int} {n : Nat} (hn : 0 < n) (h : FP f n) : ∃ s, LeastFP f s := by
  have key : ∀ n, 0 < n → FP f n → ∃ s, LeastFP f s := by
    intro n
    induction n using Nat.strongRecOn with
    | _ n ih =>
      intro hn h
      by_cases hs : ∃ t, 0 < t ∧ FP f t ∧ t < n
      · obtain ⟨t, h1, h2, h3⟩ := hs
        exact ih t h3 h1 h2
      · exact ⟨n, hn, h, fun t h1 h2 => Nat.le_of_not_lt fun h3 => hs ⟨t, h1, h2, h3⟩⟩
  exact key n hn h
section
variable {a : Nat → Int} {n p : Nat}
theorem per_mod (hp : 0 < p) (h : Per a n p) : ∀ j, j < n → a j = a (j % p) := by
  intro j
  induction j using Nat.strongRecOn with
  | _ j ih =>
    intro hj
    rcases Nat.lt_or_ge j p with h1 | h1
    · rw [Nat.mod_eq_of_lt h1]
    · have e := h (j - p) (by omega)
      rw [show j - p + p = j by omega] at e
      rw [← e, ih (j - p) (by omega) (by omega), Nat.mod_eq_sub_mod h1]
theorem per_sub {q : Nat} (h : Per a n p) (k : Per a n q) (hle : p ≤ q) (hs : p + q ≤ n) : Per a n (q - p) := by
  intro i hi
  rcases Nat.lt_or_ge i p with h1 | h1
  · have e1 := k i (by omega)
    have e2 := h (i + (q - p)) (by omega)
    rw [e1, e2]
    congr 1; omega
  · have e1 := h (i - p) (by omega)
    have e2 := k (i - p) (by omega)
    rw [show i - p + p = i by omega] at e1
    rw [← e1, e2]
    congr 1; omega
theorem per_rem (hp : 0 < p) (h : Per a n p) : ∀ q, Per a n q → p + q ≤ n → 0 < q % p → Per a n (q % p) := by
  intro q
  induction q using Nat.strongRecOn with
  | _ q ih =>
    intro k hs hm
    rcases Nat.lt_or_ge q p with h1 | h1
    · rw [Nat.mod_eq_of_lt h1]; exact k
    · have e := Nat.mod_eq_sub_mod h1
      rw [e]
      refine ih (q - p) (by omega) (per_sub h k h1 hs) (by omega) ?_
      rw [← e]; exact hm
/-- The circle that the first n values are. -/
def circ (a : Nat → Int) (n i : Nat) : Int := a (i % n)
theorem circ_n (a : Nat → Int) (n : Nat) : FP (circ a n) n := fun i => by unfold circ; rw [Nat.add_mod_right]
theorem per_of_circ {t : Nat} (h : FP (circ a n) t) : Per a n t := by
  intro i hi
  have := h i
  unfold circ at this
  rwa [Nat.mod_eq_of_lt (by omega), Nat.mod_eq_of_lt hi] at this
/-- What period answers. -/
theorem least_of (hn : 0 < n) (hp : 0 < p) (h : Per a n p) (hmin : ∀ q, 0 < q → Per a n q → p ≤ q) : LeastFP (circ a n) (if n % p = 0 then p else n) := by
  by_cases hd : n % p = 0
  · rw [if_pos hd]
    have hdv := Nat.dvd_of_mod_eq_zero hd
    have key : ∀ i, circ a n i = a (i % p) := fun i => by
      unfold circ
      rw [per_mod hp h (i % n) (Nat.mod_lt _ hn), Nat.mod_mod_of_dvd _ hdv]
    refine ⟨hp, fun i => by rw [key, key, Nat.add_mod_right], fun t h1 h2 => ?_⟩
    exact hmin t h1 (per_of_circ h2)
  · rw [if_neg hd]
    obtain ⟨s, hs⟩ := exists_least hn (circ_n a n)
    have hsn : s ∣ n := hs.dvd.1 (circ_n a n)
    have hsle := Nat.le_of_dvd hn hsn
    rcases Nat.eq_or_lt_of_le hsle with e | hlt
    · have := hs
      rw [e] at this
      exact this
    · exfalso
      have hps := hmin s hs.pos (per_of_circ hs.per)
      obtain ⟨c, hc⟩ := hsn
      have h2 : 2 ≤ c := by
        rcases Nat.lt_or_ge c 2 with h3 | h3
        · rcases (show c = 0 ∨ c = 1 by omega) with rfl | rfl
          · omega
          · omega
        · exact h3
      have h3 : s * 2 ≤ s * c := Nat.mul_le_mul_left s h2
      rcases Nat.eq_zero_or_pos (s % p) with h4 | h4
      · exact hd (Nat.mod_eq_zero_of_dvd (Nat.dvd_trans (Nat.dvd_of_mod_eq_zero h4) ⟨c, hc⟩))
      · have := hmin _ h4 (per_rem hp h s (per_of_circ hs.per) (by omega) h4)
        have := Nat.mod_lt s hp
        omega
end
end Go.Proofs.Ytmfeponanjgapaa
