/- Plain facts: the ranks of sorted words. -/
import Derived.Test.YtmfeponanjgapaaCmp
namespace Go.Proofs.Ytmfeponanjgapaa
open Go.Lib

/-- The word at a place. -/
def wd (ws : List (List UInt8)) (a : Nat) : List UInt8 := ws.getD a []
/-- The rank of the i-th word in order. -/
def rk (ws : List (List UInt8)) (d : Nat → Nat) : Nat → Nat
  | 0 => 0
  | i + 1 => rk ws d i + if wd ws (d i) = wd ws (d (i + 1)) then 0 else 1
theorem rk_le (ws : List (List UInt8)) (d : Nat → Nat) : ∀ i, rk ws d i ≤ i
  | 0 => Nat.le_refl _
  | i + 1 => by
    have := rk_le ws d i
    unfold rk
    split <;> omega
theorem rk_mono (ws : List (List UInt8)) (d : Nat → Nat) {i j : Nat} (h : i ≤ j) : rk ws d i ≤ rk ws d j := by
  induction j with
  | zero => rw [Nat.le_zero.1 h]; exact Nat.le_refl _
  | succ j ih =>
    rcases Nat.lt_or_ge i (j + 1) with h1 | h1
    · have := ih (by omega)
      have h2 : rk ws d j ≤ rk ws d (j + 1) := by rw [rk.eq_2]; omega
      omega
    · rw [show i = j + 1 by omega]; exact Nat.le_refl _
/-- r tells of each place its word's rank. -/
structure RankOf (ws : List (List UInt8)) (r : List Int) : Prop where
  len : r.length = ws.length
  lo : ∀ a, a < ws.length → 0 ≤ r.getD a 0
  hi : ∀ a, a < ws.length → r.getD a 0 ≤ ws.length
  lt : ∀ a b, a < ws.length → b < ws.length → (r.getD a 0 < r.getD b 0 ↔ compareBytes (wd ws a) (wd ws b) < 0)
theorem RankOf.eq {ws : List (List UInt8)} {r : List Int} (h : RankOf ws r) {a b : Nat} (ha : a < ws.length) (hb : b < ws.length) : r.getD a 0 = r.getD b 0 ↔ wd ws a = wd ws b := by
  rw [← cb_iff]
  have h1 := h.lt a b ha hb
  have h2 := h.lt b a hb ha
  rw [cb_neg (wd ws a) (wd ws b)] at h2
  constructor
  · intro e
    have : ¬ compareBytes (wd ws a) (wd ws b) < 0 := fun k => by have := h1.2 k; omega
    have : ¬ -compareBytes (wd ws a) (wd ws b) < 0 := fun k => by have := h2.2 k; omega
    omega
  · intro e
    have : ¬ r.getD a 0 < r.getD b 0 := fun k => by have := h1.1 k; omega
    have : ¬ r.getD b 0 < r.getD a 0 := fun k => by have := h2.1 k; omega
    omega
section
variable {ws : List (List UInt8)} {d : Nat → Nat}
theorem rk_same (hs : ∀ i j, i < j → j < ws.length → ¬ compareBytes (wd ws (d j)) (wd ws (d i)) < 0) {i j : Nat} (hij : i ≤ j) (hj : j < ws.length) : rk ws d i = rk ws d j ↔ wd ws (d i) = wd ws (d j) := by
  induction j with
  | zero => rw [Nat.le_zero.1 hij]; exact ⟨fun _ => rfl, fun _ => rfl⟩
  | succ j ih =>
    rcases Nat.lt_or_ge i (j + 1) with h1 | h1
    · have h2 := ih (by omega) (by omega)
      have h3 := rk_mono ws d (show i ≤ j by omega)
      have h4 : rk ws d (j + 1) = rk ws d j + if wd ws (d j) = wd ws (d (j + 1)) then 0 else 1 := rk.eq_2 ..
      by_cases e : wd ws (d j) = wd ws (d (j + 1))
      · rw [if_pos e] at h4
        rw [h4, Nat.add_zero, h2, e]
      · rw [if_neg e] at h4
        constructor
        · intro h; omega
        · intro h
          exfalso
          refine e ?_
          -- between equals all are equal
          have k1 : compareBytes (wd ws (d j)) (wd ws (d (j + 1))) ≤ 0 := by
            have := hs j (j + 1) (by omega) hj
            have := cb_neg (wd ws (d j)) (wd ws (d (j + 1)))
            omega
          have k2 : compareBytes (wd ws (d (j + 1))) (wd ws (d j)) ≤ 0 := by
            rw [← h]
            by_cases hlt : i < j
            · have := hs i j hlt (by omega)
              have := cb_neg (wd ws (d i)) (wd ws (d j))
              omega
            · rw [show i = j by omega, cb_self]; omega
          have k3 := cb_neg (wd ws (d j)) (wd ws (d (j + 1)))
          exact cb_zero (by omega)
    · rw [show i = j + 1 by omega]; exact ⟨fun _ => rfl, fun _ => rfl⟩
theorem rank_of {r : List Int} (hl : r.length = ws.length) (hsur : ∀ a, a < ws.length → ∃ i, i < ws.length ∧ d i = a) (hs : ∀ i j, i < j → j < ws.length → ¬ compareBytes (wd ws (d j)) (wd ws (d i)) < 0)
    (hr : ∀ i, i < ws.length → r.getD (d i) 0 = (rk ws d i : Int)) : RankOf ws r where
  len := hl
  lo a ha := by
    obtain ⟨i, hi, rfl⟩ := hsur a ha
    rw [hr i hi]; omega
  hi a ha := by
    obtain ⟨i, hi, rfl⟩ := hsur a ha
    rw [hr i hi]
    have := rk_le ws d i
    omega
  lt a b ha hb := by
    obtain ⟨i, hi, rfl⟩ := hsur a ha
    obtain ⟨j, hj, rfl⟩ := hsur b hb
    rw [hr i hi, hr j hj]
    rcases Nat.lt_or_ge i j with h | h
    · have h1 := rk_same hs (show i ≤ j by omega) hj
      have h2 := rk_mono ws d (show i ≤ j by omega)
      have h3 := hs i j h hj
      have h4 := cb_neg (wd ws (d i)) (wd ws (d j))
      rw [← cb_iff] at h1
      constructor
      · intro k
        have : ¬ compareBytes (wd ws (d i)) (wd ws (d j)) = 0 := fun e => by have := h1.2 e; omega
        omega
      · intro k
        have : ¬ rk ws d i = rk ws d j := fun e => by have := h1.1 e; omega
        omega
    · have h1 := rk_same hs h hi
      have h2 := rk_mono ws d h
      have h4 := cb_neg (wd ws (d i)) (wd ws (d j))
      have h3 : ¬ compareBytes (wd ws (d i)) (wd ws (d j)) < 0 := by
        rcases Nat.lt_or_ge j i with h5 | h5
        · exact hs j i h5 hi
        · rw [show i = j by omega, cb_self]; omega
      constructor
      · intro k; omega
      · intro k; exact absurd k h3
end
end Go.Proofs.Ytmfeponanjgapaa
