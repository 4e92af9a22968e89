/- Plain facts: how words, and lists of them, stand. -/
import Derived.Test.YtmfeponanjgapaaWa
namespace Go.Proofs.Ytmfeponanjgapaa
open Go.Lib

theorem cb_self : ∀ a : List UInt8, compareBytes a a = 0
  | [] => rfl
  | x :: a => by
    unfold compareBytes
    rw [if_neg (UInt8.lt_irrefl x), if_neg (UInt8.lt_irrefl x)]
    exact cb_self a
theorem cb_neg : ∀ a b : List UInt8, compareBytes b a = -compareBytes a b
  | [], [] => rfl
  | [], _ :: _ => rfl
  | _ :: _, [] => rfl
  | x :: a, y :: b => by
    unfold compareBytes
    by_cases h1 : x < y
    · have h2 : ¬ y < x := UInt8.lt_asymm h1
      simp [h1, h2]
    · by_cases h2 : y < x
      · simp [h1, h2]
      · simp [h1, h2, cb_neg a b]
theorem cb_zero : ∀ {a b : List UInt8}, compareBytes a b = 0 → a = b
  | [], [], _ => rfl
  | [], _ :: _, h => by simp [compareBytes] at h
  | _ :: _, [], h => by simp [compareBytes] at h
  | x :: a, y :: b, h => by
    unfold compareBytes at h
    by_cases h1 : x < y
    · simp [h1] at h
    · by_cases h2 : y < x
      · simp [h1, h2] at h
      · simp [h1, h2] at h
        rw [cb_zero h, UInt8.le_antisymm (UInt8.not_lt.1 h2) (UInt8.not_lt.1 h1)]
theorem cb_iff {a b : List UInt8} : compareBytes a b = 0 ↔ a = b := ⟨cb_zero, fun h => by rw [h, cb_self]⟩
theorem cb_trans : ∀ {a b c : List UInt8}, compareBytes a b ≤ 0 → compareBytes b c ≤ 0 → compareBytes a c ≤ 0
  | [], _, [], _, _ => by decide
  | [], _, _ :: _, _, _ => by simp [compareBytes]
  | _ :: _, [], _, h, _ => by simp [compareBytes] at h
  | _ :: _, _ :: _, [], _, h => by simp [compareBytes] at h
  | x :: a, y :: b, z :: c, h, k => by
    unfold compareBytes at h k ⊢
    by_cases h1 : x < y
    · by_cases k1 : y < z
      · simp [UInt8.lt_trans h1 k1]
      · by_cases k2 : z < y
        · simp [k1, k2] at k
        · have : y = z := UInt8.le_antisymm (UInt8.not_lt.1 k2) (UInt8.not_lt.1 k1)
          subst this
          simp [h1]
    · by_cases h2 : y < x
      · simp [h1, h2] at h
      · have : x = y := UInt8.le_antisymm (UInt8.not_lt.1 h2) (UInt8.not_lt.1 h1)
        subst this
        simp only [UInt8.lt_irrefl, if_false] at h
        by_cases k1 : x < z
        · simp [k1]
        · by_cases k2 : z < x
          · simp [k1, k2] at k
          · simp [k1, k2] at k ⊢
            exact cb_trans h k
theorem cmpW_self : ∀ a : List (List UInt8), cmpW a a = 0
  | [] => rfl
  | x :: a => by
    unfold cmpW
    rw [if_pos (cb_self x)]
    exact cmpW_self a
theorem cmpW_neg : ∀ a b : List (List UInt8), cmpW b a = -cmpW a b
  | [], [] => rfl
  | [], _ :: _ => rfl
  | _ :: _, [] => rfl
  | x :: a, y :: b => by
    unfold cmpW
    by_cases h : compareBytes x y = 0
    · rw [if_pos h, if_pos (by rw [cb_neg x y, h]; rfl)]
      exact cmpW_neg a b
    · rw [if_neg h, if_neg (by rw [cb_neg x y]; omega), cb_neg x y]
theorem cmpW_zero : ∀ {a b : List (List UInt8)}, cmpW a b = 0 → a = b
  | [], [], _ => rfl
  | [], _ :: _, h => by simp [cmpW] at h
  | _ :: _, [], h => by simp [cmpW] at h
  | x :: a, y :: b, h => by
    unfold cmpW at h
    by_cases h1 : compareBytes x y = 0
    · rw [if_pos h1] at h
      rw [cb_zero h1, cmpW_zero h]
    · rw [if_neg h1] at h
      exact absurd h h1
theorem cmpW_iff {a b : List (List UInt8)} : cmpW a b = 0 ↔ a = b := ⟨cmpW_zero, fun h => by rw [h, cmpW_self]⟩
theorem cmpW_trans : ∀ {a b c : List (List UInt8)}, cmpW a b ≤ 0 → cmpW b c ≤ 0 → cmpW a c ≤ 0
  | [], _, [], _, _ => by decide
  | [], _, _ :: _, _, _ => by simp [cmpW]
  | _ :: _, [], _, h, _ => by simp [cmpW] at h
  | _ :: _, _ :: _, [], _, h => by simp [cmpW] at h
  | x :: a, y :: b, z :: c, h, k => by
    unfold cmpW at h k ⊢
    by_cases h1 : compareBytes x y = 0
    · have := cb_zero h1
      subst this
      rw [if_pos h1] at h
      by_cases h2 : compareBytes x z = 0
      · rw [if_pos h2] at k ⊢
        exact cmpW_trans h k
      · rw [if_neg h2] at k ⊢
        exact k
    · rw [if_neg h1] at h
      by_cases h2 : compareBytes y z = 0
      · have := cb_zero h2
        subst this
        rw [if_neg h1]
        exact h
      · rw [if_neg h2] at k
        have h3 := cb_trans h k
        by_cases h4 : compareBytes x z = 0
        · have := cb_zero h4
          subst this
          have := cb_neg x y
          omega
        · rw [if_neg h4]
          exact h3
/-- The law of three lists. -/
theorem order_law (a b c : List (List UInt8)) : 0 < cmpW a b ∨ 0 < cmpW b c ∨ cmpW a c ≤ 0 := by
  by_cases h1 : 0 < cmpW a b
  · exact .inl h1
  · by_cases h2 : 0 < cmpW b c
    · exact .inr (.inl h2)
    · exact .inr (.inr (cmpW_trans (Int.not_lt.1 h1) (Int.not_lt.1 h2)))
end Go.Proofs.Ytmfeponanjgapaa
