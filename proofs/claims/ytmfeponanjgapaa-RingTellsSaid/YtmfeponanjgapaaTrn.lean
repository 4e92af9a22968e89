/- Plain facts: turns of words, their ranks, and the places of the least turn. -/
import Derived.Test.YtmfeponanjgapaaLst
import Derived.Test.YtmfeponanjgapaaRk
import Derived.Test.YtmfeponanjgapaaWc
namespace Go.Proofs.Ytmfeponanjgapaa
open Go.Lib

theorem cmpW_lt : ∀ {us vs : List (List UInt8)}, us.length = vs.length → (cmpW us vs < 0 ↔ ∃ t, t < us.length ∧ (∀ u, u < t → wd us u = wd vs u) ∧ compareBytes (wd us t) (wd vs t) < 0)
  | [], [], _ => by simp [cmpW]
  | [], _ :: _, h => by simp at h
  | _ :: _, [], h => by simp at h
  | a :: us, b :: vs, h => by
    have hl : us.length = vs.length := by simpa using h
    have ih := cmpW_lt hl
    unfold cmpW
    by_cases h0 : compareBytes a b = 0
    · rw [if_pos h0, ih]
      constructor
      · rintro ⟨t, h1, h2, h3⟩
        refine ⟨t + 1, by simpa using h1, fun u hu => ?_, by simpa [wd] using h3⟩
        cases u with
        | zero => simpa [wd] using cb_zero h0
        | succ u => simpa [wd] using h2 u (by omega)
      · rintro ⟨t, h1, h2, h3⟩
        cases t with
        | zero => simp [wd] at h3; omega
        | succ t => exact ⟨t, by simpa using h1, fun u hu => by simpa [wd] using h2 (u + 1) (by omega), by simpa [wd] using h3⟩
    · rw [if_neg h0]
      constructor
      · intro h1
        exact ⟨0, by simp, fun u hu => by omega, by simpa [wd] using h1⟩
      · rintro ⟨t, h1, h2, h3⟩
        cases t with
        | zero => simpa [wd] using h3
        | succ t =>
          exfalso
          apply h0
          have := h2 0 (by omega)
          simp [wd] at this
          rw [this, cb_self]
theorem length_turnW (ws : List (List UInt8)) (j : Nat) : (turnW ws j).length = ws.length := by
  unfold turnW
  rw [List.length_append, List.length_drop, List.length_take]
  omega
theorem turnW_at {ws : List (List UInt8)} {j t : Nat} (hj : j < ws.length) (ht : t < ws.length) : wd (turnW ws j) t = wd ws ((j + t) % ws.length) := by
  unfold wd turnW
  rw [List.getD_eq_getElem?_getD, List.getD_eq_getElem?_getD]
  congr 1
  rcases Nat.lt_or_ge t (ws.length - j) with h | h
  · rw [List.getElem?_append_left (by rw [List.length_drop]; exact h), List.getElem?_drop, Nat.mod_eq_of_lt (by omega)]
  · rw [List.getElem?_append_right (by rw [List.length_drop]; exact h), List.length_drop, List.getElem?_take, if_pos (by omega), Nat.mod_eq_sub_mod (by omega), Nat.mod_eq_of_lt (by omega)]
    congr 1; omega
theorem wd_ext {us vs : List (List UInt8)} (hl : us.length = vs.length) (h : ∀ t, t < us.length → wd us t = wd vs t) : us = vs := by
  apply List.ext_getElem hl
  intro i h1 h2
  have := h i h1
  unfold wd at this
  simpa [h1, h2] using this
section
variable {ws : List (List UInt8)} {r : List Int}
def avI (r : List Int) (i : Nat) : Int := r.getD i 0
theorem turn_lt (hR : RankOf ws r) {p q : Nat} (hp : p < ws.length) (hq : q < ws.length) : cmpW (turnW ws p) (turnW ws q) < 0 ↔ Lt (circ (avI r) ws.length) ws.length p q := by
  rw [cmpW_lt (by rw [length_turnW, length_turnW]), length_turnW]
  unfold Lt circ avI
  have hm : ∀ a, a % ws.length < ws.length := fun a => Nat.mod_lt _ (by omega)
  constructor
  · rintro ⟨t, h1, h2, h3⟩
    refine ⟨t, h1, fun u hu => ?_, ?_⟩
    · have := h2 u hu
      rw [turnW_at hp (by omega), turnW_at hq (by omega)] at this
      exact (hR.eq (hm _) (hm _)).2 this
    · rw [turnW_at hp h1, turnW_at hq h1] at h3
      exact (hR.lt _ _ (hm _) (hm _)).2 h3
  · rintro ⟨t, h1, h2, h3⟩
    refine ⟨t, h1, fun u hu => ?_, ?_⟩
    · rw [turnW_at hp (by omega), turnW_at hq (by omega)]
      exact (hR.eq (hm _) (hm _)).1 (h2 u hu)
    · rw [turnW_at hp h1, turnW_at hq h1]
      exact (hR.lt _ _ (hm _) (hm _)).1 h3
theorem turn_eq (hR : RankOf ws r) {p q : Nat} (hp : p < ws.length) (hq : q < ws.length) : turnW ws p = turnW ws q ↔ Eqv (circ (avI r) ws.length) ws.length p q := by
  unfold Eqv circ avI
  have hm : ∀ a, a % ws.length < ws.length := fun a => Nat.mod_lt _ (by omega)
  constructor
  · intro e t ht
    have h : wd (turnW ws p) t = wd (turnW ws q) t := by rw [e]
    rw [turnW_at hp ht, turnW_at hq ht] at h
    exact (hR.eq (hm _) (hm _)).2 h
  · intro h
    refine wd_ext (by rw [length_turnW, length_turnW]) fun t ht => ?_
    rw [length_turnW] at ht
    rw [turnW_at hp ht, turnW_at hq ht]
    exact (hR.eq (hm _) (hm _)).1 (h t ht)
theorem eqv_step {f : Nat → Int} {n s : Nat} (hn : 0 < n) (hf : FP f n) (hs : LeastFP f s) {p q : Nat} : Eqv f n p q ↔ p % s = q % s := by
  have key : ∀ {p q : Nat}, p ≤ q → (Eqv f n p q ↔ p % s = q % s) := by
    intro p q hle
    constructor
    · intro h
      obtain ⟨c, hc⟩ := hs.dvd.1 (eqv_fp hn hf hle h)
      rw [show q = p + s * c by omega, Nat.add_mul_mod_self_left]
    · intro h
      have hd : s ∣ q - p := Nat.dvd_of_mod_eq_zero (Nat.sub_mod_eq_zero_of_mod_eq h.symm)
      have := FP.eqv (n := n) (hs.dvd.2 hd) p
      rwa [show p + (q - p) = q by omega] at this
  rcases Nat.le_total p q with h | h
  · exact key h
  · exact ⟨fun e => ((key h).1 e.symm).symm, fun e => ((key h).2 e.symm).symm⟩
end
theorem range_gap {P : Nat → Bool} {a b : Nat} (hab : a ≤ b) (h : ∀ x, a ≤ x → x < b → P x = false) : (List.range b).filter P = (List.range a).filter P := by
  induction b with
  | zero => rw [show a = 0 by omega]
  | succ b ih =>
    rcases Nat.lt_or_ge a (b + 1) with h1 | h1
    · rw [List.range_succ, List.filter_append, ih (by omega) (fun x h2 h3 => h x h2 (by omega))]
      simp [h b (by omega) (by omega)]
    · rw [show a = b + 1 by omega]
theorem range_hit {P : Nat → Bool} {a : Nat} (h : P a = true) : (List.range (a + 1)).filter P = (List.range a).filter P ++ [a] := by
  rw [List.range_succ, List.filter_append]
  simp [h]
end Go.Proofs.Ytmfeponanjgapaa
