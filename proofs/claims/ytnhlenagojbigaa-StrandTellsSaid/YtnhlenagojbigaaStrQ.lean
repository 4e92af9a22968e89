/- Plain facts on knots and fields; GetKnot, GetField where one stands. -/
import Derived.Test.YtnhlenagojbigaaStrM
import Derived.Test.YtnhlenagojbigaaStrI
import Derived.Test.YtnhlenagojbigaaStrG
import Derived.Test.YtnhlenagojbigaaStrE
import Derived.Test.YtnhlenagojbigaaStrO
namespace Go.Proofs.Ytnhlenagojbigaa
open Go.RowKit

theorem testBit_top {x k : Nat} (h1 : 2 ^ k ≤ x) (h2 : x < 2 ^ (k + 1)) : x.testBit k = true := by
  have hd : x / 2 ^ k = 1 := by
    have hp : 0 < 2 ^ k := Nat.pow_pos (by omega)
    rw [Nat.pow_succ] at h2
    rw [Nat.div_eq_iff hp]
    constructor <;> omega
  rw [Nat.testBit_eq_decide_div_mod_eq, hd]
  rfl
/-- At the place p of f a field of w bits stands, that says m. -/
def FieldAt (f : Nat → Bool) (p m w : Nat) : Prop := ∀ i, i < w → f (p + i) = m.testBit (w - 1 - i)
/-- .. the knot of m. -/
def KnotAt (f : Nat → Bool) (p m : Nat) : Prop := (∀ i, i < digits m - 1 → f (p + i) = false) ∧ FieldAt f (p + (digits m - 1)) (m + 1) (digits m)
theorem FieldAt.num {f : Nat → Bool} {p m w : Nat} (h : FieldAt f p m w) (hm : m < 2 ^ w) : numF f p w = m := by
  rw [numF_congr (f := f) (g := fun i => m.testBit (w - 1 - i)) (a := p) (b := 0) (fun i hi => by rw [Nat.zero_add]; exact h i hi)]
  exact numF_testBit m w hm
theorem FieldAt.congr {f g : Nat → Bool} {p m w : Nat} (h : FieldAt f p m w) (e : ∀ i, p ≤ i → i < p + w → f i = g i) : FieldAt g p m w := fun i hi => by
  rw [← e (p + i) (by omega) (by omega)]
  exact h i hi
theorem digits_spec (m : Nat) (hm : m < 18446744073709551615) : m + 1 < 2 ^ digits m ∧ 2 ^ (digits m - 1) ≤ m + 1 ∧ 1 ≤ digits m ∧ digits m ≤ 64 := by
  have h := bitLen_spec (m + 1) (by omega)
  have h2 := h.2.1 (by omega)
  exact ⟨h.1, h2.2, h2.1, h.2.2⟩
theorem digits_mono {n m : Nat} (h : n ≤ m) (hm : m < 18446744073709551615) : digits n ≤ digits m := by
  obtain ⟨a1, a2, a3, a4⟩ := digits_spec n (by omega)
  obtain ⟨b1, b2, b3, b4⟩ := digits_spec m hm
  rcases Nat.lt_or_ge (digits m) (digits n) with hlt | hge
  · have := Nat.pow_le_pow_right (n := 2) (by omega) (show digits m ≤ digits n - 1 by omega)
    omega
  · exact hge
theorem KnotAt.top {f : Nat → Bool} {p m : Nat} (h : KnotAt f p m) (hm : m < 18446744073709551615) : f (p + (digits m - 1)) = true := by
  obtain ⟨a1, a2, a3, a4⟩ := digits_spec m hm
  have h0 := h.2 0 (by omega)
  rw [Nat.add_zero, Nat.sub_zero] at h0
  rw [h0]
  exact testBit_top a2 (by rw [show digits m - 1 + 1 = digits m by omega]; exact a1)
theorem KnotAt.zeros {f : Nat → Bool} {p m L : Nat} (h : KnotAt f p m) (hm : m < 18446744073709551615) (hL : p + knotL m ≤ L) : zerosF f p (min 64 (L - p)) = digits m - 1 := by
  obtain ⟨a1, a2, a3, a4⟩ := digits_spec m hm
  unfold knotL at hL
  exact zerosF_eq (by omega) h.1 (Or.inr (h.top hm))
theorem KnotAt.congr {f g : Nat → Bool} {p m : Nat} (h : KnotAt f p m) (e : ∀ i, p ≤ i → i < p + knotL m → f i = g i) : KnotAt g p m :=
  ⟨fun i hi => by rw [← e (p + i) (by omega) (by unfold knotL; omega)]; exact h.1 i hi, h.2.congr (fun i h1 h2 => e i (by omega) (by unfold knotL; omega))⟩
theorem fieldAt_put {f : Nat → Bool} {p m w : Nat} (hz : ∀ i, p ≤ i → f i = false) : FieldAt (putF f p m w) p m w := fun i hi => by
  unfold putF
  rw [hz _ (by omega), show p + i - p = i by omega]
  simp [hi]
theorem knotAt_put {f : Nat → Bool} {p m : Nat} (hm : m < 18446744073709551615) (hz : ∀ i, p ≤ i → f i = false) : KnotAt (putF f (p + digits m - 1) (m + 1) (digits m)) p m := by
  obtain ⟨a1, a2, a3, a4⟩ := digits_spec m hm
  have e : p + digits m - 1 = p + (digits m - 1) := by omega
  rw [e]
  refine ⟨fun i hi => ?_, fieldAt_put (fun i hi => hz i (by omega))⟩
  unfold putF
  rw [hz _ (by omega)]
  simp; omega
theorem putF_ahead {f : Nat → Bool} {a m w i : Nat} (h : i < a) : putF f a m w i = f i := by unfold putF; simp; omega
theorem putF_RS {f : Nat → Bool} {L n a m w M : Nat} (h : RS L n f) (ha : a + w ≤ M) (hLM : L ≤ M) (hM : M ≤ 4194304) : RS M ((M + 7) / 8) (putF f a m w) :=
  ⟨hM, rfl, fun i hi => by unfold putF; rw [h.zero i (by omega)]; simp; omega⟩
theorem joinF_RS {f g : Nat → Bool} {L M n m : Nat} (_ : RS L n f) (k : RS M m g) (hM : L + M ≤ 4194304) : RS (L + M) ((L + M + 7) / 8) (joinF f L g) :=
  ⟨hM, rfl, fun i hi => by unfold joinF; rw [if_neg (by omega)]; exact k.zero _ (by omega)⟩
theorem knotL_bound (m : Nat) (hm : m < 18446744073709551615) : 1 ≤ knotL m ∧ knotL m ≤ 127 ∧ knotL m % 2 = 1 := by
  obtain ⟨a1, a2, a3, a4⟩ := digits_spec m hm
  unfold knotL
  omega
theorem knotF_RS (m : Nat) (hm : m < 18446744073709551615) : RS (knotL m) ((knotL m + 7) / 8) (knotF m) :=
  putF_RS noF_RS (by obtain ⟨a1, a2, a3, a4⟩ := digits_spec m hm; unfold knotL; omega) (by omega) (by have := knotL_bound m hm; omega)
theorem knotF_at (m : Nat) (hm : m < 18446744073709551615) : KnotAt (knotF m) 0 m := by
  have := knotAt_put (f := noF) (p := 0) hm (fun _ _ => rfl)
  rwa [Nat.zero_add] at this
theorem knot_inj {n m : Nat} (hn : n < 18446744073709551615) (hm : m < 18446744073709551615) (hne : n ≠ m) : sameS (knotF n) ((knotL n + 7) / 8) (knotL n) (knotF m) ((knotL m + 7) / 8) (knotL m) = false := by
  cases h : sameS (knotF n) ((knotL n + 7) / 8) (knotL n) (knotF m) ((knotL m + 7) / 8) (knotL m) with
  | false => rfl
  | true =>
    exfalso
    obtain ⟨e1, e2⟩ := (sameS_iff (knotF_RS n hn) (knotF_RS m hm)).1 h
    obtain ⟨a1, a2, a3, a4⟩ := digits_spec n hn
    obtain ⟨b1, b2, b3, b4⟩ := digits_spec m hm
    have ed : digits n = digits m := by unfold knotL at e1; omega
    have k1 := (knotF_at n hn).2.num a1
    have k2 := (knotF_at m hm).2.num b1
    rw [e2, ed, k2] at k1
    omega
theorem getKnot_reads (A : Option Addr) (n c L p m : Nat) (f : Nat → Bool) (w : World) (hr : Rd w A (cellsF f n)) (hs : RS L n f) (hm : m < 18446744073709551615) (hp : p + knotL m ≤ L) (hk : KnotAt f p m) :
    Calls Try.prog 19 #[.agg #[.slice A n c, .int .i64 L], .int .i64 p] w (Good3 w m ((p + knotL m : Nat) : Int)) := by
  obtain ⟨a1, a2, a3, a4⟩ := digits_spec m hm
  have hz := hk.zeros hm hp
  have hn := hk.2.num a1
  have hl : knotL m = 2 * digits m - 1 := rfl
  refine (getKnot_any A n c L p f w hr hs (by omega)).mono ?_
  intro e w' h
  rw [hz] at h
  rcases h with ⟨h, _⟩ | ⟨_, h, _⟩ | ⟨_, _, h⟩
  · omega
  · omega
  · rw [show digits m - 1 + 1 = digits m by omega, hn, show m + 1 - 1 = m by omega, show p + 2 * (digits m - 1) + 1 = p + knotL m by omega] at h
    exact h
/-- .. cut off ahead of its end. -/
theorem getKnot_part (A : Option Addr) (n c L p m : Nat) (f g : Nat → Bool) (w : World) (hr : Rd w A (cellsF g n)) (hs : RS L n g) (hm : m < 18446744073709551615) (hp : p ≤ L) (hpl : L < p + knotL m) (hk : KnotAt f p m) (e : ∀ i, i < L → g i = f i) :
    Calls Try.prog 19 #[.agg #[.slice A n c, .int .i64 L], .int .i64 p] w (Bad3 w 10) := by
  obtain ⟨a1, a2, a3, a4⟩ := digits_spec m hm
  have hl : knotL m = 2 * digits m - 1 := rfl
  have hz : zerosF g p (min 64 (L - p)) = min (L - p) (digits m - 1) := by
    refine zerosF_eq (by omega) (fun j hj => by rw [e _ (by omega)]; exact hk.1 j (by omega)) ?_
    by_cases h : L - p ≤ digits m - 1
    · exact Or.inl (by omega)
    · right
      rw [show min (L - p) (digits m - 1) = digits m - 1 by omega, e _ (by omega)]
      exact hk.top hm
  refine (getKnot_any A n c L p g w hr hs hp).mono ?_
  intro e w' h
  rw [hz] at h
  rcases h with ⟨h, _⟩ | ⟨_, _, h⟩ | ⟨_, h, _⟩
  · omega
  · exact h
  · omega
theorem getField_reads (A : Option Addr) (n c L p m wd : Nat) (f : Nat → Bool) (w : World) (hr : Rd w A (cellsF f n)) (hs : RS L n f) (hw : wd ≤ 64) (hm : m < 2 ^ wd) (hp : p + wd ≤ L) (hk : FieldAt f p m wd) :
    Calls Try.prog 37 #[.agg #[.slice A n c, .int .i64 L], .int .i64 p, .int .i64 wd] w (Good3 w m ((p + wd : Nat) : Int)) := by
  have h := getField_good A n c L p wd f w hr hs hw (by omega) (by omega)
  rw [Int.toNat_natCast, hk.num hm] at h
  exact h
end Go.Proofs.Ytnhlenagojbigaa
