/- Plain facts on joined, cut and parted strands. -/
import Derived.Test.YtnhlenagojbigaaStrQ
import Derived.Test.YtnhlenagojbigaaStrF
namespace Go.Proofs.Ytnhlenagojbigaa
open Go.RowKit

theorem join_cut {f : Nat → Bool} {L n k : Nat} (h : RS L n f) (hk : k ≤ L) : joinF (cutF f 0 k) k (cutF f k (L - k)) = f := by
  funext i
  unfold joinF cutF
  by_cases h1 : i < k
  · simp [h1]
  · rw [if_neg h1, show k + (i - k) = i by omega]
    by_cases h2 : i < L
    · simp; omega
    · rw [h.zero i (by omega)]; rfl
theorem join_assoc (f g h : Nat → Bool) (L M : Nat) : joinF (joinF f L g) (L + M) h = joinF f L (joinF g M h) := by
  funext i
  unfold joinF
  by_cases h1 : i < L
  · simp [h1, show i < L + M by omega]
  · by_cases h2 : i < L + M
    · simp [h1, h2, show i - L < M by omega]
    · simp [h1, h2, show ¬ i - L < M by omega, show i - (L + M) = i - L - M by omega]
theorem testBit_mod_pow (n w t : Nat) : (n % 2 ^ w).testBit t = (decide (t < w) && n.testBit t) := Nat.testBit_mod_two_pow n w t
theorem testBit_div_pow (n w t : Nat) : (n / 2 ^ w).testBit t = n.testBit (w + t) := by
  rw [← Nat.shiftRight_eq_div_pow, Nat.testBit_shiftRight]
theorem put_parts {f : Nat → Bool} {L n : Nat} (w : Nat) (hw : w ≤ 64) : putF (putF f L (n / 2 ^ w) (64 - w)) (L + (64 - w)) (n % 2 ^ w) w = putF f L n 64 := by
  funext i
  unfold putF
  by_cases h0 : i < L
  · simp [show ¬ L ≤ i by omega, show ¬ L + (64 - w) ≤ i by omega]
  · by_cases h1 : i < L + (64 - w)
    · rw [testBit_div_pow, show w + (64 - w - 1 - (i - L)) = 64 - 1 - (i - L) by omega]
      simp [show L ≤ i by omega, h1, show ¬ L + (64 - w) ≤ i by omega, show i < L + 64 by omega]
    · by_cases h2 : i < L + 64
      · rw [testBit_mod_pow, show w - 1 - (i - (L + (64 - w))) = 64 - 1 - (i - L) by omega]
        simp [show L ≤ i by omega, h1, h2, show L + (64 - w) ≤ i by omega, show i < L + (64 - w) + w by omega, show 63 - (i - L) < w by omega]
      · simp [h1, h2, show ¬ i < L + (64 - w) + w by omega]
theorem cut_at (A : Option Addr) (n c L p q l : Nat) (f : Nat → Bool) (w : World) (hr : Rd w A (cellsF f n)) (hs : RS L n f) (hpq : p ≤ q) (hq : q ≤ L) (hl : q - p = l) :
    Calls Try.prog 22 #[.agg #[.slice A n c, .int .i64 L], .int .i64 p, .int .i64 q] w (GoodS w l (cutF f p l)) := by
  subst hl
  exact cut_good A n c L p q f w hr hs hpq hq
theorem field_at (A : Option Addr) (n c L : Nat) (wd M : Nat) (m : Nat) (f : Nat → Bool) (w : World) (hr : Rd w A (cellsF f n)) (hs : RS L n f) (hw : wd ≤ 64) (hm : m < 2 ^ wd) (hM : L + wd = M) (h : M ≤ 4194304) :
    Calls Try.prog 25 #[.agg #[.slice A n c, .int .i64 L], .int .u64 m, .int .i64 wd] w (GoodS w M (putF f L m wd)) := by
  subst hM
  exact field_good A n c L wd m f w hr hs hw hm h
theorem join_at (A A' : Option Addr) (n c n' c' : Nat) (L L' M : Nat) (f f' : Nat → Bool) (w : World) (hr : Rd w A (cellsF f n)) (hs : RS L n f) (hr' : Rd w A' (cellsF f' n')) (hs' : RS L' n' f') (hM : L + L' = M) (h : M ≤ 4194304) :
    Calls Try.prog 18 #[.agg #[.slice A n c, .int .i64 L], .agg #[.slice A' n' c', .int .i64 L']] w (GoodS w M (joinF f L f')) := by
  subst hM
  exact join_good A A' n c n' c' L L' f f' w hr hs hr' hs' h
end Go.Proofs.Ytnhlenagojbigaa
