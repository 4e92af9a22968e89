/- Plain facts: things put one behind the other. -/
import Derived.Test.YtnhlenagojbigaaStrW
import Derived.Test.YtnhlenagojbigaaRow
namespace Go.Proofs.Ytnhlenagojbigaa
open Go.RowKit

/-- How many bits there are once i things are put; the bits. -/
def lenB (L : Nat) (th : Nat → Nat × Nat) : Nat → Nat
  | 0 => L
  | i + 1 => lenB L th i + sizeT (th i).1 (th i).2
def bitB (f : Nat → Bool) (L : Nat) (th : Nat → Nat × Nat) : Nat → Nat → Bool
  | 0 => f
  | i + 1 => putT (bitB f L th i) (lenB L th i) (th i).1 (th i).2
theorem lenB_le (L : Nat) (th : Nat → Nat × Nat) : ∀ i, L ≤ lenB L th i ∧ lenB L th i ≤ L + 127 * i
  | 0 => ⟨Nat.le_refl _, Nat.le_refl _⟩
  | i + 1 => by
    have h := lenB_le L th i
    have h2 := sizeT_le (th i).1 (th i).2
    show L ≤ lenB L th i + sizeT (th i).1 (th i).2 ∧ lenB L th i + sizeT (th i).1 (th i).2 ≤ _
    omega
theorem lenB_mono (L : Nat) (th : Nat → Nat × Nat) {i : Nat} : ∀ {j}, i ≤ j → lenB L th i ≤ lenB L th j
  | 0, h => by obtain rfl : i = 0 := by omega
               exact Nat.le_refl _
  | j + 1, h => by
    by_cases he : i = j + 1
    · subst he; exact Nat.le_refl _
    · have := lenB_mono L th (i := i) (j := j) (by omega)
      show _ ≤ lenB L th j + sizeT (th j).1 (th j).2
      omega
theorem bitB_RS {f : Nat → Bool} {L n : Nat} (th : Nat → Nat × Nat) (h : RS L n f) (hL : L ≤ 2000) : ∀ i, i ≤ 30 → RS (lenB L th i) ((lenB L th i + 7) / 8) (bitB f L th i)
  | 0, _ => ⟨h.le, rfl, h.zero⟩
  | i + 1, hi => putT_RS (bitB_RS th h hL i (by omega)) rfl (by have := (lenB_le L th (i + 1)).2; show lenB L th (i + 1) ≤ _; omega)
theorem bitB_ahead {f : Nat → Bool} {L : Nat} {th : Nat → Nat × Nat} {i x : Nat} : ∀ {j}, i ≤ j → x < lenB L th i → bitB f L th j x = bitB f L th i x
  | 0, h, _ => by obtain rfl : i = 0 := by omega
                  rfl
  | j + 1, h, hx => by
    by_cases he : i = j + 1
    · subst he; rfl
    · rw [← bitB_ahead (j := j) (by omega) hx]
      exact putT_ahead (Nat.lt_of_lt_of_le hx (lenB_mono L th (by omega)))
theorem thing_stands {f : Nat → Bool} {L n : Nat} {th : Nat → Nat × Nat} (h : RS L n f) (hL : L ≤ 2000) {i j : Nat} (hij : i < j) (hj : j ≤ 30) : ThingAt (bitB f L th j) (lenB L th i) (th i).1 (th i).2 := by
  have h1 : ThingAt (bitB f L th (i + 1)) (lenB L th i) (th i).1 (th i).2 := thingAt_put (bitB_RS th h hL i (by omega)).zero
  exact h1.congr fun x _ hx => (bitB_ahead (by omega) hx).symm
theorem back_ahead {f : Nat → Bool} {L n : Nat} {th : Nat → Nat × Nat} (h : RS L n f) {m : Nat} : cutF (bitB f L th m) 0 L = f := by
  funext i
  unfold cutF
  rw [Nat.zero_add]
  by_cases hi : i < L
  · rw [decide_eq_true hi, Bool.and_true]; exact bitB_ahead (i := 0) (Nat.zero_le _) hi
  · rw [decide_eq_false hi, Bool.and_false]; exact (h.zero i (by omega)).symm
/-- The places behind the first i things. -/
def endsL (L : Nat) (th : Nat → Nat × Nat) (i : Nat) : List Value := (List.range (i + 1)).map fun j => .int .i64 (lenB L th j : Nat)
theorem length_endsL (L : Nat) (th : Nat → Nat × Nat) (i : Nat) : (endsL L th i).length = i + 1 := by simp [endsL]
theorem endsL_succ (L : Nat) (th : Nat → Nat × Nat) (i : Nat) : endsL L th i ++ [.int .i64 (lenB L th (i + 1) : Nat)] = endsL L th (i + 1) := by
  unfold endsL
  rw [List.range_succ (n := i + 1)]
  simp
theorem endsL_at (L : Nat) (th : Nat → Nat × Nat) {i j : Nat} (h : j ≤ i) : (endsL L th i)[j]? = some (.int .i64 (lenB L th j : Nat)) := by
  unfold endsL
  rw [List.getElem?_map, List.getElem?_range (by omega)]
  rfl
/-- The cells of k things. -/
def cellsT (th : Nat → Nat × Nat) : Nat → List Value
  | 0 => []
  | k + 1 => cellsT th k ++ [.int .u64 ((th k).1 : Nat), .int .u8 ((th k).2 : Nat)]
theorem length_cellsT (th : Nat → Nat × Nat) : ∀ k, (cellsT th k).length = 2 * k
  | 0 => rfl
  | k + 1 => by simp [cellsT, length_cellsT th k]; omega
theorem cellsT_at (th : Nat → Nat × Nat) {i : Nat} : ∀ {k}, i < k → (cellsT th k)[2 * i]? = some (.int .u64 ((th i).1 : Nat)) ∧ (cellsT th k)[2 * i + 1]? = some (.int .u8 ((th i).2 : Nat))
  | 0, h => by omega
  | k + 1, h => by
    have hl := length_cellsT th k
    by_cases he : i = k
    · subst he
      constructor
      · rw [cellsT, List.getElem?_append_right (by omega), hl, Nat.sub_self]; rfl
      · rw [cellsT, List.getElem?_append_right (by omega), hl, Nat.add_sub_cancel_left]; rfl
    · have ih := cellsT_at th (i := i) (k := k) (by omega)
      constructor
      · rw [cellsT, List.getElem?_append_left (by omega)]; exact ih.1
      · rw [cellsT, List.getElem?_append_left (by omega)]; exact ih.2
end Go.Proofs.Ytnhlenagojbigaa
