/- Plain facts: texts of the digits 0 and 1, as bit functions. No program is named. -/
import Derived.Test.YtljihclpgpmfeaaDoorUa
import Derived.Test.YtljihclpgpmfeaaDoorUb
import Derived.Laws.BytesArg
namespace Go.Proofs.YtljihclpgpmfeaaDoor
set_option maxRecDepth 100000
open Go.RowKit

/-- The text of the first n bits of f. -/
def txtL (f : Nat → Bool) (n : Nat) : List UInt8 := (List.range n).map fun i => if f i then 49 else 48
def txtF (f : Nat → Bool) (n : Nat) : ByteArray := ⟨(txtL f n).toArray⟩
theorem length_txtL (f : Nat → Bool) (n : Nat) : (txtL f n).length = n := by simp [txtL]
theorem txtF_size (f : Nat → Bool) (n : Nat) : (txtF f n).size = n := by
  show (txtL f n).toArray.size = n
  rw [List.size_toArray, length_txtL]
theorem txtF_zero (f : Nat → Bool) : txtF f 0 = ⟨#[]⟩ := rfl
theorem txtL_at (f : Nat → Bool) {n i : Nat} (h : i < n) : (txtL f n)[i]? = some (if f i then 49 else 48) := by
  unfold txtL
  rw [List.getElem?_map, List.getElem?_range h]
  rfl
theorem txtF_get (f : Nat → Bool) (n i : Nat) (h : i < (txtF f n).size) : (txtF f n)[i].toNat = 48 + (f i).toNat := by
  have hn : i < n := by rw [txtF_size] at h; exact h
  have h1 := txtL_at f hn
  have h2 : (txtF f n)[i] = (txtL f n)[i]'(by rw [length_txtL]; exact hn) := rfl
  rw [h2]
  rw [List.getElem?_eq_getElem (by rw [length_txtL]; exact hn)] at h1
  injection h1 with h1
  rw [h1]
  cases f i <;> rfl
theorem txtF_congr {f g : Nat → Bool} {n : Nat} (h : ∀ i, i < n → f i = g i) : txtF f n = txtF g n := by
  unfold txtF
  congr 2
  unfold txtL
  refine List.map_congr_left fun i hi => ?_
  rw [h i (List.mem_range.1 hi)]
theorem txtF_append (f g : Nat → Bool) (n m : Nat) : txtF f n ++ txtF g m = txtF (fun i => if i < n then f i else g (i - n)) (n + m) := by
  apply ByteArray.ext
  apply Array.ext'
  have h1 : (txtF f n ++ txtF g m).data.toList = txtL f n ++ txtL g m := by simp [txtF]
  rw [h1]
  show _ = txtL _ _
  apply List.ext_getElem?
  intro i
  rcases Nat.lt_or_ge i n with hi | hi
  · rw [List.getElem?_append_left (by rw [length_txtL]; exact hi), txtL_at _ hi, txtL_at _ (show i < n + m by omega), if_pos hi]
  · rw [List.getElem?_append_right (by rw [length_txtL]; exact hi), length_txtL]
    rcases Nat.lt_or_ge i (n + m) with h2 | h2
    · rw [txtL_at g (i := i - n) (by omega), txtL_at _ h2, if_neg (show ¬ i < n by omega)]
    · rw [List.getElem?_eq_none (by rw [length_txtL]; omega), List.getElem?_eq_none (by rw [length_txtL]; omega)]
theorem txtF_extract (f : Nat → Bool) {n p q : Nat} (hp : p ≤ q) (hq : q ≤ n) : (txtF f n).extract p q = txtF (fun i => f (p + i)) (q - p) := by
  apply ByteArray.ext
  apply Array.ext'
  have h1 : ((txtF f n).extract p q).data.toList = ((txtL f n).take q).drop p := by
    simp [txtF]
    rw [List.take_drop]
    congr 2; omega
  rw [h1]
  show _ = txtL _ _
  apply List.ext_getElem?
  intro i
  rw [List.getElem?_drop, List.getElem?_take]
  split
  · rw [txtL_at _ (by omega), txtL_at _ (by omega)]
  · rw [List.getElem?_eq_none (by rw [length_txtL]; omega)]
/-- The cells of such a text. -/
def cellsD (f : Nat → Bool) (n : Nat) : List Value := (List.range n).map fun i => .int .u8 (48 + (f i).toNat : Nat)
theorem length_cellsD (f : Nat → Bool) (n : Nat) : (cellsD f n).length = n := by simp [cellsD]
theorem cellsD_at (f : Nat → Bool) {n i : Nat} (h : i < n) : (cellsD f n)[i]? = some (.int .u8 (48 + (f i).toNat : Nat)) := by
  unfold cellsD
  rw [List.getElem?_map, List.getElem?_range h]
  rfl
theorem cellsD_succ (f : Nat → Bool) (n : Nat) : cellsD f n ++ [.int .u8 (48 + (f n).toNat : Nat)] = cellsD f (n + 1) := by
  unfold cellsD
  rw [List.range_succ]
  simp
def numsD (f : Nat → Bool) (n : Nat) : List Int := (List.range n).map fun i => ((48 + (f i).toNat : Nat) : Int)
theorem numsD_map (f : Nat → Bool) (n : Nat) : (numsD f n).map (Value.int .u8) = cellsD f n := by
  unfold numsD cellsD
  rw [List.map_map]; rfl
theorem length_numsD (f : Nat → Bool) (n : Nat) : (numsD f n).length = n := by simp [numsD]
theorem strOf_numsD (f : Nat → Bool) (n : Nat) : strOfNums (numsD f n) = txtF f n := by
  unfold strOfNums txtF txtL numsD
  congr 2
  rw [List.map_map]
  refine List.map_congr_left fun i _ => ?_
  show UInt8.ofNat ((48 + (f i).toNat : Nat) : Int).toNat = _
  rw [Int.toNat_natCast]
  cases f i <;> rfl
end Go.Proofs.YtljihclpgpmfeaaDoor
