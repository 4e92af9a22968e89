/- What the chapter's example is, plainly. -/
import Derived.Test.YtljihclpgpmfeaaDoorGu
import Derived.Test.YtljihclpgpmfeaaDoorGv
import Derived.Test.YtljihclpgpmfeaaDoorGw
import Derived.Test.YtljihclpgpmfeaaDoorBs
import Derived.Test.YtljihclpgpmfeaaDoorGl
namespace Go.Proofs.YtljihclpgpmfeaaDoor
set_option maxRecDepth 100000
open Go.RowKit

def ex0 : List UInt8 := [51, 32, 50, 10, 50, 32, 48, 10, 48, 32, 49, 10]
def exE : List (Int × Int) := [(0, 1), (0, 2)]
theorem exE_right : rightG 3 exE = true := by decide
theorem exE_rise : riseE ([(2, 0), (0, 1)].map normE) = exE := by
  refine rises_ext (riseE_rises (by decide)) (rightG_rises exE_right) fun e => ?_
  rw [mem_rise]
  show e ∈ [((0 : Int), (2 : Int)), (0, 1)] ↔ e ∈ [((0 : Int), (1 : Int)), (0, 2)]
  simp only [List.mem_cons, List.not_mem_nil, or_false]
  exact Or.comm
theorem ex_new : newO 3 [(2, 0), (0, 1)] = .ok exE := by
  rw [newO_ok (by decide) (by decide) (by decide) (fun e he => ?_) (by decide), exE_rise]
  simp only [List.mem_cons, List.not_mem_nil, or_false] at he
  rcases he with rfl | rfl <;> exact ⟨by decide, by decide, by decide⟩
theorem ex_parN : parN ex0 = 3 := by decide
theorem ex_parO : parO ex0 = .ok exE := by
  have h1 : pairG ex0 = some ((3, 2), [50, 32, 48, 10, 48, 32, 49, 10]) := by decide
  have h2 : linesG 2 [50, 32, 48, 10, 48, 32, 49, 10] = some ([(2, 0), (0, 1)], []) := by decide
  unfold parO
  rw [h1]
  simp only []
  rw [if_neg (by decide), h2]
  simp only [if_true]
  exact ex_new
theorem ex_w0 : parO [50, 32, 49, 10, 48, 32, 48, 10] = .error 20 := by rfl
theorem ex_w1 : parO [50, 32, 50, 10, 48, 32, 49, 10, 49, 32, 48, 10] = .error 20 := by rfl
theorem ex_w2 : parO [48, 51, 32, 48, 10] = .error 20 := by rfl
theorem ex_w3 : parO [] = .error 20 := by rfl
theorem ex_w4 : parO [50, 48, 49, 32, 48, 10] = .error 21 := by rfl
theorem itoa_small : Lib.itoa 0 = [48] ∧ Lib.itoa 1 = [49] ∧ Lib.itoa 2 = [50] ∧ Lib.itoa 3 = [51] := by
  have key : ∀ i : Nat, i < 10 → Lib.itoa (i : Int) = [UInt8.ofNat (48 + i)] := by
    intro i hi
    unfold Lib.itoa
    rw [if_neg (by omega), Int.toNat_natCast, Lib.decDigits_one hi]
  exact ⟨key 0 (by decide), key 1 (by decide), key 2 (by decide), key 3 (by decide)⟩
theorem ex_text : textO 3 exE = some [51, 32, 50, 10, 48, 32, 49, 10, 48, 32, 50, 10] := by
  unfold textO
  rw [if_pos exE_right]
  obtain ⟨h0, h1, h2, h3⟩ := itoa_small
  unfold textG
  rw [show ((exE.length : Nat) : Int) = 2 from rfl]
  unfold lineB exE
  simp only [List.flatMap_cons, List.flatMap_nil]
  rw [h0, h1, h2, h3]
  rfl
theorem ex_bytes : ∃ f : Nat → Bool, bytesO 3 exE = some (16, f) ∧ cellsF (packF f 16) 3 = cellsB [35, 171, 128] := by
  refine ⟨(knotsS (numsG 3 exE)).2, ?_, ?_⟩
  · unfold bytesO
    rw [if_pos exE_right]
    exact congrArg some (Prod.ext (by decide) rfl)
  · have h0 : byteF (packF (knotsS (numsG 3 exE)).2 16) 0 = 35 := by decide
    have h1 : byteF (packF (knotsS (numsG 3 exE)).2 16) 1 = 171 := by decide
    have h2 : byteF (packF (knotsS (numsG 3 exE)).2 16) 2 = 128 := by decide
    show [Value.int .u8 ((byteF _ 0 : Nat) : Int), Value.int .u8 ((byteF _ 1 : Nat) : Int), Value.int .u8 ((byteF _ 2 : Nat) : Int)] = _
    rw [h0, h1, h2]
    rfl
theorem ex_beside : besideG 3 exE = some [[1, 2], [0], [0]] := by
  unfold besideG
  rw [if_pos exE_right]
  decide
theorem ex_has1 : hasG 3 exE 2 0 = true := by decide
theorem ex_has2 : hasG 3 exE 1 2 = false := by decide
end Go.Proofs.YtljihclpgpmfeaaDoor
