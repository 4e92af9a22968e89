/- Words for a region's values; the bounds of an order; a string of bytes beside another one. -/
import Derived.Test.YtmfeponanjgapaaWq
import Derived.Test.YtmfeponanjgapaaPost
namespace Go.Proofs.Ytmfeponanjgapaa
open Go.RowKit

theorem cb_bd : ∀ a b : List UInt8, -1 ≤ Lib.compareBytes a b ∧ Lib.compareBytes a b ≤ 1
  | [], [] => by simp [Lib.compareBytes]
  | [], _ :: _ => by simp [Lib.compareBytes]
  | _ :: _, [] => by simp [Lib.compareBytes]
  | a :: us, b :: vs => by
    unfold Lib.compareBytes
    split
    · omega
    · split
      · omega
      · exact cb_bd us vs
theorem cmpW_bd : ∀ a b : List (List UInt8), -1 ≤ cmpW a b ∧ cmpW a b ≤ 1
  | [], [] => by simp [cmpW]
  | [], _ :: _ => by simp [cmpW]
  | _ :: _, [] => by simp [cmpW]
  | a :: us, b :: vs => by
    unfold cmpW
    split
    · exact cmpW_bd us vs
    · exact cb_bd a b
def Pst.bts (l : List UInt8) : Pst := .mk' (fun v W => ∃ A c, v = .slice A l.length c ∧ Rd W A (cellsB l)) (fun ⟨A, c, e, h⟩ hb => ⟨A, c, e, h.below hb⟩)
def Pst.wds (ws : List (List UInt8)) : Pst := .mk' (fun v W => ∃ A c, v = .slice A ws.length c ∧ ws.length ≤ c ∧ RdW W A ws) (fun ⟨A, c, e, h0, h⟩ hb => ⟨A, c, e, h0, h.below hb⟩)
theorem RowW.rdc {B : Nat} {W : World} {v : Value} {ws : List (List UInt8)} (h : RowW B W v ws) : ∃ A c, v = .slice A ws.length c ∧ ws.length ≤ c ∧ RdW W A ws := by
  rcases h with ⟨rfl, rfl⟩ | ⟨g, cap, vs, more, e, hg, ho, h1, h2, h3, h4, h5⟩
  · exact ⟨none, 0, rfl, Nat.le_refl _, [], rfl, Rd.nil, fun i v l hv => by simp at hv⟩
  · exact ⟨_, cap, e, h2, vs, h1, rd_front ho, fun i v l hv hl => (h5 i v l hv hl).wd⟩
theorem cmpW_beq (a b : List (List UInt8)) : (cmpW a b == 0) = (a == b) := by
  rw [Bool.eq_iff_iff, beq_iff_eq, beq_iff_eq]
  exact cmpW_iff
theorem str_bytes {us vs : List (List UInt8)} (h0 : us.length ≤ 60) (h0' : vs.length ≤ 60) (h1 : ∀ l ∈ us, l.length ≤ 60) (h2 : ∀ l ∈ vs, l.length ≤ 60) : ((strB (bytesW us)).toList == (strB (bytesW vs)).toList) = (us == vs) := by
  rw [strB_beq, bytesW_inj h0 h0' h1 h2]
theorem turn_sizes {ws : List (List UInt8)} {j : Nat} (h : ∀ l ∈ ws, l.length ≤ 1000) : ∀ l ∈ turnW ws j, l.length ≤ 1000 := by
  intro l hl
  unfold turnW at hl
  rcases List.mem_append.1 hl with h1 | h1
  · exact h l (List.mem_of_mem_drop h1)
  · exact h l (List.mem_of_mem_take h1)
end Go.Proofs.Ytmfeponanjgapaa
