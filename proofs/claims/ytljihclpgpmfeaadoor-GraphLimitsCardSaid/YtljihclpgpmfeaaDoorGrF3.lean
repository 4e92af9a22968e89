/- What the walks are told of numbers of 16 bits that came in. -/
import Derived.Test.YtljihclpgpmfeaaDoorGrF2
import Derived.Test.YtljihclpgpmfeaaDoorSha
namespace Go.Proofs.YtljihclpgpmfeaaDoor
set_option maxRecDepth 100000
open Go.RowKit Go.ChangeShapes Go.WideShapes Go.ChangeAt Go.Joins

section
variable {H : Type} {enc : TypeId × Value → H} {W : World} {base : Nat} {v : Value} {d : DataW H} {p : List MemPlace}
theorem open_u16s (hv : Value.okWide Tryd.prog W .any base 36 v) (h : DataW.Trod enc Tryd.prog W 0 (fun _ => true) true 36 v d p) :
    ∃ A n c l, v = .slice A n c ∧ ArgU W A n c l := by
  obtain ⟨A, n, c, rfl⟩ := okWide_slice Tryd.underlying36 hv
  obtain ⟨fuel, hf⟩ := h
  have hf : DataW.trod enc Tryd.prog W 0 (fun _ => true) true fuel 36 [.slice A n c] = some (d, p) := by simpa [Value.cells] using hf
  rcases open_ints Tryd.underlying36 Tryd.underlying75 (by kernel_rfl) hf with ⟨hcs, _⟩ | ⟨x, l, c', zs, hcs, _, hl, hm, hz, _, hcell, hwz⟩
  · simp at hcs
    obtain ⟨rfl, rfl, rfl⟩ := hcs
    exact ⟨none, 0, 0, [], rfl, Rd.nil, rfl, by omega, Nat.le_refl _, by simp⟩
  · simp at hcs
    obtain ⟨rfl, rfl, rfl⟩ := hcs
    have hz' : zs.length = c := by simpa using hz
    unfold maxLen at hm
    have hrng : ∀ z ∈ zs, 0 ≤ z ∧ z < 65536 := fun z hz => by
      have h := hwz z hz
      simp [Lit.wf] at h
      have e1 : IntKind.u16.min = 0 := by decide
      have e2 : IntKind.u16.max = 65535 := by decide
      exact ⟨by have := h.1; omega, by have := h.2; omega⟩
    refine ⟨some x, n, c, (zs.take n).map Int.toNat, rfl, fun hlen => ?_, by rw [List.length_map, List.length_take]; omega, by omega, hl, fun y hy => ?_⟩
    · rw [length_cellsU, List.length_map, List.length_take] at hlen
      obtain ⟨b, off, rfl, hb⟩ := cell_head (hcell 0 (by omega))
      refine ⟨b, off, rfl, hb, fun j v hv => ?_⟩
      have hj : j < n := by
        have := (List.getElem?_eq_some_iff.1 hv).1
        rw [length_cellsU, List.length_map, List.length_take] at this; omega
      have hcj := hcell j (by omega)
      rw [add_off] at hcj
      have hzj : zs[j]? = some zs[j] := List.getElem?_eq_getElem (by omega)
      have h2 := cellsU_at (l := (zs.take n).map Int.toNat) (i := j) (x := (zs[j]).toNat) (by rw [List.getElem?_map, List.getElem?_take, if_pos hj, hzj]; rfl)
      rw [h2] at hv
      injection hv with hv
      have := hrng zs[j] (List.getElem_mem (by omega))
      rw [hcj, List.getD_eq_getElem?_getD, hzj, ← hv]
      show some (Value.int .u16 zs[j]) = _
      congr 2; omega
    · obtain ⟨z, hz, rfl⟩ := List.mem_map.1 hy
      have := hrng z (List.mem_of_mem_take hz)
      omega
end
end Go.Proofs.YtljihclpgpmfeaaDoor
