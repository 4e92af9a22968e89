/- Sorting a row of the call's own; the closure that ranks asks; ranks. -/
import Derived.Test.YtmfeponanjgapaaRk
import Derived.Test.YtmfeponanjgapaaWh
import Derived.Test.YtmfeponanjgapaaShelfSort
namespace Go.Proofs.Ytmfeponanjgapaa
open Go.RowKit Go.Sort Go.Shelf

section
variable {α : Type} [Inhabited α] {enc : α → Value} {w : World} {g n : Nat} {t : TypeId} {os : Array Obj} {d0 d : Array α}
theorem grown_sort : w.grownBy (sortWorld enc w g 0 n d os) (some g) := by
  unfold sortWorld
  refine ⟨rfl, rfl, rfl, by simp [putRow, mapBlock, Sort.ahead, grow], fun k hk hne => ?_⟩
  rw [heap_grow_old _ _ (by simpa [putRow, mapBlock, Sort.ahead] using hk)]
  have : g ≠ k := fun e => hne (by rw [e])
  simp [putRow, mapBlock, Sort.ahead, Array.getElem?_modify, this]
theorem own_sort (h : Own w g t (d0.toList.map enc)) (hs : d.size = d0.size) : Own (sortWorld enc w g 0 n d os) g t (d.toList.map enc) := by
  have hl := h.lt
  unfold Own at h ⊢
  unfold sortWorld
  rw [heap_grow_old _ _ (by simpa [putRow, mapBlock, Sort.ahead] using hl)]
  simp [putRow, mapBlock, Sort.ahead, Array.getElem?_modify, h, onCells]
  apply Array.ext_getElem?
  intro i
  simp only [putCells, Array.getElem?_mapIdx]
  by_cases hi : i < d.size
  · simp [hs ▸ hi, hi]
  · simp [show ¬ i < d0.size by omega, hi]
theorem holds_own (h : Own w g t (d.toList.map enc)) : Holds enc w g 0 d := by
  intro j hj
  refine ⟨?_, h.frozen _⟩
  rw [h.cell, Nat.zero_add]
  simp [hj]
end
theorem RdW.atD {w : World} {A : Option Addr} {ws : List (List UInt8)} (h : RdW w A ws) : ∃ b off, (0 < ws.length → A = some ⟨b, off, none⟩ ∧ b < w.heap.size) ∧
    ∀ i, i < ws.length → ∃ B c, w.cell? ⟨b, off + i, none⟩ = some (.slice B (wd ws i).length c) ∧ Rd w B (cellsB (wd ws i)) := by
  obtain ⟨b, off, h0, h1⟩ := h.at
  refine ⟨b, off, h0, fun i hi => h1 i _ ?_⟩
  unfold wd
  rw [List.getD_eq_getElem?_getD, List.getElem?_eq_getElem hi]
  rfl
set_option maxRecDepth 100000 in
set_option maxHeartbeats 2000000 in
theorem rankCmp_any (A : Option Addr) (n c bx a b : Nat) (ws : List (List UInt8)) (w W : World) (hr : RdW w A ws) (hl : n = ws.length) (hb : Below w.heap.size w W) (hx : W.cell? ⟨bx, 0, none⟩ = some (.slice A n c)) (ha : a < n) (hbn : b < n) :
    Calls Try.prog 34 #[.int .i64 a, .int .i64 b, .pointer (some ⟨bx, 0, none⟩)] W fun e w' => e = .returned (.int .i64 (Lib.compareBytes (wd ws a) (wd ws b))) ∧ ∃ q, w' = W.drewN q := by
  obtain ⟨g, off, h0, h1⟩ := hr.atD
  have hA := (h0 (by omega)).1
  have hg := (h0 (by omega)).2
  subst hA
  obtain ⟨B1, c1, e1, r1⟩ := h1 a (by omega)
  obtain ⟨B2, c2, e2, r2⟩ := h1 b (by omega)
  have d1 : W.drew.cell? ⟨g, off + a, none⟩ = some (.slice B1 (wd ws a).length c1) := ((below_cells hb).1 _ _ hg).trans e1
  have d2 : W.drew.cell? ⟨g, off + b, none⟩ = some (.slice B2 (wd ws b).length c2) := ((below_cells hb).1 _ _ hg).trans e2
  have d3 : W.drew.cell? ⟨bx, 0, none⟩ = some (.slice (some ⟨g, off, none⟩) n c) := hx
  have R1 := Lib.hid (r1.below hb); have R2 := Lib.hid (r2.below hb)
  clear hr h0 h1 hb e1 e2 r1 r2 hl hx
  generalize wd ws a = x at *
  generalize wd ws b = y at *
  go_enter Try.func34, Try.ntmps34
  go_wp2
  refine region_tail 8 (by kernel_rfl) (by kernel_rfl) ?_
  simp only [List.take_succ_cons, List.take_zero, List.drop_succ_cons, List.drop_zero]
  repeat (refine still_step rfl rfl (fun K hK => ?_); go_wp2)
  refine wpStill_nil ?_
  go_wp2_with fail
  refine (bytesCompare_any B1 B2 x.length c1 y.length c2 x y _ rfl rfl R1.out.drew R2.out.drew).mono ?_
  rintro e _ ⟨rfl, rfl⟩
  go_wp2
  go_ret
  exact ⟨rfl, 1, rfl⟩
end Go.Proofs.Ytmfeponanjgapaa
