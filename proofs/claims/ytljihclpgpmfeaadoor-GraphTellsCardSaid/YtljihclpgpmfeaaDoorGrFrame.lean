/- What the walks are told of numbers, or of a graph, that came in. -/
import Derived.Test.YtljihclpgpmfeaaDoorUf
import Derived.Test.YtljihclpgpmfeaaDoorRows
import Derived.Deep.Slices
import Derived.ProofKit
import Derived.OpenShut
import Derived.ShutString
import Derived.ChangeOld
import Derived.Below
import Derived.Lib.SmallJoins
namespace Go.Proofs.YtljihclpgpmfeaaDoor
set_option maxRecDepth 100000
open Go.RowKit Go.ChangeShapes Go.WideShapes Go.ChangeAt Go.Joins Go.Deep

theorem own : ownKnob Tryd.prog.godebug = none := by kernel_rfl
theorem laidOut : laidOutB Tryd.prog = true := by kernel_rfl
/-- A number of 64 bits. -/
def Fits (x : Int) : Prop := -9223372036854775808 ≤ x ∧ x ≤ 9223372036854775807
theorem fits_wf {x : Int} (h : (Lit.int .i64 x).wf = true) : Fits x := by
  simp [Lit.wf] at h
  have e1 : IntKind.i64.min = -9223372036854775808 := by decide
  have e2 : IntKind.i64.max = 9223372036854775807 := by decide
  exact ⟨by have := h.1; omega, by have := h.2; omega⟩
theorem cell_head {W : World} {x : Addr} {v : Value} (h0 : W.cell? (x.add 0) = some v) : ∃ b off, x = ⟨b, off, none⟩ ∧ b < W.heap.size := by
  obtain ⟨b, off, spot⟩ := x
  have hspot : spot = none := by simpa [Addr.add] using World.cell?_spot h0
  subst hspot
  refine ⟨b, off, rfl, ?_⟩
  rcases Nat.lt_or_ge b W.heap.size with hlt | hge
  · exact hlt
  · exfalso
    have : W.cell? ((⟨b, off, none⟩ : Addr).add 0) = none := by simp [Addr.add, World.cell?, Array.getElem?_eq_none hge]
    rw [this] at h0; cases h0
theorem addr_add2 (a : Addr) (i j : Nat) : (a.add i).add j = a.add (i + j) := by
  obtain ⟨b, off, spot⟩ := a
  unfold Addr.add
  by_cases h0 : i = 0
  · subst h0; simp
  · by_cases h1 : j = 0
    · subst h1; simp
    · simp [h0, h1, Nat.add_assoc]
section
variable {H : Type} {enc : TypeId × Value → H} {W : World} {base : Nat} {v : Value} {d : DataW H} {p : List MemPlace}
theorem open_nums (hv : Value.okWide Tryd.prog W .any base 44 v) (h : DataW.Trod enc Tryd.prog W 0 (fun _ => true) true 44 v d p) :
    ∃ A n c l, v = .slice A n c ∧ ArgI W A n c l ∧ ∀ x ∈ l, Fits x := by
  obtain ⟨A, n, c, rfl⟩ := okWide_slice Tryd.underlying44 hv
  obtain ⟨fuel, hf⟩ := h
  have hf : DataW.trod enc Tryd.prog W 0 (fun _ => true) true fuel 44 [.slice A n c] = some (d, p) := by simpa [Value.cells] using hf
  rcases open_ints Tryd.underlying44 Tryd.underlying3 (by kernel_rfl) hf with ⟨hcs, _⟩ | ⟨x, l, c', zs, hcs, _, hl, hm, hz, _, hcell, hwz⟩
  · simp at hcs
    obtain ⟨rfl, rfl, rfl⟩ := hcs
    exact ⟨none, 0, 0, [], rfl, ⟨Rd.nil, rfl, by omega, Nat.le_refl _⟩, by simp⟩
  · simp at hcs
    obtain ⟨rfl, rfl, rfl⟩ := hcs
    have hz' : zs.length = c := by simpa using hz
    unfold maxLen at hm
    refine ⟨some x, n, c, zs.take n, rfl, ⟨fun hlen => ?_, by rw [List.length_take]; omega, by omega, hl⟩, fun y hy => fits_wf (hwz y (List.mem_of_mem_take hy))⟩
    rw [length_cellsI, List.length_take] at hlen
    obtain ⟨b, off, rfl, hb⟩ := cell_head (hcell 0 (by omega))
    refine ⟨b, off, rfl, hb, fun j v hv => ?_⟩
    have hj : j < n := by
      have := (List.getElem?_eq_some_iff.1 hv).1
      rw [length_cellsI, List.length_take] at this; omega
    have hcj := hcell j (by omega)
    unfold cellsI at hv
    rw [List.getElem?_map, List.getElem?_take, if_pos hj, List.getElem?_eq_getElem (by omega)] at hv
    injection hv with hv
    rw [← hv]
    rw [add_off] at hcj
    rw [hcj, List.getD_eq_getElem?_getD, List.getElem?_eq_getElem (by omega)]
    rfl
theorem one_of {y : Value} {l : List Value} (h : l.take 1 = [y]) : l[0]? = some y := by
  cases l with
  | nil => simp at h
  | cons a l => simp at h; simp [h]
theorem edges_of {fuel : Nat} {A : Option Addr} {n c : Nat} {y : DataW H × List MemPlace} (hf : DataW.trod enc Tryd.prog W 0 (fun _ => true) true fuel 24 [.slice A n c] = some y) :
    ∃ l, ArgE W A n c l ∧ ∀ e ∈ l, Fits e.1 ∧ Fits e.2 := by
  rcases open_slice Tryd.underlying24 hf with ⟨hcs, _⟩ | ⟨a, len, cap, m, n', D, Pl, hcs, _, hl, hml, hm, _, hi⟩
  · simp at hcs
    obtain ⟨rfl, rfl, rfl⟩ := hcs
    exact ⟨[], ⟨Rd.nil, rfl, by omega, Nat.le_refl _⟩, by simp⟩
  · simp at hcs
    obtain ⟨rfl, rfl, rfl⟩ := hcs
    have hC : Tryd.prog.cellsOf 49 = 2 := by kernel_rfl
    have hc0 : Tryd.prog.cellsOf 3 = 1 := by kernel_rfl
    simp only [if_true] at hm
    unfold maxLen at hml
    have hx : ∀ i, ∃ q : Int × Int, (Fits q.1 ∧ Fits q.2) ∧ (i < n → W.cell? (a.add (i * 2)) = some (.int .i64 q.1) ∧ W.cell? (a.add (i * 2 + 1)) = some (.int .i64 q.2)) := by
      intro i
      by_cases hik : i < n
      · obtain ⟨cs', hcell, ht⟩ := hi i (by omega)
        rw [hC] at hcell
        obtain ⟨_, hlen, hat⟩ := World.cells?_some hcell
        obtain ⟨xs, n2, _, _, _, hxl, hfld⟩ := DataW.trod_array Tryd.underlying49 ht
        have h0 := hfld 0 (by omega)
        have h1 := hfld 1 (by omega)
        match xs, hxl with
        | [x0, x1], _ =>
          rw [hc0] at h0 h1
          obtain ⟨N, e0, _, w0⟩ := DataW.trod_int Tryd.underlying3 h0
          obtain ⟨V, e1, _, w1⟩ := DataW.trod_int Tryd.underlying3 h1
          have q0 := hat 0 (by omega)
          have q1 := hat 1 (by omega)
          have g0 := one_of e0
          have g1 := one_of e1
          rw [List.getElem?_drop] at g0 g1
          refine ⟨(N, V), ⟨fits_wf w0, fits_wf w1⟩, fun _ => ⟨?_, ?_⟩⟩
          · rw [addr_add2, Nat.add_zero] at q0
            rw [q0]; simpa using g0
          · rw [addr_add2] at q1
            rw [q1]; simpa using g1
      · exact ⟨(0, 0), ⟨⟨by decide, by decide⟩, ⟨by decide, by decide⟩⟩, fun h => absurd h hik⟩
    obtain ⟨q, hq⟩ : ∃ q : Nat → Int × Int, ∀ i, (Fits (q i).1 ∧ Fits (q i).2) ∧ (i < n → W.cell? (a.add (i * 2)) = some (.int .i64 (q i).1) ∧ W.cell? (a.add (i * 2 + 1)) = some (.int .i64 (q i).2)) :=
      ⟨fun i => Classical.choose (hx i), fun i => Classical.choose_spec (hx i)⟩
    refine ⟨(List.range n).map q, ⟨fun hlen => ?_, by simp, by omega, hl⟩, fun e he => ?_⟩
    · rw [length_cellsE, List.length_map, List.length_range] at hlen
      have h0 := ((hq 0).2 (by omega)).1
      obtain ⟨b, off, rfl, hb⟩ := cell_head (x := a) (by simpa using h0)
      refine ⟨b, off, rfl, hb, fun j v hv => ?_⟩
      have hj : j < n * 2 := by
        have := (List.getElem?_eq_some_iff.1 hv).1
        rw [length_cellsE, List.length_map, List.length_range] at this; omega
      have hik : j / 2 < n := by omega
      have ht := (hq (j / 2)).2 hik
      have hg : ((List.range n).map q)[j / 2]? = some (q (j / 2)) := by rw [List.getElem?_map, List.getElem?_range hik]; rfl
      have hc2 := cellsE_at hg
      generalize q (j / 2) = y at ht hc2
      rw [add_off, add_off] at ht
      by_cases he : j % 2 = 0
      · have e1 : j / 2 * 2 = j := by omega
        rw [e1] at ht hc2
        rw [ht.1, ← hv, hc2.1]
      · have e1 : j / 2 * 2 + 1 = j := by omega
        rw [e1] at ht hc2
        rw [ht.2, ← hv, hc2.2]
    · obtain ⟨i, _, rfl⟩ := List.mem_map.1 he
      exact (hq i).1
theorem slice_of {fuel : Nat} {t e : TypeId} {x : Value} {y : DataW H × List MemPlace} (ht : Tryd.prog.underlying t = some (.slice e)) (hf : DataW.trod enc Tryd.prog W 0 (fun _ => true) true fuel t [x] = some y) : ∃ A n c, x = .slice A n c := by
  rcases open_slice ht hf with ⟨hcs, _⟩ | ⟨a, len, cap, m, n', D, Pl, hcs, _⟩
  · simp at hcs
    exact ⟨_, _, _, hcs⟩
  · simp at hcs
    exact ⟨_, _, _, hcs⟩
theorem open_edges (hv : Value.okWide Tryd.prog W .any base 24 v) (h : DataW.Trod enc Tryd.prog W 0 (fun _ => true) true 24 v d p) :
    ∃ A n c l, v = .slice A n c ∧ ArgE W A n c l ∧ ∀ e ∈ l, Fits e.1 ∧ Fits e.2 := by
  obtain ⟨A, n, c, rfl⟩ := okWide_slice Tryd.underlying24 hv
  obtain ⟨fuel, hf⟩ := h
  obtain ⟨l, h1, h2⟩ := edges_of (A := A) (n := n) (c := c) (by simpa [Value.cells] using hf)
  exact ⟨A, n, c, l, rfl, h1, h2⟩
theorem cellsGraph : Tryd.prog.cellsOf 26 = 2 := by kernel_rfl
theorem open_graph (hv : Value.okWide Tryd.prog W .any base 26 v) (h : DataW.Trod enc Tryd.prog W 0 (fun _ => true) true 26 v d p) :
    ∃ N A n c l, v = .agg #[.int .i64 N, .slice A n c] ∧ Fits N ∧ ArgE W A n c l ∧ ∀ e ∈ l, Fits e.1 ∧ Fits e.2 := by
  obtain ⟨c0, c1, y0, y1, m, rfl, rfl, rfl, hy0, hy1⟩ := open_agg2 Tryd.underlying26 (by kernel_rfl) cellsGraph hv h
  obtain ⟨N, e1, _, wN⟩ := DataW.trod_int Tryd.underlying3 hy0
  simp at e1
  subst e1
  obtain ⟨A, n, c, rfl⟩ := slice_of Tryd.underlying24 hy1
  obtain ⟨l, h1, h2⟩ := edges_of hy1
  exact ⟨N, A, n, c, l, rfl, fits_wf wN, h1, h2⟩
end
end Go.Proofs.YtljihclpgpmfeaaDoor
