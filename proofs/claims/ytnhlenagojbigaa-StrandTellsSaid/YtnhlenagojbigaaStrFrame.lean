/- What the walks are told of a strand, or of bytes, that came in. -/
import Derived.Test.YtnhlenagojbigaaStrP
import Derived.Test.YtnhlenagojbigaaRows
import Derived.ProofKit
import Derived.OpenShut
import Derived.ShutString
import Derived.ChangeOld
import Derived.Below
import Derived.Lib.SmallJoins
namespace Go.Proofs.Ytnhlenagojbigaa
open Go.RowKit Go.ChangeShapes Go.WideShapes Go.ChangeAt Go.Joins
open Go.ChangeMaps (open_string shut_string)

theorem own : ownKnob Try.prog.godebug = none := by kernel_rfl
theorem laidOut : laidOutB Try.prog = true := by kernel_rfl
theorem cellsStrand : Try.prog.cellsOf 24 = 2 := by kernel_rfl
theorem bits_take {zs : List Int} {n : Nat} {cap : Nat} (hl : n ≤ cap) (hz : zs.length = cap) : ∀ i, 8 * n ≤ i → bitsOf (zs.take n) i = false :=
  fun i hi => bitsOf_out _ i (by rw [List.length_take]; omega)
/-- A row that came in reads as bytes. -/
theorem rd_of_row {W : World} {x : Addr} {len cap : Nat} {zs : List Int} (hl : len ≤ cap) (hz : zs.length = cap) (hc : ∀ i, i < zs.length → W.cell? (x.add i) = some (.int .u8 (zs.getD i 0))) (hw : ∀ n ∈ zs, (Lit.int .u8 n).wf = true) :
    Rd W (some x) (cellsF (bitsOf (zs.take len)) len) := by
  intro hlen
  rw [length_cellsF] at hlen
  obtain ⟨b, off, spot⟩ := x
  have h0 := hc 0 (by omega)
  have hspot : spot = none := by simpa [Addr.add] using World.cell?_spot h0
  subst hspot
  have hb : b < W.heap.size := by
    rcases Nat.lt_or_ge b W.heap.size with hlt | hge
    · exact hlt
    · exfalso
      have : W.cell? ((⟨b, off, none⟩ : Addr).add 0) = none := by simp [Addr.add, World.cell?, Array.getElem?_eq_none hge]
      rw [this] at h0; cases h0
  refine ⟨b, off, rfl, hb, fun j v hv => ?_⟩
  have hrng : ∀ z ∈ zs, 0 ≤ z ∧ z < 256 := fun z hz => by
    have h := hw z hz
    simp [Lit.wf] at h
    have e1 : IntKind.u8.min = 0 := by decide
    have e2 : IntKind.u8.max = 255 := by decide
    exact ⟨by have := h.1; omega, by have := h.2; omega⟩
  have hlt : (zs.take len).length = len := by rw [List.length_take]; omega
  have hco := cellsF_of (zs.take len) (fun z hz => hrng z (List.mem_of_mem_take hz))
  rw [hlt] at hco
  rw [← hco] at hv
  have hj : j < len := by
    rcases Nat.lt_or_ge j len with h | h
    · exact h
    · rw [List.getElem?_eq_none (by rw [List.length_map, hlt]; exact h)] at hv; cases hv
  have hcj := hc j (by omega)
  rw [List.getElem?_map, List.getElem?_take, if_pos hj, List.getElem?_eq_getElem (by omega)] at hv
  injection hv with hv
  rw [← hv]
  have e : (⟨b, off, none⟩ : Addr).add j = ⟨b, off + j, none⟩ := by
    unfold Addr.add
    split
    · rename_i e; subst e; rfl
    · rfl
  rw [e] at hcj
  rw [hcj, List.getD_eq_getElem?_getD, List.getElem?_eq_getElem (by omega)]
  rfl

section
variable {H : Type} {enc : TypeId × Value → H} {W : World} {base : Nat} {v : Value} {d : DataW H} {p : List MemPlace}
theorem bytes_of {fuel : Nat} {A : Option Addr} {n c : Nat} {x : DataW H × List MemPlace} (h : DataW.trod enc Try.prog W 0 (fun _ => true) true fuel 22 [.slice A n c] = some x) :
    ∃ f, Rd W A (cellsF f n) ∧ (∀ i, 8 * n ≤ i → f i = false) := by
  rcases open_ints Try.underlying22 Try.underlying5 (by kernel_rfl) h with ⟨hcs, _⟩ | ⟨x, l, c', zs, hcs, _, hl, hm, hz, _, hcell, hwz⟩
  · simp at hcs
    obtain ⟨rfl, rfl, rfl⟩ := hcs
    exact ⟨fun _ => false, Rd.zero (by simp [cellsF]), fun _ _ => rfl⟩
  · simp at hcs
    obtain ⟨rfl, rfl, rfl⟩ := hcs
    have hz' : zs.length = c := by simpa using hz
    exact ⟨bitsOf (zs.take n), rd_of_row hl hz' hcell hwz, bits_take hl hz'⟩
theorem open_bytes (hv : Value.okWide Try.prog W .any base 22 v) (h : DataW.Trod enc Try.prog W 0 (fun _ => true) true 22 v d p) :
    ∃ A n c f, v = .slice A n c ∧ Rd W A (cellsF f n) ∧ (∀ i, 8 * n ≤ i → f i = false) := by
  obtain ⟨A, n, c, rfl⟩ := okWide_slice Try.underlying22 hv
  obtain ⟨fuel, hf⟩ := h
  obtain ⟨f, hf⟩ := bytes_of (A := A) (n := n) (c := c) (by simpa [Value.cells] using hf)
  exact ⟨A, n, c, f, rfl, hf⟩
theorem open_strand (hv : Value.okWide Try.prog W .any base 24 v) (h : DataW.Trod enc Try.prog W 0 (fun _ => true) true 24 v d p) :
    ∃ A n c L f, v = .agg #[.slice A n c, .int .i64 L] ∧ ArgS W A n L f := by
  obtain ⟨c0, c1, y0, y1, m, rfl, rfl, rfl, hy0, hy1⟩ := open_agg2 Try.underlying24 (by kernel_rfl) cellsStrand hv h
  obtain ⟨L, e1, _, wL⟩ := DataW.trod_int Try.underlying3 hy1
  simp at e1
  subst e1
  obtain ⟨A, n, c, e0⟩ : ∃ A n c, c0 = .slice A n c := by
    rcases open_ints Try.underlying22 Try.underlying5 (by kernel_rfl) hy0 with ⟨hcs, _⟩ | ⟨x, l, c', zs, hcs, _⟩
    · simp at hcs
      exact ⟨_, _, _, hcs⟩
    · simp at hcs
      exact ⟨_, _, _, hcs⟩
  subst e0
  obtain ⟨f, h1, h2⟩ := bytes_of hy0
  simp [Lit.wf] at wL
  have e1 : IntKind.i64.min = -9223372036854775808 := by decide
  have e2 : IntKind.i64.max = 9223372036854775807 := by decide
  exact ⟨A, n, c, L, f, rfl, h1, h2, by have := wL.1; omega, by have := wL.2; omega⟩
end
end Go.Proofs.Ytnhlenagojbigaa
