/- What the walks are told of circles that came in. -/
import Derived.Test.YtmfeponanjgapaaWp
import Derived.Test.YtmfeponanjgapaaRows
import Derived.Deep.Matrix
import Derived.Lib.SlFreshShut
import Derived.ProofKit
import Derived.OpenShut
import Derived.ChangeOld
import Derived.Below
import Derived.Lib.SmallJoins
namespace Go.Proofs.Ytmfeponanjgapaa
open Go.RowKit Go.ChangeShapes Go.WideShapes Go.ChangeAt Go.Joins Go.Deep

theorem own : ownKnob Try.prog.godebug = none := by kernel_rfl
theorem laidOut : laidOutB Try.prog = true := by kernel_rfl
/-- A row of bytes that came in. -/
theorem rd_bytes {W : World} {A : Option Addr} {len cap : Nat} {zs : List Int} (hl : len ≤ cap) (hz : zs.length = cap) (hn : A = none → cap = 0) (hc : ∀ a, A = some a → ∀ i, i < cap → W.cell? (a.add i) = some (.int .u8 (zs.getD i 0))) (hw : ∀ n ∈ zs, (Lit.int .u8 n).wf = true) :
    Rd W A (cellsB (Lib.bytesOf (zs.take len))) := by
  intro hlen
  have hll : (Lib.bytesOf (zs.take len)).length = len := by rw [Lib.bytesOf_length, List.length_take]; omega
  rw [length_cellsB, hll] at hlen
  cases A with
  | none => have := hn rfl; omega
  | some x =>
    obtain ⟨b, off, spot⟩ := x
    have h0 := hc _ rfl 0 (by omega)
    have hspot : spot = none := by simpa [Addr.add] using World.cell?_spot h0
    subst hspot
    have hb : b < W.heap.size := by
      rcases Nat.lt_or_ge b W.heap.size with hlt | hge
      · exact hlt
      · exfalso
        have : W.cell? ((⟨b, off, none⟩ : Addr).add 0) = none := by simp [Addr.add, World.cell?, Array.getElem?_eq_none hge]
        rw [this] at h0; cases h0
    refine ⟨b, off, rfl, hb, fun j v hv => ?_⟩
    have hrng : ∀ z ∈ zs, 0 ≤ z ∧ z < 256 := fun z hz => by
      have h := hw z hz
      simp [Lit.wf] at h
      have e1 : IntKind.u8.min = 0 := by decide
      have e2 : IntKind.u8.max = 255 := by decide
      exact ⟨by have := h.1; omega, by have := h.2; omega⟩
    unfold cellsB at hv
    rw [Lib.numsL_bytesOf _ (fun y hy => hrng y (List.mem_of_mem_take hy))] at hv
    have hj : j < len := by
      rcases Nat.lt_or_ge j len with h | h
      · exact h
      · rw [List.getElem?_eq_none (by rw [List.length_map, List.length_take]; omega)] at hv; cases hv
    have hcj := hc _ rfl j (by omega)
    rw [List.getElem?_map, List.getElem?_take, if_pos hj, List.getElem?_eq_getElem (by omega)] at hv
    injection hv with hv
    rw [← hv]
    rw [add_off] at hcj
    rw [hcj, List.getD_eq_getElem?_getD, List.getElem?_eq_getElem (by omega)]
    rfl
section
variable {H : Type} {enc : TypeId × Value → H} {W : World} {base : Nat} {v : Value} {d : DataW H} {p : List MemPlace}
theorem open_words (hv : Value.okWide Try.prog W .any base 22 v) (h : DataW.Trod enc Try.prog W 0 (fun _ => true) true 22 v d p) :
    ∃ A n c ws, v = .slice A n c ∧ ArgW W A n c ws := by
  obtain ⟨A, n, c, rfl⟩ := okWide_slice Try.underlying22 hv
  obtain ⟨fuel, hf⟩ := h
  have hf : DataW.trod enc Try.prog W 0 (fun _ => true) true fuel 22 [.slice A n c] = some (d, p) := by simpa [Value.cells] using hf
  rcases open_int_rows Try.underlying22 Try.underlying36 Try.underlying5 (by kernel_rfl) (by kernel_rfl) hf with ⟨hcs, _⟩ | ⟨a, len, cap, B, L, C, Z, hcs, _, hl, hm, _, hx⟩
  · simp at hcs
    obtain ⟨rfl, rfl, rfl⟩ := hcs
    exact ⟨none, 0, 0, [], rfl, ⟨[], rfl, Rd.nil, fun i v l hv => by simp at hv⟩, rfl, by omega, Nat.le_refl _⟩
  · simp at hcs
    obtain ⟨rfl, rfl, rfl⟩ := hcs
    unfold maxLen at hm
    refine ⟨some a, n, c, (List.range n).map fun r => Lib.bytesOf ((Z r).take (L r)), rfl, ⟨(List.range n).map fun r => .slice (B r) (L r) (C r), by simp, ?_, fun i v l hv hl' => ?_⟩, by simp, by omega, hl⟩
    · intro hlen
      simp at hlen
      obtain ⟨b, off, spot⟩ := a
      have h0 := (hx 0 (by omega)).1
      have hspot : spot = none := by simpa [Addr.add] using World.cell?_spot h0
      subst hspot
      have hb : b < W.heap.size := by
        rcases Nat.lt_or_ge b W.heap.size with hlt | hge
        · exact hlt
        · exfalso
          have : W.cell? ((⟨b, off, none⟩ : Addr).add 0) = none := by simp [Addr.add, World.cell?, Array.getElem?_eq_none hge]
          rw [this] at h0; cases h0
      refine ⟨b, off, rfl, hb, fun j v hv => ?_⟩
      have hj := (List.getElem?_eq_some_iff.1 hv).1
      simp at hj
      rw [List.getElem?_map, List.getElem?_range hj] at hv
      have := (hx j (by omega)).1
      rw [add_off] at this
      rw [this]
      exact hv
    · have hi := (List.getElem?_eq_some_iff.1 hv).1
      simp at hi
      rw [List.getElem?_map, List.getElem?_range hi] at hv hl'
      injection hv with hv
      injection hl' with hl'
      obtain ⟨_, h1, h2, h3, h4, h5, h6⟩ := hx i (by omega)
      subst hv hl'
      exact ⟨B i, C i, by rw [Lib.bytesOf_length, List.length_take, Nat.min_eq_left (by omega)], rd_bytes h1 h3 h5 (fun a ha k hk => (h6 a ha).2 k hk) h4⟩
end
end Go.Proofs.Ytmfeponanjgapaa
