/- Bundle of texts: GrF2 GrF4. -/
import Derived.Test.YtljihclpgpmfeaaDoorGrFrame
import Derived.Test.YtljihclpgpmfeaaDoorUb
import Derived.Test.YtljihclpgpmfeaaDoorWd
/- What the walks are told of bytes, and of a text, that came in. -/
namespace Go.Proofs.YtljihclpgpmfeaaDoor
set_option maxRecDepth 100000
open Go.RowKit Go.ChangeShapes Go.WideShapes Go.ChangeAt Go.Joins
open Go.ChangeMaps (open_string shut_string)

theorem bits_take {zs : List Int} {n : Nat} {cap : Nat} (hl : n ≤ cap) (hz : zs.length = cap) : ∀ i, 8 * n ≤ i → bitsOf (zs.take n) i = false :=
  fun i hi => bitsOf_out _ i (by rw [List.length_take]; omega)
/-- A row that came in reads as bytes. -/
theorem rd_of_row {W : World} {x : Addr} {len cap : Nat} {zs : List Int} (hl : len ≤ cap) (hz : zs.length = cap) (hc : ∀ i, i < zs.length → W.cell? (x.add i) = some (.int .u8 (zs.getD i 0))) (hw : ∀ n ∈ zs, (Lit.int .u8 n).wf = true) :
    Rd W (some x) (cellsF (bitsOf (zs.take len)) len) := by
  intro hlen
  rw [length_cellsF] at hlen
  obtain ⟨b, off, rfl, hb⟩ := cell_head (hc 0 (by omega))
  refine ⟨b, off, rfl, hb, fun j v hv => ?_⟩
  have hrng : ∀ z ∈ zs, 0 ≤ z ∧ z < 256 := fun z hz => by
    have h := hw z hz
    simp [Lit.wf] at h
    have e1 : IntKind.u8.min = 0 := by decide
    have e2 : IntKind.u8.max = 255 := by decide
    exact ⟨by have := h.1; omega, by have := h.2; omega⟩
  have hlt : (zs.take len).length = len := by rw [List.length_take]; omega
  have hco := cellsF_of (zs.take len) (fun z hz => hrng z (List.mem_of_mem_take hz))
  rw [hlt] at hco
  rw [← hco] at hv
  have hj : j < len := by
    rcases Nat.lt_or_ge j len with h | h
    · exact h
    · rw [List.getElem?_eq_none (by rw [List.length_map, hlt]; exact h)] at hv; cases hv
  have hcj := hc j (by omega)
  rw [List.getElem?_map, List.getElem?_take, if_pos hj, List.getElem?_eq_getElem (by omega)] at hv
  injection hv with hv
  rw [← hv]
  rw [add_off] at hcj
  rw [hcj, List.getD_eq_getElem?_getD, List.getElem?_eq_getElem (by omega)]
  rfl
section
variable {H : Type} {enc : TypeId × Value → H} {W : World} {base : Nat} {v : Value} {d : DataW H} {p : List MemPlace}
theorem bytes_of {fuel : Nat} {A : Option Addr} {n c : Nat} {x : DataW H × List MemPlace} (h : DataW.trod enc Tryd.prog W 0 (fun _ => true) true fuel 22 [.slice A n c] = some x) :
    ∃ f, Rd W A (cellsF f n) ∧ (∀ i, 8 * n ≤ i → f i = false) := by
  rcases open_ints Tryd.underlying22 Tryd.underlying5 (by kernel_rfl) h with ⟨hcs, _⟩ | ⟨x, l, c', zs, hcs, _, hl, hm, hz, _, hcell, hwz⟩
  · simp at hcs
    obtain ⟨rfl, rfl, rfl⟩ := hcs
    exact ⟨fun _ => false, Rd.zero (by simp [cellsF]), fun _ _ => rfl⟩
  · simp at hcs
    obtain ⟨rfl, rfl, rfl⟩ := hcs
    have hz' : zs.length = c := by simpa using hz
    exact ⟨bitsOf (zs.take n), rd_of_row hl hz' hcell hwz, bits_take hl hz'⟩
theorem open_bytes (hv : Value.okWide Tryd.prog W .any base 22 v) (h : DataW.Trod enc Tryd.prog W 0 (fun _ => true) true 22 v d p) :
    ∃ A n c f, v = .slice A n c ∧ Rd W A (cellsF f n) ∧ (∀ i, 8 * n ≤ i → f i = false) := by
  obtain ⟨A, n, c, rfl⟩ := okWide_slice Tryd.underlying22 hv
  obtain ⟨fuel, hf⟩ := h
  obtain ⟨f, hf⟩ := bytes_of (A := A) (n := n) (c := c) (by simpa [Value.cells] using hf)
  exact ⟨A, n, c, f, rfl, hf⟩
theorem strB_back (s : ByteArray) : strB s.data.toList = s := by
  apply ByteArray.ext
  simp [strB]
theorem open_text (hv : Value.okWide Tryd.prog W .any base 9 v) (h : DataW.Trod enc Tryd.prog W 0 (fun _ => true) true 9 v d p) :
    ∃ l : List UInt8, v = .string (strB l) ∧ d = .lit (.string l) ∧ p = [] ∧ l.length ≤ maxLen := by
  obtain ⟨s, rfl, rfl, rfl, hs⟩ := open_string Tryd.underlying9 hv h
  refine ⟨s.data.toList, by rw [strB_back], rfl, rfl, ?_⟩
  have : s.data.toList.length = s.size := Array.length_toList
  omega
theorem shut_text {w : World} {b0 : Nat} {sp : Nat → Bool} {held : Bool} {l : List UInt8} (hs : l.length ≤ maxLen) : DataW.Trod enc Tryd.prog w b0 sp held 9 (.string (strB l)) (.lit (.string l)) [] := by
  have h := shut_string (enc := enc) (w := w) (base := b0) (sp := sp) (held := held) Tryd.underlying9 (s := strB l) (by rw [strB_size]; exact hs)
  have e : (strB l).data.toList = l := by simp [strB]
  rw [e] at h
  exact h
end
end Go.Proofs.YtljihclpgpmfeaaDoor
/- What the walk of GraphTells is told of what else is asked. -/
namespace Go.Proofs.YtljihclpgpmfeaaDoor
set_option maxRecDepth 100000
open Go.RowKit Go.ChangeShapes Go.WideShapes Go.ChangeAt Go.Joins
open Go.ChangeMaps (open_string shut_string)

theorem cellsAskedG : Tryd.prog.cellsOf 56 = 6 := by kernel_rfl
section
variable {H : Type} {enc : TypeId × Value → H} {W : World} {base : Nat} {v : Value} {d : DataW H} {p : List MemPlace}
theorem string_of {fuel : Nat} {c : Value} {y : DataW H × List MemPlace} (h : DataW.trod enc Tryd.prog W 0 (fun _ => true) true fuel 9 [c] = some y) : ∃ l : List UInt8, c = .string (strB l) := by
  obtain ⟨s, e, _, _⟩ := DataW.trod_string Tryd.underlying9 h
  simp at e
  exact ⟨s.data.toList, by rw [strB_back]; exact e⟩
theorem open_askedG (hv : Value.okWide Tryd.prog W .any base 56 v) (h : DataW.Trod enc Tryd.prog W 0 (fun _ => true) true 56 v d p) :
    ∃ (M X Y : Int) (B : Option Addr) (m c : Nat) (F : List (Int × Int)) (C : Option Addr) (bn bc : Nat) (f : Nat → Bool) (l : List UInt8), v = .agg #[.int .i64 M, .int .i64 X, .int .i64 Y, .slice B m c, .slice C bn bc, .string (strB l)] ∧ ArgE W B m c F ∧ Rd W C (cellsF f bn) := by
  obtain ⟨cs, rfl, hsz⟩ := okWide_struct Tryd.underlying56 hv
  obtain ⟨l⟩ := cs
  obtain ⟨a0, a1, a2, a3, a4, a5, rfl⟩ : ∃ a0 a1 a2 a3 a4 a5, l = [a0, a1, a2, a3, a4, a5] := by
    match l, hsz.trans cellsAskedG with
    | [a0, a1, a2, a3, a4, a5], _ => exact ⟨a0, a1, a2, a3, a4, a5, rfl⟩
  obtain ⟨fuel, hf⟩ := h
  obtain ⟨xs, n, _, _, _, hlen, hg⟩ := DataW.trod_struct Tryd.underlying56 hf
  obtain ⟨y0, y1, y2, y3, y4, y5, rfl⟩ : ∃ y0 y1 y2 y3 y4 y5, xs = [y0, y1, y2, y3, y4, y5] := by
    match xs, hlen with
    | [y0, y1, y2, y3, y4, y5], _ => exact ⟨y0, y1, y2, y3, y4, y5, rfl⟩
  have k1 : Tryd.prog.cellsOf 3 = 1 := by kernel_rfl
  have k2 : Tryd.prog.cellsOf 22 = 1 := by kernel_rfl
  have k3 : Tryd.prog.cellsOf 24 = 1 := by kernel_rfl
  have k4 : Tryd.prog.cellsOf 9 = 1 := by kernel_rfl
  have h0 : DataW.trod enc Tryd.prog W 0 (fun _ => true) true n 3 [a0] = some y0 := by simpa [Value.cells, k1] using hg 0 _ rfl
  have h1 : DataW.trod enc Tryd.prog W 0 (fun _ => true) true n 3 [a1] = some y1 := by simpa [Value.cells, k1] using hg 1 _ rfl
  have h2 : DataW.trod enc Tryd.prog W 0 (fun _ => true) true n 3 [a2] = some y2 := by simpa [Value.cells, k1] using hg 2 _ rfl
  have h3 : DataW.trod enc Tryd.prog W 0 (fun _ => true) true n 24 [a3] = some y3 := by simpa [Value.cells, k1, k3] using hg 3 _ rfl
  have h4 : DataW.trod enc Tryd.prog W 0 (fun _ => true) true n 22 [a4] = some y4 := by simpa [Value.cells, k1, k2, k3] using hg 4 _ rfl
  have h5 : DataW.trod enc Tryd.prog W 0 (fun _ => true) true n 9 [a5] = some y5 := by simpa [Value.cells, k1, k2, k3, k4] using hg 5 _ rfl
  obtain ⟨M, e0, _, _⟩ := DataW.trod_int Tryd.underlying3 h0
  obtain ⟨X, e1, _, _⟩ := DataW.trod_int Tryd.underlying3 h1
  obtain ⟨Y, e2, _, _⟩ := DataW.trod_int Tryd.underlying3 h2
  simp at e0 e1 e2
  subst e0 e1 e2
  obtain ⟨B, m, c, rfl⟩ := slice_of Tryd.underlying24 h3
  obtain ⟨C, bn, bc, rfl⟩ := slice_of Tryd.underlying22 h4
  obtain ⟨F, hF, _⟩ := edges_of h3
  obtain ⟨f, hC, _⟩ := bytes_of h4
  obtain ⟨s, rfl⟩ := string_of h5
  exact ⟨M, X, Y, B, m, c, F, C, bn, bc, f, s, rfl, hF, hC⟩
end
end Go.Proofs.YtljihclpgpmfeaaDoor
