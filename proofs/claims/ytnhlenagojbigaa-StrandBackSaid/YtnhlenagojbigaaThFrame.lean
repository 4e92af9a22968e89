/- What the walk is told of things that came in. -/
import Derived.Test.YtnhlenagojbigaaStrX
import Derived.Test.YtnhlenagojbigaaStrFrame
import Derived.Deep.Slices
import Derived.Deep.Fields
namespace Go.Proofs.Ytnhlenagojbigaa
open Go.RowKit Go.ChangeShapes Go.WideShapes Go.ChangeAt Go.Joins Go.Deep

theorem addr_add (b off j : Nat) : (⟨b, off, none⟩ : Addr).add j = ⟨b, off + j, none⟩ := by
  unfold Addr.add
  split
  · rename_i e; subst e; rfl
  · rfl
theorem spot_none {W : World} {x : Addr} {v : Value} (h : W.cell? (x.add 0) = some v) : x.spot = none := by
  have h1 := World.cell?_spot h
  simpa [Addr.add] using h1
theorem block_lt {W : World} {b off : Nat} {v : Value} (h : W.cell? ⟨b, off, none⟩ = some v) : b < W.heap.size := by
  rcases Nat.lt_or_ge b W.heap.size with hlt | hge
  · exact hlt
  · exfalso
    have : W.cell? ⟨b, off, none⟩ = none := by simp [World.cell?, Array.getElem?_eq_none hge]
    rw [this] at h; cases h
theorem int_bound {k : IntKind} {n lo hi : Int} (hw : (Lit.int k n).wf = true) (h1 : k.min = lo) (h2 : k.max = hi) : lo ≤ n ∧ n ≤ hi := by
  simp [Lit.wf] at hw
  exact ⟨by have := hw.1; omega, by have := hw.2; omega⟩
theorem take_one {cs : List Value} {i : Nat} {v : Value} (h : (cs.drop i).take 1 = [v]) : cs[i]? = some v := by
  have h0 : ((cs.drop i).take 1)[0]? = some v := by rw [h]; rfl
  rw [List.getElem?_take, if_pos (by decide), List.getElem?_drop] at h0
  simpa using h0
theorem rd_things {W : World} {x : Addr} {k : Nat} {th : Nat → Nat × Nat} (h : ∀ i, i < k → W.cell? (x.add (i * 2)) = some (.int .u64 ((th i).1 : Nat)) ∧ W.cell? (x.add (i * 2 + 1)) = some (.int .u8 ((th i).2 : Nat))) : Rd W (some x) (cellsT th k) := by
  intro hl
  rw [length_cellsT] at hl
  obtain ⟨b, off, spot⟩ := x
  obtain rfl : spot = none := spot_none (by simpa using (h 0 (by omega)).1)
  have h0 := (h 0 (by omega)).1
  rw [addr_add] at h0
  refine ⟨b, off, rfl, block_lt h0, fun j v hv => ?_⟩
  have hj : j < 2 * k := by
    rcases Nat.lt_or_ge j (2 * k) with hlt | hge
    · exact hlt
    · rw [List.getElem?_eq_none (by rw [length_cellsT]; exact hge)] at hv; cases hv
  have hi := h (j / 2) (by omega)
  have ht := cellsT_at th (i := j / 2) (k := k) (by omega)
  rw [addr_add, addr_add] at hi
  by_cases he : j % 2 = 0
  · have e1 : 2 * (j / 2) = j := by omega
    have e2 : j / 2 * 2 = j := by omega
    rw [e1, hv] at ht
    rw [e2] at hi
    rw [hi.1]; exact ht.1.symm
  · have e1 : 2 * (j / 2) + 1 = j := by omega
    have e2 : j / 2 * 2 + 1 = j := by omega
    rw [e1, hv] at ht
    rw [e2] at hi
    rw [hi.2]; exact ht.2.symm

section
variable {H : Type} {enc : TypeId × Value → H} {W : World} {base : Nat} {v : Value} {d : DataW H} {p : List MemPlace}
theorem open_things (hv : Value.okWide Try.prog W .any base 42 v) (h : DataW.Trod enc Try.prog W 0 (fun _ => true) true 42 v d p) :
    ∃ B k c th, v = .slice B k c ∧ k ≤ c ∧ Rd W B (cellsT th k) ∧ ∀ i, (th i).1 < 18446744073709551616 ∧ (th i).2 < 256 := by
  obtain ⟨B, k, c, rfl⟩ := okWide_slice Try.underlying42 hv
  obtain ⟨fuel, hf⟩ := h
  have hf : DataW.trod enc Try.prog W 0 (fun _ => true) true fuel 42 [.slice B k c] = some (d, p) := by simpa [Value.cells] using hf
  rcases open_slice Try.underlying42 hf with ⟨hcs, _⟩ | ⟨a, len, cap, m, n, D, Pl, hcs, _, hl, _, hm, _, hi⟩
  · simp at hcs
    obtain ⟨rfl, rfl, rfl⟩ := hcs
    exact ⟨none, 0, 0, fun _ => (0, 0), rfl, Nat.le_refl _, Rd.zero rfl, fun _ => ⟨by simp, by simp⟩⟩
  · simp at hcs
    obtain ⟨rfl, rfl, rfl⟩ := hcs
    have hC : Try.prog.cellsOf 46 = 2 := by kernel_rfl
    have hc0 : Try.prog.cellsOf 35 = 1 := by kernel_rfl
    have hc1 : Try.prog.cellsOf 5 = 1 := by kernel_rfl
    simp only [if_true] at hm
    have hx : ∀ i, ∃ q : Nat × Nat, (q.1 < 18446744073709551616 ∧ q.2 < 256) ∧ (i < k → W.cell? (a.add (i * 2)) = some (.int .u64 (q.1 : Nat)) ∧ W.cell? (a.add (i * 2 + 1)) = some (.int .u8 (q.2 : Nat))) := by
      intro i
      by_cases hik : i < k
      · obtain ⟨cs', hcell, ht⟩ := hi i (by omega)
        rw [hC] at hcell
        obtain ⟨_, hlen, hat⟩ := World.cells?_some hcell
        obtain ⟨xs, n', _, _, _, hxl, hfld⟩ := DataW.trod_struct Try.underlying46 ht
        have h0 := hfld 0 _ rfl
        have h1 := hfld 1 _ rfl
        have hxl' : xs.length = 2 := hxl
        match xs, hxl' with
        | [x0, x1], _ =>
          have h0' : DataW.trod enc Try.prog W 0 (fun _ => true) true n' 35 ((cs'.drop 0).take 1) = some x0 := by rw [← hc0]; exact h0
          have h1' : DataW.trod enc Try.prog W 0 (fun _ => true) true n' 5 ((cs'.drop 1).take 1) = some x1 := by rw [← hc1]; exact h1
          obtain ⟨N, e0, _, w0⟩ := DataW.trod_int Try.underlying35 h0'
          obtain ⟨V, e1, _, w1⟩ := DataW.trod_int Try.underlying5 h1'
          have b0 := int_bound (lo := 0) (hi := 18446744073709551615) w0 (by decide) (by decide)
          have b1 := int_bound (lo := 0) (hi := 255) w1 (by decide) (by decide)
          have q0 := hat 0 (by omega)
          have q1 := hat 1 (by omega)
          rw [take_one e0] at q0
          rw [take_one e1] at q1
          obtain ⟨N', rfl⟩ := Int.eq_ofNat_of_zero_le b0.1
          obtain ⟨V', rfl⟩ := Int.eq_ofNat_of_zero_le b1.1
          refine ⟨(N', V'), ⟨by omega, by omega⟩, fun _ => ⟨?_, ?_⟩⟩
          · rw [← q0, add_add, Nat.add_zero]
          · rw [← q1, add_add]
      · exact ⟨(0, 0), ⟨by decide, by decide⟩, fun h => absurd h hik⟩
    refine ⟨some a, k, c, fun i => Classical.choose (hx i), rfl, hl, rd_things fun i hik => (Classical.choose_spec (hx i)).2 hik, fun i => (Classical.choose_spec (hx i)).1⟩
end
end Go.Proofs.Ytnhlenagojbigaa
