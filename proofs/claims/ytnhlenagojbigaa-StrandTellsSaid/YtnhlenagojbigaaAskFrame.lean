/- What the walk of StrandTells is told of what else is asked. -/
import Derived.Test.YtnhlenagojbigaaStrFrame
import Derived.Lib.SmallJoins
namespace Go.Proofs.Ytnhlenagojbigaa
open Go.RowKit Go.ChangeShapes Go.WideShapes Go.ChangeAt Go.Joins

theorem cellsAsked : Try.prog.cellsOf 61 = 5 := by kernel_rfl
section
variable {H : Type} {enc : TypeId × Value → H} {W : World} {base : Nat} {v : Value} {d : DataW H} {p : List MemPlace}
theorem int_of {fuel : Nat} {t : TypeId} {k : IntKind} {c : Value} {y : DataW H × List MemPlace} (ht : Try.prog.underlying t = some (.int k)) (h : DataW.trod enc Try.prog W 0 (fun _ => true) true fuel t [c] = some y) :
    ∃ n, c = .int k n ∧ (Lit.int k n).wf = true := by
  obtain ⟨n, e, _, hw⟩ := DataW.trod_int ht h
  simp at e
  exact ⟨n, e, hw⟩
theorem open_asked (hv : Value.okWide Try.prog W .any base 61 v) (h : DataW.Trod enc Try.prog W 0 (fun _ => true) true 61 v d p) :
    ∃ (x : Nat) (wd q1 q2 : Int) (B : Option Addr) (m c : Nat) (g : Nat → Bool), v = .agg #[.int .u64 x, .int .i64 wd, .int .i64 q1, .int .i64 q2, .slice B m c] ∧ x < 18446744073709551616 ∧ -9223372036854775808 ≤ wd ∧ wd ≤ 9223372036854775807 ∧ Rd W B (cellsF g m) := by
  obtain ⟨cs, rfl, hsz⟩ := okWide_struct Try.underlying61 hv
  obtain ⟨l⟩ := cs
  obtain ⟨a0, a1, a2, a3, a4, rfl⟩ : ∃ a0 a1 a2 a3 a4, l = [a0, a1, a2, a3, a4] := by
    match l, hsz.trans cellsAsked with
    | [a0, a1, a2, a3, a4], _ => exact ⟨a0, a1, a2, a3, a4, rfl⟩
  obtain ⟨fuel, hf⟩ := h
  obtain ⟨xs, n, _, _, _, hlen, hg⟩ := DataW.trod_struct Try.underlying61 hf
  obtain ⟨y0, y1, y2, y3, y4, rfl⟩ : ∃ y0 y1 y2 y3 y4, xs = [y0, y1, y2, y3, y4] := by
    match xs, hlen with
    | [y0, y1, y2, y3, y4], _ => exact ⟨y0, y1, y2, y3, y4, rfl⟩
  have k0 : Try.prog.cellsOf 35 = 1 := by kernel_rfl
  have k1 : Try.prog.cellsOf 3 = 1 := by kernel_rfl
  have k2 : Try.prog.cellsOf 22 = 1 := by kernel_rfl
  have h0 : DataW.trod enc Try.prog W 0 (fun _ => true) true n 35 [a0] = some y0 := by simpa [Value.cells, k0] using hg 0 _ rfl
  have h1 : DataW.trod enc Try.prog W 0 (fun _ => true) true n 3 [a1] = some y1 := by simpa [Value.cells, k1] using hg 1 _ rfl
  have h2 : DataW.trod enc Try.prog W 0 (fun _ => true) true n 3 [a2] = some y2 := by simpa [Value.cells, k1] using hg 2 _ rfl
  have h3 : DataW.trod enc Try.prog W 0 (fun _ => true) true n 3 [a3] = some y3 := by simpa [Value.cells, k1] using hg 3 _ rfl
  have h4 : DataW.trod enc Try.prog W 0 (fun _ => true) true n 22 [a4] = some y4 := by simpa [Value.cells, k2] using hg 4 _ rfl
  obtain ⟨x, rfl, wx⟩ := int_of Try.underlying35 h0
  obtain ⟨wd, rfl, ww⟩ := int_of Try.underlying3 h1
  obtain ⟨q1, rfl, _⟩ := int_of Try.underlying3 h2
  obtain ⟨q2, rfl, _⟩ := int_of Try.underlying3 h3
  obtain ⟨B, m, c, e4⟩ : ∃ B m c, a4 = .slice B m c := by
    rcases open_ints Try.underlying22 Try.underlying5 (by kernel_rfl) h4 with ⟨hcs, _⟩ | ⟨x, l, c', zs, hcs, _⟩
    · simp at hcs
      exact ⟨_, _, _, hcs⟩
    · simp at hcs
      exact ⟨_, _, _, hcs⟩
  subst e4
  obtain ⟨g, hr, _⟩ := bytes_of h4
  have e1 : IntKind.i64.min = -9223372036854775808 := by decide
  have e2 : IntKind.i64.max = 9223372036854775807 := by decide
  have e3 : IntKind.u64.min = 0 := by decide
  have e5 : IntKind.u64.max = 18446744073709551615 := by decide
  simp [Lit.wf] at wx ww
  obtain ⟨x', rfl⟩ := Int.eq_ofNat_of_zero_le (show 0 ≤ x by have := wx.1; omega)
  exact ⟨x', wd, q1, q2, B, m, c, g, rfl, by have := wx.2; omega, by have := ww.1; omega, by have := ww.2; omega, hr⟩
end
end Go.Proofs.Ytnhlenagojbigaa
