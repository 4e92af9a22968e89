/- Numbers laid as they stand; answers in closed form; walk: fretworklaw03.awake. -/
import Derived.Test.YtccaagildkgfeaaGi
import Derived.Test.YtccaagildkgfeaaIi
import Derived.Test.YtccaagildkgfeaaGh
import Derived.Test.YtccaagildkgfeaaJa
namespace Go.Proofs.Ytccaagildkgfeaa
open Go.RowKit

theorem bel_alloc {w V : World} (h : Below w.heap.size w V) (o : Obj) : Below w.heap.size w (V.alloc o) := h.alloc h.size o
theorem litI {W : World} {g n : Nat} (l : List Int) (hg : g = W.heap.size) (hn : n = l.length) (hl : n ≤ 100000) : ArgI (W.alloc (.cells (cellsI l).toArray 3)) (some ⟨g, 0, none⟩) n n l :=
  ⟨(Own.new' (g := g) (t := 3) (vs := cellsI l) hg).rd, hn, by omega, Nat.le_refl _⟩
theorem litEE {W : World} {g n : Nat} (l : List (Int × Int)) (hg : g = W.heap.size) (hn : n = l.length) (hl : n ≤ 100000) : ArgE (W.alloc (.cells (cellsE l).toArray 57)) (some ⟨g, 0, none⟩) n n l :=
  ⟨(Own.new' (g := g) (t := 57) (vs := cellsE l) hg).rd, hn, by omega, Nat.le_refl _⟩
/-- Two rows, and the list of both, laid as they stand. -/
theorem litL2 {W : World} {g0 g1 g n0 n1 : Nat} (l0 l1 : List Int) (h0 : g0 = W.heap.size) (h1 : g1 = W.heap.size + 1) (h : g = W.heap.size + 1 + 1) (hn0 : n0 = l0.length) (hn1 : n1 = l1.length) (hl0 : n0 ≤ 100000) (hl1 : n1 ≤ 100000) :
    ArgL (((W.alloc (.cells (cellsI l0).toArray 3)).alloc (.cells (cellsI l1).toArray 3)).alloc (.cells #[.slice (some ⟨g0, 0, none⟩) n0 n0, .slice (some ⟨g1, 0, none⟩) n1 n1] 22)) (some ⟨g, 0, none⟩) 2 2 [l0, l1] := by
  have a0 := ((litI (W := W) l0 h0 hn0 hl0).keep (alloc_below _ (.cells (cellsI l1).toArray 3))).keep (alloc_below _ (.cells #[.slice (some ⟨g0, 0, none⟩) n0 n0, .slice (some ⟨g1, 0, none⟩) n1 n1] 22))
  have a1 := (litI (W := W.alloc (.cells (cellsI l0).toArray 3)) (g := g1) l1 (by simp; exact h1) hn1 hl1).keep (alloc_below _ (.cells #[.slice (some ⟨g0, 0, none⟩) n0 n0, .slice (some ⟨g1, 0, none⟩) n1 n1] 22))
  subst hn0 hn1
  refine ⟨⟨[.slice (some ⟨g0, 0, none⟩) l0.length l0.length, .slice (some ⟨g1, 0, none⟩) l1.length l1.length], rfl, (Own.new' (vs := [_, _]) (by simp; exact h)).rd, fun i v l hv hl => ?_⟩, rfl, by omega⟩
  match i, hv, hl with
  | 0, hv, hl =>
    simp at hv hl
    subst hv hl
    exact ⟨_, _, rfl, a0⟩
  | 1, hv, hl =>
    simp at hv hl
    subst hv hl
    exact ⟨_, _, rfl, a1⟩
  | i + 2, hv, hl => simp at hv
section
variable {w w' : World} {l : List Int} {e : Ending}
theorem FreshI.out (h : FreshI w l e w') (hl : l.length ≤ 100000) : ∃ A c, e = .returned (.slice A l.length c) ∧ RowI w.heap.size w' (.slice A l.length c) l ∧ ArgI w' A l.length c l ∧ Below w.heap.size w w' := by
  obtain ⟨v, rfl, hr, hb⟩ := h
  obtain ⟨A, c, rfl, ha⟩ := hr.arg hl
  exact ⟨A, c, rfl, hr, ha, hb⟩
theorem ErrI.some (h : ErrI w (.some l) e w') (hl : l.length ≤ 100000) : ∃ A c, e = .returned (.tuple #[.slice A l.length c, .int .i64 0]) ∧ RowI w.heap.size w' (.slice A l.length c) l ∧ ArgI w' A l.length c l ∧ Below w.heap.size w w' := by
  obtain ⟨v, rfl, hr, hb⟩ := h
  obtain ⟨A, c, rfl, ha⟩ := hr.arg hl
  exact ⟨A, c, rfl, hr, ha, hb⟩
theorem ErrI.none (h : ErrI w .none e w') : ∃ A c, e = .returned (.tuple #[.slice A 0 c, .int .i64 30]) ∧ RowI w.heap.size w' (.slice A 0 c) [] ∧ ArgI w' A 0 c [] ∧ Below w.heap.size w w' := by
  obtain ⟨v, rfl, hr, hb⟩ := h
  obtain ⟨A, c, rfl, ha⟩ := hr.arg (Nat.zero_le _)
  exact ⟨A, c, rfl, hr, ha, hb⟩
theorem RowL.args {B : Nat} {V : World} {v : Value} {cs : List (List Int)} (h : RowL B V v cs) (hl : cs.length ≤ 100000) (hc : ∀ c ∈ cs, c.length ≤ 100000) : ∃ g k, v = .slice (some ⟨g, 0, .none⟩) cs.length k ∧ ArgL V (some ⟨g, 0, .none⟩) cs.length k cs := by
  obtain ⟨g, cap, vs, more, rfl, hg, ho, h1, h2, h3, h4, h5, h6⟩ := h.row
  refine ⟨g, cap, rfl, ⟨vs, h1, rd_front ho, fun i v l hv hl => ?_⟩, rfl, by omega⟩
  obtain ⟨A, c, e, ha⟩ := (h5 i v l hv hl).1.arg (hc l (List.mem_of_getElem? hl))
  exact ⟨A, c, e, ha⟩
theorem ErrL.some {cs : List (List Int)} (h : ErrL w (.some cs) e w') (hl : cs.length ≤ 100000) (hc : ∀ c ∈ cs, c.length ≤ 100000) : ∃ g k, e = .returned (.tuple #[.slice (some ⟨g, 0, .none⟩) cs.length k, .int .i64 0]) ∧ RowL w.heap.size w' (.slice (some ⟨g, 0, .none⟩) cs.length k) cs ∧ ArgL w' (some ⟨g, 0, .none⟩) cs.length k cs ∧ Below w.heap.size w w' := by
  obtain ⟨v, rfl, hr, _, hb⟩ := h
  have hr := hr cs rfl
  obtain ⟨g, k, rfl, ha⟩ := hr.args hl hc
  exact ⟨g, k, rfl, hr, ha, hb⟩
end
end Go.Proofs.Ytccaagildkgfeaa
