/- Numbers in memory; rows of the call's own that grow; walks: fretworklow.SameInts, CopyInts. -/
import Derived.Test.YtljihclpgpmfeaaDoorProg
import Derived.Test.YtljihclpgpmfeaaDoorReg
import Derived.Test.YtljihclpgpmfeaaDoorRow
import Derived.Test.YtljihclpgpmfeaaDoorPost
import Derived.WalkSpells
import Derived.WalkLawsBesides
import Derived.Outline
import Derived.Deep.DeepFit
import Derived.Deep.QuietTactic
import Derived.BigQuiet
import Derived.Deep.RegionHeld3
import Derived.Deep.DeepCutAuto
import Derived.IntWalk
import Derived.Lib.Hide
namespace Go.Proofs.YtljihclpgpmfeaaDoor
set_option maxRecDepth 100000
open Go.RowKit

/-- The cells of numbers. -/
def cellsI (l : List Int) : List Value := l.map (Value.int .i64)
theorem length_cellsI (l : List Int) : (cellsI l).length = l.length := by simp [cellsI]
theorem cellsI_at {l : List Int} {i : Nat} {x : Int} (h : l[i]? = some x) : (cellsI l)[i]? = some (.int .i64 x) := by
  unfold cellsI
  rw [List.getElem?_map, h]
  rfl
theorem cellsI_append (a b : List Int) : cellsI (a ++ b) = cellsI a ++ cellsI b := by simp [cellsI]
theorem cellsI_set (O : List Int) (k : Nat) (x : Int) : (cellsI O).set k (.int .i64 x) = cellsI (O.set k x) := by
  unfold cellsI
  rw [List.map_set]
theorem cellsI_one {l : List Int} : ∀ v ∈ cellsI l, v.oneCell' = true := by
  intro v hv
  obtain ⟨n, _, rfl⟩ := List.mem_map.1 hv
  rfl
theorem infoI : (Tryd.prog.info? 3).map (fun i => (i.zero, i.size, i.bytes)) = some (some (.int .i64 0), 1, 8) := by kernel_rfl
theorem mk_ints (n : Nat) (hn : n ≤ 100000) (W : World) : (Instr.makeSlice 44 (.int .i64 (n : Int)) (.int .i64 (n : Int))).run Tryd.prog W = .ok (.slice (some ⟨W.heap.size, 0, none⟩) n n) (W.alloc (.cells (cellsI (List.replicate n 0)).toArray 3)) := by
  obtain ⟨i0, hi, hz0, hz1, hz2⟩ := info_parts infoI
  have hmk := run_make (P := Tryd.prog) W 44 3 i0 _ Tryd.underlying44 hi hz0 .i64 .i64 n n (by omega) (by omega) (by rw [hz2]; omega) (by omega)
  rw [hz1] at hmk
  simp only [Int.toNat_natCast, Value.cells, replicate_cells, Nat.mul_one] at hmk
  unfold cellsI
  rw [List.map_replicate]
  exact hmk
/-- A slice of numbers: where it lies, how long it is. -/
structure ArgI (w : World) (A : Option Addr) (n c : Nat) (l : List Int) : Prop where
  rd : Rd w A (cellsI l)
  len : n = l.length
  le : n ≤ 9223372036854775807
  cap : n ≤ c
theorem ArgI.keep {w w' : World} {A : Option Addr} {n c : Nat} {l : List Int} (h : ArgI w A n c l) (hb : Below w.heap.size w w') : ArgI w' A n c l := ⟨h.rd.below hb, h.len, h.le, h.cap⟩
/-- The i-th number, and its cell in whatever world comes later. -/
theorem rd_int {w : World} {A : Option Addr} {l : List Int} (h : Rd w A (cellsI l)) (h0 : 0 < l.length) : ∃ b off, A = some ⟨b, off, none⟩ ∧ b < w.heap.size ∧ ∀ V, Below w.heap.size w V → ∀ (i : Nat) (x : Int), l[i]? = some x → V.cell? ⟨b, off + i, none⟩ = some (.int .i64 x) := by
  obtain ⟨b, off, e, hb, hc⟩ := h (by rw [length_cellsI]; exact h0)
  exact ⟨b, off, e, hb, fun V hV i x hx => ((below_cells hV).1 _ _ hb).trans (hc i _ (cellsI_at hx))⟩
theorem heap_new' {W : World} {g : Nat} (o : Obj) (h : g = W.heap.size) : (W.alloc o).heap[g]? = some o := h ▸ heap_alloc_new W o
theorem alloc_below (V : World) (o : Obj) : Below V.heap.size V (V.alloc o) := (Below.refl _ V).alloc (Nat.le_refl _) o
theorem rd_front {w : World} {g : Nat} {t : TypeId} {xs more : List Value} (h : Own w g t (xs ++ more)) : Rd w (some ⟨g, 0, none⟩) xs := by
  have := h.rd_take xs.length
  rwa [List.take_left' rfl] at this
/-- A row of numbers of the call's own. -/
def RowI (B : Nat) (W : World) (v : Value) (l : List Int) : Prop :=
  (l = [] ∧ v = .slice none 0 0) ∨ ∃ g cap more, v = .slice (some ⟨g, 0, none⟩) l.length cap ∧ B ≤ g ∧ Own W g 3 (cellsI l ++ more) ∧ l.length ≤ cap ∧ cap ≤ maxLen ∧ (cellsI l ++ more).length = cap
section
variable {W W' : World} {v : Value} {l : List Int} {B : Nat}
theorem RowI.below (h : RowI B W v l) (hb : Below W.heap.size W W') : RowI B W' v l := by
  rcases h with h | ⟨g, cap, more, e, hg, ho, h⟩
  · exact .inl h
  · exact .inr ⟨g, cap, more, e, hg, ho.below' hb, h⟩
theorem RowI.base {B' : Nat} (h : RowI B W v l) (hB : B' ≤ B) : RowI B' W v l := by
  rcases h with h | ⟨g, cap, more, e, hg, h⟩
  · exact .inl h
  · exact .inr ⟨g, cap, more, e, Nat.le_trans hB hg, h⟩
theorem RowI.rd (h : RowI B W v l) : ∃ A c, v = .slice A l.length c ∧ l.length ≤ c ∧ Rd W A (cellsI l) := by
  rcases h with ⟨rfl, rfl⟩ | ⟨g, cap, more, e, hg, ho, h, _⟩
  · exact ⟨none, 0, rfl, Nat.le_refl _, Rd.nil⟩
  · exact ⟨_, cap, e, h, rd_front ho⟩
theorem RowI.arg (h : RowI B W v l) (hl : l.length ≤ 100000) : ∃ A c, v = .slice A l.length c ∧ ArgI W A l.length c l := by
  obtain ⟨A, c, e, hc, hr⟩ := h.rd
  exact ⟨A, c, e, hr, rfl, by omega, hc⟩
theorem RowI.start (W : World) (B : Nat) (hB : B ≤ W.heap.size) : RowI B (W.alloc (.cells #[] 3)) (.slice (some ⟨W.heap.size, 0, none⟩) 0 0) [] :=
  .inr ⟨W.heap.size, 0, [], rfl, hB, Own.new' (vs := []) rfl, Nat.le_refl _, Nat.zero_le _, rfl⟩
theorem RowI.made {g : Nat} (h : Own W g 3 (cellsI l)) (hB : B ≤ g) (hl : l.length ≤ 100000) : RowI B W (.slice (some ⟨g, 0, none⟩) l.length l.length) l :=
  .inr ⟨g, l.length, [], rfl, hB, by rw [List.append_nil]; exact h, Nat.le_refl _, by unfold maxLen; omega, by rw [List.append_nil, length_cellsI]⟩
theorem add_off {b off k : Nat} : (⟨b, off, none⟩ : Addr).add k = ⟨b, off + k, none⟩ := by
  unfold Addr.add
  split
  · rename_i h; subst h; rfl
  · rfl
/-- append of numbers to numbers of the call's own. -/
theorem run_append_ints (ty : TypeId) (A : Option Addr) (n c : Nat) {k : List Int} (h1 : RowI B W v l) (hn : n = k.length) (hr : Rd W A (cellsI k)) (hsz : l.length + n ≤ 1000000) (hB : B ≤ W.heap.size) :
    ∃ v' w', (Builtin.append_ #[44, 44] ty #[v, .slice A n c]).run Tryd.prog W = .ok v' w' ∧ RowI B w' v' (l ++ k) ∧ Below B W w' := by
  obtain ⟨i0, hi, hz0, hz1, hz2⟩ := info_parts infoI
  cases A with
  | none =>
    have hk : k = [] := by
      rcases Nat.eq_zero_or_pos k.length with h | h
      · exact List.eq_nil_of_length_eq_zero h
      · obtain ⟨b, off, e, _⟩ := hr (by rw [length_cellsI]; exact h)
        cases e
    subst hk
    rw [List.append_nil]
    have hn0 : n = 0 := hn
    subst hn0
    refine ⟨v, W, ?_, h1, Below.refl _ _⟩
    rcases h1 with ⟨_, rfl⟩ | ⟨g, cap, more, rfl, hg, ho, r1, r2, r3⟩
    · simp [Builtin.append_, run_underlying Tryd.underlying44, sizeOf, typeInfo, hi, Builtin.lenOf, Builtin.firstCells]
    · simp [Builtin.append_, run_underlying Tryd.underlying44, sizeOf, typeInfo, hi, Builtin.lenOf, Builtin.firstCells, r1, storeCells]
  | some ad =>
    have hnews : ∀ j u, (cellsI k)[j]? = some u → W.cell? (ad.add j) = some u := fun j u hu => by
      have hl : 0 < (cellsI k).length := by
        rcases Nat.lt_or_ge j (cellsI k).length with h | h
        · omega
        · rw [List.getElem?_eq_none h] at hu; cases hu
      obtain ⟨b, off, e, hb, hc⟩ := hr hl
      injection e with e
      subst e
      rw [add_off]
      exact hc j u hu
    have hown : W.ownsRow B 3 1 v l.length (cellsI l) := by
      rcases h1 with ⟨rfl, rfl⟩ | ⟨g, cap, more, rfl, hg, ho, r1, r2, r3⟩
      · exact World.ownsRow_nil _ _ _ _
      · exact owns_of_own ho hg (by rw [length_cellsI, Nat.mul_one]) r1 r2 (by rw [r3, Nat.mul_one])
    obtain ⟨v', w', e, hown', hgrow, hnil, hblk⟩ := run_append_own_at (P := Tryd.prog) W B 44 ty 3 i0 (.int .i64 0) 1 8 Tryd.underlying44 hi hz0 hz1 hz2 rfl (by decide) v l.length (cellsI l) hown ad n c (cellsI k) (by rw [length_cellsI, Nat.mul_one]; exact hn.symm) hnews cellsI_one (by unfold maxLen; omega) (by omega) hB
    refine ⟨v', w', e, ?_, ?_⟩
    · by_cases hv : v' = .slice none 0 0
      · obtain ⟨hv0, hm0⟩ := hnil.1 hv
        refine .inl ⟨?_, hv⟩
        have : k = [] := List.eq_nil_of_length_eq_zero (by omega)
        subst this
        rcases h1 with ⟨rfl, _⟩ | ⟨g, cap, more, e, _⟩
        · rfl
        · rw [e] at hv0; cases hv0
      · obtain ⟨g', cap', more', rfl, hg', hO, p1, p2, p3⟩ := row_own hown' hv
        rw [← cellsI_append] at hO p3
        exact .inr ⟨g', cap', more', by rw [List.length_append, hn], hg', hO, by rw [List.length_append, ← hn]; exact p1, p2, by rw [p3, Nat.mul_one]⟩
    · rcases h1 with ⟨_, rfl⟩ | ⟨g, cap, more, rfl, hg, ho, _⟩
      · exact (below_none hgrow).mono hB
      · exact grown_below hgrow hg hB
theorem wpList_append_ints {ops : Array Oper} {rest : List Oper} {o : Oper} {a : Act} {Q : Exit → Act → World → Prop} (hgd : o.guard = none) (s x : Operand)
    (ho : o.op = .call { callee := .builtin .append, args := #[s, x], argTypes := #[44, 44] }) (A : Option Addr) (n c : Nat) {k : List Int} (hs : a.eval s = v) (hx : a.eval x = .slice A n c) (h1 : RowI B W v l) (hn : n = k.length) (hr : Rd W A (cellsI k)) (hsz : l.length + n ≤ 1000000) (hB : B ≤ W.heap.size)
    (h : ∀ v' w', RowI B w' v' (l ++ k) → Below B W w' → wpList Tryd.prog ops Q rest (a.put o.dst v') w') : wpList Tryd.prog ops Q (o :: rest) a W := by
  obtain ⟨v', w', e, q1, q2⟩ := run_append_ints o.type A n c h1 hn hr hsz hB
  refine wpList_plain hgd fun K hK => ?_
  unfold Oper.wp execOp
  simp only [ho, resolve, invoke, builtin, Sem.run_bind, Sem.run_pure, Result.andThen_ok, List.map_toArray, List.map_cons, List.map_nil, hs, hx, e]
  exact hK _ _ (h v' w' q1 q2)
end
/-- Numbers in new memory. -/
def FreshI (w : World) (l : List Int) (e : Ending) (w' : World) : Prop := ∃ v, e = .returned v ∧ RowI w.heap.size w' v l ∧ Below w.heap.size w w'
theorem drop_step {us vs : List Int} {k : Nat} {a b : Int} (ha : us[k]? = some a) (hb : vs[k]? = some b) : (us.drop k == vs.drop k) = (a == b && us.drop (k + 1) == vs.drop (k + 1)) := by
  obtain ⟨h1, rfl⟩ := List.getElem?_eq_some_iff.1 ha
  obtain ⟨h2, rfl⟩ := List.getElem?_eq_some_iff.1 hb
  rw [List.drop_eq_getElem_cons h1, List.drop_eq_getElem_cons h2]
  rfl
theorem drop_end {us vs : List Int} {k : Nat} (h1 : k ≤ us.length) (h2 : k ≤ vs.length) (h : us.length ≤ k ∨ vs.length ≤ k) : (us.drop k == vs.drop k) = (decide (k = us.length) && decide (k = vs.length)) := by
  rcases Nat.lt_or_ge k us.length with h3 | h3
  · have h4 : vs.length = k := by omega
    rw [List.drop_eq_getElem_cons h3, List.drop_eq_nil_of_le (show vs.length ≤ k by omega)]
    have : decide (k = us.length) = false := by rw [decide_eq_false_iff_not]; omega
    rw [this]; rfl
  · rw [List.drop_eq_nil_of_le h3]
    rcases Nat.lt_or_ge k vs.length with h4 | h4
    · rw [List.drop_eq_getElem_cons h4]
      have : decide (k = vs.length) = false := by rw [decide_eq_false_iff_not]; omega
      rw [this, Bool.and_false]; rfl
    · rw [List.drop_eq_nil_of_le h4]
      have e1 : decide (k = us.length) = true := by rw [decide_eq_true_eq]; omega
      have e2 : decide (k = vs.length) = true := by rw [decide_eq_true_eq]; omega
      rw [e1, e2]; rfl
end Go.Proofs.YtljihclpgpmfeaaDoor
