/- Rows of edges of the call's own: made, appended to. No function is walked. -/
import Derived.Test.YtljihclpgpmfeaaDoorGd
namespace Go.Proofs.YtljihclpgpmfeaaDoor
set_option maxRecDepth 100000
open Go.RowKit Go.Shelf

theorem infoE : (Tryd.prog.info? 49).map (fun i => (i.zero, i.size, i.bytes)) = some (some (.agg #[.int .i64 0, .int .i64 0]), 2, 16) := by kernel_rfl
theorem made_edges (n : Nat) : madeCells #[.int .i64 0, .int .i64 0] (n * 2) = (cellsE (List.replicate n (0, 0))).toArray := by
  apply Array.ext_getElem?
  intro i
  unfold madeCells
  by_cases h : i < n * 2
  · obtain ⟨a0, a1⟩ := cellsE_at (l := List.replicate n ((0 : Int), (0 : Int))) (i := i / 2) (e := (0, 0)) (by rw [List.getElem?_replicate, if_pos (by omega)])
    rcases Nat.mod_two_eq_zero_or_one i with h2 | h2
    · rw [show i / 2 * 2 = i from by omega] at a0
      simp [h, h2, a0]
    · rw [show i / 2 * 2 + 1 = i from by omega] at a1
      simp [h, h2, a1]
  · have : (cellsE (List.replicate n ((0 : Int), (0 : Int)))).length ≤ i := by rw [length_cellsE, List.length_replicate]; omega
    simp [h, this]
theorem mk_edges (l n : Nat) (hl : l ≤ n) (hn : n ≤ 100000) (W : World) : (Instr.makeSlice 24 (.int .i64 (l : Int)) (.int .i64 (n : Int))).run Tryd.prog W = .ok (.slice (some ⟨W.heap.size, 0, none⟩) l n) (W.alloc (.cells (cellsE (List.replicate n (0, 0))).toArray 49)) := by
  obtain ⟨i0, hi, hz0, hz1, hz2⟩ := info_parts infoE
  have hmk := run_make (P := Tryd.prog) W 24 49 i0 _ Tryd.underlying24 hi hz0 .i64 .i64 l n (by omega) (by omega) (by rw [hz2]; omega) (by omega)
  rw [hz1] at hmk
  simp only [Int.toNat_natCast, Value.cells, made_edges] at hmk
  exact hmk
/-- A row of edges of the call's own. -/
def RowE (B : Nat) (W : World) (v : Value) (l : List (Int × Int)) : Prop :=
  (l = [] ∧ v = .slice none 0 0) ∨ ∃ g cap more, v = .slice (some ⟨g, 0, none⟩) l.length cap ∧ B ≤ g ∧ Own W g 49 (cellsE l ++ more) ∧ l.length ≤ cap ∧ cap ≤ maxLen ∧ (cellsE l ++ more).length = cap * 2
section
variable {W W' : World} {v : Value} {l : List (Int × Int)} {B : Nat}
theorem RowE.below (h : RowE B W v l) (hb : Below W.heap.size W W') : RowE B W' v l := by
  rcases h with h | ⟨g, cap, more, e, hg, ho, h⟩
  · exact .inl h
  · exact .inr ⟨g, cap, more, e, hg, ho.below' hb, h⟩
theorem RowE.base {B' : Nat} (h : RowE B W v l) (hB : B' ≤ B) : RowE B' W v l := by
  rcases h with h | ⟨g, cap, more, e, hg, h⟩
  · exact .inl h
  · exact .inr ⟨g, cap, more, e, Nat.le_trans hB hg, h⟩
theorem RowE.rd (h : RowE B W v l) : ∃ A c, v = .slice A l.length c ∧ l.length ≤ c ∧ Rd W A (cellsE l) := by
  rcases h with ⟨rfl, rfl⟩ | ⟨g, cap, more, e, hg, ho, h, _⟩
  · exact ⟨none, 0, rfl, Nat.le_refl _, Rd.nil⟩
  · exact ⟨_, cap, e, h, rd_front ho⟩
theorem RowE.arg (h : RowE B W v l) (hl : l.length ≤ 100000) : ∃ A c, v = .slice A l.length c ∧ ArgE W A l.length c l := by
  obtain ⟨A, c, e, hc, hr⟩ := h.rd
  exact ⟨A, c, e, hr, rfl, by omega, hc⟩
/-- Room made for some edges. -/
theorem RowE.room (W : World) (B n : Nat) (hn : n ≤ 100000) (hB : B ≤ W.heap.size) : RowE B (W.alloc (.cells (cellsE (List.replicate n (0, 0))).toArray 49)) (.slice (some ⟨W.heap.size, 0, none⟩) 0 n) [] :=
  .inr ⟨W.heap.size, n, cellsE (List.replicate n (0, 0)), rfl, hB, Own.new' rfl, Nat.zero_le _, by unfold maxLen; omega, by show (cellsE (List.replicate n ((0 : Int), (0 : Int)))).length = _; rw [length_cellsE, List.length_replicate]⟩
theorem RowE.made {g : Nat} (h : Own W g 49 (cellsE l)) (hB : B ≤ g) (hl : l.length ≤ 100000) : RowE B W (.slice (some ⟨g, 0, none⟩) l.length l.length) l :=
  .inr ⟨g, l.length, [], rfl, hB, by rw [List.append_nil]; exact h, Nat.le_refl _, by unfold maxLen; omega, by rw [List.append_nil, length_cellsE]⟩
/-- append of edges to edges of the call's own: what was written is the row's own block or a new one. -/
theorem run_append_edges (ty : TypeId) (A : Option Addr) (n c : Nat) {k : List (Int × Int)} (h1 : RowE B W v l) (hn : n = k.length) (hr : Rd W A (cellsE k)) (hsz : l.length + n ≤ 1000000) (hB : B ≤ W.heap.size) :
    ∃ v' w', (Builtin.append_ #[24, 24] ty #[v, .slice A n c]).run Tryd.prog W = .ok v' w' ∧ RowE B w' v' (l ++ k) ∧ Below B W w' ∧ (∀ q, q < W.heap.size → some q ≠ v.ownBlock → w'.heap[q]? = W.heap[q]?) := by
  obtain ⟨i0, hi, hz0, hz1, hz2⟩ := info_parts infoE
  cases A with
  | none =>
    have hk : k = [] := by
      rcases Nat.eq_zero_or_pos k.length with h | h
      · exact List.eq_nil_of_length_eq_zero h
      · obtain ⟨b, off, e, _⟩ := hr (by rw [length_cellsE]; omega)
        cases e
    subst hk
    rw [List.append_nil]
    have hn0 : n = 0 := hn
    subst hn0
    refine ⟨v, W, ?_, h1, Below.refl _ _, fun _ _ _ => rfl⟩
    rcases h1 with ⟨_, rfl⟩ | ⟨g, cap, more, rfl, hg, ho, r1, r2, r3⟩
    · simp [Builtin.append_, run_underlying Tryd.underlying24, sizeOf, typeInfo, hi, Builtin.lenOf, Builtin.firstCells]
    · simp [Builtin.append_, run_underlying Tryd.underlying24, sizeOf, typeInfo, hi, Builtin.lenOf, Builtin.firstCells, r1, storeCells]
  | some ad =>
    have hnews : ∀ j u, (cellsE k)[j]? = some u → W.cell? (ad.add j) = some u := fun j u hu => by
      have hl : 0 < (cellsE k).length := by
        rcases Nat.lt_or_ge j (cellsE k).length with h | h
        · omega
        · rw [List.getElem?_eq_none h] at hu; cases hu
      obtain ⟨b, off, e, hb, hc⟩ := hr hl
      injection e with e
      subst e
      rw [add_off]
      exact hc j u hu
    have hown : W.ownsRow B 49 2 v l.length (cellsE l) := by
      rcases h1 with ⟨rfl, rfl⟩ | ⟨g, cap, more, rfl, hg, ho, r1, r2, r3⟩
      · exact World.ownsRow_nil _ _ _ _
      · exact owns_of_own ho hg (length_cellsE l) r1 r2 r3
    obtain ⟨v', w', e, hown', hgrow, hnil, hblk⟩ := run_append_own_at (P := Tryd.prog) W B 24 ty 49 i0 (.agg #[.int .i64 0, .int .i64 0]) 2 16 Tryd.underlying24 hi hz0 hz1 hz2 rfl (by decide) v l.length (cellsE l) hown ad n c (cellsE k) (by rw [length_cellsE, hn]) hnews cellsE_one (by unfold maxLen; omega) (by omega) hB
    refine ⟨v', w', e, ?_, ?_, fun q hq hne => hgrow.block q hq hne⟩
    · by_cases hv : v' = .slice none 0 0
      · obtain ⟨hv0, hm0⟩ := hnil.1 hv
        refine .inl ⟨?_, hv⟩
        have : k = [] := List.eq_nil_of_length_eq_zero (by omega)
        subst this
        rcases h1 with ⟨rfl, _⟩ | ⟨g, cap, more, e, _⟩
        · rfl
        · rw [e] at hv0; cases hv0
      · obtain ⟨g', cap', more', rfl, hg', hO, p1, p2, p3⟩ := row_own hown' hv
        rw [← cellsE_append] at hO p3
        exact .inr ⟨g', cap', more', by rw [List.length_append, hn], hg', hO, by rw [List.length_append, ← hn]; exact p1, p2, p3⟩
    · rcases h1 with ⟨_, rfl⟩ | ⟨g, cap, more, rfl, hg, ho, _⟩
      · exact (below_none hgrow).mono hB
      · exact grown_below hgrow hg hB
theorem wpList_append_edges {ops : Array Oper} {rest : List Oper} {o : Oper} {a : Act} {Q : Exit → Act → World → Prop} (hgd : o.guard = none) (s x : Operand)
    (ho : o.op = .call { callee := .builtin .append, args := #[s, x], argTypes := #[24, 24] }) (A : Option Addr) (n c : Nat) {k : List (Int × Int)} (hs : a.eval s = v) (hx : a.eval x = .slice A n c) (h1 : RowE B W v l) (hn : n = k.length) (hr : Rd W A (cellsE k)) (hsz : l.length + n ≤ 1000000) (hB : B ≤ W.heap.size)
    (h : ∀ v' w', RowE B w' v' (l ++ k) → Below B W w' → (∀ q, q < W.heap.size → some q ≠ v.ownBlock → w'.heap[q]? = W.heap[q]?) → wpList Tryd.prog ops Q rest (a.put o.dst v') w') : wpList Tryd.prog ops Q (o :: rest) a W := by
  obtain ⟨v', w', e, q1, q2, q3⟩ := run_append_edges o.type A n c h1 hn hr hsz hB
  refine wpList_plain hgd fun K hK => ?_
  unfold Oper.wp execOp
  simp only [ho, resolve, invoke, builtin, Sem.run_bind, Sem.run_pure, Result.andThen_ok, List.map_toArray, List.map_cons, List.map_nil, hs, hx, e]
  exact hK _ _ (h v' w' q1 q2 q3)
end
end Go.Proofs.YtljihclpgpmfeaaDoor
