/- Rows of bytes of the call's own. No function is walked. -/
import Derived.Test.YtljihclpgpmfeaaDoorWd
import Derived.Test.YtljihclpgpmfeaaDoorGe
import Derived.Test.YtljihclpgpmfeaaDoorShelfAI
namespace Go.Proofs.YtljihclpgpmfeaaDoor
set_option maxRecDepth 100000
open Go.RowKit

theorem infoB : (Tryd.prog.info? 5).map (fun i => (i.zero, i.size, i.bytes)) = some (some (.int .u8 0), 1, 1) := by kernel_rfl
/-- A row of bytes of the call's own. -/
def RowB (B : Nat) (W : World) (v : Value) (l : List UInt8) : Prop :=
  (l = [] ∧ v = .slice none 0 0) ∨ ∃ g cap more, v = .slice (some ⟨g, 0, none⟩) l.length cap ∧ B ≤ g ∧ Own W g 5 (cellsB l ++ more) ∧ l.length ≤ cap ∧ cap ≤ maxLen ∧ (cellsB l ++ more).length = cap
/-- Blocks of other kinds stay. -/
def KeepT (W W' : World) : Prop := ∀ (g : Nat) (t : TypeId) (vs : List Value), t ≠ 5 → Own W g t vs → Own W' g t vs
section
variable {W W' : World} {v : Value} {k l : List UInt8} {B : Nat}
theorem RowB.below (h : RowB B W v l) (hb : Below W.heap.size W W') : RowB B W' v l := by
  rcases h with h | ⟨g, cap, more, e, hg, ho, h⟩
  · exact .inl h
  · exact .inr ⟨g, cap, more, e, hg, ho.below' hb, h⟩
theorem RowB.far (h : RowB B W v l) {b : Nat} {t : TypeId} {us : List Value} (ho : Own W b t us) (hn : 5 ≠ t) (i : Nat) (u : Value) : RowB B (W.setCell ⟨b, i, none⟩ u) v l := by
  rcases h with h | ⟨g, cap, more, e, hg, h1, h⟩
  · exact .inl h
  · exact .inr ⟨g, cap, more, e, hg, h1.far (p := ⟨b, i, none⟩) (h1.ne ho hn) u, h⟩
theorem RowB.rd (h : RowB B W v l) : ∃ A c, v = .slice A l.length c ∧ Rd W A (cellsB l) := by
  rcases h with ⟨rfl, rfl⟩ | ⟨g, cap, more, e, hg, ho, h⟩
  · exact ⟨none, 0, rfl, Rd.nil⟩
  · exact ⟨_, cap, e, rd_front ho⟩
theorem RowB.one (h : RowB B W v l) : v.oneCell' = true := by
  rcases h with ⟨rfl, rfl⟩ | ⟨g, cap, more, e, _⟩
  · rfl
  · rw [e]; rfl
theorem KeepT.refl (W : World) : KeepT W W := fun _ _ _ _ h => h
/-- append of bytes to bytes of the call's own. -/
theorem run_append_bytes (ty : TypeId) (A : Option Addr) (n c : Nat) (h1 : RowB B W v l) (hn : n = k.length) (hr : Rd W A (cellsB k)) (hsz : l.length + n ≤ 1000000) (hB : B ≤ W.heap.size) :
    ∃ v' w', (Builtin.append_ #[22, 22] ty #[v, .slice A n c]).run Tryd.prog W = .ok v' w' ∧ RowB B w' v' (l ++ k) ∧ Below B W w' ∧ KeepT W w' := by
  obtain ⟨i0, hi, hz0, hz1, hz2⟩ := info_parts infoB
  cases A with
  | none =>
    have hk : k = [] := by
      rcases Nat.eq_zero_or_pos k.length with h | h
      · exact List.eq_nil_of_length_eq_zero h
      · obtain ⟨b, off, e, _⟩ := hr (by rw [length_cellsB]; exact h)
        cases e
    subst hk
    rw [List.append_nil]
    have hn0 : n = 0 := hn
    subst hn0
    refine ⟨v, W, ?_, h1, Below.refl _ _, KeepT.refl _⟩
    rcases h1 with ⟨_, rfl⟩ | ⟨g, cap, more, rfl, hg, ho, r1, r2, r3⟩
    · simp [Builtin.append_, run_underlying Tryd.underlying22, sizeOf, typeInfo, hi, Builtin.lenOf, Builtin.firstCells]
    · simp [Builtin.append_, run_underlying Tryd.underlying22, sizeOf, typeInfo, hi, Builtin.lenOf, Builtin.firstCells, r1, storeCells]
  | some ad =>
    have hnews : ∀ j u, (cellsB k)[j]? = some u → W.cell? (ad.add j) = some u := fun j u hu => by
      have hl : 0 < (cellsB k).length := by
        rcases Nat.lt_or_ge j (cellsB k).length with h | h
        · omega
        · rw [List.getElem?_eq_none h] at hu; cases hu
      obtain ⟨b, off, e, hb, hc⟩ := hr hl
      injection e with e
      subst e
      rw [add_off]
      exact hc j u hu
    have hown : W.ownsRow B 5 1 v l.length (cellsB l) := by
      rcases h1 with ⟨rfl, rfl⟩ | ⟨g, cap, more, rfl, hg, ho, r1, r2, r3⟩
      · exact World.ownsRow_nil _ _ _ _
      · exact owns_of_own ho hg (by rw [length_cellsB, Nat.mul_one]) r1 r2 (by rw [r3, Nat.mul_one])
    obtain ⟨v', w', e, hown', hgrow, hnil, hblk⟩ := run_append_own_at (P := Tryd.prog) W B 22 ty 5 i0 (.int .u8 0) 1 1 Tryd.underlying22 hi hz0 hz1 hz2 rfl (by decide) v l.length (cellsB l) hown ad n c (cellsB k) (by rw [length_cellsB, Nat.mul_one]; exact hn.symm) hnews cellsB_one (by unfold maxLen; omega) (by omega) hB
    refine ⟨v', w', e, ?_, ?_, ?_⟩
    · by_cases hv : v' = .slice none 0 0
      · obtain ⟨hv0, hm0⟩ := hnil.1 hv
        refine .inl ⟨?_, hv⟩
        have : k = [] := List.eq_nil_of_length_eq_zero (by omega)
        subst this
        rcases h1 with ⟨rfl, _⟩ | ⟨g, cap, more, e, _⟩
        · rfl
        · rw [e] at hv0; cases hv0
      · obtain ⟨g', cap', more', rfl, hg', hO, p1, p2, p3⟩ := row_own hown' hv
        rw [← cellsB_append] at hO p3
        exact .inr ⟨g', cap', more', by rw [List.length_append, hn], hg', hO, by rw [List.length_append, ← hn]; exact p1, p2, by rw [p3, Nat.mul_one]⟩
    · rcases h1 with ⟨_, rfl⟩ | ⟨g, cap, more, rfl, hg, ho, _⟩
      · exact (below_none hgrow).mono hB
      · exact grown_below hgrow hg hB
    · intro g2 t2 vs2 ht hO2
      rcases h1 with ⟨_, rfl⟩ | ⟨g, cap, more, rfl, hg, ho, _⟩
      · exact hO2.below' (below_none hgrow)
      · exact hO2.grown' ho ht hgrow
theorem wpList_append_bytes {ops : Array Oper} {rest : List Oper} {o : Oper} {a : Act} {Q : Exit → Act → World → Prop} (hgd : o.guard = none) (s x : Operand)
    (ho : o.op = .call { callee := .builtin .append, args := #[s, x], argTypes := #[22, 22] }) (A : Option Addr) (n c : Nat) (hs : a.eval s = v) (hx : a.eval x = .slice A n c) (h1 : RowB B W v l) (hn : n = k.length) (hr : Rd W A (cellsB k)) (hsz : l.length + n ≤ 1000000) (hB : B ≤ W.heap.size)
    (h : ∀ v' w', RowB B w' v' (l ++ k) → Below B W w' → KeepT W w' → wpList Tryd.prog ops Q rest (a.put o.dst v') w') : wpList Tryd.prog ops Q (o :: rest) a W := by
  obtain ⟨v', w', e, q1, q2, q3⟩ := run_append_bytes o.type A n c h1 hn hr hsz hB
  refine wpList_plain hgd fun K hK => ?_
  unfold Oper.wp execOp
  simp only [ho, resolve, invoke, builtin, Sem.run_bind, Sem.run_pure, Result.andThen_ok, List.map_toArray, List.map_cons, List.map_nil, hs, hx, e]
  exact hK _ _ (h v' w' q1 q2 q3)
end
theorem byteCells_eq (l : List UInt8) : Lib.byteCells l = cellsB l := by
  unfold Lib.byteCells cellsB Lib.numsL
  rw [List.map_map]
  rfl
theorem RowB.owns {W : World} {v : Value} {l : List UInt8} {B : Nat} (h : RowB B W v l) : W.ownsRow B 5 1 v l.length (cellsB l) := by
  rcases h with ⟨rfl, rfl⟩ | ⟨g, cap, more, rfl, hg, ho, r1, r2, r3⟩
  · exact World.ownsRow_nil _ _ _ _
  · exact owns_of_own ho hg (by rw [length_cellsB, Nat.mul_one]) r1 r2 (by rw [r3, Nat.mul_one])
theorem RowB.of_owns {W : World} {v : Value} {l : List UInt8} {B n : Nat} {xs : List Value} (h : W.ownsRow B 5 1 v n xs) (hn : n = l.length) (hx : xs = cellsB l) : RowB B W v l := by
  subst hn; subst hx
  by_cases hv : v = .slice none 0 0
  · refine .inl ⟨?_, hv⟩
    rcases h.2 with ⟨_, h0⟩ | ⟨g, cap, cur, e, _⟩
    · exact List.eq_nil_of_length_eq_zero h0
    · rw [hv] at e; cases e
  · obtain ⟨g', cap', more', rfl, hg', hO, p1, p2, p3⟩ := row_own h hv
    exact .inr ⟨g', cap', more', rfl, hg', hO, p1, p2, by rw [p3, Nat.mul_one]⟩
/-- strconv.AppendInt at base 10, over a row of bytes. -/
theorem appendInt_any (B : Nat) (i : Int) (h0 : -9223372036854775808 ≤ i) (h1 : i ≤ 9223372036854775807) (v : Value) (l : List UInt8) (w : World) (hr : RowB B w v l) (hB : B ≤ w.heap.size) (hl : l.length ≤ 100000000000000)
    (ht : Lib.TabBelow Tryd.prog B w "internal/strconv.uint64pow10" .u64 Lib.pow10Tab) :
    Calls Tryd.prog 65 #[v, .int .i64 i, .int .i64 10] w fun e w' => ∃ v', e = .returned v' ∧ RowB B w' v' (l ++ Lib.itoa i) ∧ Below B w w' := by
  refine (Any.strconv_AppendInt_10 Tryd.aiM B l.length i h0 h1 v (cellsB l) w hr.owns hB (by omega) ht).mono ?_
  rintro e w' ⟨v', rfl, h2, h3, _⟩
  exact ⟨v', rfl, RowB.of_owns h2 (by rw [List.length_append]) (by rw [cellsB_append, byteCells_eq]), h3⟩
end Go.Proofs.YtljihclpgpmfeaaDoor
