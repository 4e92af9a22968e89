/- Rows of numbers that are asked whether they share memory: ApartInts in words of values; a row of rows that several rows are appended to. -/
import Derived.Test.YtljihclpgpmfeaaDoorJb
import Derived.Test.YtljihclpgpmfeaaDoorBs
namespace Go.Proofs.YtljihclpgpmfeaaDoor
set_option maxRecDepth 100000
open Go.RowKit Go.Shelf

/-- The block of a row. -/
def blk : Value → Nat
  | .slice (some a) _ _ => a.block
  | _ => 0

def nilV : Value → Bool
  | .slice none _ _ => true
  | _ => false
def lnV : Value → Nat
  | .slice _ n _ => n
  | _ => 0
def capV : Value → Nat
  | .slice _ _ c => c
  | _ => 0
/-- Two rows that are no two slices of one block. -/
def ApartV (u v : Value) : Prop := nilV u = false → nilV v = false → blk u ≠ blk v
theorem RowI.shape {B : Nat} {W : World} {v : Value} {l : List Int} (h : RowI B W v l) :
    (nilV v = true ∧ v = .slice none 0 0) ∨ (nilV v = false ∧ v = .slice (some ⟨blk v, 0, none⟩) (lnV v) (capV v) ∧ lnV v ≤ capV v ∧ capV v ≤ maxLen ∧ B ≤ blk v ∧ ∃ cur, cur.length = capV v ∧ Own W (blk v) 3 cur) := by
  rcases h with ⟨_, rfl⟩ | ⟨g, cap, more, rfl, hg, ho, h1, h2, h3⟩
  · exact .inl ⟨rfl, rfl⟩
  · exact .inr ⟨rfl, rfl, h1, h2, hg, _, h3, ho⟩
theorem RowI.bd {B : Nat} {W : World} {v : Value} {l : List Int} (h : RowI B W v l) (hn : nilV v = false) : B ≤ blk v ∧ blk v < W.heap.size := by
  rcases h.shape with ⟨h1, _⟩ | ⟨_, _, _, _, h2, cur, _, h3⟩
  · rw [h1] at hn; cases hn
  · exact ⟨h2, h3.lt⟩
theorem apartVals_any (gl K kc : Nat) (vs more : List Value) (w : World) (hl : Own w gl 44 (vs ++ more)) (hk : vs.length = K) (hK : K ≤ 100000) (hr : ∀ v ∈ vs, ∃ l, RowI 0 w v l) (hd : vs.Pairwise ApartV) :
    Calls Tryd.prog 23 #[.slice (some ⟨gl, 0, none⟩) K kc] w fun e w' => e = .returned (.bool true) ∧ Only (fun b => ∃ v ∈ vs, nilV v = false ∧ b = blk v) w w' := by
  let X : Nat → Value := fun i => vs.getD i (.slice none 0 0)
  have hX : ∀ i, i < K → X i ∈ vs := fun i hi => by
    show vs.getD i _ ∈ vs
    rw [List.getD_eq_getElem?_getD, List.getElem?_eq_getElem (by omega)]
    exact List.getElem_mem _
  have hXi : ∀ i, i < K → vs[i]? = some (X i) := fun i hi => by
    show vs[i]? = some (vs.getD i _)
    rw [List.getD_eq_getElem?_getD, List.getElem?_eq_getElem (by omega)]
    rfl
  have hS : ∀ i, i < K → _ := fun i hi => (hr (X i) (hX i hi)).elim fun l h => h.shape
  have hrow : rowsN (fun i => !nilV (X i)) (fun i => blk (X i)) (fun i => lnV (X i)) (fun i => capV (X i)) K = vs := by
    apply List.ext_getElem?
    intro i
    by_cases hi : i < K
    · rw [rowsN_at _ _ _ _ hi, hXi i hi]
      show some (bif !nilV (X i) then Value.slice (some ⟨blk (X i), 0, none⟩) (lnV (X i)) (capV (X i)) else .slice none 0 0) = _
      rcases hS i hi with ⟨h1, h2⟩ | ⟨h1, h2, _⟩
      · rw [h1, h2]; rfl
      · rw [h1]
        exact congrArg some h2.symm
    · rw [List.getElem?_eq_none (by simp [rowsN]; omega), List.getElem?_eq_none (by omega)]
  refine (apartInts_any gl K kc (fun i => !nilV (X i)) (fun i => blk (X i)) (fun i => lnV (X i)) (fun i => capV (X i)) w ⟨more, by rw [hrow]; exact hl⟩ hK (fun i hi ha => ?_) (fun i hi ha => ?_) (fun a b ha hb h1 h2 e => ?_) (fun i hi ha => ?_)).mono ?_
  · rcases hS i hi with ⟨h1, h2⟩ | ⟨h1, h2, h3, h4, _⟩
    · rw [h1] at ha; cases ha
    · exact ⟨h3, h4⟩
  · rcases hS i hi with ⟨h1, h2⟩ | ⟨h1, h2, h3, h4, _⟩
    · show capV (X i) = 0
      rw [h2]; rfl
    · rw [h1] at ha; cases ha
  · have n1 : nilV (X a) = false := by simpa using h1
    have n2 : nilV (X b) = false := by simpa using h2
    have key : ∀ i j, i < j → j < K → nilV (X i) = false → nilV (X j) = false → blk (X i) ≠ blk (X j) := fun i j hij hj m1 m2 => by
      have hp := List.pairwise_iff_getElem.1 hd i j (by omega) (by omega) hij
      have ei := hXi i (by omega)
      have ej := hXi j hj
      rw [List.getElem?_eq_getElem (by omega)] at ei ej
      injection ei with ei
      injection ej with ej
      rw [ei, ej] at hp
      exact hp m1 m2
    rcases Nat.lt_trichotomy a b with h | h | h
    · exact absurd e (key a b h hb n1 n2)
    · exact h
    · exact absurd e.symm (key b a h ha n2 n1)
  · rcases hS i hi with ⟨h1, h2⟩ | ⟨h1, h2, h3, h4, _, cur, h5, h6⟩
    · rw [h1] at ha; cases ha
    · exact ⟨cur, h5, h6⟩
  · rintro e w' ⟨rfl, ho⟩
    refine ⟨rfl, ho.os, ho.tape, ho.output, ho.size, fun b hb hg => ho.block b hb ?_⟩
    rintro ⟨j, hj, ha, rfl⟩
    exact hg ⟨X j, hX j hj, by simpa using ha, rfl⟩
/-- append of several rows to rows: what holds each, and what else is as it was. -/
theorem run_append_vals (ty : TypeId) {V : World} {g cap : Nat} {vs more us : List Value} {h1 : Nat} {n1 : Nat} (g0 : Nat) (ho : Own V g 44 (vs ++ more)) (hk : vs.length = n1) (hc1 : n1 ≤ cap) (hc2 : cap ≤ maxLen) (hc3 : (vs ++ more).length = cap)
    (hx : Own V g0 44 us) (hu : us.length = h1) (hu0 : 0 < h1) (hone : ∀ u ∈ us, u.oneCell' = true) (hsz : n1 + h1 ≤ 1000000) :
    ∃ g' cap' more' w', (Builtin.append_ #[42, 42] ty #[.slice (some ⟨g, 0, none⟩) n1 cap, .slice (some ⟨g0, 0, none⟩) h1 h1]).run Tryd.prog V = .ok (.slice (some ⟨g', 0, none⟩) (n1 + h1) cap') w' ∧ Own w' g' 44 ((vs ++ us) ++ more') ∧ V.grownBy w' (some g) ∧ (g' = g ∨ g' = V.heap.size) := by
  obtain ⟨i0, hi, hz0, hz1, hz2⟩ := info_parts infoS
  have hown := owns_of_own (base := 0) (n := n1) (size := 1) ho (Nat.zero_le _) (by rw [hk, Nat.mul_one]) hc1 hc2 (by rw [hc3, Nat.mul_one])
  obtain ⟨v', w', e, hown', hgrow, hnil, hblk⟩ := run_append_own_at (P := Tryd.prog) V 0 42 ty 44 i0 (.slice none 0 0) 1 24 Tryd.underlying42 hi hz0 hz1 hz2 rfl (by decide) _ n1 vs hown ⟨g0, 0, none⟩ h1 h1 us (by rw [hu, Nat.mul_one]) (fun j u hj => hx.add hj) hone (by unfold maxLen; omega) (by omega) (Nat.zero_le _)
  obtain ⟨g', cap', more', rfl, hg', hO, p1, p2, p3⟩ := row_own hown' (fun e => by have := (hnil.1 e).2; omega)
  refine ⟨g', cap', more', w', e, hO, hgrow, ?_⟩
  rcases hblk with h | h
  · left; simpa [Value.ownBlock, blk] using h
  · right; simpa [Value.ownBlock, blk] using h
theorem wpList_append_vals {ops : Array Oper} {rest : List Oper} {o : Oper} {a : Act} {Q : Exit → Act → World → Prop} (hgd : o.guard = none) (s x : Operand)
    (hop : o.op = .call { callee := .builtin .append, args := #[s, x], argTypes := #[42, 42] }) {V : World} {g cap : Nat} {vs more us : List Value} {h1 n1 : Nat} (g0 : Nat) (hs : a.eval s = .slice (some ⟨g, 0, none⟩) n1 cap) (hxe : a.eval x = .slice (some ⟨g0, 0, none⟩) h1 h1)
    (ho : Own V g 44 (vs ++ more)) (hk : vs.length = n1) (hc1 : n1 ≤ cap) (hc2 : cap ≤ maxLen) (hc3 : (vs ++ more).length = cap) (hx : Own V g0 44 us) (hu : us.length = h1) (hu0 : 0 < h1) (hone : ∀ u ∈ us, u.oneCell' = true) (hsz : n1 + h1 ≤ 1000000)
    (h : ∀ g' cap' more' w', Own w' g' 44 ((vs ++ us) ++ more') → V.grownBy w' (some g) → (g' = g ∨ g' = V.heap.size) → wpList Tryd.prog ops Q rest (a.put o.dst (.slice (some ⟨g', 0, none⟩) (n1 + h1) cap')) w') : wpList Tryd.prog ops Q (o :: rest) a V := by
  obtain ⟨g', cap', more', w', e, q1, q2, q3⟩ := run_append_vals o.type g0 ho hk hc1 hc2 hc3 hx hu hu0 hone hsz
  refine wpList_plain hgd fun K hK => ?_
  unfold Oper.wp execOp
  simp only [hop, resolve, invoke, builtin, Sem.run_bind, Sem.run_pure, Result.andThen_ok, List.map_toArray, List.map_cons, List.map_nil, hs, hxe, e]
  exact hK _ _ (h g' cap' more' w' q1 q2 q3)
def SeesF (W0 V : World) : Prop := Below W0.heap.size W0 V
theorem SeesF.below {W0 V V' : World} (h : SeesF W0 V) (hb : Below V.heap.size V V') : SeesF W0 V' := below_chain h hb
end Go.Proofs.YtljihclpgpmfeaaDoor
