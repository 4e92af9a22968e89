/- Rows of numbers of the call's own, each in a block of its own or nil; append onto one of them within a drawn region. No function is walked. -/
import Derived.Test.YtljihclpgpmfeaaDoorUe
import Derived.Test.YtljihclpgpmfeaaDoorUd
import Derived.OwnWalkIn
namespace Go.Proofs.YtljihclpgpmfeaaDoor
set_option maxRecDepth 100000
open Go.RowKit

structure RowsD (B : Nat) (V : World) (gl : Nat) (vs : List Value) (cs : List (List Int)) : Prop where
  own : Own V gl 44 vs
  len : vs.length = cs.length
  base : B ≤ gl
  row : ∀ (i : Nat) (u : Value) (c : List Int), vs[i]? = some u → cs[i]? = some c → RowI B V u c
  apart : ∀ (i j : Nat) (u u' : Value), i ≠ j → vs[i]? = some u → vs[j]? = some u' → u.ownBlock = none ∨ u.ownBlock ≠ u'.ownBlock
section
variable {B gl : Nat} {V W : World} {vs : List Value} {cs : List (List Int)} {u v' : Value} {c : List Int}
theorem RowI.home (h : RowI B V u c) : u.ownBlock = none ∨ ∃ g xs, u.ownBlock = some g ∧ B ≤ g ∧ Own V g 3 xs := by
  rcases h with ⟨_, rfl⟩ | ⟨g, cap, more, rfl, hg, ho, _⟩
  · exact .inl rfl
  · exact .inr ⟨g, _, rfl, hg, ho⟩
/-- A row in another block stays. -/
theorem RowI.grown {x : Option Nat} (h : RowI B V u c) (hb : V.grownBy W x) (hx : u.ownBlock = none ∨ u.ownBlock ≠ x) : RowI B W u c := by
  rcases h with h | ⟨g, cap, more, rfl, hg, ho, h⟩
  · exact .inl h
  · refine .inr ⟨g, cap, more, rfl, hg, ho.grown hb ?_, h⟩
    rcases hx with hx | hx
    · cases hx
    · exact hx
theorem RowI.set {t : TypeId} {us : List Value} (h : RowI B V u c) (ho : Own V gl t us) (hn : 3 ≠ t) (i : Nat) (x : Value) : RowI B (V.setCell ⟨gl, i, none⟩ x) u c := by
  rcases h with h | ⟨g, cap, more, rfl, hg, h1, h⟩
  · exact .inl h
  · exact .inr ⟨g, cap, more, rfl, hg, h1.far (p := ⟨gl, i, none⟩) (h1.ne ho hn) x, h⟩
/-- A row is put in the place of another. -/
theorem RowsD.put (h : RowsD B V gl vs cs) {i : Nat} (hu : vs[i]? = some u) (hg : V.grownBy W u.ownBlock) (hr : RowI B W v' c) (hv : v'.ownBlock = u.ownBlock ∨ ∃ q, v'.ownBlock = some q ∧ V.heap.size ≤ q) :
    RowsD B (W.setCell ⟨gl, i, none⟩ v') gl (vs.set i v') (cs.set i c) := by
  have hil : i < vs.length := (List.getElem?_eq_some_iff.1 hu).1
  obtain ⟨c0, hc0⟩ : ∃ c, cs[i]? = some c := ⟨_, List.getElem?_eq_getElem (by rw [← h.len]; exact hil)⟩
  have hgl : some gl ≠ u.ownBlock := by
    rcases (h.row i u c0 hu hc0).home with e | ⟨g, xs, e, _, ho⟩
    · rw [e]; simp
    · rw [e]
      intro e2
      injection e2 with e2
      subst e2
      exact ho.ne h.own (by decide) rfl
  have hO := h.own.grown hg hgl
  refine ⟨hO.set i v', by simp [h.len], h.base, fun j x d hx hd => ?_, fun j k x x' hjk hx hx' => ?_⟩
  · by_cases hj : i = j
    · subst hj
      rw [List.getElem?_set_self hil] at hx
      rw [List.getElem?_set_self (by rw [← h.len]; exact hil)] at hd
      injection hx with hx
      injection hd with hd
      subst hx; subst hd
      exact hr.set hO (by decide) i v'
    · rw [List.getElem?_set_ne hj] at hx hd
      refine RowI.set (RowI.grown (h.row j x d hx hd) hg ?_) hO (by decide) i v'
      exact h.apart j i x u (Ne.symm hj) hx hu
  · have old : ∀ (j : Nat) (x : Value), vs[j]? = some x → x.ownBlock = none ∨ ∃ g, x.ownBlock = some g ∧ g < V.heap.size := by
      intro j x hx
      obtain ⟨d, hd⟩ : ∃ c, cs[j]? = some c := ⟨_, List.getElem?_eq_getElem (by rw [← h.len]; exact (List.getElem?_eq_some_iff.1 hx).1)⟩
      rcases (h.row j x d hx hd).home with e | ⟨g, xs, e, _, ho⟩
      · exact .inl e
      · exact .inr ⟨g, e, ho.lt⟩
    by_cases hj : i = j
    · subst hj
      rw [List.getElem?_set_self hil] at hx
      rw [List.getElem?_set_ne hjk] at hx'
      injection hx with hx
      subst hx
      rcases hv with e | ⟨q, e, hq⟩
      · rw [e]; exact h.apart i k u x' hjk hu hx'
      · right
        rw [e]
        rcases old k x' hx' with e2 | ⟨g, e2, hlt⟩
        · rw [e2]; simp
        · rw [e2]; intro e3; injection e3 with e3; omega
    · rw [List.getElem?_set_ne hj] at hx
      by_cases hk : i = k
      · subst hk
        rw [List.getElem?_set_self hil] at hx'
        injection hx' with hx'
        subst hx'
        rcases hv with e | ⟨q, e, hq⟩
        · rw [e]; exact h.apart j i x u hjk hx hu
        · rcases old j x hx with e2 | ⟨g, e2, hlt⟩
          · exact .inl e2
          · right
            rw [e, e2]; intro e3; injection e3 with e3; omega
      · rw [List.getElem?_set_ne hk] at hx'
        exact h.apart j k x x' hjk hx hx'
theorem RowsD.below (h : RowsD B V gl vs cs) (hb : Below V.heap.size V W) : RowsD B W gl vs cs :=
  ⟨h.own.below' hb, h.len, h.base, fun i u c hu hc => (h.row i u c hu hc).below hb, h.apart⟩
/-- append of one number to a row of the call's own. -/
theorem run_append_one (ty : TypeId) (g n c : Nat) {l : List Int} {x : Int} (h1 : RowI B V u l) (ho : Own V g 3 [.int .i64 x]) (hsz : l.length + 1 ≤ 1000000) (hB : B ≤ V.heap.size) (hn : n = 1) (hc : c = 1) :
    ∃ v' w', (Builtin.append_ #[44, 44] ty #[u, .slice (some ⟨g, 0, none⟩) n c]).run Tryd.prog V = .ok v' w' ∧ RowI B w' v' (l ++ [x]) ∧ V.grownBy w' u.ownBlock ∧ (v'.ownBlock = u.ownBlock ∨ v'.ownBlock = some V.heap.size) := by
  subst hn; subst hc
  obtain ⟨i0, hi, hz0, hz1, hz2⟩ := info_parts infoI
  have hown : V.ownsRow B 3 1 u l.length (cellsI l) := by
    rcases h1 with ⟨rfl, rfl⟩ | ⟨g, cap, more, rfl, hg, ho, r1, r2, r3⟩
    · exact World.ownsRow_nil _ _ _ _
    · exact owns_of_own ho hg (by rw [length_cellsI, Nat.mul_one]) r1 r2 (by rw [r3, Nat.mul_one])
  obtain ⟨v', w', e, hown', hgrow, hnil, hblk⟩ := run_append_own_at (P := Tryd.prog) V B 44 ty 3 i0 (.int .i64 0) 1 8 Tryd.underlying44 hi hz0 hz1 hz2 rfl (by decide) u l.length (cellsI l) hown ⟨g, 0, none⟩ 1 1 (cellsI [x]) rfl (fun j u hj => ho.add hj) cellsI_one (by unfold maxLen; omega) (by omega) hB
  obtain ⟨g', cap', more', rfl, hg', hO, p1, p2, p3⟩ := row_own hown' (fun e => by have := (hnil.1 e).2; omega)
  rw [← cellsI_append] at hO p3
  exact ⟨_, w', e, .inr ⟨g', cap', more', by rw [List.length_append]; rfl, hg', hO, by rw [List.length_append]; exact p1, p2, by rw [p3, Nat.mul_one]⟩, hgrow, hblk⟩
theorem wpIn_append_one {F : Fence} {nn : Nat} {a : Act} {K : Act → World → Prop} {Q : Exit → Act → World → Prop} {o : Oper} {s y : Operand} {g n m : Nat} {l : List Int} {x : Int}
    (ho : o.op = .call { callee := .builtin .append, args := #[s, y], argTypes := #[44, 44] }) (hs : a.eval s = u) (hy : a.eval y = .slice (some ⟨g, 0, none⟩) n m) (h1 : RowI B V u l) (hg : Own V g 3 [.int .i64 x]) (hsz : l.length + 1 ≤ 1000000) (hB : B ≤ V.heap.size) (hn : n = 1) (hc : m = 1)
    (h : ∀ v' w', RowI B w' v' (l ++ [x]) → V.grownBy w' u.ownBlock → (v'.ownBlock = u.ownBlock ∨ v'.ownBlock = some V.heap.size) → K (a.put o.dst v') w') : o.wpIn F nn Tryd.prog a V K Q := by
  obtain ⟨v', w', hrun, r1, r2, r3⟩ := run_append_one o.type g n m h1 hg hsz hB hn hc
  unfold Oper.wpIn
  refine ⟨?_, ?_⟩
  · simp [Oper.about, ho, resolve, Target.leads, Sem.run_pure]
  · rw [Oper.semAt_plain F _ _ (by rw [ho]; intro c hc'; cases hc')]
    simp [execOp, ho, resolve, invoke, builtin, hs, hy, hrun, Result.andThen]
    exact h _ _ r1 r2 r3
end
/-- A slice of one number, laid anew. -/
def Pst.one (B : Nat) (x : Int) : Pst := Pst.mk' (fun v W => ∃ g, v = .slice (some ⟨g, 0, Option.none⟩) 1 1 ∧ B ≤ g ∧ Own W g 3 [.int .i64 x]) (fun ⟨g, e, h0, h⟩ hb => ⟨g, e, h0, h.below' hb⟩)
/-- A row, and where it lies. -/
def Pst.rowA (B S : Nat) (u : Value) (l : List Int) : Pst := Pst.mk' (fun v W => ∃ A n c, v = .slice A n c ∧ RowI B W (.slice A n c) l ∧ ((Value.slice A n c).ownBlock = u.ownBlock ∨ ∃ q, (Value.slice A n c).ownBlock = some q ∧ S ≤ q)) (fun ⟨A, n, c, e, h, h2⟩ hb => ⟨A, n, c, e, h.below hb, h2⟩)
end Go.Proofs.YtljihclpgpmfeaaDoor
