/- Words for rows that are filled one after the other, each with a value of its own; a row may have no memory at all. No program is named. -/
import Derived.Test.YtljihclpgpmfeaaDoorFill
namespace Go.Proofs.YtljihclpgpmfeaaDoor
set_option maxRecDepth 100000
open Go.RowKit

section
variable {w wr : World} {t : TypeId} {act : Nat → Bool} {val : Nat → Value} {gs cs : Nat → Nat} {K k i : Nat}
/-- The rows below k are full. -/
structure FillN (w : World) (t : TypeId) (act : Nat → Bool) (val : Nat → Value) (gs cs : Nat → Nat) (K k : Nat) (wr : World) : Prop where
  full : ∀ j, j < k → act j = true → Own wr (gs j) t (List.replicate (cs j) (val j))
  rest : ∀ j, k ≤ j → j < K → act j = true → ∃ cur : List Value, cur.length = cs j ∧ Own wr (gs j) t cur
  only : Only (fun b => ∃ j, j < K ∧ act j = true ∧ b = gs j) w wr
/-- So are the first i cells of row k. -/
structure FillAtN (w : World) (t : TypeId) (act : Nat → Bool) (val : Nat → Value) (gs cs : Nat → Nat) (K k i : Nat) (wr : World) : Prop where
  full : ∀ j, j < k → act j = true → Own wr (gs j) t (List.replicate (cs j) (val j))
  rest : ∀ j, k < j → j < K → act j = true → ∃ cur : List Value, cur.length = cs j ∧ Own wr (gs j) t cur
  at_ : act k = true → ∃ cur : List Value, cur.length = cs k ∧ Own wr (gs k) t (List.replicate i (val k) ++ cur.drop i)
  only : Only (fun b => ∃ j, j < K ∧ act j = true ∧ b = gs j) w wr
theorem FillN.zero (h : ∀ j, j < K → act j = true → ∃ cur : List Value, cur.length = cs j ∧ Own w (gs j) t cur) : FillN w t act val gs cs K 0 w :=
  ⟨fun j hj => by omega, fun j _ hj => h j hj, Only.refl _ w⟩
theorem FillN.drew (h : FillN w t act val gs cs K k wr) : FillN w t act val gs cs K k wr.drew := ⟨h.full, h.rest, h.only.drew⟩
theorem FillN.start (h : FillN w t act val gs cs K k wr) (hk : k < K) : FillAtN w t act val gs cs K k 0 wr :=
  ⟨h.full, fun j h1 h2 => h.rest j (by omega) h2, fun ha => by obtain ⟨cur, h1, h2⟩ := h.rest k (Nat.le_refl _) hk ha; exact ⟨cur, h1, h2⟩, h.only⟩
theorem FillAtN.done (h : FillAtN w t act val gs cs K k (cs k) wr) : FillN w t act val gs cs K (k + 1) wr := by
  refine ⟨fun j hj ha => ?_, fun j h1 h2 => h.rest j (by omega) h2, h.only⟩
  by_cases he : j = k
  · subst he
    obtain ⟨cur, h1, h2⟩ := h.at_ ha
    rw [List.drop_of_length_le (by omega), List.append_nil] at h2
    exact h2
  · exact h.full j (by omega) ha
theorem FillAtN.of_none (h : FillAtN w t act val gs cs K k 0 wr) (h0 : cs k = 0) : FillAtN w t act val gs cs K k (cs k) wr := by rw [h0]; exact h
theorem FillAtN.own (h : FillAtN w t act val gs cs K k i wr) (hi : i < cs k) (ha : act k = true) : (∃ v, wr.cell? ⟨gs k, i, none⟩ = some v) ∧ wr.frozen? ⟨gs k, i, none⟩ = false := by
  obtain ⟨cur, h1, h2⟩ := h.at_ ha
  refine ⟨?_, h2.frozen i⟩
  rw [h2.cell, List.getElem?_append_right (by simp)]
  exact ⟨_, List.getElem?_eq_getElem (by simp; omega)⟩
theorem FillAtN.step (h : FillAtN w t act val gs cs K k i wr) (hi : i < cs k) (hk : k < K) (ha : act k = true) (hd : ∀ a b, a < K → b < K → act a = true → act b = true → gs a = gs b → a = b) : FillAtN w t act val gs cs K k (i + 1) (wr.setCell ⟨gs k, i, none⟩ (val k)) := by
  refine ⟨fun j hj hj2 => (h.full j hj hj2).far (p := ⟨gs k, i, none⟩) (fun e => by have := hd j k (by omega) hk hj2 ha e; omega) _, fun j h1 h2 h3 => ?_, fun _ => ?_, h.only.set (p := ⟨gs k, i, none⟩) ⟨k, hk, ha, rfl⟩ _⟩
  · obtain ⟨cur, q1, q2⟩ := h.rest j h1 h2 h3
    exact ⟨cur, q1, q2.far (p := ⟨gs k, i, none⟩) (fun e => by have := hd j k h2 hk h3 ha e; omega) _⟩
  · obtain ⟨cur, q1, q2⟩ := h.at_ ha
    refine ⟨cur, q1, ?_⟩
    have q3 := q2.set i (val k)
    have e : (List.replicate i (val k) ++ cur.drop i).set i (val k) = List.replicate (i + 1) (val k) ++ cur.drop (i + 1) := by
      rw [List.set_append, if_neg (by simp), List.length_replicate, Nat.sub_self, List.drop_eq_getElem_cons (by omega), List.set_cons_zero, List.replicate_succ', List.append_assoc]
      rfl
    rw [e] at q3
    exact q3
end
end Go.Proofs.YtljihclpgpmfeaaDoor
