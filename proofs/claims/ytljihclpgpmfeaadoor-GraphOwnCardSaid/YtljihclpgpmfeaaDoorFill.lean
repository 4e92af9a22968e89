/- Words for rows that are filled one after the other, each with a value of its own. No program is named. -/
import Derived.Test.YtljihclpgpmfeaaDoorRow
namespace Go.Proofs.YtljihclpgpmfeaaDoor
set_option maxRecDepth 100000
open Go.RowKit

/-- Only blocks of G hold something else. -/
structure Only (G : Nat → Prop) (w w' : World) : Prop where
  os : w'.os = w.os
  tape : w'.tape = w.tape
  output : w'.output = w.output
  size : w.heap.size ≤ w'.heap.size
  block : ∀ b, b < w.heap.size → ¬ G b → w'.heap[b]? = w.heap[b]?
theorem Only.refl (G : Nat → Prop) (w : World) : Only G w w := ⟨rfl, rfl, rfl, Nat.le_refl _, fun _ _ _ => rfl⟩
theorem Only.of_below {G : Nat → Prop} {w w' : World} (h : Below w.heap.size w w') : Only G w w' := ⟨h.os, h.tape, h.output, h.size, fun b hb _ => h.block b hb⟩
theorem Only.drew {G : Nat → Prop} {w w' : World} (h : Only G w w') : Only G w w'.drew := ⟨h.os, h.tape, h.output, h.size, h.block⟩
theorem Only.then {G : Nat → Prop} {w w' w2 : World} (h : Only G w w') (h2 : Below w'.heap.size w' w2) : Only G w w2 :=
  ⟨h2.os.trans h.os, h2.tape.trans h.tape, h2.output.trans h.output, Nat.le_trans h.size h2.size, fun b hb hg => (h2.block b (Nat.lt_of_lt_of_le hb h.size)).trans (h.block b hb hg)⟩
theorem Only.set {G : Nat → Prop} {w w' : World} (h : Only G w w') {p : Addr} (hp : G p.block) (u : Value) : Only G w (w'.setCell p u) :=
  ⟨h.os, h.tape, h.output, by simpa [World.setCell] using h.size, fun b hb hg => (Below.heap_setCell w' p u b (fun e => hg (by rw [e]; exact hp))).trans (h.block b hb hg)⟩
theorem Only.below {G : Nat → Prop} {w w' : World} {B : Nat} (h : Only G w w') (hG : ∀ b, G b → B ≤ b) (hB : B ≤ w.heap.size) : Below B w w' :=
  ⟨h.os, h.tape, h.output, h.size, fun k hk => h.block k (by omega) (fun hg => by have := hG k hg; omega)⟩
theorem Own.only {G : Nat → Prop} {w w' : World} {g : Nat} {t : TypeId} {vs : List Value} (h : Own w g t vs) (ho : Only G w w') (hg : ¬ G g) : Own w' g t vs := (ho.block g h.lt hg).trans h

section
variable {w wr : World} {t : TypeId} {val : Nat → Value} {gs cs : Nat → Nat} {K k i : Nat}
/-- The rows below k are full. -/
structure Fill (w : World) (t : TypeId) (val : Nat → Value) (gs cs : Nat → Nat) (K k : Nat) (wr : World) : Prop where
  full : ∀ j, j < k → Own wr (gs j) t (List.replicate (cs j) (val j))
  rest : ∀ j, k ≤ j → j < K → ∃ cur : List Value, cur.length = cs j ∧ Own wr (gs j) t cur
  only : Only (fun b => ∃ j, j < K ∧ b = gs j) w wr
/-- So are the first i cells of row k. -/
structure FillAt (w : World) (t : TypeId) (val : Nat → Value) (gs cs : Nat → Nat) (K k i : Nat) (wr : World) : Prop where
  full : ∀ j, j < k → Own wr (gs j) t (List.replicate (cs j) (val j))
  rest : ∀ j, k < j → j < K → ∃ cur : List Value, cur.length = cs j ∧ Own wr (gs j) t cur
  at_ : ∃ cur : List Value, cur.length = cs k ∧ Own wr (gs k) t (List.replicate i (val k) ++ cur.drop i)
  only : Only (fun b => ∃ j, j < K ∧ b = gs j) w wr
theorem Fill.zero (h : ∀ j, j < K → ∃ cur : List Value, cur.length = cs j ∧ Own w (gs j) t cur) : Fill w t val gs cs K 0 w :=
  ⟨fun j hj => by omega, fun j _ hj => h j hj, Only.refl _ w⟩
theorem Fill.drew (h : Fill w t val gs cs K k wr) : Fill w t val gs cs K k wr.drew := ⟨h.full, h.rest, h.only.drew⟩
theorem Fill.start (h : Fill w t val gs cs K k wr) (hk : k < K) : FillAt w t val gs cs K k 0 wr :=
  ⟨h.full, fun j h1 h2 => h.rest j (by omega) h2, by obtain ⟨cur, h1, h2⟩ := h.rest k (Nat.le_refl _) hk; exact ⟨cur, h1, h2⟩, h.only⟩
theorem FillAt.done (h : FillAt w t val gs cs K k (cs k) wr) : Fill w t val gs cs K (k + 1) wr := by
  refine ⟨fun j hj => ?_, fun j h1 h2 => h.rest j (by omega) h2, h.only⟩
  by_cases he : j = k
  · subst he
    obtain ⟨cur, h1, h2⟩ := h.at_
    rw [List.drop_of_length_le (by omega), List.append_nil] at h2
    exact h2
  · exact h.full j (by omega)
theorem FillAt.own (h : FillAt w t val gs cs K k i wr) (hi : i < cs k) : (∃ v, wr.cell? ⟨gs k, i, none⟩ = some v) ∧ wr.frozen? ⟨gs k, i, none⟩ = false := by
  obtain ⟨cur, h1, h2⟩ := h.at_
  refine ⟨?_, h2.frozen i⟩
  rw [h2.cell, List.getElem?_append_right (by simp)]
  exact ⟨_, List.getElem?_eq_getElem (by simp; omega)⟩
theorem FillAt.step (h : FillAt w t val gs cs K k i wr) (hi : i < cs k) (hk : k < K) (hd : ∀ a b, a < K → b < K → gs a = gs b → a = b) : FillAt w t val gs cs K k (i + 1) (wr.setCell ⟨gs k, i, none⟩ (val k)) := by
  refine ⟨fun j hj => (h.full j hj).far (p := ⟨gs k, i, none⟩) (fun e => by have := hd j k (by omega) hk e; omega) _, fun j h1 h2 => ?_, ?_, h.only.set (p := ⟨gs k, i, none⟩) ⟨k, hk, rfl⟩ _⟩
  · obtain ⟨cur, q1, q2⟩ := h.rest j h1 h2
    exact ⟨cur, q1, q2.far (p := ⟨gs k, i, none⟩) (fun e => by have := hd j k h2 hk e; omega) _⟩
  · obtain ⟨cur, q1, q2⟩ := h.at_
    refine ⟨cur, q1, ?_⟩
    have q3 := q2.set i (val k)
    have e : (List.replicate i (val k) ++ cur.drop i).set i (val k) = List.replicate (i + 1) (val k) ++ cur.drop (i + 1) := by
      rw [List.set_append, if_neg (by simp), List.length_replicate, Nat.sub_self, List.drop_eq_getElem_cons (by omega), List.set_cons_zero, List.replicate_succ', List.append_assoc]
      rfl
    rw [e] at q3
    exact q3
end
end Go.Proofs.YtljihclpgpmfeaaDoor
