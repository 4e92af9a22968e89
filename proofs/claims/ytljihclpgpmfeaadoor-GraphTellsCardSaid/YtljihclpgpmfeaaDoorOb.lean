/- Who is beside whom, plainly. -/
import Derived.Test.YtljihclpgpmfeaaDoorBs
import Derived.Test.YtljihclpgpmfeaaDoorUh
namespace Go.Proofs.YtljihclpgpmfeaaDoor
set_option maxRecDepth 100000
open Go.RowKit

/-- The vertices beside one, in the order of the edges. -/
def sides (a : Int) (E : List (Int × Int)) : List Int := E.filterMap fun e => if e.1 = a then some e.2 else if e.2 = a then some e.1 else none
theorem pushR_same {cs : List (List Int)} {i : Nat} {L : List Int} (h : cs[i]? = some L) (x : Int) : (pushR cs i x)[i]? = some (L ++ [x]) := by
  unfold pushR
  rw [h, List.getElem?_set_self (List.getElem?_eq_some_iff.1 h).1]
  rfl
theorem pushR_other {cs : List (List Int)} {i j : Nat} (h : i ≠ j) (x : Int) : (pushR cs i x)[j]? = cs[j]? := by
  unfold pushR
  rw [List.getElem?_set_ne h]
theorem fold_at {N : Int} (a : Nat) : ∀ (E : List (Int × Int)) (cs : List (List Int)) (L : List Int), (∀ e ∈ E, ValidE N e) → cs[a]? = some L → (E.foldl sideE cs)[a]? = some (L ++ sides (a : Int) E)
  | [], cs, L, _, hL => by simpa [sides] using hL
  | e :: E, cs, L, hv, hL => by
    obtain ⟨v0, v1, v2⟩ := hv e (by simp)
    rw [List.foldl_cons]
    have hv2 : ∀ e ∈ E, ValidE N e := fun x hx => hv x (by simp [hx])
    by_cases h1 : e.1 = (a : Int)
    · have e1 : e.1.toNat = a := by omega
      have e2 : e.2.toNat ≠ a := by omega
      rw [fold_at a E _ (L ++ [e.2]) hv2 (by
        unfold sideE
        rw [pushR_other e2, e1]
        exact pushR_same hL _)]
      unfold sides
      rw [List.filterMap_cons, if_pos h1, List.append_assoc]
      rfl
    · have e1 : e.1.toNat ≠ a := by omega
      by_cases h2 : e.2 = (a : Int)
      · have e2 : e.2.toNat = a := by omega
        rw [fold_at a E _ (L ++ [e.1]) hv2 (by
          unfold sideE
          rw [e2]
          exact pushR_same (by rw [pushR_other e1]; exact hL) _)]
        unfold sides
        rw [List.filterMap_cons, if_neg h1, if_pos h2, List.append_assoc]
        rfl
      · have e2 : e.2.toNat ≠ a := by omega
        rw [fold_at a E _ L hv2 (by
          unfold sideE
          rw [pushR_other e2, pushR_other e1]
          exact hL)]
        unfold sides
        rw [List.filterMap_cons, if_neg h1, if_neg h2]
theorem beside_at {n a : Nat} {E : List (Int × Int)} (h : RightE (n : Int) E) (ha : a < n) : (besideK n E)[a]? = some (sides (a : Int) E) := by
  unfold besideK
  rw [fold_at a E _ [] h.valid (by rw [List.getElem?_replicate, if_pos ha])]
  rfl
/-- They rise. -/
theorem sides_rise {N : Int} {E : List (Int × Int)} (h : RightE N E) (a : Int) : (sides a E).Pairwise (· < ·) := by
  unfold sides
  rw [List.pairwise_filterMap]
  have hp := h.rises
  unfold RisesE at hp
  refine (List.Pairwise.and_mem.1 hp).imp ?_
  rintro e f ⟨he, hf, hlt⟩ x hx y hy
  obtain ⟨v0, v1, v2⟩ := h.valid e he
  obtain ⟨u0, u1, u2⟩ := h.valid f hf
  rw [cmpE_lt] at hlt
  split at hx
  · injection hx with hx
    split at hy
    · injection hy with hy; omega
    · split at hy
      · injection hy with hy; omega
      · cases hy
  · split at hx
    · injection hx with hx
      split at hy
      · injection hy with hy; omega
      · split at hy
        · injection hy with hy; omega
        · cases hy
    · cases hx
/-- Just those that an edge says. -/
theorem sides_mem {N : Int} {E : List (Int × Int)} (h : RightE N E) (a x : Int) : x ∈ sides a E ↔ normE (a, x) ∈ E := by
  unfold sides
  rw [List.mem_filterMap]
  constructor
  · rintro ⟨e, he, hx⟩
    obtain ⟨v0, v1, v2⟩ := h.valid e he
    split at hx
    · injection hx with hx
      have : normE (a, x) = e := by
        refine Prod.ext ?_ ?_
        · show min a x = e.1; omega
        · show max a x = e.2; omega
      rw [this]; exact he
    · split at hx
      · injection hx with hx
        have : normE (a, x) = e := by
          refine Prod.ext ?_ ?_
          · show min a x = e.1; omega
          · show max a x = e.2; omega
        rw [this]; exact he
      · cases hx
  · intro he
    refine ⟨_, he, ?_⟩
    obtain ⟨v0, v1, v2⟩ := h.valid _ he
    have v1 : min a x < max a x := v1
    show (if min a x = a then some (max a x) else if max a x = a then some (min a x) else none) = some x
    by_cases hax : a < x
    · rw [if_pos (by omega)]; exact congrArg some (by omega)
    · rw [if_neg (by omega), if_pos (by omega)]; exact congrArg some (by omega)
theorem sides_has {N : Int} {E : List (Int × Int)} (h : RightE N E) (a x : Int) : hasG N E a x = (sides a E).contains x := by
  rw [Bool.eq_iff_iff, hasG_iff h, List.contains_iff_mem, sides_mem h]
theorem sides_has' {N : Int} {E : List (Int × Int)} (h : RightE N E) (a x : Int) : hasG N E x a = (sides a E).contains x := by
  rw [Bool.eq_iff_iff, hasG_iff h, List.contains_iff_mem, sides_mem h, norm_swap]
/-- How many there are in all. -/
def manyR (cs : List (List Int)) : Nat := (cs.map List.length).sum
theorem pushR_many : ∀ {cs : List (List Int)} {i : Nat} (x : Int), i < cs.length → manyR (pushR cs i x) = manyR cs + 1
  | [], _, _, h => by simp at h
  | c :: cs, 0, x, _ => by
    show manyR ((c ++ [x]) :: cs) = manyR (c :: cs) + 1
    unfold manyR
    simp [List.length_append]; omega
  | c :: cs, i + 1, x, h => by
    have e : pushR (c :: cs) (i + 1) x = c :: pushR cs i x := by unfold pushR; simp
    have ih := pushR_many (cs := cs) (i := i) x (by simpa using h)
    rw [e]
    unfold manyR at ih ⊢
    rw [List.map_cons, List.sum_cons, ih, List.map_cons, List.sum_cons]; omega
theorem fold_many {N : Int} : ∀ (E : List (Int × Int)) (cs : List (List Int)), (∀ e ∈ E, ValidE N e) → N ≤ cs.length → manyR (E.foldl sideE cs) = manyR cs + 2 * E.length
  | [], cs, _, _ => rfl
  | e :: E, cs, hv, hl => by
    obtain ⟨v0, v1, v2⟩ := hv e (by simp)
    rw [List.foldl_cons, fold_many E _ (fun x hx => hv x (by simp [hx])) (by rw [sideE_len]; exact hl)]
    unfold sideE
    rw [pushR_many _ (by rw [pushR_len]; omega), pushR_many _ (by omega), List.length_cons]
    omega
theorem beside_many {n : Nat} {E : List (Int × Int)} (h : RightE (n : Int) E) : manyR (besideK n E) = 2 * E.length := by
  unfold besideK
  rw [fold_many E _ h.valid (by simp)]
  have : manyR (List.replicate n ([] : List Int)) = 0 := by
    unfold manyR
    simp
  omega
theorem manyR_step {cs : List (List Int)} {a : Nat} {L : List Int} (h : cs[a]? = some L) : manyR (cs.take (a + 1)) = manyR (cs.take a) + L.length := by
  unfold manyR
  rw [List.take_add_one, h]
  simp
theorem sides_valid {N : Int} {E : List (Int × Int)} (h : RightE N E) {a x : Int} (hx : x ∈ sides a E) : 0 ≤ x ∧ x < N := by
  have hm := (sides_mem h a x).1 hx
  obtain ⟨v0, v1, v2⟩ := h.valid _ hm
  have v0 : 0 ≤ min a x := v0
  have v2 : max a x < N := v2
  omega
theorem manyR_le : ∀ (cs : List (List Int)) (a : Nat), manyR (cs.take a) ≤ manyR cs
  | [], a => by simp
  | c :: cs, 0 => by unfold manyR; simp
  | c :: cs, a + 1 => by
    have := manyR_le cs a
    unfold manyR at this ⊢
    rw [List.take_succ_cons, List.map_cons, List.sum_cons, List.map_cons, List.sum_cons]; omega
theorem rise_at {L : List Int} (h : L.Pairwise (· < ·)) {j : Nat} {x y : Int} (hx : L[j]? = some x) (hy : L[j + 1]? = some y) : x < y := by
  obtain ⟨h1, rfl⟩ := List.getElem?_eq_some_iff.1 hx
  obtain ⟨h2, rfl⟩ := List.getElem?_eq_some_iff.1 hy
  exact List.pairwise_iff_getElem.1 h j (j + 1) h1 h2 (by omega)
end Go.Proofs.YtljihclpgpmfeaaDoor
