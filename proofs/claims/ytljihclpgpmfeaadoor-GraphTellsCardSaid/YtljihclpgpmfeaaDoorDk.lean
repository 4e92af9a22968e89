/- Plain: all knots of a strand, read as a graph. -/
import Derived.Test.YtljihclpgpmfeaaDoorKn
namespace Go.Proofs.YtljihclpgpmfeaaDoor
set_option maxRecDepth 100000
open Go.RowKit

def SmallK (l : List Int) : Prop := ∀ x ∈ l, x.toNat < 18446744073709551615
theorem knotL_pos {m : Nat} (h : m < 18446744073709551615) : 0 < knotL m := by
  have := digits_bound m h
  unfold knotL
  omega
theorem knot_det {f : Nat → Bool} {p m k : Nat} (h : KnotAt f p m) (h2 : KnotAt f p k) (hm : m < 18446744073709551615) (hk : k < 18446744073709551615) : m = k := by
  have e1 := knotO_of (L := p + (knotL m + knotL k)) (G := m + k) hm h (by omega) (by omega)
  have e2 := knotO_of (L := p + (knotL m + knotL k)) (G := m + k) hk h2 (by omega) (by omega)
  rw [e1] at e2
  injection e2 with e2
  injection e2 with e2
theorem knots_none {f : Nat → Bool} {p : Nat} : ∀ {xs : List Int}, KnotsAt f p xs p → SmallK xs → xs = []
  | [], _, _ => rfl
  | x :: xs, h, hs => by
    have := KnotsAt.le h.2.2
    have := knotL_pos (hs x (by simp))
    omega
theorem knots_prefix {f : Nat → Bool} {L : Nat} : ∀ {l xs : List Int} {p q : Nat}, KnotsAt f p l q → KnotsAt f p xs L → q ≤ L → SmallK l → SmallK xs → ∃ rest, xs = l ++ rest ∧ KnotsAt f q rest L
  | [], xs, p, q, h, h2, _, _, _ => by
    have : p = q := h
    subst this
    exact ⟨xs, rfl, h2⟩
  | x :: l, [], p, q, h, h2, hq, hs, _ => by
    have h2 : p = L := h2
    have := KnotsAt.le h.2.2
    have := knotL_pos (hs x (by simp))
    omega
  | x :: l, y :: xs, p, q, h, h2, hq, hs, hs2 => by
    have e := knot_det h.2.1 h2.2.1 (hs x (by simp)) (hs2 y (by simp))
    have hx := h.1
    have hy := h2.1
    have e2 : x = y := by omega
    subst e2
    obtain ⟨rest, e, hr⟩ := knots_prefix h.2.2 h2.2.2 hq (fun z hz => hs z (by simp [hz])) (fun z hz => hs2 z (by simp [hz]))
    exact ⟨rest, by rw [e]; rfl, hr⟩
theorem knots_snoc {f : Nat → Bool} {m : Nat} : ∀ {l : List Int} {p q : Nat}, KnotsAt f p l q → KnotAt f q m → KnotsAt f p (l ++ [(m : Int)]) (q + knotL m)
  | [], p, q, h, h2 => by
    have h : p = q := h
    subst h
    exact ⟨by omega, h2, rfl⟩
  | x :: l, p, q, h, h2 => ⟨h.1, h.2.1, knots_snoc h.2.2 h2⟩
theorem nums_small {N : Int} {E : List (Int × Int)} (h : RightE N E) : SmallK (numsG N E) := fun x hx => (nums_ok h x hx).2
theorem read_whole {f : Nat → Bool} {L : Nat} {l : List Int} {N : Int} {E : List (Int × Int)} (h : KnotsAt f 0 l L) (hs : SmallK l) (hr : readK f L = some (N, E)) : l = numsG N E ∧ RightE N E := by
  obtain ⟨h1, h2⟩ := readK_some hr
  obtain ⟨rest, e, h3⟩ := knots_prefix h h1 (Nat.le_refl _) hs (nums_small h2)
  have hn := knots_none h3 (fun z hz => nums_small h2 z (by rw [e]; simp [hz]))
  rw [hn, List.append_nil] at e
  exact ⟨e.symm, h2⟩
theorem read_stuck {f : Nat → Bool} {L p : Nat} {l : List Int} (h : KnotsAt f 0 l p) (hs : SmallK l) (hp : p < L) (hn : knotO f L p 1000 = none) : readK f L = none := by
  cases hr : readK f L with
  | none => rfl
  | some x =>
    exfalso
    obtain ⟨N, E⟩ := x
    obtain ⟨h1, h2⟩ := readK_some hr
    obtain ⟨rest, e, h3⟩ := knots_prefix h h1 (by omega) hs (nums_small h2)
    cases rest with
    | nil =>
      have h3 : p = L := h3
      omega
    | cons y rest =>
      obtain ⟨hy, hk, h4⟩ := h3
      have hy2 : ∃ m : Nat, y = (m : Int) ∧ m ≤ 594 := numsG_small (rightG_iff.2 h2) y (by rw [e]; simp)
      obtain ⟨m, rfl, hm⟩ := hy2
      have := knotO_of (G := 1000) (L := L) (m := ((m : Int)).toNat) (by omega) hk (by have := KnotsAt.le h4; omega) (by omega)
      rw [hn] at this
      cases this
/-- Numbers, two and two. -/
def pairsOf : List Int → List (Int × Int)
  | a :: b :: r => (a, b) :: pairsOf r
  | _ => []
theorem pairs_flat : ∀ {k : Nat} {r : List Int}, r.length = 2 * k → (pairsOf r).flatMap (fun e => [e.1, e.2]) = r ∧ (pairsOf r).length = k
  | 0, r, h => by
    have : r = [] := List.eq_nil_of_length_eq_zero (by omega)
    subst this
    exact ⟨rfl, rfl⟩
  | k + 1, [], h => by simp at h
  | k + 1, [_], h => by simp at h; omega
  | k + 1, a :: b :: r, h => by
    obtain ⟨h1, h2⟩ := pairs_flat (k := k) (r := r) (by simp at h; omega)
    show ((a, b) :: pairsOf r).flatMap _ = _ ∧ (pairsOf r).length + 1 = k + 1
    rw [List.flatMap_cons, h1, h2]
    exact ⟨rfl, rfl⟩
theorem pairs_at : ∀ {k : Nat} {r : List Int} {i : Nat}, r.length = 2 * k → i < k → ∃ x y, (pairsOf r)[i]? = some (x, y) ∧ r[2 * i]? = some x ∧ r[2 * i + 1]? = some y
  | 0, _, i, _, hi => by omega
  | k + 1, [], i, h, _ => by simp at h
  | k + 1, [_], i, h, _ => by simp at h; omega
  | k + 1, a :: b :: r, 0, h, _ => ⟨a, b, rfl, rfl, rfl⟩
  | k + 1, a :: b :: r, i + 1, h, hi => by
    obtain ⟨x, y, h1, h2, h3⟩ := pairs_at (k := k) (r := r) (i := i) (by simp at h; omega) (by omega)
    exact ⟨x, y, h1, h2, h3⟩
theorem pairs_back : ∀ (E : List (Int × Int)), pairsOf (E.flatMap fun e => [e.1, e.2]) = E
  | [] => rfl
  | e :: E => by
    rw [List.flatMap_cons]
    show (e.1, e.2) :: pairsOf (E.flatMap fun e => [e.1, e.2]) = _
    rw [pairs_back E]
/-- What all the numbers are as a graph. -/
def numsO : List Int → Option (Int × List (Int × Int))
  | a :: b :: r => if (r.length : Int) = 2 * b then (if rightG a (pairsOf r) then some (a, pairsOf r) else none) else none
  | _ => none
theorem numsO_cons (a b : Int) (r : List Int) : numsO (a :: b :: r) = if (r.length : Int) = 2 * b then (if rightG a (pairsOf r) then some (a, pairsOf r) else none) else none := rfl
theorem numsO_nums {N : Int} {E : List (Int × Int)} (h : RightE N E) : numsO (numsG N E) = some (N, E) := by
  have e : numsG N E = N :: (E.length : Int) :: E.flatMap fun e => [e.1, e.2] := rfl
  rw [e, numsO_cons, flat_len, if_pos (by omega), pairs_back, rightG_iff.2 h]
  rfl
theorem numsO_some {l : List Int} {N : Int} {E : List (Int × Int)} (h : numsO l = some (N, E)) : l = numsG N E ∧ RightE N E := by
  cases l with
  | nil => cases h
  | cons a l =>
    cases l with
    | nil => cases h
    | cons b r =>
      rw [numsO_cons] at h
      by_cases h1 : (r.length : Int) = 2 * b
      · rw [if_pos h1] at h
        by_cases h2 : rightG a (pairsOf r) = true
        · rw [if_pos h2] at h
          injection h with h
          injection h with e1 e2
          subst e1; subst e2
          obtain ⟨f1, f2⟩ := pairs_flat (k := b.toNat) (r := r) (by omega)
          refine ⟨?_, rightG_iff.1 h2⟩
          unfold numsG
          rw [f1, f2, show ((b.toNat : Nat) : Int) = b by omega]
          rfl
        · rw [if_neg h2] at h; cases h
      · rw [if_neg h1] at h; cases h
theorem read_end {f : Nat → Bool} {L : Nat} {l : List Int} (h : KnotsAt f 0 l L) (hs : SmallK l) : readK f L = numsO l := by
  cases hn : numsO l with
  | some x =>
    obtain ⟨N, E⟩ := x
    obtain ⟨e, hr⟩ := numsO_some hn
    subst e
    exact readK_of hr h
  | none =>
    cases hr : readK f L with
    | none => rfl
    | some x =>
      obtain ⟨N, E⟩ := x
      obtain ⟨e, h2⟩ := read_whole h hs hr
      rw [e, numsO_nums h2] at hn
      cases hn
end Go.Proofs.YtljihclpgpmfeaaDoor
