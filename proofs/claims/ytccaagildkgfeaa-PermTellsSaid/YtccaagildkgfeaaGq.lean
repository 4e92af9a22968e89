/- Plain facts: pairs that are found one after the other. -/
import Derived.Test.YtccaagildkgfeaaGm
namespace Go.Proofs.Ytccaagildkgfeaa

/-- The pairs of a row, below b. -/
def rowF (f : Nat → Nat → Bool) (a b : Nat) : List (Int × Int) := ((List.range b).filter fun y => decide (a < y) && f a y).map fun (y : Nat) => ((a : Int), (y : Int))
/-- The pairs of all rows below a. -/
def pairsF (f : Nat → Nat → Bool) (N : Nat) : Nat → List (Int × Int)
  | 0 => []
  | a + 1 => pairsF f N a ++ rowF f a N
section
variable {f : Nat → Nat → Bool} {N a b : Nat}
theorem rowF_start (f : Nat → Nat → Bool) (a : Nat) : rowF f a (a + 1) = [] := by
  unfold rowF
  rw [List.filter_eq_nil_iff.2, List.map_nil]
  intro y hy
  have := List.mem_range.1 hy
  rw [decide_eq_false (by omega)]
  simp
theorem rowF_yes (h : a < b) (hf : f a b = true) : rowF f a (b + 1) = rowF f a b ++ [((a : Int), (b : Int))] := by
  unfold rowF
  rw [List.range_succ, List.filter_append, List.map_append]
  simp [h, hf]
theorem rowF_no (hf : f a b = false) : rowF f a (b + 1) = rowF f a b := by
  unfold rowF
  rw [List.range_succ, List.filter_append, List.map_append]
  simp [hf]
theorem mem_rowF {e : Int × Int} : e ∈ rowF f a b ↔ ∃ y : Nat, a < y ∧ y < b ∧ f a y = true ∧ e = ((a : Int), (y : Int)) := by
  unfold rowF
  rw [List.mem_map]
  constructor
  · rintro ⟨y, hy, rfl⟩
    obtain ⟨h1, h2⟩ := List.mem_filter.1 hy
    rw [Bool.and_eq_true, decide_eq_true_eq] at h2
    exact ⟨y, h2.1, List.mem_range.1 h1, h2.2, rfl⟩
  · rintro ⟨y, h1, h2, h3, rfl⟩
    exact ⟨y, List.mem_filter.2 ⟨List.mem_range.2 h2, by rw [h3, decide_eq_true h1]; rfl⟩, rfl⟩
theorem mem_pairsF {e : Int × Int} : ∀ {k : Nat}, e ∈ pairsF f N k ↔ ∃ x y : Nat, x < k ∧ x < y ∧ y < N ∧ f x y = true ∧ e = ((x : Int), (y : Int))
  | 0 => by simp [pairsF]
  | k + 1 => by
    unfold pairsF
    rw [List.mem_append, mem_pairsF, mem_rowF]
    constructor
    · rintro (⟨x, y, h1, h2⟩ | ⟨y, h2⟩)
      · exact ⟨x, y, by omega, h2⟩
      · exact ⟨k, y, by omega, h2⟩
    · rintro ⟨x, y, h1, h2⟩
      by_cases hx : x = k
      · subst hx; exact .inr ⟨y, h2⟩
      · exact .inl ⟨x, y, by omega, h2⟩
theorem rowF_rises : RisesE (rowF f a b) := by
  unfold RisesE rowF
  rw [List.pairwise_map]
  refine List.Pairwise.imp ?_ (List.Pairwise.filter _ (List.pairwise_lt_range (n := b)))
  intro x y h
  rw [cmpE_lt]
  exact .inr ⟨rfl, Int.ofNat_lt.2 h⟩
theorem pairsF_rises : ∀ {k : Nat}, RisesE (pairsF f N k)
  | 0 => List.Pairwise.nil
  | k + 1 => by
    unfold pairsF RisesE
    rw [List.pairwise_append]
    refine ⟨pairsF_rises, rowF_rises, fun e he g hg => ?_⟩
    obtain ⟨x, y, h1, _, _, _, rfl⟩ := mem_pairsF.1 he
    obtain ⟨z, _, _, _, rfl⟩ := mem_rowF.1 hg
    rw [cmpE_lt]
    simp only
    omega
theorem length_rowF (f : Nat → Nat → Bool) (a b : Nat) : (rowF f a b).length ≤ b := by
  unfold rowF
  rw [List.length_map]
  exact Nat.le_trans (List.length_filter_le _ _) (by simp)
theorem length_pairsF (f : Nat → Nat → Bool) (N : Nat) : ∀ k, (pairsF f N k).length ≤ k * N
  | 0 => by simp [pairsF]
  | k + 1 => by
    unfold pairsF
    rw [List.length_append, Nat.succ_mul]
    have := length_pairsF f N k
    have := length_rowF f k N
    omega
/-- A right graph is found again. -/
theorem pairsF_right {E : List (Int × Int)} (h : RightE (N : Int) E) (hf : ∀ x y : Nat, x < y → y < N → (f x y = true ↔ ((x : Int), (y : Int)) ∈ E)) : pairsF f N N = E := by
  refine rises_ext pairsF_rises h.rises fun e => ?_
  rw [mem_pairsF]
  constructor
  · rintro ⟨x, y, h1, h2, h3, h4, rfl⟩
    exact (hf x y h2 h3).1 h4
  · intro he
    obtain ⟨v0, v1, v2⟩ := h.valid e he
    obtain ⟨e1, e2⟩ := e
    simp only at v0 v1 v2
    obtain ⟨x, rfl⟩ := Int.eq_ofNat_of_zero_le v0
    obtain ⟨y, rfl⟩ := Int.eq_ofNat_of_zero_le (show 0 ≤ e2 by omega)
    exact ⟨x, y, by omega, by omega, by omega, (hf x y (by omega) (by omega)).2 he, rfl⟩
end
end Go.Proofs.Ytccaagildkgfeaa
