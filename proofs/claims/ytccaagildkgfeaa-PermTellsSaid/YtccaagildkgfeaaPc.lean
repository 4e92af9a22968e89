/- Plain facts: what a permutation does again and again; its cycles. -/
import Derived.Test.YtccaagildkgfeaaId
namespace Go.Proofs.Ytccaagildkgfeaa

/-- Done k times. -/
def it (p : List Int) : Nat → Nat → Nat
  | 0, x => x
  | k + 1, x => at0 p (it p k x)
section
variable {p : List Int}
theorem it_add (j k x : Nat) : it p (j + k) x = it p j (it p k x) := by
  induction j with
  | zero => rw [Nat.zero_add]; rfl
  | succ j ih => rw [Nat.succ_add]; show at0 p _ = at0 p _; rw [ih]
theorem it_lt (h : rightP p = true) {x : Nat} (hx : x < p.length) (k : Nat) : it p k x < p.length := by
  induction k with
  | zero => exact hx
  | succ k ih => exact at0_lt h ih
theorem at0_inj (h : rightP p = true) {x y : Nat} (hx : x < p.length) (hy : y < p.length) (e : at0 p x = at0 p y) : x = y := by
  have h1 := at0_eq h hx
  have h2 := at0_eq h hy
  rw [← e, ← h1] at h2
  exact ((List.getElem?_inj hx (right_true h).2.2).1 h2.symm)
theorem it_inj (h : rightP p = true) {x y : Nat} (hx : x < p.length) (hy : y < p.length) : ∀ k, it p k x = it p k y → x = y
  | 0, e => e
  | k + 1, e => it_inj h hx hy k (at0_inj h (it_lt h hx k) (it_lt h hy k) e)
theorem it_back (h : rightP p = true) {x : Nat} (hx : x < p.length) : ∃ L, L < p.length ∧ it p (L + 1) x = x := by
  refine Classical.byContradiction fun hno => ?_
  have hne : ∀ i j, i < j → j ≤ p.length → it p i x ≠ it p j x := by
    intro i j hij hj e
    have e2 : it p j x = it p i (it p (j - i) x) := by rw [← it_add]; congr 1; omega
    rw [e2] at e
    have e3 := it_inj h hx (it_lt h hx _) i e
    exact hno ⟨j - i - 1, by omega, by rw [show j - i - 1 + 1 = j - i by omega]; exact e3.symm⟩
  have hnd : ((List.range (p.length + 1)).map fun (k : Nat) => ((it p k x : Nat) : Int)).Nodup := by
    rw [List.nodup_iff_pairwise_ne, List.pairwise_map, List.pairwise_iff_getElem]
    intro i j hi hj hij e
    simp only [List.getElem_range] at e
    rw [List.length_range] at hj
    exact hne i j hij (by omega) (by omega)
  have := nd_len (m := idP p.length) hnd fun y hy => by
    obtain ⟨k, _, rfl⟩ := List.mem_map.1 hy
    exact List.mem_of_getElem? (idP_at (it_lt h hx k))
  rw [List.length_map, List.length_range, length_idP] at this
  omega
/-- How long a thing's cycle is. -/
def ord1 (p : List Int) (x : Nat) : Nat := ((List.range p.length).find? fun k => it p (k + 1) x == x).getD 0 + 1
theorem ord1_pos (p : List Int) (x : Nat) : 0 < ord1 p x := Nat.succ_pos _
theorem ord1_spec (h : rightP p = true) {x : Nat} (hx : x < p.length) : it p (ord1 p x) x = x ∧ ord1 p x ≤ p.length ∧ ∀ k, 0 < k → k < ord1 p x → it p k x ≠ x := by
  obtain ⟨L, hL, hb⟩ := it_back h hx
  unfold ord1
  cases hf : (List.range p.length).find? fun k => it p (k + 1) x == x with
  | none =>
    rw [List.find?_eq_none] at hf
    have := hf L (List.mem_range.2 hL)
    simp [hb] at this
  | some m =>
    have h1 := List.find?_some hf
    have h2 := List.mem_range.1 (List.mem_of_find?_eq_some hf)
    rw [List.find?_range_eq_some] at hf
    refine ⟨by simpa using h1, by simp; omega, fun k h0 hk e => ?_⟩
    simp at hk
    have := hf.2.2 (k - 1) (by omega)
    rw [show k - 1 + 1 = k by omega] at this
    simp [e] at this
/-- A thing's cycle, from it on. -/
def cyc (p : List Int) (x : Nat) : List Int := (List.range (ord1 p x)).map fun (k : Nat) => ((it p k x : Nat) : Int)
theorem length_cyc (p : List Int) (x : Nat) : (cyc p x).length = ord1 p x := by simp [cyc]
theorem cyc_at {x k : Nat} (h : k < ord1 p x) : (cyc p x)[k]? = some ((it p k x : Nat) : Int) := by
  unfold cyc
  rw [List.getElem?_map, List.getElem?_range h]
  rfl
theorem it_mod (h : rightP p = true) {x : Nat} (hx : x < p.length) (k : Nat) : it p k x = it p (k % ord1 p x) x := by
  have key : ∀ m, it p (m * ord1 p x) x = x := by
    intro m
    induction m with
    | zero => rw [Nat.zero_mul]; rfl
    | succ m ih => rw [Nat.succ_mul, it_add, (ord1_spec h hx).1, ih]
  conv => lhs; rw [← Nat.mod_add_div k (ord1 p x), Nat.mul_comm, it_add, key]
theorem it_ne (h : rightP p = true) {x i j : Nat} (hx : x < p.length) (hij : i < j) (hj : j < ord1 p x) : it p i x ≠ it p j x := by
  intro e
  have e2 : it p j x = it p i (it p (j - i) x) := by rw [← it_add]; congr 1; omega
  rw [e2] at e
  exact (ord1_spec h hx).2.2 (j - i) (by omega) (by omega) (it_inj h hx (it_lt h hx _) i e).symm
theorem mem_cyc (h : rightP p = true) {x : Nat} (hx : x < p.length) {y : Int} : y ∈ cyc p x ↔ ∃ k, y = ((it p k x : Nat) : Int) := by
  unfold cyc
  rw [List.mem_map]
  constructor
  · rintro ⟨k, _, rfl⟩; exact ⟨k, rfl⟩
  · rintro ⟨k, rfl⟩
    exact ⟨k % ord1 p x, List.mem_range.2 (Nat.mod_lt _ (ord1_pos p x)), by rw [← it_mod h hx]⟩
/-- What is on a cycle has the first thing on its own. -/
theorem cyc_symm (h : rightP p = true) {x : Nat} (hx : x < p.length) (k : Nat) : ∃ j, it p j (it p k x) = x := by
  refine ⟨(ord1 p x - k % ord1 p x), ?_⟩
  have h1 := ord1_pos p x
  have h2 := Nat.mod_lt k h1
  rw [it_mod h hx k, ← it_add, show ord1 p x - k % ord1 p x + k % ord1 p x = ord1 p x by omega, (ord1_spec h hx).1]
theorem nodup_cyc (h : rightP p = true) {x : Nat} (hx : x < p.length) : (cyc p x).Nodup := by
  unfold cyc
  rw [List.nodup_iff_pairwise_ne, List.pairwise_map, List.pairwise_iff_getElem]
  intro i j hi hj hij e
  simp only [List.getElem_range] at e
  rw [List.length_range] at hj
  exact it_ne h hx hij hj (by omega)
/-- Is a thing the least of its cycle? -/
def leastB (p : List Int) (x : Nat) : Bool := (cyc p x).all fun y => decide ((x : Int) ≤ y)
/-- The cycles whose first things are below j. -/
def cycs (p : List Int) (j : Nat) : List (List Int) := ((List.range j).filter (leastB p)).map (cyc p)
theorem cycs_step_yes {j : Nat} (h : leastB p j = true) : cycs p (j + 1) = cycs p j ++ [cyc p j] := by
  unfold cycs
  rw [List.range_succ, List.filter_append, List.map_append]
  simp [h]
theorem cycs_step_no {j : Nat} (h : leastB p j = false) : cycs p (j + 1) = cycs p j := by
  unfold cycs
  rw [List.range_succ, List.filter_append, List.map_append]
  simp [h]
theorem least_iff (h : rightP p = true) {x : Nat} (hx : x < p.length) : leastB p x = true ↔ ∀ k, x ≤ it p k x := by
  unfold leastB
  rw [List.all_eq_true]
  constructor
  · intro h1 k
    have := h1 _ ((mem_cyc h hx).2 ⟨k, rfl⟩)
    simpa using this
  · intro h1 y hy
    obtain ⟨k, rfl⟩ := (mem_cyc h hx).1 hy
    simpa using h1 k
theorem exists_least_on (h : rightP p = true) {x : Nat} (hx : x < p.length) : ∃ k, leastB p (it p k x) = true := by
  have key : ∀ m x, x < m → x < p.length → ∃ k, leastB p (it p k x) = true := by
    intro m
    induction m with
    | zero => intro x hx; omega
    | succ m ih =>
      intro x hxm hxl
      cases hl : leastB p x with
      | true => exact ⟨0, hl⟩
      | false =>
        have h1 : ¬ ∀ k, x ≤ it p k x := fun h1 => by rw [(least_iff h hxl).2 h1] at hl; cases hl
        obtain ⟨k, hk⟩ := Classical.not_forall.1 h1
        obtain ⟨j, hj⟩ := ih (it p k x) (by omega) (it_lt h hxl k)
        exact ⟨j + k, by rw [it_add]; exact hj⟩
  exact key _ x (Nat.lt_succ_self x) hx
/-- What has been met when all first things below j have come. -/
theorem met_iff (h : rightP p = true) {j x : Nat} (hj : j ≤ p.length) (hx : x < p.length) : (cycs p j).flatten.contains (x : Int) = true ↔ ∃ i, i < j ∧ ∃ k, it p k i = x := by
  rw [List.contains_iff_mem, List.mem_flatten]
  unfold cycs
  constructor
  · rintro ⟨c, hc, hm⟩
    obtain ⟨i, hi, rfl⟩ := List.mem_map.1 hc
    have hij := List.mem_range.1 (List.mem_filter.1 hi).1
    obtain ⟨k, hk⟩ := (mem_cyc h (by omega)).1 hm
    exact ⟨i, hij, k, by omega⟩
  · rintro ⟨i, hij, k, rfl⟩
    obtain ⟨m, hm⟩ := exists_least_on h (x := i) (by omega)
    have hle : it p m i ≤ i := by
      obtain ⟨q, hq⟩ := cyc_symm h (x := i) (by omega) m
      have := (least_iff h (it_lt h (by omega) m)).1 hm q
      omega
    refine ⟨cyc p (it p m i), List.mem_map.2 ⟨_, List.mem_filter.2 ⟨List.mem_range.2 (by omega), hm⟩, rfl⟩, ?_⟩
    rw [mem_cyc h (it_lt h (by omega) m)]
    obtain ⟨q, hq⟩ := cyc_symm h (x := i) (by omega) m
    exact ⟨k + q, by rw [it_add, hq]⟩
/-- A first thing has been met just if it is not the least of its cycle. -/
theorem met_first (h : rightP p = true) {j : Nat} (hj : j < p.length) : (cycs p j).flatten.contains (j : Int) = !leastB p j := by
  cases hl : leastB p j with
  | true =>
    rw [Bool.not_true, Bool.eq_false_iff]
    intro hm
    obtain ⟨i, hij, k, hk⟩ := (met_iff h (by omega) hj).1 hm
    obtain ⟨q, hq⟩ := cyc_symm h (x := i) (by omega) k
    rw [hk] at hq
    have := (least_iff h hj).1 hl q
    omega
  | false =>
    rw [Bool.not_false, met_iff h (by omega) hj]
    have h1 : ¬ ∀ k, j ≤ it p k j := fun h1 => by rw [(least_iff h hj).2 h1] at hl; cases hl
    obtain ⟨k, hk⟩ := Classical.not_forall.1 h1
    obtain ⟨q, hq⟩ := cyc_symm h hj k
    exact ⟨it p k j, by omega, q, hq⟩
/-- On the way round a new cycle nothing is met before the first thing. -/
theorem met_way (h : rightP p = true) {j k : Nat} (hj : j < p.length) (hl : leastB p j = true) (hk : k < ord1 p j) : ((cycs p j).flatten ++ (cyc p j).take k).contains ((it p k j : Nat) : Int) = false := by
  rw [Bool.eq_false_iff]
  intro hm
  rcases List.mem_append.1 (List.contains_iff_mem.1 hm) with h1 | h1
  · obtain ⟨i, hij, m, hm2⟩ := (met_iff h (by omega) (it_lt h hj k)).1 (List.contains_iff_mem.2 h1)
    obtain ⟨q, hq⟩ := cyc_symm h (x := i) (by omega) m
    rw [hm2, ← it_add] at hq
    have := (least_iff h hj).1 hl (q + k)
    omega
  · obtain ⟨i, hi⟩ := List.mem_iff_getElem?.1 h1
    rw [List.getElem?_take] at hi
    split at hi
    · rename_i hik
      rw [cyc_at (by omega)] at hi
      injection hi with hi
      exact it_ne h hj hik hk (by omega)
    · cases hi
theorem met_end (h : rightP p = true) {j : Nat} (hj : j < p.length) : ((cycs p j).flatten ++ (cyc p j)).contains ((it p (ord1 p j) j : Nat) : Int) = true := by
  rw [(ord1_spec h hj).1, List.contains_iff_mem]
  exact List.mem_append.2 (.inr ((mem_cyc h hj).2 ⟨0, rfl⟩))
theorem flat_step_yes {j : Nat} (h : leastB p j = true) : (cycs p (j + 1)).flatten = (cycs p j).flatten ++ cyc p j := by
  rw [cycs_step_yes h, List.flatten_append]
  simp
end
end Go.Proofs.Ytccaagildkgfeaa
