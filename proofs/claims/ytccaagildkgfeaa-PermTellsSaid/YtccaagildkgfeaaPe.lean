/- Plain facts: permutations put together, taken back, done again; graphs called anew are not here. -/
import Derived.Test.YtccaagildkgfeaaIi
namespace Go.Proofs.Ytccaagildkgfeaa

/-- A list of things told by a function. -/
def mkP (f : Nat → Nat) (n : Nat) : List Int := (List.range n).map fun (i : Nat) => ((f i : Nat) : Int)
theorem length_mkP (f : Nat → Nat) (n : Nat) : (mkP f n).length = n := by simp [mkP]
theorem mkP_at {f : Nat → Nat} {n i : Nat} (h : i < n) : (mkP f n)[i]? = some ((f i : Nat) : Int) := by
  unfold mkP
  rw [List.getElem?_map, List.getElem?_range h]
  rfl
theorem at0_mkP {f : Nat → Nat} {n i : Nat} (h : i < n) : at0 (mkP f n) i = f i := by
  unfold at0
  rw [List.getD_eq_getElem?_getD, mkP_at h]
  rfl
theorem mkP_congr {f g : Nat → Nat} {n : Nat} (h : ∀ i, i < n → f i = g i) : mkP f n = mkP g n := by
  unfold mkP
  refine List.map_congr_left fun i hi => ?_
  rw [h i (List.mem_range.1 hi)]
theorem right_mkP {f : Nat → Nat} {n : Nat} (hn : n ≤ 200) (h1 : ∀ i, i < n → f i < n) (h2 : ∀ i j, i < j → j < n → f i ≠ f j) : rightP (mkP f n) = true := by
  refine right_mk (by rw [length_mkP]; exact hn) (fun x hx => ?_) ?_
  · rw [length_mkP]
    obtain ⟨i, hi, rfl⟩ := List.mem_map.1 hx
    have := h1 i (List.mem_range.1 hi)
    omega
  · unfold mkP
    rw [List.nodup_iff_pairwise_ne, List.pairwise_map, List.pairwise_iff_getElem]
    intro i j hi hj hij e
    simp only [List.getElem_range] at e
    rw [List.length_range] at hj
    exact h2 i j hij hj (by omega)
theorem as_mkP {p : List Int} (h : rightP p = true) : p = mkP (at0 p) p.length := by
  apply List.ext_getElem?
  intro i
  by_cases hi : i < p.length
  · rw [mkP_at hi, at0_eq h hi]
  · rw [List.getElem?_eq_none (by omega), List.getElem?_eq_none (by rw [length_mkP]; omega)]
theorem compP_mk (p q : List Int) : compP p q = mkP (fun i => at0 q (at0 p i)) p.length := by
  apply List.ext_getElem?
  intro i
  unfold compP
  by_cases hi : i < p.length
  · rw [mkP_at hi, fillK_at hi, if_pos hi]
  · rw [List.getElem?_eq_none (by rw [length_fillK]; omega), List.getElem?_eq_none (by rw [length_mkP]; omega)]
theorem invP_mk (p : List Int) : invP p = mkP (fun x => p.idxOf (x : Int)) p.length := rfl
theorem powP_mk (p : List Int) (k : Int) : powP p k = mkP (fun x => it p (stp p k x) x) p.length := rfl
theorem idP_mk (n : Nat) : idP n = mkP id n := rfl
theorem dvd_nat {m : Nat} {k : Int} : (m : Int) ∣ k ↔ m ∣ k.natAbs := Int.ofNat_dvd_left
section
variable {p q r : List Int}
theorem right_le (h : rightP p = true) : p.length ≤ 200 := (right_true h).1
theorem right_idP {n : Nat} (h : n ≤ 200) : rightP (idP n) = true := right_mkP h (fun _ h => h) (fun i j h _ => by show i ≠ j; omega)
theorem right_compP (hp : rightP p = true) (hq : rightP q = true) (hl : p.length = q.length) : rightP (compP p q) = true := by
  rw [compP_mk]
  refine right_mkP (right_le hp) (fun i hi => ?_) (fun i j hij hj e => ?_)
  · rw [hl]; exact at0_lt hq (by rw [← hl]; exact at0_lt hp hi)
  · have h1 := at0_inj hq (by rw [← hl]; exact at0_lt hp (by omega)) (by rw [← hl]; exact at0_lt hp hj) e
    have := at0_inj hp (by omega) hj h1
    omega
theorem idx_lt (hp : rightP p = true) {x : Nat} (hx : x < p.length) : p.idxOf (x : Int) < p.length := List.idxOf_lt_length_iff.2 (right_sur hp hx)
theorem at0_idx (hp : rightP p = true) {x : Nat} (hx : x < p.length) : at0 p (p.idxOf (x : Int)) = x := by
  have h1 := at0_eq hp (idx_lt hp hx)
  have h2 : p[p.idxOf (x : Int)]? = some (x : Int) := by
    rw [List.getElem?_eq_getElem (idx_lt hp hx), List.getElem_idxOf (idx_lt hp hx)]
  rw [h1] at h2
  injection h2 with h2
  omega
theorem idx_at0 (hp : rightP p = true) {x : Nat} (hx : x < p.length) : p.idxOf ((at0 p x : Nat) : Int) = x :=
  at0_inj hp (idx_lt hp (at0_lt hp hx)) hx (at0_idx hp (at0_lt hp hx))
theorem right_invP (hp : rightP p = true) : rightP (invP p) = true := by
  rw [invP_mk]
  refine right_mkP (right_le hp) (fun i hi => idx_lt hp hi) (fun i j hij hj e => ?_)
  have h1 := at0_idx hp (x := i) (by omega)
  have h2 := at0_idx hp hj
  rw [e, h2] at h1
  omega
theorem at0_invP {x : Nat} (hx : x < p.length) : at0 (invP p) x = p.idxOf (x : Int) := by rw [invP_mk, at0_mkP hx]
theorem at0_compP {x : Nat} (hx : x < p.length) : at0 (compP p q) x = at0 q (at0 p x) := by rw [compP_mk, at0_mkP hx]
theorem comp_inv (hp : rightP p = true) : compP p (invP p) = idP p.length := by
  rw [compP_mk, idP_mk]
  refine mkP_congr fun i hi => ?_
  rw [at0_invP (at0_lt hp hi), idx_at0 hp hi]
  rfl
theorem inv_comp (hp : rightP p = true) : compP (invP p) p = idP p.length := by
  rw [compP_mk, idP_mk, length_invP]
  refine mkP_congr fun i hi => ?_
  rw [at0_invP hi, at0_idx hp hi]
  rfl
theorem comp_id (hp : rightP p = true) : compP p (idP p.length) = p := by
  conv => rhs; rw [as_mkP hp]
  rw [compP_mk]
  refine mkP_congr fun i hi => ?_
  rw [idP_mk, at0_mkP (at0_lt hp hi)]
  rfl
theorem id_comp (hp : rightP p = true) : compP (idP p.length) p = p := by
  conv => rhs; rw [as_mkP hp]
  rw [compP_mk, length_idP]
  refine mkP_congr fun i hi => ?_
  rw [idP_mk, at0_mkP hi]
  rfl
theorem comp_assoc (hp : rightP p = true) (hl : p.length = q.length) : compP (compP p q) r = compP p (compP q r) := by
  rw [compP_mk (compP p q) r, compP_mk p (compP q r), length_compP]
  refine mkP_congr fun i hi => ?_
  rw [at0_compP hi, at0_compP (by rw [← hl]; exact at0_lt hp hi)]
theorem inv_of_comp (hp : rightP p = true) (hq : rightP q = true) (hl : p.length = q.length) : invP (compP p q) = compP (invP q) (invP p) := by
  rw [invP_mk, compP_mk (p := invP q), length_compP, length_invP, ← hl]
  refine mkP_congr fun x hx => ?_
  have hxq : x < q.length := by omega
  have h1 := idx_lt hq hxq
  rw [at0_invP hxq, at0_invP (by omega)]
  have hc := right_compP hp hq hl
  refine at0_inj hc (by rw [← length_compP p q] at hx; exact idx_lt hc hx) (by rw [length_compP]; exact idx_lt hp (by omega)) ?_
  rw [at0_idx hc (by rw [length_compP]; exact hx), at0_compP (idx_lt hp (by omega)), at0_idx hp (by omega), at0_idx hq hxq]
/-- Done k times, at a place. -/
def pw (p : List Int) (k : Int) (x : Nat) : Nat := it p (stp p k x) x
theorem at0_powP {k : Int} {x : Nat} (hx : x < p.length) : at0 (powP p k) x = pw p k x := by rw [powP_mk, at0_mkP hx]; rfl
theorem pw_lt (hp : rightP p = true) (k : Int) {x : Nat} (hx : x < p.length) : pw p k x < p.length := it_lt hp hx _
theorem pw_it (hp : rightP p = true) (k : Int) {x : Nat} (hx : x < p.length) (m : Nat) : pw p k (it p m x) = it p (stp p k x + m) x := by
  unfold pw stp
  rw [ord1_same hp hx, ← it_add]
theorem pw_eq (hp : rightP p = true) {k : Int} {m x : Nat} (hx : x < p.length) (h : k % (ord1 p x : Int) = (m : Int) % (ord1 p x : Int)) : pw p k x = it p m x := by
  unfold pw stp
  rw [h, it_mod hp hx m]
  congr 1
theorem pw_add (hp : rightP p = true) (j k : Int) {x : Nat} (hx : x < p.length) : pw p (j + k) x = pw p k (pw p j x) := by
  rw [show pw p j x = it p (stp p j x) x from rfl, pw_it hp k hx]
  refine pw_eq hp hx ?_
  have h0 := ord1_pos p x
  unfold stp
  rw [Int.natCast_add, Int.toNat_of_nonneg (Int.emod_nonneg _ (by omega)), Int.toNat_of_nonneg (Int.emod_nonneg _ (by omega)), ← Int.add_emod, Int.add_comm]
theorem pw_one (hp : rightP p = true) {x : Nat} (hx : x < p.length) : pw p 1 x = at0 p x := by
  exact pw_eq hp (k := 1) (m := 1) hx rfl
theorem pw_zero_iff (hp : rightP p = true) (k : Int) {x : Nat} (hx : x < p.length) : pw p k x = x ↔ (ord1 p x : Int) ∣ k := by
  have h0 := ord1_pos p x
  unfold pw
  constructor
  · intro h
    refine Classical.byContradiction fun hn => ?_
    have h1 : k % (ord1 p x : Int) ≠ 0 := fun h => hn (Int.dvd_of_emod_eq_zero h)
    have h2 := Int.emod_nonneg k (b := (ord1 p x : Int)) (by omega)
    have h3 := Int.emod_lt_of_pos k (b := (ord1 p x : Int)) (by omega)
    refine (ord1_spec hp hx).2.2 (stp p k x) (by unfold stp; omega) (by unfold stp; omega) h
  · intro h
    have : stp p k x = 0 := by unfold stp; rw [Int.emod_eq_zero_of_dvd h]; rfl
    rw [this]
    rfl
theorem right_powP (hp : rightP p = true) (k : Int) : rightP (powP p k) = true := by
  rw [powP_mk]
  refine right_mkP (right_le hp) (fun i hi => it_lt hp hi _) (fun i j hij hj e => ?_)
  have e : pw p k i = pw p k j := e
  have h1 : pw p (k + -k) i = pw p (k + -k) j := by rw [pw_add hp k (-k) (by omega), pw_add hp k (-k) hj, e]
  rw [show k + -k = 0 from by omega, (pw_zero_iff hp 0 (by omega)).2 ⟨0, by simp⟩, (pw_zero_iff hp 0 hj).2 ⟨0, by simp⟩] at h1
  omega
theorem pow_add (hp : rightP p = true) (j k : Int) : powP p (j + k) = compP (powP p j) (powP p k) := by
  rw [powP_mk, compP_mk, length_powP]
  refine mkP_congr fun x hx => ?_
  rw [at0_powP hx, at0_powP (pw_lt hp j hx), ← pw_add hp j k hx]
  rfl
theorem pow_one (hp : rightP p = true) : powP p 1 = p := by
  conv => rhs; rw [as_mkP hp]
  rw [powP_mk]
  exact mkP_congr fun x hx => pw_one hp hx
theorem lcmL_dvd : ∀ (L : List Nat) (m : Nat), lcmL L ∣ m ↔ ∀ x ∈ L, x ∣ m := by
  have key : ∀ (L : List Nat) (a m : Nat), L.foldl Nat.lcm a ∣ m ↔ a ∣ m ∧ ∀ x ∈ L, x ∣ m := by
    intro L
    induction L with
    | nil => intro a m; simp
    | cons y L ih =>
      intro a m
      rw [List.foldl_cons, ih, Nat.lcm_dvd_iff]
      simp [and_assoc]
  intro L m
  unfold lcmL
  rw [key]
  simp
theorem ord_dvd (hp : rightP p = true) (m : Nat) : ordK p p.length ∣ m ↔ ∀ x, x < p.length → ord1 p x ∣ m := by
  unfold ordK
  rw [lcmL_dvd]
  unfold lens cycs
  constructor
  · intro h x hx
    obtain ⟨k, hk⟩ := exists_least_on hp hx
    have h1 := h (ord1 p (it p k x)) (List.mem_map.2 ⟨cyc p (it p k x), List.mem_map.2 ⟨it p k x, List.mem_filter.2 ⟨List.mem_range.2 (it_lt hp hx k), hk⟩, rfl⟩, length_cyc _ _⟩)
    rw [ord1_same hp hx] at h1
    exact h1
  · intro h y hy
    obtain ⟨c, hc, rfl⟩ := List.mem_map.1 hy
    obtain ⟨x, hx, rfl⟩ := List.mem_map.1 hc
    rw [length_cyc]
    exact h x (List.mem_range.1 (List.mem_filter.1 hx).1)
theorem pow_id_iff (hp : rightP p = true) (k : Int) : powP p k = idP p.length ↔ (ordK p p.length : Int) ∣ k := by
  have e : ((ordK p p.length : Nat) : Int) ∣ k ↔ ∀ x, x < p.length → (ord1 p x : Int) ∣ k := by
    rw [dvd_nat, ord_dvd hp]
    exact ⟨fun h x hx => dvd_nat.2 (h x hx), fun h x hx => dvd_nat.1 (h x hx)⟩
  rw [e]
  constructor
  · intro h x hx
    rw [← pw_zero_iff hp k hx, ← at0_powP hx, h, idP_mk, at0_mkP hx]
    rfl
  · intro h
    rw [powP_mk, idP_mk]
    exact mkP_congr fun x hx => (pw_zero_iff hp k hx).2 (h x hx)
theorem pow_ord (hp : rightP p = true) : powP p (ordK p p.length : Nat) = idP p.length := (pow_id_iff hp _).2 (Int.dvd_refl _)
end
end Go.Proofs.Ytccaagildkgfeaa
