/- Plain facts: how great an order is. -/
import Derived.Test.YtccaagildkgfeaaPc
namespace Go.Proofs.Ytccaagildkgfeaa

/-- The least number that every one of some numbers divides. -/
def lcmL : List Nat → Nat := List.foldl Nat.lcm 1
theorem lcmL_snoc (l : List Nat) (x : Nat) : lcmL (l ++ [x]) = Nat.lcm (lcmL l) x := by simp [lcmL, List.foldl_append]
def lens (p : List Int) (j : Nat) : List Nat := (cycs p j).map List.length
theorem sum_erase : ∀ {l : List Int} {x : Int}, x ∈ l → l.sum = x + (l.erase x).sum
  | [], x, h => by simp at h
  | a :: l, x, h => by
    rw [List.erase_cons]
    split
    · rename_i e
      have : a = x := by simpa using e
      subst this
      simp
    · rename_i e
      have hne : a ≠ x := by simpa using e
      have hm : x ∈ l := by
        rcases List.mem_cons.1 h with h1 | h1
        · exact absurd h1.symm hne
        · exact h1
      have := sum_erase hm
      simp
      omega
/-- Numbers that are unlike and 2 or more: how great is their sum? -/
theorem sum_distinct : ∀ (k : Nat) (l : List Int), l.length = k → l.Nodup → (∀ x ∈ l, 2 ≤ x) → (k : Int) * (k + 3) ≤ 2 * l.sum
  | 0, l, hl, _, _ => by
    obtain rfl := List.eq_nil_of_length_eq_zero hl
    simp
  | k + 1, l, hl, hn, h2 => by
    have hbig : ∃ x ∈ l, (k : Int) + 2 ≤ x := by
      refine Classical.byContradiction fun hno => ?_
      have := nd_len (m := (List.range k).map fun (i : Nat) => (i : Int) + 2) hn fun x hx => by
        have h1 := h2 x hx
        have h3 : x < (k : Int) + 2 := Int.not_le.1 fun h => hno ⟨x, hx, h⟩
        exact List.mem_map.2 ⟨(x - 2).toNat, List.mem_range.2 (by omega), by omega⟩
      simp at this
      omega
    obtain ⟨x, hx, hxb⟩ := hbig
    have ih := sum_distinct k (l.erase x) (by rw [List.length_erase_of_mem hx]; omega) (hn.erase x) (fun y hy => h2 y (List.mem_of_mem_erase hy))
    have hs : l.sum = x + (l.erase x).sum := sum_erase hx
    rw [hs]
    have e : ((k + 1 : Nat) : Int) * (((k + 1 : Nat) : Int) + 3) = (k : Int) * (k + 3) + 2 * k + 4 := by
      rw [Int.natCast_add]
      simp only [Int.natCast_one, Int.add_mul, Int.mul_add, Int.one_mul, Int.mul_one]
      omega
    rw [e]
    omega
theorem grow11 : ∀ x, 11 ≤ x → x * 11 ^ x * 12 ^ 11 ≤ 11 ^ 12 * 12 ^ x := by
  intro x hx
  induction x with
  | zero => omega
  | succ x ih =>
    rcases Nat.lt_or_ge x 11 with h | h
    · obtain rfl : x = 10 := by omega
      decide
    · have h1 := ih h
      have h2 : (x + 1) * 11 ≤ x * 12 := by omega
      calc (x + 1) * 11 ^ (x + 1) * 12 ^ 11 = ((x + 1) * 11) * (11 ^ x * 12 ^ 11) := by rw [Nat.pow_succ]; ac_rfl
        _ ≤ (x * 12) * (11 ^ x * 12 ^ 11) := Nat.mul_le_mul_right _ h2
        _ = (x * 11 ^ x * 12 ^ 11) * 12 := by ac_rfl
        _ ≤ (11 ^ 12 * 12 ^ x) * 12 := Nat.mul_le_mul_right _ h1
        _ = 11 ^ 12 * 12 ^ (x + 1) := by rw [show (12 : Nat) ^ (x + 1) = 12 ^ x * 12 from Nat.pow_succ ..]; ac_rfl
theorem bern (x : Nat) : x * 11 ^ x * 12 ^ 11 ≤ 11 ^ 12 * 12 ^ x := by
  rcases Nat.lt_or_ge x 11 with h | h
  · have : ∀ x : Fin 11, x.val * 11 ^ x.val * 12 ^ 11 ≤ 11 ^ 12 * 12 ^ x.val := by decide
    exact this ⟨x, h⟩
  · exact grow11 x h
theorem bern_step {N x s k : Nat} (h : N * (11 ^ s * 12 ^ (11 * k)) ≤ 11 ^ (12 * k) * 12 ^ s) : (N * x) * (11 ^ (s + x) * 12 ^ (11 * (k + 1))) ≤ 11 ^ (12 * (k + 1)) * 12 ^ (s + x) := by
  have e1 : 11 * (k + 1) = 11 * k + 11 := rfl
  have e2 : 12 * (k + 1) = 12 * k + 12 := rfl
  rw [e1, e2, Nat.pow_add, Nat.pow_add, Nat.pow_add, Nat.pow_add]
  generalize hA : 11 ^ s = A at h ⊢
  generalize hB : 12 ^ (11 * k) = B at h ⊢
  generalize hC : 11 ^ (12 * k) = C at h ⊢
  generalize hD : 12 ^ s = D at h ⊢
  have hb := bern x
  generalize hE : 11 ^ x = E at hb ⊢
  generalize hG : 12 ^ x = G at hb ⊢
  generalize hP : 12 ^ 11 = P1 at hb ⊢
  generalize hR : 11 ^ 12 = R at hb ⊢
  have h2 := Nat.mul_le_mul h hb
  have e3 : (N * x) * (A * E * (B * P1)) = N * (A * B) * (x * E * P1) := by ac_rfl
  have e4 : C * R * (D * G) = C * D * (R * G) := by ac_rfl
  rw [e3, e4]
  exact h2
theorem bern_end {N s k : Nat} (h : N * (11 ^ s * 12 ^ (11 * k)) ≤ 11 ^ (12 * k) * 12 ^ s) (hs : s ≤ 200) (hk : k ≤ 18) : N ≤ 11 ^ 16 * 12 ^ 2 := by
  have h1 : 11 ^ (200 - s) ≤ 12 ^ (200 - s) := Nat.pow_le_pow_left (by omega) _
  have h2 : 12 ^ (11 * (18 - k)) ≤ 11 ^ (12 * (18 - k)) := by
    rw [Nat.pow_mul, Nat.pow_mul]
    exact Nat.pow_le_pow_left (by decide) _
  have h3 := Nat.mul_le_mul h (Nat.mul_le_mul h1 h2)
  have e1 : N * (11 ^ s * 12 ^ (11 * k)) * (11 ^ (200 - s) * 12 ^ (11 * (18 - k))) = N * (11 ^ 200 * 12 ^ 198) := by
    have a1 : (11 : Nat) ^ 200 = 11 ^ s * 11 ^ (200 - s) := by rw [← Nat.pow_add]; congr 1; omega
    have a2 : (12 : Nat) ^ 198 = 12 ^ (11 * k) * 12 ^ (11 * (18 - k)) := by rw [← Nat.pow_add]; congr 1; omega
    rw [a1, a2]
    ac_rfl
  have e2 : 11 ^ (12 * k) * 12 ^ s * (12 ^ (200 - s) * 11 ^ (12 * (18 - k))) = (11 ^ 16 * 12 ^ 2) * (11 ^ 200 * 12 ^ 198) := by
    have a1 : (11 : Nat) ^ 216 = 11 ^ (12 * k) * 11 ^ (12 * (18 - k)) := by rw [← Nat.pow_add]; congr 1; omega
    have a2 : (12 : Nat) ^ 200 = 12 ^ s * 12 ^ (200 - s) := by rw [← Nat.pow_add]; congr 1; omega
    have a3 : (11 ^ 16 * 12 ^ 2) * (11 ^ 200 * 12 ^ 198) = 11 ^ 216 * 12 ^ 200 := by decide +kernel
    rw [a3, a1, a2]
    ac_rfl
  rw [e1, e2] at h3
  exact Nat.le_of_mul_le_mul_right h3 (Nat.mul_pos (Nat.pow_pos (by omega)) (Nat.pow_pos (by omega)))
theorem lcm_le (a b : Nat) (ha : 0 < a) (hb : 0 < b) : Nat.lcm a b ≤ a * b := Nat.le_of_dvd (Nat.mul_pos ha hb) (Nat.lcm_dvd (Nat.dvd_mul_right a b) (Nat.dvd_mul_left b a))
theorem lcm_part : ∀ (L : List Nat), (∀ x ∈ L, 0 < x) → 0 < lcmL L ∧ (∀ x ∈ L, x ∣ lcmL L) := by
  have key : ∀ (L : List Nat) (a : Nat), 0 < a → (∀ x ∈ L, 0 < x) → 0 < L.foldl Nat.lcm a ∧ a ∣ L.foldl Nat.lcm a ∧ ∀ x ∈ L, x ∣ L.foldl Nat.lcm a := by
    intro L
    induction L with
    | nil => intro a ha _; exact ⟨ha, Nat.dvd_refl a, fun x hx => by simp at hx⟩
    | cons y L ih =>
      intro a ha hL
      obtain ⟨h1, h2, h3⟩ := ih (Nat.lcm a y) (Nat.lcm_pos ha (hL y (by simp))) (fun x hx => hL x (by simp [hx]))
      refine ⟨h1, Nat.dvd_trans (Nat.dvd_lcm_left a y) h2, fun x hx => ?_⟩
      rcases List.mem_cons.1 hx with rfl | hx
      · exact Nat.dvd_trans (Nat.dvd_lcm_right a x) h2
      · exact h3 x hx
  intro L hL
  obtain ⟨h1, _, h3⟩ := key L 1 (by omega) hL
  exact ⟨h1, h3⟩
theorem distinct_part (L : List Nat) (hL : ∀ x ∈ L, 0 < x) : ∃ D : List Int, D.Nodup ∧ (∀ x ∈ D, 2 ≤ x) ∧ (∀ x ∈ D, x.toNat ∈ L) ∧ 0 ≤ D.sum ∧ D.sum ≤ (L.sum : Nat) ∧ lcmL L * (11 ^ D.sum.toNat * 12 ^ (11 * D.length)) ≤ 11 ^ (12 * D.length) * 12 ^ D.sum.toNat := by
  have key : ∀ n (L : List Nat), L.length = n → (∀ x ∈ L, 0 < x) → ∃ D : List Int, D.Nodup ∧ (∀ x ∈ D, 2 ≤ x) ∧ (∀ x ∈ D, x.toNat ∈ L) ∧ 0 ≤ D.sum ∧ D.sum ≤ (L.sum : Nat) ∧ lcmL L * (11 ^ D.sum.toNat * 12 ^ (11 * D.length)) ≤ 11 ^ (12 * D.length) * 12 ^ D.sum.toNat := by
    intro n
    induction n with
    | zero =>
      intro L hl _
      obtain rfl := List.eq_nil_of_length_eq_zero hl
      exact ⟨[], by simp, by simp, by simp, by simp, by simp, by simp [lcmL]⟩
    | succ n ih =>
      intro L hl hp
      have hne : L ≠ [] := by rintro rfl; simp at hl
      obtain ⟨M, x, rfl⟩ : ∃ M x, L = M ++ [x] := ⟨L.dropLast, L.getLast hne, (List.dropLast_concat_getLast hne).symm⟩
      obtain ⟨D, d1, d2, d3, d4, d5, d6⟩ := ih M (by simpa using hl) (fun y hy => hp y (by simp [hy]))
      have hx := hp x (by simp)
      have hM := lcm_part M (fun y hy => hp y (by simp [hy]))
      have hsum : ((M ++ [x]).sum : Nat) = M.sum + x := by simp
      have same : lcmL (M ++ [x]) = lcmL M → ∃ D : List Int, D.Nodup ∧ (∀ x ∈ D, 2 ≤ x) ∧ (∀ y ∈ D, y.toNat ∈ M ++ [x]) ∧ 0 ≤ D.sum ∧ D.sum ≤ ((M ++ [x]).sum : Nat) ∧ lcmL (M ++ [x]) * (11 ^ D.sum.toNat * 12 ^ (11 * D.length)) ≤ 11 ^ (12 * D.length) * 12 ^ D.sum.toNat := fun e =>
        ⟨D, d1, d2, fun y hy => by simp [d3 y hy], d4, by rw [hsum]; omega, by rw [e]; exact d6⟩
      by_cases h1 : x = 1
      · exact same (by rw [lcmL_snoc, h1, Nat.lcm_one_right])
      · by_cases hD : (x : Int) ∈ D
        · refine same ?_
          rw [lcmL_snoc]
          have h2 := hM.2 x (by simpa using d3 _ hD)
          exact Nat.dvd_antisymm (Nat.lcm_dvd (Nat.dvd_refl _) h2) (Nat.dvd_lcm_left _ _)
        · refine ⟨(x : Int) :: D, List.nodup_cons.2 ⟨hD, d1⟩, fun y hy => ?_, fun y hy => ?_, by simp; omega, by rw [hsum]; simp; omega, ?_⟩
          · rcases List.mem_cons.1 hy with rfl | hy
            · omega
            · exact d2 y hy
          · rcases List.mem_cons.1 hy with rfl | hy
            · simp
            · simp [d3 y hy]
          · have e1 : (((x : Int) :: D).sum).toNat = D.sum.toNat + x := by simp; omega
            rw [e1, List.length_cons, lcmL_snoc]
            refine Nat.le_trans (Nat.mul_le_mul_right _ (lcm_le _ _ hM.1 hx)) (bern_step d6)
  exact key L.length L rfl hL
theorem lcm_bound (L : List Nat) (hL : ∀ x ∈ L, 0 < x) (hs : L.sum ≤ 200) : lcmL L ≤ 11 ^ 16 * 12 ^ 2 := by
  obtain ⟨D, d1, d2, _, d4, d5, d6⟩ := distinct_part L hL
  have h1 := sum_distinct D.length D rfl d1 d2
  refine bern_end d6 (by omega) ?_
  refine Classical.byContradiction fun hk => ?_
  have h2 : (19 : Int) ≤ D.length := by omega
  have h3 : (19 : Int) * 22 ≤ D.length * (D.length + 3) := Int.mul_le_mul h2 (by omega) (by omega) (by omega)
  omega
section
variable {p : List Int}
theorem nodup_flat (h : rightP p = true) : ∀ j, j ≤ p.length → (cycs p j).flatten.Nodup
  | 0, _ => by simp [cycs]
  | j + 1, hj => by
    cases hl : leastB p j with
    | false => rw [cycs_step_no hl]; exact nodup_flat h j (by omega)
    | true =>
      rw [flat_step_yes hl, List.nodup_append]
      refine ⟨nodup_flat h j (by omega), nodup_cyc h (by omega), fun a ha b hb e => ?_⟩
      subst e
      obtain ⟨k, hk⟩ := List.mem_iff_getElem?.1 hb
      have hkl := (List.getElem?_eq_some_iff.1 hk).1
      rw [length_cyc] at hkl
      rw [cyc_at hkl] at hk
      injection hk with hk
      have := met_way h (by omega) hl hkl
      rw [hk, Bool.eq_false_iff] at this
      exact this (List.contains_iff_mem.2 (List.mem_append.2 (.inl ha)))
theorem flat_le (h : rightP p = true) {j : Nat} (hj : j ≤ p.length) : (lens p j).sum ≤ p.length := by
  have h1 : (cycs p j).flatten.length = (lens p j).sum := by rw [List.length_flatten]; rfl
  have h2 := nd_len (m := idP p.length) (nodup_flat h j hj) fun y hy => by
    obtain ⟨c, hc, hm⟩ := List.mem_flatten.1 hy
    unfold cycs at hc
    obtain ⟨i, hi, rfl⟩ := List.mem_map.1 hc
    have hij := List.mem_range.1 (List.mem_filter.1 hi).1
    obtain ⟨k, rfl⟩ := (mem_cyc h (by omega)).1 hm
    exact List.mem_of_getElem? (idP_at (it_lt h (by omega) k))
  rw [length_idP] at h2
  omega
theorem lens_pos {j : Nat} : ∀ x ∈ lens p j, 0 < x := by
  intro x hx
  unfold lens cycs at hx
  rw [List.map_map] at hx
  obtain ⟨i, _, rfl⟩ := List.mem_map.1 hx
  show 0 < (cyc p i).length
  rw [length_cyc]
  exact ord1_pos p i
/-- The order, so far. -/
def ordK (p : List Int) (j : Nat) : Nat := lcmL (lens p j)
theorem ordK_bound (h : rightP p = true) {j : Nat} (hj : j ≤ p.length) : 0 < ordK p j ∧ ordK p j ≤ 7000000000000000000 := by
  refine ⟨(lcm_part _ lens_pos).1, ?_⟩
  have h1 := lcm_bound (lens p j) lens_pos (by have := flat_le h hj; have := (right_true h).1; omega)
  have h2 : (11 : Nat) ^ 16 * 12 ^ 2 ≤ 7000000000000000000 := by decide
  exact Nat.le_trans h1 h2
theorem ordK_yes {j : Nat} (hl : leastB p j = true) : ordK p (j + 1) = Nat.lcm (ordK p j) (ord1 p j) := by
  unfold ordK lens
  rw [cycs_step_yes hl, List.map_append]
  show lcmL (_ ++ [(cyc p j).length]) = _
  rw [lcmL_snoc, length_cyc]
theorem ordK_no {j : Nat} (hl : leastB p j = false) : ordK p (j + 1) = ordK p j := by
  unfold ordK lens
  rw [cycs_step_no hl]
end
end Go.Proofs.Ytccaagildkgfeaa
