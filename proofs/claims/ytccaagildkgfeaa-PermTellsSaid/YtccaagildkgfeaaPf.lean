/- Plain facts: the cycles in their order; how many things; the least common multiple by adding up; how many entries a set has. -/
import Derived.Test.YtccaagildkgfeaaPe
import Derived.Test.YtccaagildkgfeaaSet
import Derived.Maps.OwnSet
namespace Go.Proofs.Ytccaagildkgfeaa
open Go.Maps

section
variable {p : List Int}
theorem cycs_nth : ∀ (m a : Nat), a < (cycs p m).length → ∃ x, x < m ∧ leastB p x = true ∧ (cycs p m)[a]? = some (cyc p x) ∧ (cycs p m).take a = cycs p x ∧ (cycs p m).take (a + 1) = cycs p (x + 1)
  | 0, a, h => by simp [cycs] at h
  | m + 1, a, h => by
    cases hl : leastB p m with
    | false =>
      rw [cycs_step_no hl] at h ⊢
      obtain ⟨x, h1, h2⟩ := cycs_nth m a h
      exact ⟨x, by omega, h2⟩
    | true =>
      rw [cycs_step_yes hl] at h ⊢
      rw [List.length_append, List.length_singleton] at h
      by_cases ha : a < (cycs p m).length
      · obtain ⟨x, h1, h2, h3, h4, h5⟩ := cycs_nth m a ha
        exact ⟨x, by omega, h2, by rw [List.getElem?_append_left ha]; exact h3, by rw [List.take_append_of_le_length (by omega)]; exact h4, by rw [List.take_append_of_le_length (by omega)]; exact h5⟩
      · have e : a = (cycs p m).length := by omega
        subst e
        refine ⟨m, by omega, hl, by simp, by simp, ?_⟩
        rw [List.take_of_length_le (by simp), cycs_step_yes hl]
theorem cycs_mono {x y : Nat} (h : x ≤ y) : (cycs p x).length ≤ (cycs p y).length := by
  induction y with
  | zero => obtain rfl : x = 0 := by omega
            exact Nat.le_refl _
  | succ y ih =>
    by_cases hy : x ≤ y
    · refine Nat.le_trans (ih hy) ?_
      cases hl : leastB p y with
      | false => rw [cycs_step_no hl]; exact Nat.le_refl _
      | true => rw [cycs_step_yes hl, List.length_append]; omega
    · obtain rfl : x = y + 1 := by omega
      exact Nat.le_refl _
theorem flat_all (h : rightP p = true) : (cycs p p.length).flatten.length = p.length := by
  have h1 := flat_le h (Nat.le_refl _)
  have h2 : (cycs p p.length).flatten.length = (lens p p.length).sum := by rw [List.length_flatten]; rfl
  have h3 : (idP p.length).Nodup := (right_true (right_idP (right_le h))).2.2
  have h4 := nd_len (m := (cycs p p.length).flatten) h3 fun y hy => by
    obtain ⟨i, hi, rfl⟩ := List.mem_map.1 hy
    have hil := List.mem_range.1 hi
    exact List.contains_iff_mem.1 ((met_iff h (Nat.le_refl _) hil).2 ⟨i, hil, 0, rfl⟩)
  rw [length_idP] at h4
  omega
theorem cycs_le : (cycs p p.length).length ≤ p.length := by
  unfold cycs
  rw [List.length_map]
  refine Nat.le_trans (List.length_filter_le _ _) ?_
  simp
end
/-- One more multiple. -/
theorem lcm_step {a L v : Nat} (ha : 0 < a) (hv : a ∣ v) (hle : v ≤ Nat.lcm a L) (hn : ¬ L ∣ v) : a ∣ v + a ∧ v + a ≤ Nat.lcm a L := by
  refine ⟨Nat.dvd_add hv (Nat.dvd_refl _), ?_⟩
  obtain ⟨t, rfl⟩ := hv
  obtain ⟨u, hu⟩ := Nat.dvd_lcm_left a L
  have hL := Nat.dvd_lcm_right a L
  rw [hu] at hle hL ⊢
  have h1 : t ≤ u := Nat.le_of_mul_le_mul_left hle ha
  have h2 : t ≠ u := by rintro rfl; exact hn hL
  calc a * t + a = a * (t + 1) := by rw [Nat.mul_succ]
    _ ≤ a * u := Nat.mul_le_mul_left a (by omega)
theorem lcm_end {a L v : Nat} (hv : a ∣ v) (hv0 : 0 < v) (hle : v ≤ Nat.lcm a L) (hd : L ∣ v) : v = Nat.lcm a L :=
  Nat.le_antisymm hle (Nat.le_of_dvd hv0 (Nat.lcm_dvd hv hd))
theorem addKey_fold : ∀ (S T : List Int), (T ++ S).Nodup → ((keysI S).foldl addKey (keysI T)).length = T.length + S.length
  | [], T, _ => by simp [keysI]
  | x :: S, T, h => by
    have hx : x ∉ T := fun hm => by
      rw [List.nodup_append] at h
      exact h.2.2 x hm x (by simp) rfl
    have e : addKey (keysI T) (.int .i64 x) = keysI (T ++ [x]) := by
      unfold addKey keysI
      rw [if_neg, List.map_append]
      · rfl
      · intro hh
        simp at hh
        obtain ⟨y, hy, hk⟩ := hh
        have : y = x := by simpa [Lit.sameKey] using hk
        subst this
        exact hx hy
    have ih := addKey_fold S (T ++ [x]) (by rw [List.append_assoc]; exact h)
    rw [List.length_append] at ih
    show ((keysI S).foldl addKey (addKey (keysI T) (.int .i64 x))).length = _
    rw [e, ih]
    simp; omega
theorem size_keys {S : List Int} (hn : S.Nodup) : Maps.size (setOf oneD (keysI S)) = S.length := by
  rw [size_setOf _ _ (fun x hx => by obtain ⟨y, _, rfl⟩ := List.mem_map.1 hx; exact trivial)]
  have := addKey_fold S [] (by simpa using hn)
  simpa [keysI] using this
theorem MapI.len {w : World} {B k : Nat} {S : List Int} {t : TypeId} (ht : Try.prog.underlying t = some (.map 3 3)) (h : MapI w B k S) (hn : S.Nodup) (ty : TypeId) : (Builtin.len_ #[t] ty #[.map (some B)]).run Try.prog w = .ok (.int .i64 (S.length : Int)) w := by
  have h1 := World.ownsMap.len h ht ty
  rw [size_keys hn] at h1
  exact h1
end Go.Proofs.Ytccaagildkgfeaa
