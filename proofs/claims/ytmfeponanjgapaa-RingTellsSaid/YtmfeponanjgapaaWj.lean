/- Walk: ranks. -/
import Derived.Test.YtmfeponanjgapaaWi
namespace Go.Proofs.Ytmfeponanjgapaa
open Go.RowKit Go.Sort Go.Shelf

def idL (n k : Nat) : List Int := (List.range n).map fun i => if i < k then (i : Int) else 0
theorem length_idL (n k : Nat) : (idL n k).length = n := by simp [idL]
theorem idL_zero (n : Nat) : cellsI (idL n 0) = List.replicate n (.int .i64 0) := by
  unfold cellsI idL
  rw [List.map_map]
  apply List.ext_getElem?
  intro i
  rw [List.getElem?_map, List.getElem?_replicate]
  by_cases h : i < n
  · rw [List.getElem?_range h, if_pos h]; rfl
  · rw [List.getElem?_eq_none (by simpa using h), if_neg h]; rfl
theorem idL_step {n k : Nat} (h : k < n) : (cellsI (idL n k)).set k (.int .i64 (k : Int)) = cellsI (idL n (k + 1)) := by
  unfold cellsI idL
  apply List.ext_getElem?
  intro i
  rw [List.getElem?_set]
  by_cases hi : k = i
  · subst hi
    simp [h]
  · rw [if_neg hi]
    simp only [List.map_map, List.getElem?_map]
    by_cases h2 : i < n
    · rw [List.getElem?_range h2]
      simp only [Option.map_some, Function.comp]
      by_cases h3 : i < k
      · rw [if_pos h3, if_pos (by omega)]
      · rw [if_neg h3, if_neg (by omega)]
    · rw [List.getElem?_eq_none (by simpa using h2)]; rfl
def encF (m : Nat) (i : Fin (m + 1)) : Value := .int .i64 (i.val : Int)
def finL (m : Nat) : List (Fin (m + 1)) := List.ofFn fun i => i
def fin0 (m : Nat) : Array (Fin (m + 1)) := (finL m).toArray
theorem length_finL (m : Nat) : (finL m).length = m + 1 := List.length_ofFn
theorem finL_at (m : Nat) {i : Nat} (h : i < m + 1) : (finL m)[i]? = some ⟨i, h⟩ := by
  rw [List.getElem?_eq_getElem (by rw [length_finL]; exact h)]
  unfold finL
  rw [List.getElem_ofFn]
theorem fin0_size (m : Nat) : (fin0 m).size = m + 1 := by unfold fin0; rw [List.size_toArray, length_finL]
theorem idL_fin (m : Nat) : cellsI (idL (m + 1) (m + 1)) = (fin0 m).toList.map (encF m) := by
  show _ = (finL m).map (encF m)
  unfold cellsI idL
  apply List.ext_getElem?
  intro i
  simp only [List.map_map, List.getElem?_map]
  by_cases h : i < m + 1
  · rw [List.getElem?_range h, finL_at m h]
    simp [h, encF]
  · rw [List.getElem?_eq_none (by simpa using h), List.getElem?_eq_none (by rw [length_finL]; omega)]
    rfl
def cfF (ws : List (List UInt8)) (m : Nat) (x y : Fin (m + 1)) : Int := Lib.compareBytes (wd ws x) (wd ws y)
theorem swoF (ws : List (List UInt8)) (m : Nat) : SWO (ltOf (cfF ws m)) where
  irrefl x := by unfold ltOf cfF; rw [cb_self]; rfl
  trans x y z h1 h2 := by
    unfold ltOf cfF at *
    simp only [decide_eq_true_eq] at *
    have h3 := cb_trans (a := wd ws x) (b := wd ws y) (c := wd ws z) (by omega) (by omega)
    by_cases h4 : Lib.compareBytes (wd ws x) (wd ws z) = 0
    · have e := cb_zero h4
      rw [e] at h1
      have := cb_neg (wd ws y) (wd ws z)
      omega
    · omega
  ntrans x y z h1 h2 := by
    unfold ltOf cfF at *
    simp only [decide_eq_false_iff_not] at *
    have e1 := cb_neg (wd ws x) (wd ws y)
    have e2 := cb_neg (wd ws y) (wd ws z)
    have e3 := cb_neg (wd ws x) (wd ws z)
    have h3 := cb_trans (a := wd ws z) (b := wd ws y) (c := wd ws x) (by omega) (by omega)
    omega
/-- The word's place, i-th in order. -/
def pl {m : Nat} (d : Array (Fin (m + 1))) (i : Nat) : Nat := (d[i]!).val
section
variable {m : Nat} {d : Array (Fin (m + 1))} {ws : List (List UInt8)}
theorem pl_at (hs : d.size = m + 1) {i : Nat} (h : i < m + 1) : (d.toList.map (encF m))[i]? = some (.int .i64 (pl d i : Int)) := by
  rw [List.getElem?_map, List.getElem?_eq_getElem (by simpa [hs] using h)]
  simp [encF, pl, hs, h]
theorem pl_lt (i : Nat) : pl d i < m + 1 := (d[i]!).isLt
theorem pl_perm (hp : PermIn 0 (m + 1) (fin0 m) d) : d.size = m + 1 ∧ d.toList.Perm (fin0 m).toList := by
  obtain ⟨h1, _, h3⟩ := hp
  rw [fin0_size] at h1
  refine ⟨h1, ?_⟩
  have e1 : d.extract 0 (m + 1) = d := Array.extract_eq_self_of_le (by omega)
  have e2 : (fin0 m).extract 0 (m + 1) = fin0 m := Array.extract_eq_self_of_le (by rw [fin0_size]; exact Nat.le_refl _)
  rw [e1, e2] at h3
  exact h3
theorem fin0_nodup (m : Nat) : (fin0 m).toList.Nodup := by
  show (finL m).Nodup
  rw [List.nodup_iff_pairwise_ne, List.pairwise_iff_getElem]
  intro i j hi hj hij e
  rw [length_finL] at hi hj
  have e1 := finL_at m hi
  have e2 := finL_at m hj
  rw [List.getElem?_eq_getElem (by rw [length_finL]; exact hi)] at e1
  rw [List.getElem?_eq_getElem (by rw [length_finL]; exact hj), ← e] at e2
  injection e1 with e1
  injection e2 with e2
  rw [e1] at e2
  have := congrArg Fin.val e2
  simp at this
  omega
theorem pl_inj (hp : PermIn 0 (m + 1) (fin0 m) d) {i j : Nat} (hi : i < m + 1) (hj : j < m + 1) (h : pl d i = pl d j) : i = j := by
  obtain ⟨hs, hq⟩ := pl_perm hp
  have hn := (hq.nodup_iff).2 (fin0_nodup m)
  have e : d.toList[i]'(by simpa [hs] using hi) = d.toList[j]'(by simpa [hs] using hj) := by
    apply Fin.ext
    simpa [pl, hs, hi, hj] using h
  exact (List.getElem_inj hn).1 e
theorem pl_sur (hp : PermIn 0 (m + 1) (fin0 m) d) {a : Nat} (ha : a < m + 1) : ∃ i, i < m + 1 ∧ pl d i = a := by
  obtain ⟨hs, hq⟩ := pl_perm hp
  have h1 : (⟨a, ha⟩ : Fin (m + 1)) ∈ d.toList := by
    rw [hq.mem_iff]
    exact List.mem_of_getElem? (finL_at m ha)
  obtain ⟨i, hi⟩ := List.mem_iff_getElem?.1 h1
  have hlt := (List.getElem?_eq_some_iff.1 hi).1
  have hlt2 : i < m + 1 := by simpa [hs] using hlt
  refine ⟨i, hlt2, ?_⟩
  rw [List.getElem?_eq_getElem hlt] at hi
  injection hi with hi
  unfold pl
  rw [getElem!_pos d i (by omega)]
  have := congrArg Fin.val hi
  simpa using this
theorem pl_sorted (hs : SortedIn (ltOf (cfF ws m)) 0 (m + 1) d) : ∀ i j, i < j → j < m + 1 → ¬ Lib.compareBytes (wd ws (pl d j)) (wd ws (pl d i)) < 0 := by
  intro i j hij hj
  have := hs i j (Nat.zero_le _) hij hj
  unfold ltOf cfF at this
  simpa [pl] using this
end
end Go.Proofs.Ytmfeponanjgapaa
