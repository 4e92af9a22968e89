/- Sorting edges of the call's own. -/
import Derived.Test.YtljihclpgpmfeaaDoorGb
import Derived.Test.YtljihclpgpmfeaaDoorGs
namespace Go.Proofs.YtljihclpgpmfeaaDoor
set_option maxRecDepth 100000
open Go.RowKit Go.Sort Go.Shelf

theorem cmpI_lt (a b : Int) : cmpI a b < 0 ↔ a < b := by
  unfold cmpI
  split
  · rename_i h; exact ⟨fun _ => h, fun _ => by omega⟩
  · rename_i h
    split
    · exact ⟨fun h2 => by omega, fun h2 => absurd h2 h⟩
    · exact ⟨fun h2 => by omega, fun h2 => absurd h2 h⟩
theorem cmpI_zero (a b : Int) : cmpI a b = 0 ↔ a = b := by
  unfold cmpI
  split
  · omega
  · split <;> omega
theorem cmpE_lt (e f : Int × Int) : cmpE e f < 0 ↔ e.1 < f.1 ∨ (e.1 = f.1 ∧ e.2 < f.2) := by
  unfold cmpE
  by_cases h : cmpI e.1 f.1 = 0
  · rw [if_pos h, cmpI_lt]
    have := (cmpI_zero _ _).1 h
    omega
  · rw [if_neg h, cmpI_lt]
    have : ¬ e.1 = f.1 := fun h2 => h ((cmpI_zero _ _).2 h2)
    omega
def ltE : Int × Int → Int × Int → Bool := ltOf cmpE
theorem ltE_iff (e f : Int × Int) : ltE e f = true ↔ e.1 < f.1 ∨ (e.1 = f.1 ∧ e.2 < f.2) := by
  unfold ltE ltOf
  rw [decide_eq_true_eq]
  exact cmpE_lt e f
theorem ltE_not (e f : Int × Int) : ltE e f = false ↔ ¬ (e.1 < f.1 ∨ (e.1 = f.1 ∧ e.2 < f.2)) := by
  rw [← ltE_iff]; simp
theorem swoE : SWO ltE where
  irrefl x := by rw [ltE_not]; omega
  trans x y z h1 h2 := by rw [ltE_iff] at *; omega
  ntrans x y z h1 h2 := by rw [ltE_not] at *; omega
/-- Edges in order. -/
def riseE (l : List (Int × Int)) : List (Int × Int) := l.mergeSort fun x y => !ltE y x
theorem rise_of {d d' : Array (Int × Int)} (hp : PermIn 0 d.size d d') (hs : SortedIn ltE 0 d.size d') : d'.toList = riseE d.toList :=
  sorted_unique_holds (lt := ltE) swoE (fun a b h1 h2 => by
    rw [ltE_not] at h1 h2
    exact Prod.ext (by omega) (by omega)) d d' hp hs
theorem rise_perm (l : List (Int × Int)) : (riseE l).Perm l := List.mergeSort_perm _ _
theorem length_rise (l : List (Int × Int)) : (riseE l).length = l.length := (rise_perm l).length_eq
theorem flat_cells (d : Array (Int × Int)) : flatK encE 2 d = (cellsE d.toList).toArray := by
  refine ext_get! (by rw [size_flatK, List.size_toArray]; simp [length_cellsE]) fun t ht => ?_
  rw [size_flatK] at ht
  rw [get_flatK _ _ _ _ ht]
  have hi : t / 2 < d.size := by omega
  obtain ⟨e, he⟩ : ∃ e, d.toList[t / 2]? = some e := ⟨_, List.getElem?_eq_getElem (by rw [Array.length_toList]; exact hi)⟩
  have hd : d[t / 2]! = e := by
    rw [getElem!_pos d _ hi]
    rw [List.getElem?_eq_getElem (by rw [Array.length_toList]; exact hi)] at he
    injection he with he
  rw [hd]
  obtain ⟨a0, a1⟩ := cellsE_at he
  rcases Nat.mod_two_eq_zero_or_one t with h | h
  · rw [h]
    rw [show t / 2 * 2 = t from by omega] at a0
    simp [encE, a0]
  · rw [h]
    rw [show t / 2 * 2 + 1 = t from by omega] at a1
    simp [encE, a1]
section
variable {w : World} {g n : Nat} {t : TypeId} {os : Array Obj} {d0 d more : List Value}
theorem grown_sortV (d : Array Value) : w.grownBy (sortWorld id w g 0 n d os) (some g) := by
  unfold sortWorld
  refine ⟨rfl, rfl, rfl, by simp [putRow, mapBlock, Sort.ahead, grow], fun k hk hne => ?_⟩
  rw [heap_grow_old _ _ (by simpa [putRow, mapBlock, Sort.ahead] using hk)]
  have : g ≠ k := fun e => hne (by rw [e])
  simp [putRow, mapBlock, Sort.ahead, Array.getElem?_modify, this]
theorem own_sortV (h : Own w g t (d0 ++ more)) (hs : d.length = d0.length) : Own (sortWorld id w g 0 n d.toArray os) g t (d ++ more) := by
  have hl := h.lt
  unfold Own at h ⊢
  unfold sortWorld
  rw [heap_grow_old _ _ (by simpa [putRow, mapBlock, Sort.ahead] using hl)]
  simp [putRow, mapBlock, Sort.ahead, Array.getElem?_modify, h, onCells]
  apply Array.ext_getElem?
  intro i
  simp only [putCells, Array.getElem?_mapIdx]
  by_cases hi : i < d.length
  · simp [hi, List.getElem?_append, hs ▸ hi]
  · simp [List.getElem?_append, show ¬ i < d0.length by omega, hs]
theorem holds_ownV (h : Own w g t (d ++ more)) : Holds id w g 0 d.toArray := by
  intro j hj
  refine ⟨?_, h.frozen _⟩
  rw [h.cell, Nat.zero_add]
  have : j < d.length := by simpa using hj
  simp [List.getElem?_append, this]
end
set_option maxRecDepth 100000 in
theorem sortE_any (g n cap : Nat) (l : List (Int × Int)) (more : List Value) (w : World) (hO : Own w g 49 (cellsE l ++ more)) (hn : n = l.length) (hsz : n ≤ 1000000) :
    Calls Tryd.prog 47 #[.slice (some ⟨g, 0, none⟩) n cap, .func (.func 42) #[] #[]] w fun e w' => e = .returned (.tuple #[]) ∧ Own w' g 49 (cellsE (riseE l) ++ more) ∧ w.grownBy w' (some g) := by
  have eg : ∀ args w, (callFunc 42 args).run Tryd.prog w = .ok (.enter 42 args) w := enters_of Tryd.func42 (by kernel_rfl) rfl
  have hH : HoldsK encE 2 w g 0 l.toArray := by
    unfold HoldsK
    rw [flat_cells]
    exact holds_ownV hO
  have h := AnyQ.slices_SortFunc Tryd.sortE 2 Tryd.isAgg49 Tryd.sizeOf49 encE (fun _ => rfl) (fun x v hv => by simp [encE] at hv; rcases hv with rfl | rfl <;> rfl) cmpE swoE 42 #[] g 0 cap l.toArray w eg (fun _ _ _ _ x y => compareE_any x y _) hH hO.lt (by rw [List.size_toArray]; omega)
  rw [List.size_toArray, ← hn] at h
  change Calls Tryd.prog 47 _ _ _ at h
  refine h.mono fun e w' ⟨he, d', m, os, h1, h2, h3⟩ => ⟨he, ?_⟩
  have hd : d'.toList = riseE l := rise_of (d := l.toArray) (by rw [List.size_toArray, ← hn]; exact h1) (by rw [List.size_toArray, ← hn]; exact h2)
  subst h3
  unfold sortWorldK putRowK
  rw [flat_cells, hd]
  exact ⟨own_sortV (os := os) (n := m) hO (by rw [length_cellsE, length_cellsE, length_rise]), grown_sortV (os := os) (n := m) _⟩
end Go.Proofs.YtljihclpgpmfeaaDoor
