/- A region that draws its order, by an invariant: one obligation for each operation, not one way for each order. -/
import Derived.WalkKit
namespace Go.Proofs.YtljihclpgpmfeaaDoor
set_option maxRecDepth 100000
open Go.RowKit

/-- The rest of the run behind a letter. -/
theorem hideK {P : Program} {o : Oper} {a : Act} {w : World} {K : Act → World → Prop} {Q : Exit → Act → World → Prop} (R : Act → World → Prop) (h : ∀ a' V', R a' V' → K a' V')
    (k : ∀ (K' : Act → World → Prop) (Q' : Exit → Act → World → Prop), (∀ a' V', R a' V' → K' a' V') → o.wp P a w K' Q') : o.wp P a w K Q := k K Q h
section
variable {P : Program} {md : Region.Mode} {ops : Array Oper} {Q : Exit → Act → World → Prop}
/-- The operations that have not come up. -/
def leftOf (ops : Array Oper) (l : Array Bool) : List Nat := (List.range ops.size).filter fun i => !l.getD i true
theorem ready_nil {l : Array Bool} (h : leftOf ops l = []) : Region.ready md ops l = [] := by
  unfold Region.ready
  unfold leftOf at h
  rw [List.filter_eq_nil_iff] at h ⊢
  intro i hi
  have := h i hi
  simp only [Bool.and_eq_true, not_and]
  intro h2
  exact absurd h2 this
theorem ready_mem {l : Array Bool} {i : Nat} (h : i ∈ Region.ready md ops l) : i < ops.size ∧ l.getD i true = false ∧ ((ops[i]?).map (·.after.all fun e => !Region.binds md e || l.getD e.on false)).getD false = true := by
  unfold Region.ready at h
  rw [List.mem_filter, Bool.and_eq_true] at h
  exact ⟨List.mem_range.1 h.1, by simpa using h.2.1, h.2.2⟩
/-- What an operation waits for has come. -/
theorem ready_depP {md : Region.Mode} {ops : Array Oper} {l : Array Bool} {i : Nat} (h : ((ops[i]?).map (·.after.all fun e => !Region.binds md e || l.getD e.on false)).getD false = true) {o : Oper} (ho : ops[i]? = some o) (k : Nat) {e : Edge} (he : o.after[k]? = some e) (hb : Region.binds md e = true) : l.getD e.on true = true := by
  rw [ho] at h
  simp only [Option.map_some, Option.getD_some, Array.all_eq_true] at h
  obtain ⟨hk, hke⟩ := Array.getElem?_eq_some_iff.1 he
  have h1 := h k hk
  rw [hke, hb] at h1
  have h2 : l.getD e.on false = true := by simpa using h1
  cases hl : l[e.on]? with
  | none => rw [Array.getD_eq_getD_getElem?, hl]; rfl
  | some x => rw [Array.getD_eq_getD_getElem?, hl] at h2 ⊢; exact h2
/-- Each operation waits for earlier ones alone. -/
def backB (ops : Array Oper) : Bool := (List.range ops.size).all fun i => ((ops[i]?).map fun o => o.after.all fun e => !Region.binds .any e || decide (e.on < i)).getD true
theorem all_listed {l : Array Bool} (hb : backB ops = true) (hs : l.size = ops.size) (h : leftOf ops l = [] ∨ Region.ready .any ops l = []) : ∀ i, i < ops.size → l.getD i true = true := by
  have h1 : ∀ i, i < ops.size → (∀ j, j < i → l.getD j true = true) → l.getD i true = true := by
    intro i hi hj
    cases hl : l.getD i true with
    | true => rfl
    | false =>
      exfalso
      rcases h with h | h
      · unfold leftOf at h
        rw [List.filter_eq_nil_iff] at h
        exact h i (List.mem_range.2 hi) (by rw [hl]; rfl)
      · unfold Region.ready at h
        rw [List.filter_eq_nil_iff] at h
        refine h i (List.mem_range.2 hi) ?_
        rw [hl, Bool.not_false, Bool.true_and]
        have hbi := List.all_eq_true.1 hb i (List.mem_range.2 hi)
        have ho : ops[i]? = some ops[i] := Array.getElem?_eq_getElem hi
        rw [ho] at hbi ⊢
        simp only [Option.map_some, Option.getD_some, Array.all_eq_true] at hbi ⊢
        intro k hk
        cases hbd : Region.binds .any ops[i].after[k] with
        | false => rfl
        | true =>
        have h3 := hbi k hk
        rw [hbd] at h3
        have hlt : (ops[i].after[k]).on < i := by simpa using h3
        have := hj _ hlt
        have hsz : (ops[i].after[k]).on < l.size := by omega
        simp only [Array.getD_eq_getD_getElem?, Array.getElem?_eq_getElem hsz, Option.getD_some] at this ⊢
        rw [this]; rfl
  intro i
  induction i using Nat.strongRecOn with
  | _ i ih => exact fun hi => h1 i hi fun j hj => ih j hj (by omega)
theorem left_less {l : Array Bool} {i : Nat} (hi : i < ops.size) (hl : l.getD i true = false) : (leftOf ops (l.setIfInBounds i true)).length < (leftOf ops l).length := by
  have hsz : i < l.size := by
    rcases Nat.lt_or_ge i l.size with h | h
    · exact h
    · simp [Array.getElem?_eq_none h] at hl
  have e : leftOf ops (l.setIfInBounds i true) = (leftOf ops l).filter fun j => !(l.setIfInBounds i true).getD j true := by
    unfold leftOf
    rw [List.filter_filter]
    refine List.filter_congr fun j _ => ?_
    by_cases hj : j = i
    · subst hj; simp [hsz]
    · have : (l.setIfInBounds i true).getD j true = l.getD j true := by
        simp [Ne.symm hj]
      rw [this, Bool.and_self]
  rw [e]
  refine List.length_filter_lt_length_iff_exists.2 ⟨i, ?_, ?_⟩
  · unfold leftOf
    rw [List.mem_filter]
    exact ⟨List.mem_range.2 hi, by rw [hl]; rfl⟩
  · simp [hsz]
theorem wpAny_inv (I : Array Bool → Act → World → Prop) (hlast : ∀ l a w, I l a w → leftOf ops l = [] ∨ Region.ready md ops l = [] → Q .normal a w)
    (hstep : ∀ l a w i, I l a w → i ∈ Region.ready md ops l → wpOp P ops Q i (I (l.setIfInBounds i true)) a w) :
    ∀ (fuel : Nat) (l : Array Bool) (a : Act) (w : World), (leftOf ops l).length ≤ fuel → I l a w → wpAny P md ops Q fuel l a w
  | 0, l, a, w, hf, h => by
    have h0 : leftOf ops l = [] := List.eq_nil_of_length_eq_zero (by omega)
    exact ⟨ready_nil h0, hlast l a w h (.inl h0)⟩
  | fuel + 1, l, a, w, hf, h =>
    ⟨fun hr => hlast l a w h (.inr hr), fun i hi => wpOp_mono (fun a' w' h' => wpAny_inv I hlast hstep fuel _ a' w' (by
      have hm := ready_mem hi
      have := left_less (ops := ops) hm.1 hm.2.1
      omega) h') (hstep l a w i h hi)⟩
theorem region_inv {id : Nat} {a : Act} {w : World} (hm : P.follows .mixedOrders = true) (I : Array Bool → Act → World → Prop)
    (hlast : ∀ l a w, I l a w → leftOf ops l = [] ∨ Region.ready .any ops l = [] → Q .normal a w)
    (hstep : ∀ l a w i, I l a w → i ∈ Region.ready .any ops l → wpOp P ops Q i (I (l.setIfInBounds i true)) a w)
    (h : I (Array.replicate ops.size false) a w.drew) : (Code.region id ops true).wp P Q a w :=
  wp_region_any hm (wpAny_inv I hlast hstep ops.size _ a _ (by
    unfold leftOf
    exact Nat.le_trans (List.length_filter_le _ _) (by simp)) h)
end
end Go.Proofs.YtljihclpgpmfeaaDoor
