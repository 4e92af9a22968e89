/- Bundle of texts: PostIn PostX PostL. -/
import Derived.Test.YtljihclpgpmfeaaDoorUa
import Derived.OrdersIn
import Derived.TacticsInMore
import Derived.Laws.AppendOwn
/- A region that draws its order, within a fence that lets every function in (a round of a range over a function): one fact for each operation's value; operations that wait for all earlier ones stand behind. No program is named. -/
namespace Go.Proofs.YtljihclpgpmfeaaDoor
set_option maxRecDepth 100000
open Go.RowKit

section
variable {F : Fence} {nn : Nat} {P : Program} {md : Region.Mode} {ops : Array Oper} {Q : Exit → Act → World → Prop}
theorem wpAnyIn_inv (I : Array Bool → Act → World → Prop) (hlast : ∀ l a w, I l a w → leftOf ops l = [] ∨ Region.ready md ops l = [] → Q .normal a w)
    (hstep : ∀ l a w i, I l a w → i ∈ Region.ready md ops l → wpOpIn F nn P ops Q i (I (l.setIfInBounds i true)) a w) :
    ∀ (fuel : Nat) (l : Array Bool) (a : Act) (w : World), (leftOf ops l).length ≤ fuel → I l a w → wpAnyIn F nn P md ops Q fuel l a w
  | 0, l, a, w, hf, h => by
    have h0 : leftOf ops l = [] := List.eq_nil_of_length_eq_zero (by omega)
    exact ⟨ready_nil h0, hlast l a w h (.inl h0)⟩
  | fuel + 1, l, a, w, hf, h =>
    ⟨fun hr => hlast l a w h (.inr hr), fun i hi => wpOpIn_mono (fun a' w' h' => wpAnyIn_inv I hlast hstep fuel _ a' w' (by
      have hm := ready_mem hi
      have := left_less (ops := ops) hm.1 hm.2.1
      omega) h') (hstep l a w i h hi)⟩
theorem regionIn_inv {id : Nat} {a : Act} {w : World} (hm : P.follows .mixedOrders = true) (I : Array Bool → Act → World → Prop)
    (hlast : ∀ l a w, I l a w → leftOf ops l = [] ∨ Region.ready .any ops l = [] → Q .normal a w)
    (hstep : ∀ l a w i, I l a w → i ∈ Region.ready .any ops l → wpOpIn F nn P ops Q i (I (l.setIfInBounds i true)) a w)
    (h : I (Array.replicate ops.size false) a w.drew) : (Code.region id ops true).wpIn F nn P Q a w :=
  wpIn_region_any hm (wpAnyIn_inv I hlast hstep ops.size _ a _ (by
    unfold leftOf
    exact Nat.le_trans (List.length_filter_le _ _) (by simp)) h)
end
/-- What waits for an operation has not come when it comes. -/
def Later (l : List Oper) (i : Nat) (a0 a : Act) : Prop := ∀ (j : Nat) (o : Oper), l[j]? = some o → depB o i = true → a.tmps.getD (dstAt l j) undef = a0.tmps.getD (dstAt l j) undef
inductive ObligIn (F : Fence) (nn : Nat) (P : Program) (l : List Oper) (tbl : List Pst) (a0 : Act) (w0 : World) : Nat → List Oper → Prop
  | nil {i} : ObligIn F nn P l tbl a0 w0 i []
  | yes {i o r} (hw : wantP tbl o = some true) (h : ∀ a W Q, Below w0.heap.size w0 W → Outer l a0 a → Deps l tbl o a W → Later l i a0 a → o.wpIn F nn P a W (Done tbl i o.dst a W) Q) (hr : ObligIn F nn P l tbl a0 w0 (i + 1) r) : ObligIn F nn P l tbl a0 w0 i (o :: r)
  | no {i o r} (hw : wantP tbl o = some false) (h : ∀ W, known tbl i undef W) (hr : ObligIn F nn P l tbl a0 w0 (i + 1) r) : ObligIn F nn P l tbl a0 w0 i (o :: r)
theorem ObligIn.at {F : Fence} {nn : Nat} {P : Program} {l : List Oper} {tbl : List Pst} {a0 : Act} {w0 : World} {i : Nat} {r : List Oper} (h : ObligIn F nn P l tbl a0 w0 i r) : ∀ (k : Nat) (o : Oper), r[k]? = some o →
    (wantP tbl o = some true ∧ ∀ a W Q, Below w0.heap.size w0 W → Outer l a0 a → Deps l tbl o a W → Later l (i + k) a0 a → o.wpIn F nn P a W (Done tbl (i + k) o.dst a W) Q) ∨ (wantP tbl o = some false ∧ ∀ W, known tbl (i + k) undef W) := by
  induction h with
  | nil => intro k o ho; simp at ho
  | yes hw h hr ih =>
    intro k o ho
    cases k with
    | zero => simp at ho; subst ho; exact .inl ⟨hw, h⟩
    | succ k => rw [← Nat.add_assoc, Nat.add_right_comm]; exact ih k o (by simpa using ho)
  | no hw h hr ih =>
    intro k o ho
    cases k with
    | zero => simp at ho; subst ho; exact .inr ⟨hw, h⟩
    | succ k => rw [← Nat.add_assoc, Nat.add_right_comm]; exact ih k o (by simpa using ho)
/-- From the n-th on each operation waits for all earlier ones. -/
def tailB (l : List Oper) (n : Nat) : Bool := backB l.toArray && decide (n ≤ l.length) && (List.range l.length).all fun i => decide (i < n) || ((l[i]?).map fun o => (List.range i).all fun j => depB o j).getD false
theorem deps_listed {l : List Oper} {ls : Array Bool} {i j : Nat} {o : Oper} (hi : i ∈ Region.ready .any l.toArray ls) (ho : l[i]? = some o) (hj : depB o j = true) : ls.getD j true = true := by
  have hm := ready_mem hi
  obtain ⟨k, hk, hj⟩ := depB_at hj
  rw [Bool.and_eq_true, beq_iff_eq] at hj
  have h2 := ready_depP hm.2.2 (by simpa using ho) k (e := o.after[k]) (Array.getElem?_eq_getElem hk) hj.2
  rw [hj.1] at h2
  exact h2
theorem frame_eq {l : List Oper} {a a0 : Act} (hl : laidB l a0.tmps.size = true) (hO : Outer l a0 a) (hS : a.tmps.size = a0.tmps.size) (hD : a.defers = a0.defers) : a = putAll (fun i => a.tmps.getD (dstAt l i) undef) 0 l a0 := by
  have h1 : a.tmps = (putAll (fun i => a.tmps.getD (dstAt l i) undef) 0 l a0).tmps := by
    refine Array.ext_getElem? fun t => ?_
    by_cases ht : outB l t = true
    · rw [hO t ht, putAll_out _ _ _ _ _ (fun o ho => outB_ne ht ho)]
    · have ht : outB l t = false := by simpa using ht
      obtain ⟨o, ho, hd⟩ := List.all_eq_false.1 ht
      obtain ⟨k, hk⟩ := List.mem_iff_getElem?.1 ho
      have hkl := (List.getElem?_eq_some_iff.1 hk).1
      obtain ⟨d, e1, e2, e3⟩ := laid_dst hl hk
      have e4 : d = t := by simpa [e1] using hd
      subst e4
      rw [putAll_in _ d 0 l a0 k o hk e1 e2 (fun j o' hj ho' => by
        obtain ⟨d', f1, f2, f3⟩ := laid_dst hl ho'
        have := laid_ne hl (List.getElem?_eq_some_iff.1 ho').1 hkl (by omega)
        rw [f1]
        intro e
        injection e with e
        exact this (by rw [f3, e3, e]))]
      have hts : d < a.tmps.size := by rw [hS]; exact e2
      rw [Nat.zero_add, e3, Array.getD_eq_getD_getElem?, Array.getElem?_eq_getElem hts]
      rfl
  have h2 : a.defers = (putAll (fun i => a.tmps.getD (dstAt l i) undef) 0 l a0).defers := by rw [defs_putAll, hD]
  cases a
  generalize hX : putAll _ 0 l a0 = X at h1 h2 ⊢
  cases X
  simp only at h1 h2
  rw [h1, h2]
theorem ext_get (ls : Array Bool) {n i : Nat} (h : i < n) : (ls.extract 0 n)[i]? = ls[i]? := by
  rw [Array.getElem?_extract]
  by_cases hi : i < ls.size
  · rw [if_pos (by omega), Nat.zero_add]
  · rw [if_neg (by omega), Array.getElem?_eq_none (by omega)]
theorem ext_set (ls : Array Bool) {n i : Nat} (h : i < n) : (ls.setIfInBounds i true).extract 0 n = (ls.extract 0 n).setIfInBounds i true := by
  refine Array.ext_getElem? fun t => ?_
  by_cases ht : t < n
  · rw [ext_get _ ht, Array.getElem?_setIfInBounds, Array.getElem?_setIfInBounds, ext_get _ ht]
    have : i < (ls.extract 0 n).size ↔ i < ls.size := by simp; omega
    simp only [this]
  · rw [Array.getElem?_eq_none (by simp; omega), Array.getElem?_eq_none (by simp; omega)]
theorem regionIn_posts {F : Fence} {nn : Nat} {P : Program} {l : List Oper} {a0 : Act} {w0 : World} {Q : Exit → Act → World → Prop} {id : Nat} (n : Nat) (hF : ∀ f, F.fn f) (hm : P.follows .mixedOrders = true) (tbl : List Pst) (hl : laidB (l.take n) a0.tmps.size = true) (ht : tailB l n = true) (hop : ObligIn F nn P (l.take n) tbl a0 w0 0 (l.take n))
    (hend : ∀ (f : Nat → Value) (W : World), Below w0.heap.size w0 W → (∀ i, i < n → known tbl i (f i) W) → wpListIn F nn P l.toArray Q (l.drop n) (putAll f 0 (l.take n) a0) W) : (Code.region id l.toArray true).wpIn F nn P Q a0 w0 := by
  unfold tailB at ht
  rw [Bool.and_eq_true, Bool.and_eq_true] at ht
  obtain ⟨⟨hback, hnl⟩, htail⟩ := ht
  have hnl : n ≤ l.length := by simpa using hnl
  have htk : (l.take n).length = n := by rw [List.length_take]; omega
  have hwait : ∀ i o j, n ≤ i → l[i]? = some o → j < i → depB o j = true := by
    intro i o j hi ho hj
    have hil := (List.getElem?_eq_some_iff.1 ho).1
    have h1 := List.all_eq_true.1 htail i (List.mem_range.2 hil)
    rw [ho] at h1
    have h2 : decide (i < n) = false := by rw [decide_eq_false_iff_not]; omega
    rw [h2, Bool.false_or] at h1
    exact List.all_eq_true.1 h1 j (List.mem_range.2 hj)
  have done : ∀ (ls : Array Bool) (a : Act) (W : World), PostI (l.take n) tbl a0 w0 (ls.extract 0 n) a W → (∀ i, i < n → ls.getD i true = true) → ls.size = l.length → wpListIn F nn P l.toArray Q (l.drop n) a W := by
    intro ls a W h hall hsz
    rw [frame_eq hl h.out h.size h.defs]
    refine hend _ W h.bel fun i hi => h.done i (by omega) ?_
    have := hall i hi
    rw [Array.getD_eq_getD_getElem?] at this ⊢
    rw [ext_get _ hi]
    exact this
  refine regionIn_inv hm (fun ls a W => ls.size = l.length ∧ ((PostI (l.take n) tbl a0 w0 (ls.extract 0 n) a W ∧ ∀ i, n ≤ i → i < l.length → ls.getD i true = false) ∨
    ∃ k, n ≤ k ∧ k ≤ l.length ∧ (∀ i, i < k → ls.getD i true = true) ∧ (∀ i, k ≤ i → i < l.length → ls.getD i true = false) ∧ wpListIn F nn P l.toArray Q (l.drop k) a W)) ?_ ?_ ?_
  · rintro ls a W ⟨hsz, h⟩ hd
    have hall := all_listed hback (by rw [hsz]; simp) hd
    rcases h with ⟨h, hno⟩ | ⟨k, h1, h2, h3, h4, h5⟩
    · have hn : n = l.length := by
        refine Classical.byContradiction fun hne => ?_
        have e1 := hno n (Nat.le_refl _) (by omega)
        have e2 := hall n (by simp; omega)
        rw [e1] at e2; cases e2
      have h6 := done ls a W h (fun i hi => hall i (by simp; omega)) hsz
      rw [List.drop_of_length_le (by omega)] at h6
      exact h6
    · have hk : k = l.length := by
        refine Classical.byContradiction fun hne => ?_
        have e1 := h4 k (Nat.le_refl _) (by omega)
        have e2 := hall k (by simp; omega)
        rw [e1] at e2; cases e2
      rw [List.drop_of_length_le (by omega)] at h5
      exact h5
  · rintro ls a W i ⟨hsz, h⟩ hi
    have hmem := ready_mem hi
    have hil : i < l.length := by simpa using hmem.1
    obtain ⟨o, ho⟩ : ∃ o, l[i]? = some o := ⟨_, List.getElem?_eq_getElem hil⟩
    have tailstep : ∀ k, k ≤ l.length → (∀ i, i < k → ls.getD i true = true) → (∀ i, k ≤ i → i < l.length → ls.getD i true = false) → n ≤ k → wpListIn F nn P l.toArray Q (l.drop k) a W → n ≤ i →
        wpOpIn F nn P l.toArray Q i (fun a W => (ls.setIfInBounds i true).size = l.length ∧ ((PostI (l.take n) tbl a0 w0 ((ls.setIfInBounds i true).extract 0 n) a W ∧ ∀ j, n ≤ j → j < l.length → (ls.setIfInBounds i true).getD j true = false) ∨
    ∃ k, n ≤ k ∧ k ≤ l.length ∧ (∀ j, j < k → (ls.setIfInBounds i true).getD j true = true) ∧ (∀ j, k ≤ j → j < l.length → (ls.setIfInBounds i true).getD j true = false) ∧ wpListIn F nn P l.toArray Q (l.drop k) a W)) a W := by
      intro k hkl hyes hno hnk hw hni
      have hik : i = k := by
        rcases Nat.lt_trichotomy i k with h1 | h1 | h1
        · have e := hyes i h1
          rw [hmem.2.1] at e; cases e
        · exact h1
        · have e := deps_listed hi ho (hwait i o k hni ho h1)
          rw [hno k (Nat.le_refl _) (by omega)] at e; cases e
      subst hik
      rw [List.drop_eq_getElem_cons hil] at hw
      have hoi : l[i] = o := by rw [List.getElem?_eq_getElem hil] at ho; injection ho
      rw [hoi] at hw
      have fin : ∀ a W, wpListIn F nn P l.toArray Q (l.drop (i + 1)) a W → (ls.setIfInBounds i true).size = l.length ∧ ((PostI (l.take n) tbl a0 w0 ((ls.setIfInBounds i true).extract 0 n) a W ∧ ∀ j, n ≤ j → j < l.length → (ls.setIfInBounds i true).getD j true = false) ∨
    ∃ k, n ≤ k ∧ k ≤ l.length ∧ (∀ j, j < k → (ls.setIfInBounds i true).getD j true = true) ∧ (∀ j, k ≤ j → j < l.length → (ls.setIfInBounds i true).getD j true = false) ∧ wpListIn F nn P l.toArray Q (l.drop k) a W) := by
        intro a W hw'
        refine ⟨by simpa using hsz, .inr ⟨i + 1, by omega, by omega, fun j hj => ?_, fun j hj hjl => ?_, hw'⟩⟩
        · by_cases e : j = i
          · subst e; rw [Array.getD_eq_getD_getElem?, Array.getElem?_setIfInBounds_self]; simp [hsz, hil]
          · rw [Array.getD_eq_getD_getElem?, Array.getElem?_setIfInBounds_ne (Ne.symm e), ← Array.getD_eq_getD_getElem?]
            exact hyes j (by omega)
        · rw [Array.getD_eq_getD_getElem?, Array.getElem?_setIfInBounds_ne (by omega), ← Array.getD_eq_getD_getElem?]
          exact hno j (by omega) hjl
      unfold wpOpIn
      have ho' : l.toArray[i]? = some o := by simpa using ho
      rw [ho']
      simp only
      unfold wpListIn at hw
      split at hw
      · rename_i hwa
        rw [if_pos hwa]
        exact Oper.wpIn_mono fin hw
      · rename_i hwa
        rw [if_neg hwa]
        exact ⟨hw.1, fin _ _ hw.2⟩
    rcases h with ⟨h, hno⟩ | ⟨k, h1, h2, h3, h4, h5⟩
    · by_cases hin : i < n
      · have hot : (l.take n)[i]? = some o := by rw [List.getElem?_take, if_pos hin]; exact ho
        have hdl : ∀ k, depB o k = true → (ls.extract 0 n).getD k true = true := by
          intro k hk
          have h2 := deps_listed hi ho hk
          rw [Array.getD_eq_getD_getElem?] at h2 ⊢
          by_cases hkn : k < n
          · rw [ext_get _ hkn]; exact h2
          · rw [Array.getElem?_eq_none (by simp; omega)]; rfl
        have hun : (ls.extract 0 n).getD i true = false := by
          have h2 := hmem.2.1
          rw [Array.getD_eq_getD_getElem?] at h2 ⊢
          rw [ext_get _ hin]; exact h2
        have hlate : Later (l.take n) i a0 a := by
          intro j o' hoj hd
          refine h.fresh j (List.getElem?_eq_some_iff.1 hoj).1 ?_
          cases hls : (ls.extract 0 n).getD j true with
          | false => rfl
          | true =>
            have := h.closed j o' hls hoj i hd
            rw [hun] at this; cases this
        have hdep : Deps (l.take n) tbl o a W := by
          intro j hj
          have h2 := deps_listed hi ho hj
          have hjl : j < i := by
            obtain ⟨k, hk, hj⟩ := depB_at hj
            rw [Bool.and_eq_true, beq_iff_eq] at hj
            have hbi := List.all_eq_true.1 hback i (List.mem_range.2 (by simpa using hil))
            rw [show l.toArray[i]? = some o by simpa using ho] at hbi
            simp only [Option.map_some, Option.getD_some, Array.all_eq_true] at hbi
            have hlt : (o.after[k]).on < i := by simpa [hj.2] using hbi k hk
            omega
          refine h.done j (by omega) ?_
          rw [Array.getD_eq_getD_getElem?] at h2 ⊢
          rw [ext_get _ (by omega)]
          exact h2
        have hwant : ∀ x, wantP tbl o = some x → Region.wanted o (yielded l.toArray a.tmps) = x := by
          intro x hx
          unfold wantP at hx
          unfold Region.wanted
          cases hg : o.guard with
          | none => rw [hg] at hx; simp at hx; simp [hx]
          | some g =>
            obtain ⟨j, y⟩ := g
            rw [hg] at hx
            simp only at hx ⊢
            split at hx
            · rename_i hj
              cases hb : (tbl.getD j Pst.none).b with
              | none => rw [hb] at hx; simp at hx
              | some z =>
                rw [hb] at hx
                simp at hx
                have hv := (tbl.getD j Pst.none).tells hb (hdep j hj)
                have hjl : j < n := by
                  obtain ⟨k, hk, hj⟩ := depB_at hj
                  rw [Bool.and_eq_true, beq_iff_eq] at hj
                  have hbi := List.all_eq_true.1 hback i (List.mem_range.2 (by simpa using hil))
                  rw [show l.toArray[i]? = some o by simpa using ho] at hbi
                  simp only [Option.map_some, Option.getD_some, Array.all_eq_true] at hbi
                  have hlt : (o.after[k]).on < i := by simpa [hj.2] using hbi k hk
                  omega
                obtain ⟨o', hlj⟩ : ∃ o', l[j]? = some o' := ⟨_, List.getElem?_eq_getElem (by omega)⟩
                have hljt : (l.take n)[j]? = some o' := by rw [List.getElem?_take, if_pos hjl]; exact hlj
                obtain ⟨d, e1, e2, e3⟩ := laid_dst hl hljt
                have hts : d < a.tmps.size := by rw [h.size]; exact e2
                have htd : a.tmps[d]? = some (.bool z) := by
                  rw [e3, Array.getD_eq_getD_getElem?, Array.getElem?_eq_getElem hts] at hv
                  rw [Array.getElem?_eq_getElem hts]
                  simpa using hv
                have hy : yielded l.toArray a.tmps j = some z := by
                  unfold yielded
                  simp [hlj, e1, htd]
                rw [hy, ← hx]
                cases z <;> cases y <;> rfl
            · cases hx
        have keep : ∀ v W', Below W.heap.size W W' → known tbl i v W' → (ls.setIfInBounds i true).size = l.length ∧ ((PostI (l.take n) tbl a0 w0 ((ls.setIfInBounds i true).extract 0 n) (a.put o.dst v) W' ∧ ∀ j, n ≤ j → j < l.length → (ls.setIfInBounds i true).getD j true = false) ∨
    ∃ k, n ≤ k ∧ k ≤ l.length ∧ (∀ j, j < k → (ls.setIfInBounds i true).getD j true = true) ∧ (∀ j, k ≤ j → j < l.length → (ls.setIfInBounds i true).getD j true = false) ∧ wpListIn F nn P l.toArray Q (l.drop k) (a.put o.dst v) W') := by
          intro v W' hb hv
          refine ⟨by simpa using hsz, .inl ⟨?_, fun j hj hjl => ?_⟩⟩
          · have h2 := h.step hl hot hb hv hdl
            rw [ext_set _ hin]
            exact h2
          · rw [Array.getD_eq_getD_getElem?, Array.getElem?_setIfInBounds_ne (by omega), ← Array.getD_eq_getD_getElem?]
            exact hno j hj hjl
        unfold wpOpIn
        rw [show l.toArray[i]? = some o by simpa using ho]
        simp only
        rcases hop.at i o hot with ⟨h1, h2⟩ | ⟨h1, h2⟩
        · rw [if_pos (hwant _ h1)]
          refine Oper.wpIn_mono ?_ (h2 a W Q h.bel h.out hdep (by rw [Nat.zero_add]; exact hlate))
          rintro a' W' ⟨v, rfl, hb, hv⟩
          rw [Nat.zero_add] at hv
          exact keep v W' hb hv
        · rw [if_neg (by rw [hwant _ h1]; exact Bool.false_ne_true)]
          have h3 := h2 W
          rw [Nat.zero_add] at h3
          exact ⟨fun f _ => hF f, keep _ _ (Below.refl _ _) h3⟩
      · have hall : ∀ j, j < n → ls.getD j true = true := fun j hj => deps_listed hi ho (hwait i o j (by omega) ho (by omega))
        exact tailstep n hnl hall hno (Nat.le_refl _) (done ls a W h hall hsz) (by omega)
    · refine tailstep k h2 h3 h4 h1 h5 ?_
      refine Classical.byContradiction fun hne => ?_
      have e := h3 i (by omega)
      rw [hmem.2.1] at e; cases e
  · refine ⟨by simp, .inl ⟨⟨below_drewN (Below.refl _ w0) 1, fun t _ => rfl, rfl, rfl, fun j hj hd => ?_, by simp, fun j _ _ => rfl, fun j o hj ho k _ => ?_⟩, fun i _ hil => by simp [hil]⟩⟩
    · rw [htk] at hj
      rw [Array.getD_eq_getD_getElem?, ext_get _ hj] at hd
      simp [show j < l.length by omega] at hd
    · have hjl := (List.getElem?_eq_some_iff.1 ho).1
      rw [htk] at hjl
      rw [Array.getD_eq_getD_getElem?, ext_get _ hjl] at hj
      simp [show j < l.length by omega] at hj
end Go.Proofs.YtljihclpgpmfeaaDoor
/- A region that draws its order, within it one append onto a row of the call's own: what was there stays, but for that row. No program is named. -/
namespace Go.Proofs.YtljihclpgpmfeaaDoor
set_option maxRecDepth 100000
open Go.RowKit

theorem grownX_below {w0 W W' : World} {x : Option Nat} (h : w0.grownBy W x) (hb : Below W.heap.size W W') : w0.grownBy W' x :=
  ⟨hb.os.trans h.os, hb.tape.trans h.tape, hb.output.trans h.output, Nat.le_trans h.size hb.size, fun k hk hx => (hb.block k (Nat.lt_of_lt_of_le hk h.size)).trans (h.block k hk hx)⟩
theorem below_grownX {w0 W W' : World} {x : Option Nat} (h : Below w0.heap.size w0 W) (hb : W.grownBy W' x) : w0.grownBy W' x :=
  ⟨hb.os.trans h.os, hb.tape.trans h.tape, hb.output.trans h.output, Nat.le_trans h.size hb.size, fun k hk hx => (hb.block k (Nat.lt_of_lt_of_le hk h.size) hx).trans (h.block k hk)⟩
theorem below_toGrown {w W : World} {x : Option Nat} (h : Below w.heap.size w W) : w.grownBy W x := ⟨h.os, h.tape, h.output, h.size, fun k hk _ => h.block k hk⟩
structure PostX (ia : Nat) (x : Option Nat) (l : List Oper) (tbl : List Pst) (a0 : Act) (w0 : World) (ls : Array Bool) (a : Act) (W : World) : Prop where
  bel : w0.grownBy W x
  intact : ls.getD ia true = false → Below w0.heap.size w0 W
  out : Outer l a0 a
  size : a.tmps.size = a0.tmps.size
  defs : a.defers = a0.defers
  done : ∀ j, j < l.length → ls.getD j true = true → known tbl j (a.tmps.getD (dstAt l j) undef) W
  lsz : ls.size = l.length
  fresh : ∀ j, j < l.length → ls.getD j true = false → a.tmps.getD (dstAt l j) undef = a0.tmps.getD (dstAt l j) undef
  closed : ∀ (j : Nat) (o : Oper), ls.getD j true = true → l[j]? = some o → ∀ k, depB o k = true → ls.getD k true = true
section
variable {P : Program} {l : List Oper} {tbl : List Pst} {a0 : Act} {w0 : World}
theorem PostX.step {ia : Nat} {x : Option Nat} {ls : Array Bool} {a : Act} {W W' : World} {i : Nat} {o : Oper} {v : Value} (h : PostX ia x l tbl a0 w0 ls a W) (hl : laidB l a0.tmps.size = true) (ho : l[i]? = some o) (hne0 : i ≠ ia) (hb : Below W.heap.size W W') (hv : known tbl i v W') (hdl : ∀ k, depB o k = true → ls.getD k true = true) :
    PostX ia x l tbl a0 w0 (ls.setIfInBounds i true) (a.put o.dst v) W' := by
  obtain ⟨d, hd, hdn, hda⟩ := laid_dst hl ho
  have hi : i < l.length := (List.getElem?_eq_some_iff.1 ho).1
  rw [hd]
  refine ⟨grownX_below h.bel hb, fun hq => (h.intact (by rw [Array.getD_eq_getD_getElem?, Array.getElem?_setIfInBounds_ne hne0, ← Array.getD_eq_getD_getElem?] at hq; exact hq)).trans (hb.mono h.bel.size), fun t ht => ?_, by simp [Act.put, h.size], by simp [Act.put, h.defs], fun j hj hlj => ?_, by simp [h.lsz], fun j hj hlj => ?_, fun j o' hlj hoj k hk => ?_⟩
  · have hne : d ≠ t := by
      intro e
      exact outB_ne ht (List.mem_of_getElem? ho) (by rw [hd, e])
    rw [← h.out t ht]
    simp [Act.put, hne]
  · by_cases hji : j = i
    · subst hji
      rw [hda, put_getD_same (by rw [h.size]; exact hdn)]
      exact hv
    · have hne : d ≠ dstAt l j := by rw [← hda]; exact fun e => laid_ne hl hi hj (Ne.symm hji) e
      rw [put_getD_other hne]
      refine (tbl.getD j Pst.none).mono (h.done j hj ?_) hb
      rw [Array.getD_eq_getD_getElem?, Array.getElem?_setIfInBounds_ne (Ne.symm hji), ← Array.getD_eq_getD_getElem?] at hlj
      exact hlj
  · have hji : j ≠ i := by
      rintro rfl
      rw [Array.getD_eq_getD_getElem?, Array.getElem?_setIfInBounds_self] at hlj
      simp [h.lsz, hi] at hlj
    have hne : d ≠ dstAt l j := by rw [← hda]; exact fun e => laid_ne hl hi hj (Ne.symm hji) e
    rw [put_getD_other hne]
    rw [Array.getD_eq_getD_getElem?, Array.getElem?_setIfInBounds_ne (Ne.symm hji), ← Array.getD_eq_getD_getElem?] at hlj
    exact h.fresh j hj hlj
  · have mono : ∀ k, ls.getD k true = true → (ls.setIfInBounds i true).getD k true = true := by
      intro k hk
      rw [Array.getD_eq_getD_getElem?, Array.getElem?_setIfInBounds]
      split
      · split <;> rfl
      · rw [← Array.getD_eq_getD_getElem?]; exact hk
    by_cases hji : j = i
    · subst hji
      rw [ho] at hoj
      injection hoj with hoj
      subst hoj
      exact mono k (hdl k hk)
    · rw [Array.getD_eq_getD_getElem?, Array.getElem?_setIfInBounds_ne (Ne.symm hji), ← Array.getD_eq_getD_getElem?] at hlj
      exact mono k (h.closed j o' hlj hoj k hk)
theorem PostX.app {ia : Nat} {x : Option Nat} {ls : Array Bool} {a : Act} {W W' : World} {i : Nat} {o : Oper} {v : Value} (h : PostX ia x l tbl a0 w0 ls a W) (hl : laidB l a0.tmps.size = true) (ho : l[i]? = some o) (hi0 : i = ia) (hun : ls.getD i true = false) (hkeep : ∀ (j : Nat) (v : Value) (V V' : World), w0.heap.size ≤ V.heap.size → V.grownBy V' x → known tbl j v V → j ≠ ia → known tbl j v V') (hb : W.grownBy W' x) (hv : known tbl i v W') (hdl : ∀ k, depB o k = true → ls.getD k true = true) :
    PostX ia x l tbl a0 w0 (ls.setIfInBounds i true) (a.put o.dst v) W' := by
  obtain ⟨d, hd, hdn, hda⟩ := laid_dst hl ho
  have hi : i < l.length := (List.getElem?_eq_some_iff.1 ho).1
  rw [hd]
  refine ⟨below_grownX (h.intact (by rw [← hi0]; exact hun)) hb, fun hq => absurd hq (by rw [← hi0, Array.getD_eq_getD_getElem?, Array.getElem?_setIfInBounds_self]; simp [h.lsz, hi]), fun t ht => ?_, by simp [Act.put, h.size], by simp [Act.put, h.defs], fun j hj hlj => ?_, by simp [h.lsz], fun j hj hlj => ?_, fun j o' hlj hoj k hk => ?_⟩
  · have hne : d ≠ t := by
      intro e
      exact outB_ne ht (List.mem_of_getElem? ho) (by rw [hd, e])
    rw [← h.out t ht]
    simp [Act.put, hne]
  · by_cases hji : j = i
    · subst hji
      rw [hda, put_getD_same (by rw [h.size]; exact hdn)]
      exact hv
    · have hne : d ≠ dstAt l j := by rw [← hda]; exact fun e => laid_ne hl hi hj (Ne.symm hji) e
      rw [put_getD_other hne]
      refine hkeep j _ W W' h.bel.size hb (h.done j hj ?_) (by rw [← hi0]; exact hji)
      rw [Array.getD_eq_getD_getElem?, Array.getElem?_setIfInBounds_ne (Ne.symm hji), ← Array.getD_eq_getD_getElem?] at hlj
      exact hlj
  · have hji : j ≠ i := by
      rintro rfl
      rw [Array.getD_eq_getD_getElem?, Array.getElem?_setIfInBounds_self] at hlj
      simp [h.lsz, hi] at hlj
    have hne : d ≠ dstAt l j := by rw [← hda]; exact fun e => laid_ne hl hi hj (Ne.symm hji) e
    rw [put_getD_other hne]
    rw [Array.getD_eq_getD_getElem?, Array.getElem?_setIfInBounds_ne (Ne.symm hji), ← Array.getD_eq_getD_getElem?] at hlj
    exact h.fresh j hj hlj
  · have mono : ∀ k, ls.getD k true = true → (ls.setIfInBounds i true).getD k true = true := by
      intro k hk
      rw [Array.getD_eq_getD_getElem?, Array.getElem?_setIfInBounds]
      split
      · split <;> rfl
      · rw [← Array.getD_eq_getD_getElem?]; exact hk
    by_cases hji : j = i
    · subst hji
      rw [ho] at hoj
      injection hoj with hoj
      subst hoj
      exact mono k (hdl k hk)
    · rw [Array.getD_eq_getD_getElem?, Array.getElem?_setIfInBounds_ne (Ne.symm hji), ← Array.getD_eq_getD_getElem?] at hlj
      exact mono k (h.closed j o' hlj hoj k hk)
end
/-- The append is done: its value is known, and what was there stays, but for the row. -/
def DoneX (x : Option Nat) (tbl : List Pst) (i : Nat) (d : Option Tmp) (a : Act) (W : World) (a' : Act) (W' : World) : Prop := ∃ v, a' = a.put d v ∧ W.grownBy W' x ∧ known tbl i v W'
inductive ObligX (ia : Nat) (x : Option Nat) (F : Fence) (nn : Nat) (P : Program) (l : List Oper) (tbl : List Pst) (a0 : Act) (w0 : World) : Nat → List Oper → Prop
  | nil {i} : ObligX ia x F nn P l tbl a0 w0 i []
  | yes {i o r} (hi : i ≠ ia) (hw : wantP tbl o = some true) (h : ∀ a W Q, w0.grownBy W x → Outer l a0 a → Deps l tbl o a W → o.wpIn F nn P a W (Done tbl i o.dst a W) Q) (hr : ObligX ia x F nn P l tbl a0 w0 (i + 1) r) : ObligX ia x F nn P l tbl a0 w0 i (o :: r)
  | app {i o r} (hi : i = ia) (hw : wantP tbl o = some true) (h : ∀ a W Q, Below w0.heap.size w0 W → Outer l a0 a → Deps l tbl o a W → o.wpIn F nn P a W (DoneX x tbl i o.dst a W) Q) (hr : ObligX ia x F nn P l tbl a0 w0 (i + 1) r) : ObligX ia x F nn P l tbl a0 w0 i (o :: r)
  | no {i o r} (hi : i ≠ ia) (hw : wantP tbl o = some false) (h : ∀ W, known tbl i undef W) (hr : ObligX ia x F nn P l tbl a0 w0 (i + 1) r) : ObligX ia x F nn P l tbl a0 w0 i (o :: r)
theorem ObligX.at {ia : Nat} {x : Option Nat} {F : Fence} {nn : Nat} {P : Program} {l : List Oper} {tbl : List Pst} {a0 : Act} {w0 : World} {i : Nat} {r : List Oper} (h : ObligX ia x F nn P l tbl a0 w0 i r) : ∀ (k : Nat) (o : Oper), r[k]? = some o →
    (i + k ≠ ia ∧ wantP tbl o = some true ∧ ∀ a W Q, w0.grownBy W x → Outer l a0 a → Deps l tbl o a W → o.wpIn F nn P a W (Done tbl (i + k) o.dst a W) Q) ∨ (i + k = ia ∧ wantP tbl o = some true ∧ ∀ a W Q, Below w0.heap.size w0 W → Outer l a0 a → Deps l tbl o a W → o.wpIn F nn P a W (DoneX x tbl (i + k) o.dst a W) Q) ∨ (i + k ≠ ia ∧ wantP tbl o = some false ∧ ∀ W, known tbl (i + k) undef W) := by
  induction h with
  | nil => intro k o ho; simp at ho
  | yes hi hw h hr ih =>
    intro k o ho
    cases k with
    | zero => simp at ho; subst ho; exact .inl ⟨hi, hw, h⟩
    | succ k => rw [← Nat.add_assoc, Nat.add_right_comm]; exact ih k o (by simpa using ho)
  | app hi hw h hr ih =>
    intro k o ho
    cases k with
    | zero => simp at ho; subst ho; exact .inr (.inl ⟨hi, hw, h⟩)
    | succ k => rw [← Nat.add_assoc, Nat.add_right_comm]; exact ih k o (by simpa using ho)
  | no hi hw h hr ih =>
    intro k o ho
    cases k with
    | zero => simp at ho; subst ho; exact .inr (.inr ⟨hi, hw, h⟩)
    | succ k => rw [← Nat.add_assoc, Nat.add_right_comm]; exact ih k o (by simpa using ho)
theorem regionIn_postsX {ia : Nat} {x : Option Nat} {F : Fence} {nn : Nat} {P : Program} {l : List Oper} {a0 : Act} {w0 : World} {Q : Exit → Act → World → Prop} {id : Nat} (n : Nat) (hF : ∀ f, F.fn f) (hm : P.follows .mixedOrders = true) (tbl : List Pst) (hl : laidB (l.take n) a0.tmps.size = true) (ht : tailB l n = true) (hkeep : ∀ (j : Nat) (v : Value) (V V' : World), w0.heap.size ≤ V.heap.size → V.grownBy V' x → known tbl j v V → j ≠ ia → known tbl j v V') (hop : ObligX ia x F nn P (l.take n) tbl a0 w0 0 (l.take n))
    (hend : ∀ (f : Nat → Value) (W : World), w0.grownBy W x → (∀ i, i < n → known tbl i (f i) W) → wpListIn F nn P l.toArray Q (l.drop n) (putAll f 0 (l.take n) a0) W) : (Code.region id l.toArray true).wpIn F nn P Q a0 w0 := by
  unfold tailB at ht
  rw [Bool.and_eq_true, Bool.and_eq_true] at ht
  obtain ⟨⟨hback, hnl⟩, htail⟩ := ht
  have hnl : n ≤ l.length := by simpa using hnl
  have htk : (l.take n).length = n := by rw [List.length_take]; omega
  have hwait : ∀ i o j, n ≤ i → l[i]? = some o → j < i → depB o j = true := by
    intro i o j hi ho hj
    have hil := (List.getElem?_eq_some_iff.1 ho).1
    have h1 := List.all_eq_true.1 htail i (List.mem_range.2 hil)
    rw [ho] at h1
    have h2 : decide (i < n) = false := by rw [decide_eq_false_iff_not]; omega
    rw [h2, Bool.false_or] at h1
    exact List.all_eq_true.1 h1 j (List.mem_range.2 hj)
  have done : ∀ (ls : Array Bool) (a : Act) (W : World), PostX ia x (l.take n) tbl a0 w0 (ls.extract 0 n) a W → (∀ i, i < n → ls.getD i true = true) → ls.size = l.length → wpListIn F nn P l.toArray Q (l.drop n) a W := by
    intro ls a W h hall hsz
    rw [frame_eq hl h.out h.size h.defs]
    refine hend _ W h.bel fun i hi => h.done i (by omega) ?_
    have := hall i hi
    rw [Array.getD_eq_getD_getElem?] at this ⊢
    rw [ext_get _ hi]
    exact this
  refine regionIn_inv hm (fun ls a W => ls.size = l.length ∧ ((PostX ia x (l.take n) tbl a0 w0 (ls.extract 0 n) a W ∧ ∀ i, n ≤ i → i < l.length → ls.getD i true = false) ∨
    ∃ k, n ≤ k ∧ k ≤ l.length ∧ (∀ i, i < k → ls.getD i true = true) ∧ (∀ i, k ≤ i → i < l.length → ls.getD i true = false) ∧ wpListIn F nn P l.toArray Q (l.drop k) a W)) ?_ ?_ ?_
  · rintro ls a W ⟨hsz, h⟩ hd
    have hall := all_listed hback (by rw [hsz]; simp) hd
    rcases h with ⟨h, hno⟩ | ⟨k, h1, h2, h3, h4, h5⟩
    · have hn : n = l.length := by
        refine Classical.byContradiction fun hne => ?_
        have e1 := hno n (Nat.le_refl _) (by omega)
        have e2 := hall n (by simp; omega)
        rw [e1] at e2; cases e2
      have h6 := done ls a W h (fun i hi => hall i (by simp; omega)) hsz
      rw [List.drop_of_length_le (by omega)] at h6
      exact h6
    · have hk : k = l.length := by
        refine Classical.byContradiction fun hne => ?_
        have e1 := h4 k (Nat.le_refl _) (by omega)
        have e2 := hall k (by simp; omega)
        rw [e1] at e2; cases e2
      rw [List.drop_of_length_le (by omega)] at h5
      exact h5
  · rintro ls a W i ⟨hsz, h⟩ hi
    have hmem := ready_mem hi
    have hil : i < l.length := by simpa using hmem.1
    obtain ⟨o, ho⟩ : ∃ o, l[i]? = some o := ⟨_, List.getElem?_eq_getElem hil⟩
    have tailstep : ∀ k, k ≤ l.length → (∀ i, i < k → ls.getD i true = true) → (∀ i, k ≤ i → i < l.length → ls.getD i true = false) → n ≤ k → wpListIn F nn P l.toArray Q (l.drop k) a W → n ≤ i →
        wpOpIn F nn P l.toArray Q i (fun a W => (ls.setIfInBounds i true).size = l.length ∧ ((PostX ia x (l.take n) tbl a0 w0 ((ls.setIfInBounds i true).extract 0 n) a W ∧ ∀ j, n ≤ j → j < l.length → (ls.setIfInBounds i true).getD j true = false) ∨
    ∃ k, n ≤ k ∧ k ≤ l.length ∧ (∀ j, j < k → (ls.setIfInBounds i true).getD j true = true) ∧ (∀ j, k ≤ j → j < l.length → (ls.setIfInBounds i true).getD j true = false) ∧ wpListIn F nn P l.toArray Q (l.drop k) a W)) a W := by
      intro k hkl hyes hno hnk hw hni
      have hik : i = k := by
        rcases Nat.lt_trichotomy i k with h1 | h1 | h1
        · have e := hyes i h1
          rw [hmem.2.1] at e; cases e
        · exact h1
        · have e := deps_listed hi ho (hwait i o k hni ho h1)
          rw [hno k (Nat.le_refl _) (by omega)] at e; cases e
      subst hik
      rw [List.drop_eq_getElem_cons hil] at hw
      have hoi : l[i] = o := by rw [List.getElem?_eq_getElem hil] at ho; injection ho
      rw [hoi] at hw
      have fin : ∀ a W, wpListIn F nn P l.toArray Q (l.drop (i + 1)) a W → (ls.setIfInBounds i true).size = l.length ∧ ((PostX ia x (l.take n) tbl a0 w0 ((ls.setIfInBounds i true).extract 0 n) a W ∧ ∀ j, n ≤ j → j < l.length → (ls.setIfInBounds i true).getD j true = false) ∨
    ∃ k, n ≤ k ∧ k ≤ l.length ∧ (∀ j, j < k → (ls.setIfInBounds i true).getD j true = true) ∧ (∀ j, k ≤ j → j < l.length → (ls.setIfInBounds i true).getD j true = false) ∧ wpListIn F nn P l.toArray Q (l.drop k) a W) := by
        intro a W hw'
        refine ⟨by simpa using hsz, .inr ⟨i + 1, by omega, by omega, fun j hj => ?_, fun j hj hjl => ?_, hw'⟩⟩
        · by_cases e : j = i
          · subst e; rw [Array.getD_eq_getD_getElem?, Array.getElem?_setIfInBounds_self]; simp [hsz, hil]
          · rw [Array.getD_eq_getD_getElem?, Array.getElem?_setIfInBounds_ne (Ne.symm e), ← Array.getD_eq_getD_getElem?]
            exact hyes j (by omega)
        · rw [Array.getD_eq_getD_getElem?, Array.getElem?_setIfInBounds_ne (by omega), ← Array.getD_eq_getD_getElem?]
          exact hno j (by omega) hjl
      unfold wpOpIn
      have ho' : l.toArray[i]? = some o := by simpa using ho
      rw [ho']
      simp only
      unfold wpListIn at hw
      split at hw
      · rename_i hwa
        rw [if_pos hwa]
        exact Oper.wpIn_mono fin hw
      · rename_i hwa
        rw [if_neg hwa]
        exact ⟨hw.1, fin _ _ hw.2⟩
    rcases h with ⟨h, hno⟩ | ⟨k, h1, h2, h3, h4, h5⟩
    · by_cases hin : i < n
      · have hot : (l.take n)[i]? = some o := by rw [List.getElem?_take, if_pos hin]; exact ho
        have hdl : ∀ k, depB o k = true → (ls.extract 0 n).getD k true = true := by
          intro k hk
          have h2 := deps_listed hi ho hk
          rw [Array.getD_eq_getD_getElem?] at h2 ⊢
          by_cases hkn : k < n
          · rw [ext_get _ hkn]; exact h2
          · rw [Array.getElem?_eq_none (by simp; omega)]; rfl
        have hun : (ls.extract 0 n).getD i true = false := by
          have h2 := hmem.2.1
          rw [Array.getD_eq_getD_getElem?] at h2 ⊢
          rw [ext_get _ hin]; exact h2
        have hdep : Deps (l.take n) tbl o a W := by
          intro j hj
          have h2 := deps_listed hi ho hj
          have hjl : j < i := by
            obtain ⟨k, hk, hj⟩ := depB_at hj
            rw [Bool.and_eq_true, beq_iff_eq] at hj
            have hbi := List.all_eq_true.1 hback i (List.mem_range.2 (by simpa using hil))
            rw [show l.toArray[i]? = some o by simpa using ho] at hbi
            simp only [Option.map_some, Option.getD_some, Array.all_eq_true] at hbi
            have hlt : (o.after[k]).on < i := by simpa [hj.2] using hbi k hk
            omega
          refine h.done j (by omega) ?_
          rw [Array.getD_eq_getD_getElem?] at h2 ⊢
          rw [ext_get _ (by omega)]
          exact h2
        have hwant : ∀ x, wantP tbl o = some x → Region.wanted o (yielded l.toArray a.tmps) = x := by
          intro x hx
          unfold wantP at hx
          unfold Region.wanted
          cases hg : o.guard with
          | none => rw [hg] at hx; simp at hx; simp [hx]
          | some g =>
            obtain ⟨j, y⟩ := g
            rw [hg] at hx
            simp only at hx ⊢
            split at hx
            · rename_i hj
              cases hb : (tbl.getD j Pst.none).b with
              | none => rw [hb] at hx; simp at hx
              | some z =>
                rw [hb] at hx
                simp at hx
                have hv := (tbl.getD j Pst.none).tells hb (hdep j hj)
                have hjl : j < n := by
                  obtain ⟨k, hk, hj⟩ := depB_at hj
                  rw [Bool.and_eq_true, beq_iff_eq] at hj
                  have hbi := List.all_eq_true.1 hback i (List.mem_range.2 (by simpa using hil))
                  rw [show l.toArray[i]? = some o by simpa using ho] at hbi
                  simp only [Option.map_some, Option.getD_some, Array.all_eq_true] at hbi
                  have hlt : (o.after[k]).on < i := by simpa [hj.2] using hbi k hk
                  omega
                obtain ⟨o', hlj⟩ : ∃ o', l[j]? = some o' := ⟨_, List.getElem?_eq_getElem (by omega)⟩
                have hljt : (l.take n)[j]? = some o' := by rw [List.getElem?_take, if_pos hjl]; exact hlj
                obtain ⟨d, e1, e2, e3⟩ := laid_dst hl hljt
                have hts : d < a.tmps.size := by rw [h.size]; exact e2
                have htd : a.tmps[d]? = some (.bool z) := by
                  rw [e3, Array.getD_eq_getD_getElem?, Array.getElem?_eq_getElem hts] at hv
                  rw [Array.getElem?_eq_getElem hts]
                  simpa using hv
                have hy : yielded l.toArray a.tmps j = some z := by
                  unfold yielded
                  simp [hlj, e1, htd]
                rw [hy, ← hx]
                cases z <;> cases y <;> rfl
            · cases hx
        have keep : i ≠ ia → ∀ v W', Below W.heap.size W W' → known tbl i v W' → (ls.setIfInBounds i true).size = l.length ∧ ((PostX ia x (l.take n) tbl a0 w0 ((ls.setIfInBounds i true).extract 0 n) (a.put o.dst v) W' ∧ ∀ j, n ≤ j → j < l.length → (ls.setIfInBounds i true).getD j true = false) ∨
    ∃ k, n ≤ k ∧ k ≤ l.length ∧ (∀ j, j < k → (ls.setIfInBounds i true).getD j true = true) ∧ (∀ j, k ≤ j → j < l.length → (ls.setIfInBounds i true).getD j true = false) ∧ wpListIn F nn P l.toArray Q (l.drop k) (a.put o.dst v) W') := by
          intro hia v W' hb hv
          refine ⟨by simpa using hsz, .inl ⟨?_, fun j hj hjl => ?_⟩⟩
          · have h2 := h.step hl hot hia hb hv hdl
            rw [ext_set _ hin]
            exact h2
          · rw [Array.getD_eq_getD_getElem?, Array.getElem?_setIfInBounds_ne (by omega), ← Array.getD_eq_getD_getElem?]
            exact hno j hj hjl
        have keepA : i = ia → ∀ v W', W.grownBy W' x → known tbl i v W' → (ls.setIfInBounds i true).size = l.length ∧ ((PostX ia x (l.take n) tbl a0 w0 ((ls.setIfInBounds i true).extract 0 n) (a.put o.dst v) W' ∧ ∀ j, n ≤ j → j < l.length → (ls.setIfInBounds i true).getD j true = false) ∨
    ∃ k, n ≤ k ∧ k ≤ l.length ∧ (∀ j, j < k → (ls.setIfInBounds i true).getD j true = true) ∧ (∀ j, k ≤ j → j < l.length → (ls.setIfInBounds i true).getD j true = false) ∧ wpListIn F nn P l.toArray Q (l.drop k) (a.put o.dst v) W') := by
          intro hia v W' hb hv
          refine ⟨by simpa using hsz, .inl ⟨?_, fun j hj hjl => ?_⟩⟩
          · have h2 := h.app hl hot hia hun hkeep hb hv hdl
            rw [ext_set _ hin]
            exact h2
          · rw [Array.getD_eq_getD_getElem?, Array.getElem?_setIfInBounds_ne (by omega), ← Array.getD_eq_getD_getElem?]
            exact hno j hj hjl
        unfold wpOpIn
        rw [show l.toArray[i]? = some o by simpa using ho]
        simp only
        rcases hop.at i o hot with ⟨h0, h1, h2⟩ | ⟨h0, h1, h2⟩ | ⟨h0, h1, h2⟩
        · rw [Nat.zero_add] at h0
          rw [if_pos (hwant _ h1)]
          refine Oper.wpIn_mono ?_ (h2 a W Q h.bel h.out hdep)
          rintro a' W' ⟨v, rfl, hb, hv⟩
          rw [Nat.zero_add] at hv
          exact keep h0 v W' hb hv
        · rw [Nat.zero_add] at h0
          rw [if_pos (hwant _ h1)]
          refine Oper.wpIn_mono ?_ (h2 a W Q (h.intact (by rw [← h0]; exact hun)) h.out hdep)
          rintro a' W' ⟨v, rfl, hb, hv⟩
          rw [Nat.zero_add] at hv
          exact keepA h0 v W' hb hv
        · rw [Nat.zero_add] at h0
          rw [if_neg (by rw [hwant _ h1]; exact Bool.false_ne_true)]
          have h3 := h2 W
          rw [Nat.zero_add] at h3
          exact ⟨fun f _ => hF f, keep h0 _ _ (Below.refl _ _) h3⟩
      · have hall : ∀ j, j < n → ls.getD j true = true := fun j hj => deps_listed hi ho (hwait i o j (by omega) ho (by omega))
        exact tailstep n hnl hall hno (Nat.le_refl _) (done ls a W h hall hsz) (by omega)
    · refine tailstep k h2 h3 h4 h1 h5 ?_
      refine Classical.byContradiction fun hne => ?_
      have e := h3 i (by omega)
      rw [hmem.2.1] at e; cases e
  · refine ⟨by simp, .inl ⟨⟨below_toGrown (below_drewN (Below.refl _ w0) 1), fun _ => below_drewN (Below.refl _ w0) 1, fun t _ => rfl, rfl, rfl, fun j hj hd => ?_, by simp, fun j _ _ => rfl, fun j o hj ho k _ => ?_⟩, fun i _ hil => by simp [hil]⟩⟩
    · rw [htk] at hj
      rw [Array.getD_eq_getD_getElem?, ext_get _ hj] at hd
      simp [show j < l.length by omega] at hd
    · have hjl := (List.getElem?_eq_some_iff.1 ho).1
      rw [htk] at hjl
      rw [Array.getD_eq_getD_getElem?, ext_get _ hjl] at hj
      simp [show j < l.length by omega] at hj
end Go.Proofs.YtljihclpgpmfeaaDoor
/- A region that draws its order, with a link between two of its operations' values. No program is named. -/
namespace Go.Proofs.YtljihclpgpmfeaaDoor
set_option maxRecDepth 100000
open Go.RowKit

/-- Behind the n-th each operation waits for the one before it; the n-th waits for all earlier ones, by at most two steps. -/
def tailL (l : List Oper) (n : Nat) : Bool := backB l.toArray && decide (n ≤ l.length) && ((List.range l.length).all fun i => decide (i ≤ n) || ((l[i]?).map fun o => depB o (i - 1)).getD false) && ((List.range n).all fun j => ((l[n]?).map fun o => depB o j || (List.range n).any fun m => depB o m && ((l[m]?).map fun o' => depB o' j).getD false).getD true)
structure PostL (i1 i3 : Nat) (Lk : Value → Value → World → Prop) (l : List Oper) (tbl : List Pst) (a0 : Act) (w0 : World) (ls : Array Bool) (a : Act) (W : World) : Prop where
  bel : Below w0.heap.size w0 W
  link : ls.getD i3 true = true → Lk (a.tmps.getD (dstAt l i1) undef) (a.tmps.getD (dstAt l i3) undef) W
  out : Outer l a0 a
  size : a.tmps.size = a0.tmps.size
  defs : a.defers = a0.defers
  done : ∀ j, j < l.length → ls.getD j true = true → known tbl j (a.tmps.getD (dstAt l j) undef) W
  lsz : ls.size = l.length
  fresh : ∀ j, j < l.length → ls.getD j true = false → a.tmps.getD (dstAt l j) undef = a0.tmps.getD (dstAt l j) undef
  closed : ∀ (j : Nat) (o : Oper), ls.getD j true = true → l[j]? = some o → ∀ k, depB o k = true → ls.getD k true = true
section
variable {P : Program} {l : List Oper} {tbl : List Pst} {a0 : Act} {w0 : World}
theorem PostL.step {i1 i3 : Nat} {Lk : Value → Value → World → Prop} {ls : Array Bool} {a : Act} {W W' : World} {i : Nat} {o : Oper} {v : Value} (h : PostL i1 i3 Lk l tbl a0 w0 ls a W) (hl : laidB l a0.tmps.size = true) (ho : l[i]? = some o) (h13 : i1 < i3) (h3 : i3 < l.length) (hun : ls.getD i true = false) (hdep : ∀ o, l[i3]? = some o → depB o i1 = true) (hmono : ∀ u v W W', Lk u v W → Below W.heap.size W W' → Lk u v W') (hne0 : i ≠ i3) (hb : Below W.heap.size W W') (hv : known tbl i v W') (hdl : ∀ k, depB o k = true → ls.getD k true = true) :
    PostL i1 i3 Lk l tbl a0 w0 (ls.setIfInBounds i true) (a.put o.dst v) W' := by
  obtain ⟨d, hd, hdn, hda⟩ := laid_dst hl ho
  have hi : i < l.length := (List.getElem?_eq_some_iff.1 ho).1
  rw [hd]
  refine ⟨h.bel.trans (hb.mono h.bel.size), fun hq => by
    rw [Array.getD_eq_getD_getElem?, Array.getElem?_setIfInBounds_ne hne0, ← Array.getD_eq_getD_getElem?] at hq
    obtain ⟨o3, ho3⟩ : ∃ o, l[i3]? = some o := ⟨_, List.getElem?_eq_getElem h3⟩
    have h1 := h.closed i3 o3 hq ho3 i1 (hdep o3 ho3)
    have hi1 : i ≠ i1 := by rintro rfl; rw [h1] at hun; cases hun
    have n1 : d ≠ dstAt l i1 := by rw [← hda]; exact laid_ne hl hi (by omega) hi1
    have n3 : d ≠ dstAt l i3 := by rw [← hda]; exact laid_ne hl hi h3 hne0
    rw [put_getD_other n1, put_getD_other n3]
    exact hmono _ _ _ _ (h.link hq) hb, fun t ht => ?_, by simp [Act.put, h.size], by simp [Act.put, h.defs], fun j hj hlj => ?_, by simp [h.lsz], fun j hj hlj => ?_, fun j o' hlj hoj k hk => ?_⟩
  · have hne : d ≠ t := by
      intro e
      exact outB_ne ht (List.mem_of_getElem? ho) (by rw [hd, e])
    rw [← h.out t ht]
    simp [Act.put, hne]
  · by_cases hji : j = i
    · subst hji
      rw [hda, put_getD_same (by rw [h.size]; exact hdn)]
      exact hv
    · have hne : d ≠ dstAt l j := by rw [← hda]; exact fun e => laid_ne hl hi hj (Ne.symm hji) e
      rw [put_getD_other hne]
      refine (tbl.getD j Pst.none).mono (h.done j hj ?_) hb
      rw [Array.getD_eq_getD_getElem?, Array.getElem?_setIfInBounds_ne (Ne.symm hji), ← Array.getD_eq_getD_getElem?] at hlj
      exact hlj
  · have hji : j ≠ i := by
      rintro rfl
      rw [Array.getD_eq_getD_getElem?, Array.getElem?_setIfInBounds_self] at hlj
      simp [h.lsz, hi] at hlj
    have hne : d ≠ dstAt l j := by rw [← hda]; exact fun e => laid_ne hl hi hj (Ne.symm hji) e
    rw [put_getD_other hne]
    rw [Array.getD_eq_getD_getElem?, Array.getElem?_setIfInBounds_ne (Ne.symm hji), ← Array.getD_eq_getD_getElem?] at hlj
    exact h.fresh j hj hlj
  · have mono : ∀ k, ls.getD k true = true → (ls.setIfInBounds i true).getD k true = true := by
      intro k hk
      rw [Array.getD_eq_getD_getElem?, Array.getElem?_setIfInBounds]
      split
      · split <;> rfl
      · rw [← Array.getD_eq_getD_getElem?]; exact hk
    by_cases hji : j = i
    · subst hji
      rw [ho] at hoj
      injection hoj with hoj
      subst hoj
      exact mono k (hdl k hk)
    · rw [Array.getD_eq_getD_getElem?, Array.getElem?_setIfInBounds_ne (Ne.symm hji), ← Array.getD_eq_getD_getElem?] at hlj
      exact mono k (h.closed j o' hlj hoj k hk)
theorem PostL.lnk {i1 i3 : Nat} {Lk : Value → Value → World → Prop} {ls : Array Bool} {a : Act} {W W' : World} {i : Nat} {o : Oper} {v : Value} (h : PostL i1 i3 Lk l tbl a0 w0 ls a W) (hl : laidB l a0.tmps.size = true) (ho : l[i]? = some o) (h13 : i1 < i3) (hi0 : i = i3) (hlk : Lk (a.tmps.getD (dstAt l i1) undef) v W') (hb : Below W.heap.size W W') (hv : known tbl i v W') (hdl : ∀ k, depB o k = true → ls.getD k true = true) :
    PostL i1 i3 Lk l tbl a0 w0 (ls.setIfInBounds i true) (a.put o.dst v) W' := by
  obtain ⟨d, hd, hdn, hda⟩ := laid_dst hl ho
  have hi : i < l.length := (List.getElem?_eq_some_iff.1 ho).1
  rw [hd]
  refine ⟨h.bel.trans (hb.mono h.bel.size), fun hq => by
    subst hi0
    have n1 : d ≠ dstAt l i1 := by rw [← hda]; exact laid_ne hl hi (by omega) (by omega)
    rw [put_getD_other n1, hda, put_getD_same (by rw [h.size]; exact hdn)]
    exact hlk, fun t ht => ?_, by simp [Act.put, h.size], by simp [Act.put, h.defs], fun j hj hlj => ?_, by simp [h.lsz], fun j hj hlj => ?_, fun j o' hlj hoj k hk => ?_⟩
  · have hne : d ≠ t := by
      intro e
      exact outB_ne ht (List.mem_of_getElem? ho) (by rw [hd, e])
    rw [← h.out t ht]
    simp [Act.put, hne]
  · by_cases hji : j = i
    · subst hji
      rw [hda, put_getD_same (by rw [h.size]; exact hdn)]
      exact hv
    · have hne : d ≠ dstAt l j := by rw [← hda]; exact fun e => laid_ne hl hi hj (Ne.symm hji) e
      rw [put_getD_other hne]
      refine (tbl.getD j Pst.none).mono (h.done j hj ?_) hb
      rw [Array.getD_eq_getD_getElem?, Array.getElem?_setIfInBounds_ne (Ne.symm hji), ← Array.getD_eq_getD_getElem?] at hlj
      exact hlj
  · have hji : j ≠ i := by
      rintro rfl
      rw [Array.getD_eq_getD_getElem?, Array.getElem?_setIfInBounds_self] at hlj
      simp [h.lsz, hi] at hlj
    have hne : d ≠ dstAt l j := by rw [← hda]; exact fun e => laid_ne hl hi hj (Ne.symm hji) e
    rw [put_getD_other hne]
    rw [Array.getD_eq_getD_getElem?, Array.getElem?_setIfInBounds_ne (Ne.symm hji), ← Array.getD_eq_getD_getElem?] at hlj
    exact h.fresh j hj hlj
  · have mono : ∀ k, ls.getD k true = true → (ls.setIfInBounds i true).getD k true = true := by
      intro k hk
      rw [Array.getD_eq_getD_getElem?, Array.getElem?_setIfInBounds]
      split
      · split <;> rfl
      · rw [← Array.getD_eq_getD_getElem?]; exact hk
    by_cases hji : j = i
    · subst hji
      rw [ho] at hoj
      injection hoj with hoj
      subst hoj
      exact mono k (hdl k hk)
    · rw [Array.getD_eq_getD_getElem?, Array.getElem?_setIfInBounds_ne (Ne.symm hji), ← Array.getD_eq_getD_getElem?] at hlj
      exact mono k (h.closed j o' hlj hoj k hk)
end
/-- The later of the two is done: its value is known, and what binds it to the other. -/
def DoneL (Lk : Value → Value → World → Prop) (u : Value) (tbl : List Pst) (i : Nat) (d : Option Tmp) (a : Act) (W : World) (a' : Act) (W' : World) : Prop := ∃ v, a' = a.put d v ∧ Below W.heap.size W W' ∧ known tbl i v W' ∧ Lk u v W'
inductive ObligL (i1 i3 : Nat) (Lk : Value → Value → World → Prop) (F : Fence) (nn : Nat) (P : Program) (l : List Oper) (tbl : List Pst) (a0 : Act) (w0 : World) : Nat → List Oper → Prop
  | nil {i} : ObligL i1 i3 Lk F nn P l tbl a0 w0 i []
  | yes {i o r} (hi : i ≠ i3) (hw : wantP tbl o = some true) (h : ∀ a W Q, Below w0.heap.size w0 W → Outer l a0 a → Deps l tbl o a W → (depB o i3 = true → Lk (a.tmps.getD (dstAt l i1) undef) (a.tmps.getD (dstAt l i3) undef) W) → o.wpIn F nn P a W (Done tbl i o.dst a W) Q) (hr : ObligL i1 i3 Lk F nn P l tbl a0 w0 (i + 1) r) : ObligL i1 i3 Lk F nn P l tbl a0 w0 i (o :: r)
  | lnk {i o r} (hi : i = i3) (hw : wantP tbl o = some true) (h : ∀ a W Q, Below w0.heap.size w0 W → Outer l a0 a → Deps l tbl o a W → o.wpIn F nn P a W (DoneL Lk (a.tmps.getD (dstAt l i1) undef) tbl i o.dst a W) Q) (hr : ObligL i1 i3 Lk F nn P l tbl a0 w0 (i + 1) r) : ObligL i1 i3 Lk F nn P l tbl a0 w0 i (o :: r)
  | no {i o r} (hi : i ≠ i3) (hw : wantP tbl o = some false) (h : ∀ W, known tbl i undef W) (hr : ObligL i1 i3 Lk F nn P l tbl a0 w0 (i + 1) r) : ObligL i1 i3 Lk F nn P l tbl a0 w0 i (o :: r)
theorem ObligL.at {i1 i3 : Nat} {Lk : Value → Value → World → Prop} {F : Fence} {nn : Nat} {P : Program} {l : List Oper} {tbl : List Pst} {a0 : Act} {w0 : World} {i : Nat} {r : List Oper} (h : ObligL i1 i3 Lk F nn P l tbl a0 w0 i r) : ∀ (k : Nat) (o : Oper), r[k]? = some o →
    (i + k ≠ i3 ∧ wantP tbl o = some true ∧ ∀ a W Q, Below w0.heap.size w0 W → Outer l a0 a → Deps l tbl o a W → (depB o i3 = true → Lk (a.tmps.getD (dstAt l i1) undef) (a.tmps.getD (dstAt l i3) undef) W) → o.wpIn F nn P a W (Done tbl (i + k) o.dst a W) Q) ∨ (i + k = i3 ∧ wantP tbl o = some true ∧ ∀ a W Q, Below w0.heap.size w0 W → Outer l a0 a → Deps l tbl o a W → o.wpIn F nn P a W (DoneL Lk (a.tmps.getD (dstAt l i1) undef) tbl (i + k) o.dst a W) Q) ∨ (i + k ≠ i3 ∧ wantP tbl o = some false ∧ ∀ W, known tbl (i + k) undef W) := by
  induction h with
  | nil => intro k o ho; simp at ho
  | yes hi hw h hr ih =>
    intro k o ho
    cases k with
    | zero => simp at ho; subst ho; exact .inl ⟨hi, hw, h⟩
    | succ k => rw [← Nat.add_assoc, Nat.add_right_comm]; exact ih k o (by simpa using ho)
  | lnk hi hw h hr ih =>
    intro k o ho
    cases k with
    | zero => simp at ho; subst ho; exact .inr (.inl ⟨hi, hw, h⟩)
    | succ k => rw [← Nat.add_assoc, Nat.add_right_comm]; exact ih k o (by simpa using ho)
  | no hi hw h hr ih =>
    intro k o ho
    cases k with
    | zero => simp at ho; subst ho; exact .inr (.inr ⟨hi, hw, h⟩)
    | succ k => rw [← Nat.add_assoc, Nat.add_right_comm]; exact ih k o (by simpa using ho)
theorem regionIn_postsL {i1 i3 : Nat} {Lk : Value → Value → World → Prop} {F : Fence} {nn : Nat} {P : Program} {l : List Oper} {a0 : Act} {w0 : World} {Q : Exit → Act → World → Prop} {id : Nat} (n : Nat) (hF : ∀ f, F.fn f) (hm : P.follows .mixedOrders = true) (tbl : List Pst) (hl : laidB (l.take n) a0.tmps.size = true) (ht : tailL l n = true) (h13 : i1 < i3) (h3n : i3 < n) (hdep13 : ∀ o, (l.take n)[i3]? = some o → depB o i1 = true) (hmono : ∀ u v W W', Lk u v W → Below W.heap.size W W' → Lk u v W') (hop : ObligL i1 i3 Lk F nn P (l.take n) tbl a0 w0 0 (l.take n))
    (hend : ∀ (f : Nat → Value) (W : World), Below w0.heap.size w0 W → (∀ i, i < n → known tbl i (f i) W) → Lk (f i1) (f i3) W → wpListIn F nn P l.toArray Q (l.drop n) (putAll f 0 (l.take n) a0) W) : (Code.region id l.toArray true).wpIn F nn P Q a0 w0 := by
  unfold tailL at ht
  rw [Bool.and_eq_true, Bool.and_eq_true, Bool.and_eq_true] at ht
  obtain ⟨⟨⟨hback, hnl⟩, htail⟩, hcov0⟩ := ht
  have hnl : n ≤ l.length := by simpa using hnl
  have htk : (l.take n).length = n := by rw [List.length_take]; omega
  have hprev : ∀ i o, n < i → l[i]? = some o → depB o (i - 1) = true := by
    intro i o hi ho
    have hil := (List.getElem?_eq_some_iff.1 ho).1
    have h1 := List.all_eq_true.1 htail i (List.mem_range.2 hil)
    rw [ho] at h1
    have h2 : decide (i ≤ n) = false := by rw [decide_eq_false_iff_not]; omega
    rw [h2, Bool.false_or] at h1
    exact h1
  have hcov : ∀ o j, l[n]? = some o → j < n → depB o j = true ∨ ∃ m o', m < n ∧ depB o m = true ∧ l[m]? = some o' ∧ depB o' j = true := by
    intro o j ho hj
    have h1 := List.all_eq_true.1 hcov0 j (List.mem_range.2 hj)
    rw [ho] at h1
    have h1 : (depB o j || (List.range n).any fun m => depB o m && ((l[m]?).map fun o' => depB o' j).getD false) = true := h1
    rw [Bool.or_eq_true] at h1
    rcases h1 with h1 | h1
    · exact .inl h1
    · obtain ⟨m, hm1, hm2⟩ := List.any_eq_true.1 h1
      rw [Bool.and_eq_true] at hm2
      have hmn := List.mem_range.1 hm1
      obtain ⟨o', ho'⟩ : ∃ o', l[m]? = some o' := ⟨_, List.getElem?_eq_getElem (by omega)⟩
      have h3 := hm2.2
      rw [ho'] at h3
      exact .inr ⟨m, o', hmn, hm2.1, ho', h3⟩
  have done : ∀ (ls : Array Bool) (a : Act) (W : World), PostL i1 i3 Lk (l.take n) tbl a0 w0 (ls.extract 0 n) a W → (∀ i, i < n → ls.getD i true = true) → ls.size = l.length → wpListIn F nn P l.toArray Q (l.drop n) a W := by
    intro ls a W h hall hsz
    rw [frame_eq hl h.out h.size h.defs]
    have hin : ∀ i, i < n → (ls.extract 0 n).getD i true = true := by
      intro i hi
      have := hall i hi
      rw [Array.getD_eq_getD_getElem?] at this ⊢
      rw [ext_get _ hi]
      exact this
    exact hend _ W h.bel (fun i hi => h.done i (by omega) (hin i hi)) (h.link (hin i3 h3n))
  refine regionIn_inv hm (fun ls a W => ls.size = l.length ∧ ((PostL i1 i3 Lk (l.take n) tbl a0 w0 (ls.extract 0 n) a W ∧ ∀ i, n ≤ i → i < l.length → ls.getD i true = false) ∨
    ∃ k, n ≤ k ∧ k ≤ l.length ∧ (∀ i, i < k → ls.getD i true = true) ∧ (∀ i, k ≤ i → i < l.length → ls.getD i true = false) ∧ wpListIn F nn P l.toArray Q (l.drop k) a W)) ?_ ?_ ?_
  · rintro ls a W ⟨hsz, h⟩ hd
    have hall := all_listed hback (by rw [hsz]; simp) hd
    rcases h with ⟨h, hno⟩ | ⟨k, h1, h2, h3, h4, h5⟩
    · have hn : n = l.length := by
        refine Classical.byContradiction fun hne => ?_
        have e1 := hno n (Nat.le_refl _) (by omega)
        have e2 := hall n (by simp; omega)
        rw [e1] at e2; cases e2
      have h6 := done ls a W h (fun i hi => hall i (by simp; omega)) hsz
      rw [List.drop_of_length_le (by omega)] at h6
      exact h6
    · have hk : k = l.length := by
        refine Classical.byContradiction fun hne => ?_
        have e1 := h4 k (Nat.le_refl _) (by omega)
        have e2 := hall k (by simp; omega)
        rw [e1] at e2; cases e2
      rw [List.drop_of_length_le (by omega)] at h5
      exact h5
  · rintro ls a W i ⟨hsz, h⟩ hi
    have hmem := ready_mem hi
    have hil : i < l.length := by simpa using hmem.1
    obtain ⟨o, ho⟩ : ∃ o, l[i]? = some o := ⟨_, List.getElem?_eq_getElem hil⟩
    have tailstep : ∀ k, k ≤ l.length → (∀ i, i < k → ls.getD i true = true) → (∀ i, k ≤ i → i < l.length → ls.getD i true = false) → n ≤ k → wpListIn F nn P l.toArray Q (l.drop k) a W → n ≤ i →
        wpOpIn F nn P l.toArray Q i (fun a W => (ls.setIfInBounds i true).size = l.length ∧ ((PostL i1 i3 Lk (l.take n) tbl a0 w0 ((ls.setIfInBounds i true).extract 0 n) a W ∧ ∀ j, n ≤ j → j < l.length → (ls.setIfInBounds i true).getD j true = false) ∨
    ∃ k, n ≤ k ∧ k ≤ l.length ∧ (∀ j, j < k → (ls.setIfInBounds i true).getD j true = true) ∧ (∀ j, k ≤ j → j < l.length → (ls.setIfInBounds i true).getD j true = false) ∧ wpListIn F nn P l.toArray Q (l.drop k) a W)) a W := by
      intro k hkl hyes hno hnk hw hni
      have hik : i = k := by
        rcases Nat.lt_trichotomy i k with h1 | h1 | h1
        · have e := hyes i h1
          rw [hmem.2.1] at e; cases e
        · exact h1
        · have e := deps_listed hi ho (hprev i o (by omega) ho)
          rw [hno (i - 1) (by omega) (by omega)] at e; cases e
      subst hik
      rw [List.drop_eq_getElem_cons hil] at hw
      have hoi : l[i] = o := by rw [List.getElem?_eq_getElem hil] at ho; injection ho
      rw [hoi] at hw
      have fin : ∀ a W, wpListIn F nn P l.toArray Q (l.drop (i + 1)) a W → (ls.setIfInBounds i true).size = l.length ∧ ((PostL i1 i3 Lk (l.take n) tbl a0 w0 ((ls.setIfInBounds i true).extract 0 n) a W ∧ ∀ j, n ≤ j → j < l.length → (ls.setIfInBounds i true).getD j true = false) ∨
    ∃ k, n ≤ k ∧ k ≤ l.length ∧ (∀ j, j < k → (ls.setIfInBounds i true).getD j true = true) ∧ (∀ j, k ≤ j → j < l.length → (ls.setIfInBounds i true).getD j true = false) ∧ wpListIn F nn P l.toArray Q (l.drop k) a W) := by
        intro a W hw'
        refine ⟨by simpa using hsz, .inr ⟨i + 1, by omega, by omega, fun j hj => ?_, fun j hj hjl => ?_, hw'⟩⟩
        · by_cases e : j = i
          · subst e; rw [Array.getD_eq_getD_getElem?, Array.getElem?_setIfInBounds_self]; simp [hsz, hil]
          · rw [Array.getD_eq_getD_getElem?, Array.getElem?_setIfInBounds_ne (Ne.symm e), ← Array.getD_eq_getD_getElem?]
            exact hyes j (by omega)
        · rw [Array.getD_eq_getD_getElem?, Array.getElem?_setIfInBounds_ne (by omega), ← Array.getD_eq_getD_getElem?]
          exact hno j (by omega) hjl
      unfold wpOpIn
      have ho' : l.toArray[i]? = some o := by simpa using ho
      rw [ho']
      simp only
      unfold wpListIn at hw
      split at hw
      · rename_i hwa
        rw [if_pos hwa]
        exact Oper.wpIn_mono fin hw
      · rename_i hwa
        rw [if_neg hwa]
        exact ⟨hw.1, fin _ _ hw.2⟩
    rcases h with ⟨h, hno⟩ | ⟨k, h1, h2, h3, h4, h5⟩
    · by_cases hin : i < n
      · have hot : (l.take n)[i]? = some o := by rw [List.getElem?_take, if_pos hin]; exact ho
        have hdl : ∀ k, depB o k = true → (ls.extract 0 n).getD k true = true := by
          intro k hk
          have h2 := deps_listed hi ho hk
          rw [Array.getD_eq_getD_getElem?] at h2 ⊢
          by_cases hkn : k < n
          · rw [ext_get _ hkn]; exact h2
          · rw [Array.getElem?_eq_none (by simp; omega)]; rfl
        have hun : (ls.extract 0 n).getD i true = false := by
          have h2 := hmem.2.1
          rw [Array.getD_eq_getD_getElem?] at h2 ⊢
          rw [ext_get _ hin]; exact h2
        have hdep : Deps (l.take n) tbl o a W := by
          intro j hj
          have h2 := deps_listed hi ho hj
          have hjl : j < i := by
            obtain ⟨k, hk, hj⟩ := depB_at hj
            rw [Bool.and_eq_true, beq_iff_eq] at hj
            have hbi := List.all_eq_true.1 hback i (List.mem_range.2 (by simpa using hil))
            rw [show l.toArray[i]? = some o by simpa using ho] at hbi
            simp only [Option.map_some, Option.getD_some, Array.all_eq_true] at hbi
            have hlt : (o.after[k]).on < i := by simpa [hj.2] using hbi k hk
            omega
          refine h.done j (by omega) ?_
          rw [Array.getD_eq_getD_getElem?] at h2 ⊢
          rw [ext_get _ (by omega)]
          exact h2
        have hwant : ∀ x, wantP tbl o = some x → Region.wanted o (yielded l.toArray a.tmps) = x := by
          intro x hx
          unfold wantP at hx
          unfold Region.wanted
          cases hg : o.guard with
          | none => rw [hg] at hx; simp at hx; simp [hx]
          | some g =>
            obtain ⟨j, y⟩ := g
            rw [hg] at hx
            simp only at hx ⊢
            split at hx
            · rename_i hj
              cases hb : (tbl.getD j Pst.none).b with
              | none => rw [hb] at hx; simp at hx
              | some z =>
                rw [hb] at hx
                simp at hx
                have hv := (tbl.getD j Pst.none).tells hb (hdep j hj)
                have hjl : j < n := by
                  obtain ⟨k, hk, hj⟩ := depB_at hj
                  rw [Bool.and_eq_true, beq_iff_eq] at hj
                  have hbi := List.all_eq_true.1 hback i (List.mem_range.2 (by simpa using hil))
                  rw [show l.toArray[i]? = some o by simpa using ho] at hbi
                  simp only [Option.map_some, Option.getD_some, Array.all_eq_true] at hbi
                  have hlt : (o.after[k]).on < i := by simpa [hj.2] using hbi k hk
                  omega
                obtain ⟨o', hlj⟩ : ∃ o', l[j]? = some o' := ⟨_, List.getElem?_eq_getElem (by omega)⟩
                have hljt : (l.take n)[j]? = some o' := by rw [List.getElem?_take, if_pos hjl]; exact hlj
                obtain ⟨d, e1, e2, e3⟩ := laid_dst hl hljt
                have hts : d < a.tmps.size := by rw [h.size]; exact e2
                have htd : a.tmps[d]? = some (.bool z) := by
                  rw [e3, Array.getD_eq_getD_getElem?, Array.getElem?_eq_getElem hts] at hv
                  rw [Array.getElem?_eq_getElem hts]
                  simpa using hv
                have hy : yielded l.toArray a.tmps j = some z := by
                  unfold yielded
                  simp [hlj, e1, htd]
                rw [hy, ← hx]
                cases z <;> cases y <;> rfl
            · cases hx
        have keep : i ≠ i3 → ∀ v W', Below W.heap.size W W' → known tbl i v W' → (ls.setIfInBounds i true).size = l.length ∧ ((PostL i1 i3 Lk (l.take n) tbl a0 w0 ((ls.setIfInBounds i true).extract 0 n) (a.put o.dst v) W' ∧ ∀ j, n ≤ j → j < l.length → (ls.setIfInBounds i true).getD j true = false) ∨
    ∃ k, n ≤ k ∧ k ≤ l.length ∧ (∀ j, j < k → (ls.setIfInBounds i true).getD j true = true) ∧ (∀ j, k ≤ j → j < l.length → (ls.setIfInBounds i true).getD j true = false) ∧ wpListIn F nn P l.toArray Q (l.drop k) (a.put o.dst v) W') := by
          intro hia v W' hb hv
          refine ⟨by simpa using hsz, .inl ⟨?_, fun j hj hjl => ?_⟩⟩
          · have h2 := h.step hl hot h13 (by omega) hun hdep13 hmono hia hb hv hdl
            rw [ext_set _ hin]
            exact h2
          · rw [Array.getD_eq_getD_getElem?, Array.getElem?_setIfInBounds_ne (by omega), ← Array.getD_eq_getD_getElem?]
            exact hno j hj hjl
        have keepL : i = i3 → ∀ v W', Lk (a.tmps.getD (dstAt (l.take n) i1) undef) v W' → Below W.heap.size W W' → known tbl i v W' → (ls.setIfInBounds i true).size = l.length ∧ ((PostL i1 i3 Lk (l.take n) tbl a0 w0 ((ls.setIfInBounds i true).extract 0 n) (a.put o.dst v) W' ∧ ∀ j, n ≤ j → j < l.length → (ls.setIfInBounds i true).getD j true = false) ∨
    ∃ k, n ≤ k ∧ k ≤ l.length ∧ (∀ j, j < k → (ls.setIfInBounds i true).getD j true = true) ∧ (∀ j, k ≤ j → j < l.length → (ls.setIfInBounds i true).getD j true = false) ∧ wpListIn F nn P l.toArray Q (l.drop k) (a.put o.dst v) W') := by
          intro hia v W' hlk hb hv
          refine ⟨by simpa using hsz, .inl ⟨?_, fun j hj hjl => ?_⟩⟩
          · have h2 := h.lnk hl hot h13 hia hlk hb hv hdl
            rw [ext_set _ hin]
            exact h2
          · rw [Array.getD_eq_getD_getElem?, Array.getElem?_setIfInBounds_ne (by omega), ← Array.getD_eq_getD_getElem?]
            exact hno j hj hjl
        unfold wpOpIn
        rw [show l.toArray[i]? = some o by simpa using ho]
        simp only
        rcases hop.at i o hot with ⟨h0, h1, h2⟩ | ⟨h0, h1, h2⟩ | ⟨h0, h1, h2⟩
        · rw [Nat.zero_add] at h0
          rw [if_pos (hwant _ h1)]
          refine Oper.wpIn_mono ?_ (h2 a W Q h.bel h.out hdep fun hd => h.link (by
            have h3 := deps_listed hi ho hd
            rw [Array.getD_eq_getD_getElem?] at h3 ⊢
            rw [ext_get _ h3n]
            exact h3))
          rintro a' W' ⟨v, rfl, hb, hv⟩
          rw [Nat.zero_add] at hv
          exact keep h0 v W' hb hv
        · rw [Nat.zero_add] at h0
          rw [if_pos (hwant _ h1)]
          refine Oper.wpIn_mono ?_ (h2 a W Q h.bel h.out hdep)
          rintro a' W' ⟨v, rfl, hb, hv, hlk⟩
          rw [Nat.zero_add] at hv
          exact keepL h0 v W' hlk hb hv
        · rw [Nat.zero_add] at h0
          rw [if_neg (by rw [hwant _ h1]; exact Bool.false_ne_true)]
          have h3 := h2 W
          rw [Nat.zero_add] at h3
          exact ⟨fun f _ => hF f, keep h0 _ _ (Below.refl _ _) h3⟩
      · have hin2 : i = n := by
          refine Classical.byContradiction fun hne => ?_
          have e := deps_listed hi ho (hprev i o (by omega) ho)
          rw [hno (i - 1) (by omega) (by omega)] at e; cases e
        have hall : ∀ j, j < n → ls.getD j true = true := by
          intro j hj
          rcases hcov o j (by rw [← hin2]; exact ho) hj with h1 | ⟨m, o', hmn, h1, ho', h2⟩
          · exact deps_listed hi ho h1
          · have e := deps_listed hi ho h1
            have e2 : (ls.extract 0 n).getD m true = true := by
              rw [Array.getD_eq_getD_getElem?] at e ⊢
              rw [ext_get _ hmn]; exact e
            have e3 := h.closed m o' e2 (by rw [List.getElem?_take, if_pos hmn]; exact ho') j h2
            rw [Array.getD_eq_getD_getElem?] at e3 ⊢
            rw [ext_get _ hj] at e3; exact e3
        exact tailstep n hnl hall hno (Nat.le_refl _) (done ls a W h hall hsz) (by omega)
    · refine tailstep k h2 h3 h4 h1 h5 ?_
      refine Classical.byContradiction fun hne => ?_
      have e := h3 i (by omega)
      rw [hmem.2.1] at e; cases e
  · refine ⟨by simp, .inl ⟨⟨below_drewN (Below.refl _ w0) 1, fun hq => (by
    rw [Array.getD_eq_getD_getElem?, ext_get _ h3n] at hq
    simp [show i3 < l.length by omega] at hq), fun t _ => rfl, rfl, rfl, fun j hj hd => ?_, by simp, fun j _ _ => rfl, fun j o hj ho k _ => ?_⟩, fun i _ hil => by simp [hil]⟩⟩
    · rw [htk] at hj
      rw [Array.getD_eq_getD_getElem?, ext_get _ hj] at hd
      simp [show j < l.length by omega] at hd
    · have hjl := (List.getElem?_eq_some_iff.1 ho).1
      rw [htk] at hjl
      rw [Array.getD_eq_getD_getElem?, ext_get _ hjl] at hj
      simp [show j < l.length by omega] at hj
end Go.Proofs.YtljihclpgpmfeaaDoor
