/- A region that draws its order, with a link between two of its operations' values. No program is named. -/
import Derived.Test.YtljihclpgpmfeaaDoorPostIn
namespace Go.Proofs.YtljihclpgpmfeaaDoor
set_option maxRecDepth 100000
open Go.RowKit

/-- Behind the n-th each operation waits for the one before it; the n-th waits for all earlier ones, by at most two steps. -/
def tailL (l : List Oper) (n : Nat) : Bool := backB l.toArray && decide (n ≤ l.length) && ((List.range l.length).all fun i => decide (i ≤ n) || ((l[i]?).map fun o => depB o (i - 1)).getD false) && ((List.range n).all fun j => ((l[n]?).map fun o => depB o j || (List.range n).any fun m => depB o m && ((l[m]?).map fun o' => depB o' j).getD false).getD true)
structure PostL (i1 i3 : Nat) (Lk : Value → Value → World → Prop) (l : List Oper) (tbl : List Pst) (a0 : Act) (w0 : World) (ls : Array Bool) (a : Act) (W : World) : Prop where
  bel : Below w0.heap.size w0 W
  link : ls.getD i3 true = true → Lk (a.tmps.getD (dstAt l i1) undef) (a.tmps.getD (dstAt l i3) undef) W
  out : Outer l a0 a
  size : a.tmps.size = a0.tmps.size
  defs : a.defers = a0.defers
  done : ∀ j, j < l.length → ls.getD j true = true → known tbl j (a.tmps.getD (dstAt l j) undef) W
  lsz : ls.size = l.length
  fresh : ∀ j, j < l.length → ls.getD j true = false → a.tmps.getD (dstAt l j) undef = a0.tmps.getD (dstAt l j) undef
  closed : ∀ (j : Nat) (o : Oper), ls.getD j true = true → l[j]? = some o → ∀ k, depB o k = true → ls.getD k true = true
section
variable {P : Program} {l : List Oper} {tbl : List Pst} {a0 : Act} {w0 : World}
theorem PostL.step {i1 i3 : Nat} {Lk : Value → Value → World → Prop} {ls : Array Bool} {a : Act} {W W' : World} {i : Nat} {o : Oper} {v : Value} (h : PostL i1 i3 Lk l tbl a0 w0 ls a W) (hl : laidB l a0.tmps.size = true) (ho : l[i]? = some o) (h13 : i1 < i3) (h3 : i3 < l.length) (hun : ls.getD i true = false) (hdep : ∀ o, l[i3]? = some o → depB o i1 = true) (hmono : ∀ u v W W', Lk u v W → Below W.heap.size W W' → Lk u v W') (hne0 : i ≠ i3) (hb : Below W.heap.size W W') (hv : known tbl i v W') (hdl : ∀ k, depB o k = true → ls.getD k true = true) :
    PostL i1 i3 Lk l tbl a0 w0 (ls.setIfInBounds i true) (a.put o.dst v) W' := by
  obtain ⟨d, hd, hdn, hda⟩ := laid_dst hl ho
  have hi : i < l.length := (List.getElem?_eq_some_iff.1 ho).1
  rw [hd]
  refine ⟨h.bel.trans (hb.mono h.bel.size), fun hq => by
    rw [Array.getD_eq_getD_getElem?, Array.getElem?_setIfInBounds_ne hne0, ← Array.getD_eq_getD_getElem?] at hq
    obtain ⟨o3, ho3⟩ : ∃ o, l[i3]? = some o := ⟨_, List.getElem?_eq_getElem h3⟩
    have h1 := h.closed i3 o3 hq ho3 i1 (hdep o3 ho3)
    have hi1 : i ≠ i1 := by rintro rfl; rw [h1] at hun; cases hun
    have n1 : d ≠ dstAt l i1 := by rw [← hda]; exact laid_ne hl hi (by omega) hi1
    have n3 : d ≠ dstAt l i3 := by rw [← hda]; exact laid_ne hl hi h3 hne0
    rw [put_getD_other n1, put_getD_other n3]
    exact hmono _ _ _ _ (h.link hq) hb, fun t ht => ?_, by simp [Act.put, h.size], by simp [Act.put, h.defs], fun j hj hlj => ?_, by simp [h.lsz], fun j hj hlj => ?_, fun j o' hlj hoj k hk => ?_⟩
  · have hne : d ≠ t := by
      intro e
      exact outB_ne ht (List.mem_of_getElem? ho) (by rw [hd, e])
    rw [← h.out t ht]
    simp [Act.put, hne]
  · by_cases hji : j = i
    · subst hji
      rw [hda, put_getD_same (by rw [h.size]; exact hdn)]
      exact hv
    · have hne : d ≠ dstAt l j := by rw [← hda]; exact fun e => laid_ne hl hi hj (Ne.symm hji) e
      rw [put_getD_other hne]
      refine (tbl.getD j Pst.none).mono (h.done j hj ?_) hb
      rw [Array.getD_eq_getD_getElem?, Array.getElem?_setIfInBounds_ne (Ne.symm hji), ← Array.getD_eq_getD_getElem?] at hlj
      exact hlj
  · have hji : j ≠ i := by
      rintro rfl
      rw [Array.getD_eq_getD_getElem?, Array.getElem?_setIfInBounds_self] at hlj
      simp [h.lsz, hi] at hlj
    have hne : d ≠ dstAt l j := by rw [← hda]; exact fun e => laid_ne hl hi hj (Ne.symm hji) e
    rw [put_getD_other hne]
    rw [Array.getD_eq_getD_getElem?, Array.getElem?_setIfInBounds_ne (Ne.symm hji), ← Array.getD_eq_getD_getElem?] at hlj
    exact h.fresh j hj hlj
  · have mono : ∀ k, ls.getD k true = true → (ls.setIfInBounds i true).getD k true = true := by
      intro k hk
      rw [Array.getD_eq_getD_getElem?, Array.getElem?_setIfInBounds]
      split
      · split <;> rfl
      · rw [← Array.getD_eq_getD_getElem?]; exact hk
    by_cases hji : j = i
    · subst hji
      rw [ho] at hoj
      injection hoj with hoj
      subst hoj
      exact mono k (hdl k hk)
    · rw [Array.getD_eq_getD_getElem?, Array.getElem?_setIfInBounds_ne (Ne.symm hji), ← Array.getD_eq_getD_getElem?] at hlj
      exact mono k (h.closed j o' hlj hoj k hk)
theorem PostL.lnk {i1 i3 : Nat} {Lk : Value → Value → World → Prop} {ls : Array Bool} {a : Act} {W W' : World} {i : Nat} {o : Oper} {v : Value} (h : PostL i1 i3 Lk l tbl a0 w0 ls a W) (hl : laidB l a0.tmps.size = true) (ho : l[i]? = some o) (h13 : i1 < i3) (hi0 : i = i3) (hlk : Lk (a.tmps.getD (dstAt l i1) undef) v W') (hb : Below W.heap.size W W') (hv : known tbl i v W') (hdl : ∀ k, depB o k = true → ls.getD k true = true) :
    PostL i1 i3 Lk l tbl a0 w0 (ls.setIfInBounds i true) (a.put o.dst v) W' := by
  obtain ⟨d, hd, hdn, hda⟩ := laid_dst hl ho
  have hi : i < l.length := (List.getElem?_eq_some_iff.1 ho).1
  rw [hd]
  refine ⟨h.bel.trans (hb.mono h.bel.size), fun hq => by
    subst hi0
    have n1 : d ≠ dstAt l i1 := by rw [← hda]; exact laid_ne hl hi (by omega) (by omega)
    rw [put_getD_other n1, hda, put_getD_same (by rw [h.size]; exact hdn)]
    exact hlk, fun t ht => ?_, by simp [Act.put, h.size], by simp [Act.put, h.defs], fun j hj hlj => ?_, by simp [h.lsz], fun j hj hlj => ?_, fun j o' hlj hoj k hk => ?_⟩
  · have hne : d ≠ t := by
      intro e
      exact outB_ne ht (List.mem_of_getElem? ho) (by rw [hd, e])
    rw [← h.out t ht]
    simp [Act.put, hne]
  · by_cases hji : j = i
    · subst hji
      rw [hda, put_getD_same (by rw [h.size]; exact hdn)]
      exact hv
    · have hne : d ≠ dstAt l j := by rw [← hda]; exact fun e => laid_ne hl hi hj (Ne.symm hji) e
      rw [put_getD_other hne]
      refine (tbl.getD j Pst.none).mono (h.done j hj ?_) hb
      rw [Array.getD_eq_getD_getElem?, Array.getElem?_setIfInBounds_ne (Ne.symm hji), ← Array.getD_eq_getD_getElem?] at hlj
      exact hlj
  · have hji : j ≠ i := by
      rintro rfl
      rw [Array.getD_eq_getD_getElem?, Array.getElem?_setIfInBounds_self] at hlj
      simp [h.lsz, hi] at hlj
    have hne : d ≠ dstAt l j := by rw [← hda]; exact fun e => laid_ne hl hi hj (Ne.symm hji) e
    rw [put_getD_other hne]
    rw [Array.getD_eq_getD_getElem?, Array.getElem?_setIfInBounds_ne (Ne.symm hji), ← Array.getD_eq_getD_getElem?] at hlj
    exact h.fresh j hj hlj
  · have mono : ∀ k, ls.getD k true = true → (ls.setIfInBounds i true).getD k true = true := by
      intro k hk
      rw [Array.getD_eq_getD_getElem?, Array.getElem?_setIfInBounds]
      split
      · split <;> rfl
      · rw [← Array.getD_eq_getD_getElem?]; exact hk
    by_cases hji : j = i
    · subst hji
      rw [ho] at hoj
      injection hoj with hoj
      subst hoj
      exact mono k (hdl k hk)
    · rw [Array.getD_eq_getD_getElem?, Array.getElem?_setIfInBounds_ne (Ne.symm hji), ← Array.getD_eq_getD_getElem?] at hlj
      exact mono k (h.closed j o' hlj hoj k hk)
end
/-- The later of the two is done: its value is known, and what binds it to the other. -/
def DoneL (Lk : Value → Value → World → Prop) (u : Value) (tbl : List Pst) (i : Nat) (d : Option Tmp) (a : Act) (W : World) (a' : Act) (W' : World) : Prop := ∃ v, a' = a.put d v ∧ Below W.heap.size W W' ∧ known tbl i v W' ∧ Lk u v W'
inductive ObligL (i1 i3 : Nat) (Lk : Value → Value → World → Prop) (F : Fence) (nn : Nat) (P : Program) (l : List Oper) (tbl : List Pst) (a0 : Act) (w0 : World) : Nat → List Oper → Prop
  | nil {i} : ObligL i1 i3 Lk F nn P l tbl a0 w0 i []
  | yes {i o r} (hi : i ≠ i3) (hw : wantP tbl o = some true) (h : ∀ a W Q, Below w0.heap.size w0 W → Outer l a0 a → Deps l tbl o a W → (depB o i3 = true → Lk (a.tmps.getD (dstAt l i1) undef) (a.tmps.getD (dstAt l i3) undef) W) → o.wpIn F nn P a W (Done tbl i o.dst a W) Q) (hr : ObligL i1 i3 Lk F nn P l tbl a0 w0 (i + 1) r) : ObligL i1 i3 Lk F nn P l tbl a0 w0 i (o :: r)
  | lnk {i o r} (hi : i = i3) (hw : wantP tbl o = some true) (h : ∀ a W Q, Below w0.heap.size w0 W → Outer l a0 a → Deps l tbl o a W → o.wpIn F nn P a W (DoneL Lk (a.tmps.getD (dstAt l i1) undef) tbl i o.dst a W) Q) (hr : ObligL i1 i3 Lk F nn P l tbl a0 w0 (i + 1) r) : ObligL i1 i3 Lk F nn P l tbl a0 w0 i (o :: r)
  | no {i o r} (hi : i ≠ i3) (hw : wantP tbl o = some false) (h : ∀ W, known tbl i undef W) (hr : ObligL i1 i3 Lk F nn P l tbl a0 w0 (i + 1) r) : ObligL i1 i3 Lk F nn P l tbl a0 w0 i (o :: r)
theorem ObligL.at {i1 i3 : Nat} {Lk : Value → Value → World → Prop} {F : Fence} {nn : Nat} {P : Program} {l : List Oper} {tbl : List Pst} {a0 : Act} {w0 : World} {i : Nat} {r : List Oper} (h : ObligL i1 i3 Lk F nn P l tbl a0 w0 i r) : ∀ (k : Nat) (o : Oper), r[k]? = some o →
    (i + k ≠ i3 ∧ wantP tbl o = some true ∧ ∀ a W Q, Below w0.heap.size w0 W → Outer l a0 a → Deps l tbl o a W → (depB o i3 = true → Lk (a.tmps.getD (dstAt l i1) undef) (a.tmps.getD (dstAt l i3) undef) W) → o.wpIn F nn P a W (Done tbl (i + k) o.dst a W) Q) ∨ (i + k = i3 ∧ wantP tbl o = some true ∧ ∀ a W Q, Below w0.heap.size w0 W → Outer l a0 a → Deps l tbl o a W → o.wpIn F nn P a W (DoneL Lk (a.tmps.getD (dstAt l i1) undef) tbl (i + k) o.dst a W) Q) ∨ (i + k ≠ i3 ∧ wantP tbl o = some false ∧ ∀ W, known tbl (i + k) undef W) := by
  induction h with
  | nil => intro k o ho; simp at ho
  | yes hi hw h hr ih =>
    intro k o ho
    cases k with
    | zero => simp at ho; subst ho; exact .inl ⟨hi, hw, h⟩
    | succ k => rw [← Nat.add_assoc, Nat.add_right_comm]; exact ih k o (by simpa using ho)
  | lnk hi hw h hr ih =>
    intro k o ho
    cases k with
    | zero => simp at ho; subst ho; exact .inr (.inl ⟨hi, hw, h⟩)
    | succ k => rw [← Nat.add_assoc, Nat.add_right_comm]; exact ih k o (by simpa using ho)
  | no hi hw h hr ih =>
    intro k o ho
    cases k with
    | zero => simp at ho; subst ho; exact .inr (.inr ⟨hi, hw, h⟩)
    | succ k => rw [← Nat.add_assoc, Nat.add_right_comm]; exact ih k o (by simpa using ho)
theorem regionIn_postsL {i1 i3 : Nat} {Lk : Value → Value → World → Prop} {F : Fence} {nn : Nat} {P : Program} {l : List Oper} {a0 : Act} {w0 : World} {Q : Exit → Act → World → Prop} {id : Nat} (n : Nat) (hF : ∀ f, F.fn f) (hm : P.follows .mixedOrders = true) (tbl : List Pst) (hl : laidB (l.take n) a0.tmps.size = true) (ht : tailL l n = true) (h13 : i1 < i3) (h3n : i3 < n) (hdep13 : ∀ o, (l.take n)[i3]? = some o → depB o i1 = true) (hmono : ∀ u v W W', Lk u v W → Below W.heap.size W W' → Lk u v W') (hop : ObligL i1 i3 Lk F nn P (l.take n) tbl a0 w0 0 (l.take n))
    (hend : ∀ (f : Nat → Value) (W : World), Below w0.heap.size w0 W → (∀ i, i < n → known tbl i (f i) W) → Lk (f i1) (f i3) W → wpListIn F nn P l.toArray Q (l.drop n) (putAll f 0 (l.take n) a0) W) : (Code.region id l.toArray true).wpIn F nn P Q a0 w0 := by
  unfold tailL at ht
  rw [Bool.and_eq_true, Bool.and_eq_true, Bool.and_eq_true] at ht
  obtain ⟨⟨⟨hback, hnl⟩, htail⟩, hcov0⟩ := ht
  have hnl : n ≤ l.length := by simpa using hnl
  have htk : (l.take n).length = n := by rw [List.length_take]; omega
  have hprev : ∀ i o, n < i → l[i]? = some o → depB o (i - 1) = true := by
    intro i o hi ho
    have hil := (List.getElem?_eq_some_iff.1 ho).1
    have h1 := List.all_eq_true.1 htail i (List.mem_range.2 hil)
    rw [ho] at h1
    have h2 : decide (i ≤ n) = false := by rw [decide_eq_false_iff_not]; omega
    rw [h2, Bool.false_or] at h1
    exact h1
  have hcov : ∀ o j, l[n]? = some o → j < n → depB o j = true ∨ ∃ m o', m < n ∧ depB o m = true ∧ l[m]? = some o' ∧ depB o' j = true := by
    intro o j ho hj
    have h1 := List.all_eq_true.1 hcov0 j (List.mem_range.2 hj)
    rw [ho] at h1
    have h1 : (depB o j || (List.range n).any fun m => depB o m && ((l[m]?).map fun o' => depB o' j).getD false) = true := h1
    rw [Bool.or_eq_true] at h1
    rcases h1 with h1 | h1
    · exact .inl h1
    · obtain ⟨m, hm1, hm2⟩ := List.any_eq_true.1 h1
      rw [Bool.and_eq_true] at hm2
      have hmn := List.mem_range.1 hm1
      obtain ⟨o', ho'⟩ : ∃ o', l[m]? = some o' := ⟨_, List.getElem?_eq_getElem (by omega)⟩
      have h3 := hm2.2
      rw [ho'] at h3
      exact .inr ⟨m, o', hmn, hm2.1, ho', h3⟩
  have done : ∀ (ls : Array Bool) (a : Act) (W : World), PostL i1 i3 Lk (l.take n) tbl a0 w0 (ls.extract 0 n) a W → (∀ i, i < n → ls.getD i true = true) → ls.size = l.length → wpListIn F nn P l.toArray Q (l.drop n) a W := by
    intro ls a W h hall hsz
    rw [frame_eq hl h.out h.size h.defs]
    have hin : ∀ i, i < n → (ls.extract 0 n).getD i true = true := by
      intro i hi
      have := hall i hi
      rw [Array.getD_eq_getD_getElem?] at this ⊢
      rw [ext_get _ hi]
      exact this
    exact hend _ W h.bel (fun i hi => h.done i (by omega) (hin i hi)) (h.link (hin i3 h3n))
  refine regionIn_inv hm (fun ls a W => ls.size = l.length ∧ ((PostL i1 i3 Lk (l.take n) tbl a0 w0 (ls.extract 0 n) a W ∧ ∀ i, n ≤ i → i < l.length → ls.getD i true = false) ∨
    ∃ k, n ≤ k ∧ k ≤ l.length ∧ (∀ i, i < k → ls.getD i true = true) ∧ (∀ i, k ≤ i → i < l.length → ls.getD i true = false) ∧ wpListIn F nn P l.toArray Q (l.drop k) a W)) ?_ ?_ ?_
  · rintro ls a W ⟨hsz, h⟩ hd
    have hall := all_listed hback (by rw [hsz]; simp) hd
    rcases h with ⟨h, hno⟩ | ⟨k, h1, h2, h3, h4, h5⟩
    · have hn : n = l.length := by
        refine Classical.byContradiction fun hne => ?_
        have e1 := hno n (Nat.le_refl _) (by omega)
        have e2 := hall n (by simp; omega)
        rw [e1] at e2; cases e2
      have h6 := done ls a W h (fun i hi => hall i (by simp; omega)) hsz
      rw [List.drop_of_length_le (by omega)] at h6
      exact h6
    · have hk : k = l.length := by
        refine Classical.byContradiction fun hne => ?_
        have e1 := h4 k (Nat.le_refl _) (by omega)
        have e2 := hall k (by simp; omega)
        rw [e1] at e2; cases e2
      rw [List.drop_of_length_le (by omega)] at h5
      exact h5
  · rintro ls a W i ⟨hsz, h⟩ hi
    have hmem := ready_mem hi
    have hil : i < l.length := by simpa using hmem.1
    obtain ⟨o, ho⟩ : ∃ o, l[i]? = some o := ⟨_, List.getElem?_eq_getElem hil⟩
    have tailstep : ∀ k, k ≤ l.length → (∀ i, i < k → ls.getD i true = true) → (∀ i, k ≤ i → i < l.length → ls.getD i true = false) → n ≤ k → wpListIn F nn P l.toArray Q (l.drop k) a W → n ≤ i →
        wpOpIn F nn P l.toArray Q i (fun a W => (ls.setIfInBounds i true).size = l.length ∧ ((PostL i1 i3 Lk (l.take n) tbl a0 w0 ((ls.setIfInBounds i true).extract 0 n) a W ∧ ∀ j, n ≤ j → j < l.length → (ls.setIfInBounds i true).getD j true = false) ∨
    ∃ k, n ≤ k ∧ k ≤ l.length ∧ (∀ j, j < k → (ls.setIfInBounds i true).getD j true = true) ∧ (∀ j, k ≤ j → j < l.length → (ls.setIfInBounds i true).getD j true = false) ∧ wpListIn F nn P l.toArray Q (l.drop k) a W)) a W := by
      intro k hkl hyes hno hnk hw hni
      have hik : i = k := by
        rcases Nat.lt_trichotomy i k with h1 | h1 | h1
        · have e := hyes i h1
          rw [hmem.2.1] at e; cases e
        · exact h1
        · have e := deps_listed hi ho (hprev i o (by omega) ho)
          rw [hno (i - 1) (by omega) (by omega)] at e; cases e
      subst hik
      rw [List.drop_eq_getElem_cons hil] at hw
      have hoi : l[i] = o := by rw [List.getElem?_eq_getElem hil] at ho; injection ho
      rw [hoi] at hw
      have fin : ∀ a W, wpListIn F nn P l.toArray Q (l.drop (i + 1)) a W → (ls.setIfInBounds i true).size = l.length ∧ ((PostL i1 i3 Lk (l.take n) tbl a0 w0 ((ls.setIfInBounds i true).extract 0 n) a W ∧ ∀ j, n ≤ j → j < l.length → (ls.setIfInBounds i true).getD j true = false) ∨
    ∃ k, n ≤ k ∧ k ≤ l.length ∧ (∀ j, j < k → (ls.setIfInBounds i true).getD j true = true) ∧ (∀ j, k ≤ j → j < l.length → (ls.setIfInBounds i true).getD j true = false) ∧ wpListIn F nn P l.toArray Q (l.drop k) a W) := by
        intro a W hw'
        refine ⟨by simpa using hsz, .inr ⟨i + 1, by omega, by omega, fun j hj => ?_, fun j hj hjl => ?_, hw'⟩⟩
        · by_cases e : j = i
          · subst e; rw [Array.getD_eq_getD_getElem?, Array.getElem?_setIfInBounds_self]; simp [hsz, hil]
          · rw [Array.getD_eq_getD_getElem?, Array.getElem?_setIfInBounds_ne (Ne.symm e), ← Array.getD_eq_getD_getElem?]
            exact hyes j (by omega)
        · rw [Array.getD_eq_getD_getElem?, Array.getElem?_setIfInBounds_ne (by omega), ← Array.getD_eq_getD_getElem?]
          exact hno j (by omega) hjl
      unfold wpOpIn
      have ho' : l.toArray[i]? = some o := by simpa using ho
      rw [ho']
      simp only
      unfold wpListIn at hw
      split at hw
      · rename_i hwa
        rw [if_pos hwa]
        exact Oper.wpIn_mono fin hw
      · rename_i hwa
        rw [if_neg hwa]
        exact ⟨hw.1, fin _ _ hw.2⟩
    rcases h with ⟨h, hno⟩ | ⟨k, h1, h2, h3, h4, h5⟩
    · by_cases hin : i < n
      · have hot : (l.take n)[i]? = some o := by rw [List.getElem?_take, if_pos hin]; exact ho
        have hdl : ∀ k, depB o k = true → (ls.extract 0 n).getD k true = true := by
          intro k hk
          have h2 := deps_listed hi ho hk
          rw [Array.getD_eq_getD_getElem?] at h2 ⊢
          by_cases hkn : k < n
          · rw [ext_get _ hkn]; exact h2
          · rw [Array.getElem?_eq_none (by simp; omega)]; rfl
        have hun : (ls.extract 0 n).getD i true = false := by
          have h2 := hmem.2.1
          rw [Array.getD_eq_getD_getElem?] at h2 ⊢
          rw [ext_get _ hin]; exact h2
        have hdep : Deps (l.take n) tbl o a W := by
          intro j hj
          have h2 := deps_listed hi ho hj
          have hjl : j < i := by
            obtain ⟨k, hk, hj⟩ := depB_at hj
            rw [Bool.and_eq_true, beq_iff_eq] at hj
            have hbi := List.all_eq_true.1 hback i (List.mem_range.2 (by simpa using hil))
            rw [show l.toArray[i]? = some o by simpa using ho] at hbi
            simp only [Option.map_some, Option.getD_some, Array.all_eq_true] at hbi
            have hlt : (o.after[k]).on < i := by simpa [hj.2] using hbi k hk
            omega
          refine h.done j (by omega) ?_
          rw [Array.getD_eq_getD_getElem?] at h2 ⊢
          rw [ext_get _ (by omega)]
          exact h2
        have hwant : ∀ x, wantP tbl o = some x → Region.wanted o (yielded l.toArray a.tmps) = x := by
          intro x hx
          unfold wantP at hx
          unfold Region.wanted
          cases hg : o.guard with
          | none => rw [hg] at hx; simp at hx; simp [hx]
          | some g =>
            obtain ⟨j, y⟩ := g
            rw [hg] at hx
            simp only at hx ⊢
            split at hx
            · rename_i hj
              cases hb : (tbl.getD j Pst.none).b with
              | none => rw [hb] at hx; simp at hx
              | some z =>
                rw [hb] at hx
                simp at hx
                have hv := (tbl.getD j Pst.none).tells hb (hdep j hj)
                have hjl : j < n := by
                  obtain ⟨k, hk, hj⟩ := depB_at hj
                  rw [Bool.and_eq_true, beq_iff_eq] at hj
                  have hbi := List.all_eq_true.1 hback i (List.mem_range.2 (by simpa using hil))
                  rw [show l.toArray[i]? = some o by simpa using ho] at hbi
                  simp only [Option.map_some, Option.getD_some, Array.all_eq_true] at hbi
                  have hlt : (o.after[k]).on < i := by simpa [hj.2] using hbi k hk
                  omega
                obtain ⟨o', hlj⟩ : ∃ o', l[j]? = some o' := ⟨_, List.getElem?_eq_getElem (by omega)⟩
                have hljt : (l.take n)[j]? = some o' := by rw [List.getElem?_take, if_pos hjl]; exact hlj
                obtain ⟨d, e1, e2, e3⟩ := laid_dst hl hljt
                have hts : d < a.tmps.size := by rw [h.size]; exact e2
                have htd : a.tmps[d]? = some (.bool z) := by
                  rw [e3, Array.getD_eq_getD_getElem?, Array.getElem?_eq_getElem hts] at hv
                  rw [Array.getElem?_eq_getElem hts]
                  simpa using hv
                have hy : yielded l.toArray a.tmps j = some z := by
                  unfold yielded
                  simp [hlj, e1, htd]
                rw [hy, ← hx]
                cases z <;> cases y <;> rfl
            · cases hx
        have keep : i ≠ i3 → ∀ v W', Below W.heap.size W W' → known tbl i v W' → (ls.setIfInBounds i true).size = l.length ∧ ((PostL i1 i3 Lk (l.take n) tbl a0 w0 ((ls.setIfInBounds i true).extract 0 n) (a.put o.dst v) W' ∧ ∀ j, n ≤ j → j < l.length → (ls.setIfInBounds i true).getD j true = false) ∨
    ∃ k, n ≤ k ∧ k ≤ l.length ∧ (∀ j, j < k → (ls.setIfInBounds i true).getD j true = true) ∧ (∀ j, k ≤ j → j < l.length → (ls.setIfInBounds i true).getD j true = false) ∧ wpListIn F nn P l.toArray Q (l.drop k) (a.put o.dst v) W') := by
          intro hia v W' hb hv
          refine ⟨by simpa using hsz, .inl ⟨?_, fun j hj hjl => ?_⟩⟩
          · have h2 := h.step hl hot h13 (by omega) hun hdep13 hmono hia hb hv hdl
            rw [ext_set _ hin]
            exact h2
          · rw [Array.getD_eq_getD_getElem?, Array.getElem?_setIfInBounds_ne (by omega), ← Array.getD_eq_getD_getElem?]
            exact hno j hj hjl
        have keepL : i = i3 → ∀ v W', Lk (a.tmps.getD (dstAt (l.take n) i1) undef) v W' → Below W.heap.size W W' → known tbl i v W' → (ls.setIfInBounds i true).size = l.length ∧ ((PostL i1 i3 Lk (l.take n) tbl a0 w0 ((ls.setIfInBounds i true).extract 0 n) (a.put o.dst v) W' ∧ ∀ j, n ≤ j → j < l.length → (ls.setIfInBounds i true).getD j true = false) ∨
    ∃ k, n ≤ k ∧ k ≤ l.length ∧ (∀ j, j < k → (ls.setIfInBounds i true).getD j true = true) ∧ (∀ j, k ≤ j → j < l.length → (ls.setIfInBounds i true).getD j true = false) ∧ wpListIn F nn P l.toArray Q (l.drop k) (a.put o.dst v) W') := by
          intro hia v W' hlk hb hv
          refine ⟨by simpa using hsz, .inl ⟨?_, fun j hj hjl => ?_⟩⟩
          · have h2 := h.lnk hl hot h13 hia hlk hb hv hdl
            rw [ext_set _ hin]
            exact h2
          · rw [Array.getD_eq_getD_getElem?, Array.getElem?_setIfInBounds_ne (by omega), ← Array.getD_eq_getD_getElem?]
            exact hno j hj hjl
        unfold wpOpIn
        rw [show l.toArray[i]? = some o by simpa using ho]
        simp only
        rcases hop.at i o hot with ⟨h0, h1, h2⟩ | ⟨h0, h1, h2⟩ | ⟨h0, h1, h2⟩
        · rw [Nat.zero_add] at h0
          rw [if_pos (hwant _ h1)]
          refine Oper.wpIn_mono ?_ (h2 a W Q h.bel h.out hdep fun hd => h.link (by
            have h3 := deps_listed hi ho hd
            rw [Array.getD_eq_getD_getElem?] at h3 ⊢
            rw [ext_get _ h3n]
            exact h3))
          rintro a' W' ⟨v, rfl, hb, hv⟩
          rw [Nat.zero_add] at hv
          exact keep h0 v W' hb hv
        · rw [Nat.zero_add] at h0
          rw [if_pos (hwant _ h1)]
          refine Oper.wpIn_mono ?_ (h2 a W Q h.bel h.out hdep)
          rintro a' W' ⟨v, rfl, hb, hv, hlk⟩
          rw [Nat.zero_add] at hv
          exact keepL h0 v W' hlk hb hv
        · rw [Nat.zero_add] at h0
          rw [if_neg (by rw [hwant _ h1]; exact Bool.false_ne_true)]
          have h3 := h2 W
          rw [Nat.zero_add] at h3
          exact ⟨fun f _ => hF f, keep h0 _ _ (Below.refl _ _) h3⟩
      · have hin2 : i = n := by
          refine Classical.byContradiction fun hne => ?_
          have e := deps_listed hi ho (hprev i o (by omega) ho)
          rw [hno (i - 1) (by omega) (by omega)] at e; cases e
        have hall : ∀ j, j < n → ls.getD j true = true := by
          intro j hj
          rcases hcov o j (by rw [← hin2]; exact ho) hj with h1 | ⟨m, o', hmn, h1, ho', h2⟩
          · exact deps_listed hi ho h1
          · have e := deps_listed hi ho h1
            have e2 : (ls.extract 0 n).getD m true = true := by
              rw [Array.getD_eq_getD_getElem?] at e ⊢
              rw [ext_get _ hmn]; exact e
            have e3 := h.closed m o' e2 (by rw [List.getElem?_take, if_pos hmn]; exact ho') j h2
            rw [Array.getD_eq_getD_getElem?] at e3 ⊢
            rw [ext_get _ hj] at e3; exact e3
        exact tailstep n hnl hall hno (Nat.le_refl _) (done ls a W h hall hsz) (by omega)
    · refine tailstep k h2 h3 h4 h1 h5 ?_
      refine Classical.byContradiction fun hne => ?_
      have e := h3 i (by omega)
      rw [hmem.2.1] at e; cases e
  · refine ⟨by simp, .inl ⟨⟨below_drewN (Below.refl _ w0) 1, fun hq => (by
    rw [Array.getD_eq_getD_getElem?, ext_get _ h3n] at hq
    simp [show i3 < l.length by omega] at hq), fun t _ => rfl, rfl, rfl, fun j hj hd => ?_, by simp, fun j _ _ => rfl, fun j o hj ho k _ => ?_⟩, fun i _ hil => by simp [hil]⟩⟩
    · rw [htk] at hj
      rw [Array.getD_eq_getD_getElem?, ext_get _ hj] at hd
      simp [show j < l.length by omega] at hd
    · have hjl := (List.getElem?_eq_some_iff.1 ho).1
      rw [htk] at hjl
      rw [Array.getD_eq_getD_getElem?, ext_get _ hjl] at hj
      simp [show j < l.length by omega] at hj
end Go.Proofs.YtljihclpgpmfeaaDoor
