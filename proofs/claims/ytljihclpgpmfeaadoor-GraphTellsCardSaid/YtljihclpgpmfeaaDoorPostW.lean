/- A region that draws its order: one fact for each operation's value, in the world as it is; some operations change memory of the region's own and may spend facts of earlier ones. No program is named. -/
import Derived.Test.YtljihclpgpmfeaaDoorUa
namespace Go.Proofs.YtljihclpgpmfeaaDoor
set_option maxRecDepth 100000
open Go.RowKit

/-- Places of the operations that change memory, each with the facts that it spends. -/
abbrev Spend := List (Nat × List Nat)
def liveW (sp : Spend) (ls : Array Bool) (j : Nat) : Prop := ∀ (i : Nat) (S : List Nat), (i, S) ∈ sp → j ∈ S → ls.getD i true = false
/-- May an operation use the fact of an earlier one: none that spends it can have come. -/
def usableB (l : List Oper) (sp : Spend) (i j : Nat) : Bool := sp.all fun x => !x.2.contains j || x.1 == i || ((l[x.1]?).map fun o => depB o i).getD false
def DepsW (l : List Oper) (sp : Spend) (tbl : List Pst) (i : Nat) (o : Oper) (a : Act) (W : World) : Prop := ∀ j, depB o j = true → usableB l sp i j = true → known tbl j (a.tmps.getD (dstAt l j) undef) W
def wantW (l : List Oper) (sp : Spend) (tbl : List Pst) (i : Nat) (o : Oper) : Option Bool :=
  match o.guard with
  | Option.none => some true
  | some (j, x) => if depB o j && usableB l sp i j then ((tbl.getD j Pst.none).b).map (· == x) else Option.none
inductive ObligW (sp : Spend) (C : Nat → World → World → Prop) (P : Program) (l : List Oper) (tbl : List Pst) (a0 : Act) (w0 : World) : Nat → List Oper → Prop
  | nil {i} : ObligW sp C P l tbl a0 w0 i []
  | yes {i o r} (hi : (sp.map Prod.fst).contains i = false) (hw : wantW l sp tbl i o = some true) (hd : o.dst.isSome = true) (h : ∀ a W Q, Below w0.heap.size w0 W → Outer l a0 a → DepsW l sp tbl i o a W → LaterS l i a0 a → o.wp P a W (Done tbl i o.dst a W) Q) (hr : ObligW sp C P l tbl a0 w0 (i + 1) r) : ObligW sp C P l tbl a0 w0 i (o :: r)
  | no {i o r} (hi : (sp.map Prod.fst).contains i = false) (hw : wantW l sp tbl i o = some false) (hd : o.dst.isSome = true) (h : ∀ W, known tbl i undef W) (hr : ObligW sp C P l tbl a0 w0 (i + 1) r) : ObligW sp C P l tbl a0 w0 i (o :: r)
  | sp {i o r} (hi : (sp.map Prod.fst).contains i = true) (hw : wantW l sp tbl i o = some true) (h : ∀ a W Q, Below w0.heap.size w0 W → Outer l a0 a → DepsW l sp tbl i o a W → LaterS l i a0 a → o.wp P a W (fun a' W' => ∃ v, a' = a.put o.dst v ∧ C i W W' ∧ known tbl i v W') Q) (hr : ObligW sp C P l tbl a0 w0 (i + 1) r) : ObligW sp C P l tbl a0 w0 i (o :: r)
structure PostW (sp : Spend) (l : List Oper) (tbl : List Pst) (a0 : Act) (w0 : World) (ls : Array Bool) (a : Act) (W : World) : Prop where
  bel : Below w0.heap.size w0 W
  out : Outer l a0 a
  size : a.tmps.size = a0.tmps.size
  defs : a.defers = a0.defers
  done : ∀ (j d : Nat) (o : Oper), l[j]? = some o → o.dst = some d → ls.getD j true = true → liveW sp ls j → known tbl j (a.tmps.getD d undef) W
  lsz : ls.size = l.length
  fresh : ∀ (j d : Nat) (o : Oper), l[j]? = some o → o.dst = some d → ls.getD j true = false → a.tmps.getD d undef = a0.tmps.getD d undef
  closed : ∀ (j : Nat) (o : Oper), ls.getD j true = true → l[j]? = some o → ∀ k, depB o k = true → ls.getD k true = true
section
variable {sp : Spend} {C : Nat → World → World → Prop} {P : Program} {l : List Oper} {tbl : List Pst} {a0 : Act} {w0 : World}
theorem ObligW.at {i : Nat} {r : List Oper} (h : ObligW sp C P l tbl a0 w0 i r) : ∀ (k : Nat) (o : Oper), r[k]? = some o →
    ((sp.map Prod.fst).contains (i + k) = false ∧ wantW l sp tbl (i + k) o = some true ∧ o.dst.isSome = true ∧ ∀ a W Q, Below w0.heap.size w0 W → Outer l a0 a → DepsW l sp tbl (i + k) o a W → LaterS l (i + k) a0 a → o.wp P a W (Done tbl (i + k) o.dst a W) Q) ∨
    ((sp.map Prod.fst).contains (i + k) = false ∧ wantW l sp tbl (i + k) o = some false ∧ o.dst.isSome = true ∧ ∀ W, known tbl (i + k) undef W) ∨
    ((sp.map Prod.fst).contains (i + k) = true ∧ wantW l sp tbl (i + k) o = some true ∧ ∀ a W Q, Below w0.heap.size w0 W → Outer l a0 a → DepsW l sp tbl (i + k) o a W → LaterS l (i + k) a0 a → o.wp P a W (fun a' W' => ∃ v, a' = a.put o.dst v ∧ C (i + k) W W' ∧ known tbl (i + k) v W') Q) := by
  induction h with
  | nil => intro k o ho; simp at ho
  | yes hi hw hd h hr ih =>
    intro k o ho
    cases k with
    | zero => simp at ho; subst ho; exact .inl ⟨hi, hw, hd, h⟩
    | succ k => rw [← Nat.add_assoc, Nat.add_right_comm]; exact ih k o (by simpa using ho)
  | no hi hw hd h hr ih =>
    intro k o ho
    cases k with
    | zero => simp at ho; subst ho; exact .inr (.inl ⟨hi, hw, hd, h⟩)
    | succ k => rw [← Nat.add_assoc, Nat.add_right_comm]; exact ih k o (by simpa using ho)
  | sp hi hw h hr ih =>
    intro k o ho
    cases k with
    | zero => simp at ho; subst ho; exact .inr (.inr ⟨hi, hw, h⟩)
    | succ k => rw [← Nat.add_assoc, Nat.add_right_comm]; exact ih k o (by simpa using ho)
theorem liveW_less {ls : Array Bool} {i j : Nat} (h : liveW sp (ls.setIfInBounds i true) j) : liveW sp ls j := by
  intro m S hm hj
  have h1 := h m S hm hj
  by_cases e : m = i
  · subst e; rw [set_getD_self] at h1; cases h1
  · rwa [set_getD e] at h1
/-- Whatever an operation does, told at once. -/
theorem PostW.put {nl : List Nat} {ls : Array Bool} {a : Act} {W W' : World} {i : Nat} {o : Oper} {v : Value} (h : PostW sp l tbl a0 w0 ls a W) (hl : laidS nl l a0.tmps.size = true) (ho : l[i]? = some o) (hb : Below w0.heap.size W W') (hkeep : ∀ j v, liveW sp (ls.setIfInBounds i true) j → j ≠ i → known tbl j v W → known tbl j v W') (hv : known tbl i v W') (hdl : ∀ k, depB o k = true → ls.getD k true = true) :
    PostW sp l tbl a0 w0 (ls.setIfInBounds i true) (a.put o.dst v) W' := by
  have hi2 : i < l.length := (List.getElem?_eq_some_iff.1 ho).1
  have hcl : ∀ (j : Nat) (o' : Oper), (ls.setIfInBounds i true).getD j true = true → l[j]? = some o' → ∀ k, depB o' k = true → (ls.setIfInBounds i true).getD k true = true := by
    intro j o' hlj hoj k hk
    by_cases hji : j = i
    · subst hji
      rw [ho] at hoj
      injection hoj with hoj
      subst hoj
      exact set_mono (hdl k hk)
    · rw [set_getD hji] at hlj
      exact set_mono (h.closed j o' hlj hoj k hk)
  cases hd : o.dst with
  | none =>
    have nd : ∀ (j d' : Nat) (o' : Oper), l[j]? = some o' → o'.dst = some d' → j ≠ i := by
      rintro j d' o' ho' hd' rfl
      rw [ho] at ho'; injection ho' with ho'; subst ho'
      rw [hd] at hd'; cases hd'
    refine ⟨h.bel.trans hb, h.out, h.size, h.defs, fun j d' o' ho' hd' hlj hlive => ?_, by simp [h.lsz], fun j d' o' ho' hd' hlj => ?_, hcl⟩
    · have hji := nd j d' o' ho' hd'
      rw [set_getD hji] at hlj
      exact hkeep j _ hlive hji (h.done j d' o' ho' hd' hlj (liveW_less hlive))
    · have hji := nd j d' o' ho' hd'
      rw [set_getD hji] at hlj
      exact h.fresh j d' o' ho' hd' hlj
  | some d =>
    obtain ⟨hdn, hdu⟩ := laidS_dst hl ho hd
    have other : ∀ (j d' : Nat) (o' : Oper), l[j]? = some o' → o'.dst = some d' → j ≠ i → d ≠ d' := by
      rintro j d' o' ho' hd' hj rfl
      exact hj (hdu j o' ho' hd')
    refine ⟨h.bel.trans hb, fun t ht => ?_, by simp [Act.put, h.size], by simp [Act.put, h.defs], fun j d' o' ho' hd' hlj hlive => ?_, by simp [h.lsz], fun j d' o' ho' hd' hlj => ?_, hcl⟩
    · have hne : d ≠ t := by
        intro e
        exact outB_ne ht (List.mem_of_getElem? ho) (by rw [hd, e])
      rw [← h.out t ht]
      simp [Act.put, hne]
    · by_cases hji : j = i
      · subst hji
        rw [ho] at ho'; injection ho' with ho'; subst ho'
        rw [hd] at hd'; injection hd' with hd'; subst hd'
        rw [put_getD_same (by rw [h.size]; exact hdn)]
        exact hv
      · rw [put_getD_other (other j d' o' ho' hd' hji)]
        rw [set_getD hji] at hlj
        exact hkeep j _ hlive hji (h.done j d' o' ho' hd' hlj (liveW_less hlive))
    · have hji : j ≠ i := by
        rintro rfl
        rw [set_getD_self] at hlj; cases hlj
      rw [put_getD_other (other j d' o' ho' hd' hji)]
      rw [set_getD hji] at hlj
      exact h.fresh j d' o' ho' hd' hlj
theorem region_postsW {Q : Exit → Act → World → Prop} {id : Nat} (nl : List Nat) (sp : Spend) (C : Nat → World → World → Prop) (hm : P.follows .mixedOrders = true) (tbl : List Pst) (hl : laidS nl l a0.tmps.size = true)
    (hC : ∀ i S, (i, S) ∈ sp → ∀ V V', w0.heap.size ≤ V.heap.size → C i V V' → Below w0.heap.size V V' ∧ ∀ j v, j ∉ S → j ≠ i → known tbl j v V → known tbl j v V') (hun : ∀ s ∈ nl, ∀ v W, known tbl s v W) (hop : ObligW sp C P l tbl a0 w0 0 l)
    (hend : ∀ (f : Nat → Value) (W : World), Below w0.heap.size w0 W → (∀ i, i < l.length → (∀ m S, (m, S) ∈ sp → i ∉ S) → known tbl i (f i) W) → Q .normal (putAll f 0 l a0) W) : (Code.region id l.toArray true).wp P Q a0 w0 := by
  have hback : backB l.toArray = true := by unfold laidS at hl; rw [Bool.and_eq_true, Bool.and_eq_true] at hl; exact hl.1.1
  refine region_inv hm (fun ls a W => PostW sp l tbl a0 w0 ls a W) ?_ ?_ ?_
  · intro ls a W h hd
    have hall := all_listed hback (by rw [h.lsz]; simp) hd
    have e : a = putAll (fun i => a.tmps.getD (dstAt l i) undef) 0 l a0 := by
      have h1 : a.tmps = (putAll (fun i => a.tmps.getD (dstAt l i) undef) 0 l a0).tmps := by
        refine Array.ext_getElem? fun t => ?_
        by_cases ht : outB l t = true
        · rw [h.out t ht, putAll_out _ _ _ _ _ (fun o ho => outB_ne ht ho)]
        · have ht : outB l t = false := by simpa using ht
          obtain ⟨o, ho, hd⟩ := List.all_eq_false.1 ht
          obtain ⟨k, hk⟩ := List.mem_iff_getElem?.1 ho
          have e4 : o.dst = some t := by simpa using hd
          obtain ⟨e2, e3⟩ := laidS_dst hl hk e4
          rw [putAll_in _ t 0 l a0 k o hk e4 e2 (fun j o' hj ho' e => by
            have := e3 j o' ho' e; omega)]
          have hts : t < a.tmps.size := by rw [h.size]; exact e2
          have e5 : dstAt l k = t := by unfold dstAt; rw [hk]; simp [e4]
          rw [Nat.zero_add, e5, Array.getD_eq_getD_getElem?, Array.getElem?_eq_getElem hts]
          rfl
      have h2 : a.defers = (putAll (fun i => a.tmps.getD (dstAt l i) undef) 0 l a0).defers := by rw [defs_putAll, h.defs]
      cases a
      generalize hX : putAll _ 0 l a0 = X at h1 h2 ⊢
      cases X
      simp only at h1 h2
      rw [h1, h2]
    rw [e]
    refine hend _ W h.bel fun i hi hlv => ?_
    obtain ⟨o, ho⟩ : ∃ o, l[i]? = some o := ⟨_, List.getElem?_eq_getElem hi⟩
    cases hd : o.dst with
    | none => exact hun i (List.contains_iff_mem.1 (laidS_none hl ho hd)) _ W
    | some d =>
      have e5 : dstAt l i = d := by unfold dstAt; rw [ho]; simp [hd]
      show known tbl i (a.tmps.getD (dstAt l i) undef) W
      rw [e5]
      exact h.done i d o ho hd (hall i (by simpa using hi)) fun m S hm hj => absurd hj (hlv m S hm)
  · intro ls a W i h hi
    have hmem := ready_mem hi
    have hil : i < l.length := by simpa using hmem.1
    obtain ⟨o, ho⟩ : ∃ o, l[i]? = some o := ⟨_, List.getElem?_eq_getElem hil⟩
    have ho' : l.toArray[i]? = some o := by simpa using ho
    have hun' : ls.getD i true = false := hmem.2.1
    have hdl : ∀ k, depB o k = true → ls.getD k true = true := by
      intro j hj
      obtain ⟨k, hk, hj⟩ := depB_at hj
      rw [Bool.and_eq_true, beq_iff_eq] at hj
      have h2 := ready_depP hmem.2.2 ho' k (e := o.after[k]) (Array.getElem?_eq_getElem hk) hj.2
      rw [hj.1] at h2
      exact h2
    have hlt : ∀ j, depB o j = true → j < i := by
      intro j hj
      obtain ⟨k, hk, hj⟩ := depB_at hj
      rw [Bool.and_eq_true, beq_iff_eq] at hj
      have hbi := List.all_eq_true.1 hback i (List.mem_range.2 (by simpa using hil))
      rw [ho'] at hbi
      simp only [Option.map_some, Option.getD_some, Array.all_eq_true] at hbi
      have hlt : (o.after[k]).on < i := by simpa [hj.2] using hbi k hk
      omega
    have hknown : DepsW l sp tbl i o a W := by
      intro j hj hus
      have hjl : j < l.length := by have := hlt j hj; omega
      obtain ⟨o2, ho2⟩ : ∃ o, l[j]? = some o := ⟨_, List.getElem?_eq_getElem hjl⟩
      cases hd : o2.dst with
      | none => exact hun j (List.contains_iff_mem.1 (laidS_none hl ho2 hd)) _ W
      | some d =>
        have e5 : dstAt l j = d := by unfold dstAt; rw [ho2]; simp [hd]
        rw [e5]
        refine h.done j d o2 ho2 hd (hdl j hj) fun m S hm hjS => ?_
        have h2 := List.all_eq_true.1 hus _ hm
        rw [List.contains_iff_mem.2 hjS, Bool.not_true, Bool.false_or, Bool.or_eq_true, beq_iff_eq] at h2
        rcases h2 with h2 | h2
        · have h2 : m = i := h2
          rw [h2]; exact hun'
        · have h2 : ((l[m]?).map fun o => depB o i).getD false = true := h2
          cases hom : l[m]? with
          | none => rw [hom] at h2; simp at h2
          | some om =>
            rw [hom] at h2
            have h2 : depB om i = true := by simpa using h2
            cases hls : ls.getD m true with
            | false => rfl
            | true =>
              have := h.closed m om hls hom i h2
              rw [hun'] at this; cases this
    have hlate : LaterS l i a0 a := by
      intro j d o2 hoj hd hdep
      refine h.fresh j d o2 hoj hd ?_
      cases hls : ls.getD j true with
      | false => rfl
      | true =>
        have := h.closed j o2 hls hoj i hdep
        rw [hun'] at this; cases this
    have hwant : ∀ x, wantW l sp tbl i o = some x → Region.wanted o (yielded l.toArray a.tmps) = x := by
      intro x hx
      unfold wantW at hx
      unfold Region.wanted
      cases hg : o.guard with
      | none => rw [hg] at hx; simp at hx; simp [hx]
      | some g =>
        obtain ⟨j, y⟩ := g
        rw [hg] at hx
        simp only at hx ⊢
        split at hx
        · rename_i hj
          rw [Bool.and_eq_true] at hj
          obtain ⟨hj, hju⟩ := hj
          cases hb : (tbl.getD j Pst.none).b with
          | none => rw [hb] at hx; simp at hx
          | some z =>
            rw [hb] at hx
            simp at hx
            have hv := (tbl.getD j Pst.none).tells hb (hknown j hj hju)
            have hjl : j < l.length := by have := hlt j hj; omega
            obtain ⟨o2, ho2⟩ : ∃ o, l[j]? = some o := ⟨_, List.getElem?_eq_getElem hjl⟩
            cases hd : o2.dst with
            | none =>
              have := hun j (List.contains_iff_mem.1 (laidS_none hl ho2 hd)) (.bool !z) W
              have := (tbl.getD j Pst.none).tells hb this
              simp at this
            | some d =>
              have e5 : dstAt l j = d := by unfold dstAt; rw [ho2]; simp [hd]
              rw [e5] at hv
              have hts : d < a.tmps.size := by rw [h.size]; exact (laidS_dst hl ho2 hd).1
              have : a.tmps[d]? = some (.bool z) := by
                rw [Array.getD_eq_getD_getElem?, Array.getElem?_eq_getElem hts] at hv
                rw [Array.getElem?_eq_getElem hts]
                simpa using hv
              have hy : yielded l.toArray a.tmps j = some z := by
                unfold yielded
                simp [ho2, hd, this]
              rw [hy, ← hx]
              cases z <;> cases y <;> rfl
        · cases hx
    unfold wpOp
    rw [ho']
    simp only
    have mono : ∀ {W' : World}, Below W.heap.size W W' → ∀ j v, known tbl j v W → known tbl j v W' := fun hb j v hk => (tbl.getD j Pst.none).mono hk hb
    rcases hop.at i o ho with ⟨hi0, h1, _, h2⟩ | ⟨hi0, h1, _, h2⟩ | ⟨hi0, h1, h2⟩
    · rw [if_pos (hwant _ (by rw [Nat.zero_add] at h1; exact h1))]
      refine .inl (Oper.wp_mono ?_ (h2 a W Q h.bel h.out (by rw [Nat.zero_add]; exact hknown) (by rw [Nat.zero_add]; exact hlate)))
      rintro a' W' ⟨v, rfl, hb, hv⟩
      rw [Nat.zero_add] at hv
      exact h.put hl ho (hb.mono h.bel.size) (fun j v _ _ hk => mono hb j v hk) hv hdl
    · rw [if_neg (by rw [hwant _ (by rw [Nat.zero_add] at h1; exact h1)]; exact Bool.false_ne_true)]
      have := h2 W
      rw [Nat.zero_add] at this
      exact h.put hl ho (Below.refl _ _) (fun j v _ _ hk => hk) this hdl
    · rw [if_pos (hwant _ (by rw [Nat.zero_add] at h1; exact h1))]
      rw [Nat.zero_add] at hi0
      obtain ⟨⟨i', S⟩, hmS, e⟩ := List.mem_map.1 (List.contains_iff_mem.1 hi0)
      have e : i' = i := e
      subst e
      refine .inl (Oper.wp_mono ?_ (h2 a W Q h.bel h.out (by rw [Nat.zero_add]; exact hknown) (by rw [Nat.zero_add]; exact hlate)))
      rintro a' W' ⟨v, rfl, hcW, hv⟩
      rw [Nat.zero_add] at hcW hv
      obtain ⟨hb, hk⟩ := hC i' S hmS W W' h.bel.size hcW
      refine h.put hl ho hb (fun j v hlive hji hkj => hk j v (fun hjS => ?_) hji hkj) hv hdl
      have := hlive i' S hmS hjS
      rw [set_getD_self] at this; cases this
  · refine ⟨below_drewN (Below.refl _ w0) 1, fun t _ => rfl, rfl, rfl, fun j d o ho hd hlj => ?_, by simp, fun j d o ho hd _ => rfl, fun j o hj ho k _ => ?_⟩
    · have hjl := (List.getElem?_eq_some_iff.1 ho).1
      simp [hjl] at hlj
    · have hjl := (List.getElem?_eq_some_iff.1 ho).1
      simp [hjl] at hj
end
end Go.Proofs.YtljihclpgpmfeaaDoor
