/- A region that draws its order and whose operations leave what was there: one fact for each operation's value, one obligation for each operation. No program is named. -/
import Derived.Test.YtljihclpgpmfeaaDoorInv
import Derived.Test.YtljihclpgpmfeaaDoorMem
namespace Go.Proofs.YtljihclpgpmfeaaDoor
set_option maxRecDepth 100000
open Go.RowKit

/-- What is known of an operation's value, in whatever world comes later. -/
structure Pst where
  p : Value → World → Prop
  b : Option Bool
  mono : ∀ {v W W'}, p v W → Below W.heap.size W W' → p v W'
  tells : ∀ {v W x}, b = some x → p v W → v = .bool x
def Pst.none : Pst := ⟨fun _ _ => True, Option.none, fun _ _ => trivial, nofun⟩
def boolOf : Value → Option Bool
  | .bool x => some x
  | _ => Option.none
theorem boolOf_eq {v : Value} {x : Bool} (h : boolOf v = some x) : v = .bool x := by
  cases v <;> simp [boolOf] at h
  rw [h]
def Pst.val (u : Value) : Pst := ⟨fun v _ => v = u, boolOf u, fun h _ => h, fun h e => by rw [e, boolOf_eq h]⟩
def Pst.mk' (p : Value → World → Prop) (mono : ∀ {v W W'}, p v W → Below W.heap.size W W' → p v W') : Pst := ⟨p, Option.none, mono, nofun⟩
def known (tbl : List Pst) (i : Nat) (v : Value) (W : World) : Prop := (tbl.getD i Pst.none).p v W
def dstAt (l : List Oper) (j : Nat) : Nat := ((l[j]?).bind (·.dst)).getD 0
def depB (o : Oper) (j : Nat) : Bool := o.after.toList.any fun e => e.on == j && Region.binds .any e
theorem depB_at {o : Oper} {j : Nat} (h : depB o j = true) : ∃ (k : Nat) (hk : k < o.after.size), (o.after[k].on == j && Region.binds .any o.after[k]) = true := by
  unfold depB at h
  obtain ⟨e, he, h1⟩ := List.any_eq_true.1 h
  obtain ⟨k, hk⟩ := List.mem_iff_getElem?.1 he
  obtain ⟨h2, rfl⟩ := List.getElem?_eq_some_iff.1 hk
  exact ⟨k, by simpa using h2, by simpa using h1⟩
/-- Is a guarded operation run? -/
def wantP (tbl : List Pst) (o : Oper) : Option Bool :=
  match o.guard with
  | Option.none => some true
  | some (j, x) => if depB o j then ((tbl.getD j Pst.none).b).map (· == x) else Option.none
/-- Each operation has a slot, each its own, and waits for earlier ones alone. -/
def laidB (l : List Oper) (n : Nat) : Bool :=
  backB l.toArray && l.all (fun o => match o.dst with | some d => decide (d < n) | Option.none => false) && (List.range l.length).all fun i => (List.range i).all fun j => dstAt l i != dstAt l j
def outB (l : List Oper) (t : Nat) : Bool := l.all fun o => o.dst != some t
/-- An operation is done: its value is known, and what was there stays. -/
def Done (tbl : List Pst) (i : Nat) (d : Option Tmp) (a : Act) (W : World) (a' : Act) (W' : World) : Prop := ∃ v, a' = a.put d v ∧ Below W.heap.size W W' ∧ known tbl i v W'
def Outer (l : List Oper) (a0 a : Act) : Prop := ∀ t, outB l t = true → a.tmps[t]? = a0.tmps[t]?
def Deps (l : List Oper) (tbl : List Pst) (o : Oper) (a : Act) (W : World) : Prop := ∀ j, depB o j = true → known tbl j (a.tmps.getD (dstAt l j) undef) W
theorem Outer.slot {l : List Oper} {a0 a : Act} (h : Outer l a0 a) (t : Nat) (v : Value) (ho : outB l t = true) (hv : a0.tmps[t]? = some v) : a.tmps.getD t undef = v := by
  rw [Array.getD_eq_getD_getElem?, h t ho, hv]; rfl
inductive Oblig (P : Program) (l : List Oper) (tbl : List Pst) (a0 : Act) (w0 : World) : Nat → List Oper → Prop
  | nil {i} : Oblig P l tbl a0 w0 i []
  | yes {i o r} (hw : wantP tbl o = some true) (h : ∀ a W Q, Below w0.heap.size w0 W → Outer l a0 a → Deps l tbl o a W → o.wp P a W (Done tbl i o.dst a W) Q) (hr : Oblig P l tbl a0 w0 (i + 1) r) : Oblig P l tbl a0 w0 i (o :: r)
  | no {i o r} (hw : wantP tbl o = some false) (h : ∀ W, known tbl i undef W) (hr : Oblig P l tbl a0 w0 (i + 1) r) : Oblig P l tbl a0 w0 i (o :: r)
def putAll (f : Nat → Value) : Nat → List Oper → Act → Act
  | _, [], a => a
  | i, o :: r, a => putAll f (i + 1) r (a.put o.dst (f i))
structure PostI (l : List Oper) (tbl : List Pst) (a0 : Act) (w0 : World) (ls : Array Bool) (a : Act) (W : World) : Prop where
  bel : Below w0.heap.size w0 W
  out : Outer l a0 a
  size : a.tmps.size = a0.tmps.size
  defs : a.defers = a0.defers
  done : ∀ j, j < l.length → ls.getD j true = true → known tbl j (a.tmps.getD (dstAt l j) undef) W
  lsz : ls.size = l.length
  fresh : ∀ j, j < l.length → ls.getD j true = false → a.tmps.getD (dstAt l j) undef = a0.tmps.getD (dstAt l j) undef
  closed : ∀ (j : Nat) (o : Oper), ls.getD j true = true → l[j]? = some o → ∀ k, depB o k = true → ls.getD k true = true
section
variable {P : Program} {l : List Oper} {tbl : List Pst} {a0 : Act} {w0 : World}
theorem Oblig.at {i : Nat} {r : List Oper} (h : Oblig P l tbl a0 w0 i r) : ∀ (k : Nat) (o : Oper), r[k]? = some o →
    (wantP tbl o = some true ∧ ∀ a W Q, Below w0.heap.size w0 W → Outer l a0 a → Deps l tbl o a W → o.wp P a W (Done tbl (i + k) o.dst a W) Q) ∨ (wantP tbl o = some false ∧ ∀ W, known tbl (i + k) undef W) := by
  induction h with
  | nil => intro k o ho; simp at ho
  | yes hw h hr ih =>
    intro k o ho
    cases k with
    | zero => simp at ho; subst ho; exact .inl ⟨hw, h⟩
    | succ k => rw [← Nat.add_assoc, Nat.add_right_comm]; exact ih k o (by simpa using ho)
  | no hw h hr ih =>
    intro k o ho
    cases k with
    | zero => simp at ho; subst ho; exact .inr ⟨hw, h⟩
    | succ k => rw [← Nat.add_assoc, Nat.add_right_comm]; exact ih k o (by simpa using ho)
theorem laid_dst {n : Nat} (h : laidB l n = true) {i : Nat} {o : Oper} (ho : l[i]? = some o) : ∃ d, o.dst = some d ∧ d < n ∧ dstAt l i = d := by
  unfold laidB at h
  rw [Bool.and_eq_true, Bool.and_eq_true] at h
  have h1 := List.all_eq_true.1 h.1.2 o (List.mem_of_getElem? ho)
  cases hd : o.dst with
  | none => rw [hd] at h1; simp at h1
  | some d => rw [hd] at h1; exact ⟨d, rfl, by simpa using h1, by unfold dstAt; rw [ho]; simp [hd]⟩
theorem laid_ne {n : Nat} (h : laidB l n = true) {i j : Nat} (hi : i < l.length) (hj : j < l.length) (hne : i ≠ j) : dstAt l i ≠ dstAt l j := by
  unfold laidB at h
  rw [Bool.and_eq_true] at h
  have key : ∀ {i j : Nat}, i < l.length → j < i → dstAt l i ≠ dstAt l j := by
    intro i j hi hj
    have h1 := List.all_eq_true.1 h.2 i (List.mem_range.2 hi)
    have h2 := List.all_eq_true.1 h1 j (List.mem_range.2 hj)
    simpa using h2
  rcases Nat.lt_or_ge j i with h3 | h3
  · exact key hi h3
  · exact fun e => key hj (by omega) e.symm
theorem outB_ne {t : Nat} (h : outB l t = true) {o : Oper} (ho : o ∈ l) : o.dst ≠ some t := by
  have := List.all_eq_true.1 h o ho
  simpa using this
theorem put_getD_same {a : Act} {d : Tmp} {v : Value} (h : d < a.tmps.size) : (a.put (some d) v).tmps.getD d undef = v := by
  rw [Array.getD_eq_getD_getElem?]; simp [Act.put, h]
theorem put_getD_other {a : Act} {d t : Tmp} {v : Value} (h : d ≠ t) : (a.put (some d) v).tmps.getD t undef = a.tmps.getD t undef := by
  rw [Array.getD_eq_getD_getElem?, Array.getD_eq_getD_getElem?]; simp [Act.put, h]
theorem PostI.step {ls : Array Bool} {a : Act} {W W' : World} {i : Nat} {o : Oper} {v : Value} (h : PostI l tbl a0 w0 ls a W) (hl : laidB l a0.tmps.size = true) (ho : l[i]? = some o) (hb : Below W.heap.size W W') (hv : known tbl i v W') (hdl : ∀ k, depB o k = true → ls.getD k true = true) :
    PostI l tbl a0 w0 (ls.setIfInBounds i true) (a.put o.dst v) W' := by
  obtain ⟨d, hd, hdn, hda⟩ := laid_dst hl ho
  have hi : i < l.length := (List.getElem?_eq_some_iff.1 ho).1
  rw [hd]
  refine ⟨h.bel.trans (hb.mono h.bel.size), fun t ht => ?_, by simp [Act.put, h.size], by simp [Act.put, h.defs], fun j hj hlj => ?_, by simp [h.lsz], fun j hj hlj => ?_, fun j o' hlj hoj k hk => ?_⟩
  · have hne : d ≠ t := by
      intro e
      exact outB_ne ht (List.mem_of_getElem? ho) (by rw [hd, e])
    rw [← h.out t ht]
    simp [Act.put, hne]
  · by_cases hji : j = i
    · subst hji
      rw [hda, put_getD_same (by rw [h.size]; exact hdn)]
      exact hv
    · have hne : d ≠ dstAt l j := by rw [← hda]; exact fun e => laid_ne hl hi hj (Ne.symm hji) e
      rw [put_getD_other hne]
      refine (tbl.getD j Pst.none).mono (h.done j hj ?_) hb
      rw [Array.getD_eq_getD_getElem?, Array.getElem?_setIfInBounds_ne (Ne.symm hji), ← Array.getD_eq_getD_getElem?] at hlj
      exact hlj
  · have hji : j ≠ i := by
      rintro rfl
      rw [Array.getD_eq_getD_getElem?, Array.getElem?_setIfInBounds_self] at hlj
      simp [h.lsz, hi] at hlj
    have hne : d ≠ dstAt l j := by rw [← hda]; exact fun e => laid_ne hl hi hj (Ne.symm hji) e
    rw [put_getD_other hne]
    rw [Array.getD_eq_getD_getElem?, Array.getElem?_setIfInBounds_ne (Ne.symm hji), ← Array.getD_eq_getD_getElem?] at hlj
    exact h.fresh j hj hlj
  · have mono : ∀ k, ls.getD k true = true → (ls.setIfInBounds i true).getD k true = true := by
      intro k hk
      rw [Array.getD_eq_getD_getElem?, Array.getElem?_setIfInBounds]
      split
      · split <;> rfl
      · rw [← Array.getD_eq_getD_getElem?]; exact hk
    by_cases hji : j = i
    · subst hji
      rw [ho] at hoj
      injection hoj with hoj
      subst hoj
      exact mono k (hdl k hk)
    · rw [Array.getD_eq_getD_getElem?, Array.getElem?_setIfInBounds_ne (Ne.symm hji), ← Array.getD_eq_getD_getElem?] at hlj
      exact mono k (h.closed j o' hlj hoj k hk)
theorem size_putAll (f : Nat → Value) : ∀ (i : Nat) (r : List Oper) (a : Act), (putAll f i r a).tmps.size = a.tmps.size
  | _, [], _ => rfl
  | i, o :: r, a => by
    unfold putAll
    rw [size_putAll f (i + 1) r]
    cases o.dst <;> simp [Act.put]
theorem defs_putAll (f : Nat → Value) : ∀ (i : Nat) (r : List Oper) (a : Act), (putAll f i r a).defers = a.defers
  | _, [], _ => rfl
  | i, o :: r, a => by
    unfold putAll
    rw [defs_putAll f (i + 1) r]
    cases o.dst <;> simp [Act.put]
theorem putAll_out (f : Nat → Value) (t : Nat) : ∀ (i : Nat) (r : List Oper) (a : Act), (∀ o ∈ r, o.dst ≠ some t) → (putAll f i r a).tmps[t]? = a.tmps[t]?
  | _, [], _, _ => rfl
  | i, o :: r, a, h => by
    unfold putAll
    rw [putAll_out f t (i + 1) r _ (fun o ho => h o (by simp [ho]))]
    have h1 := h o (by simp)
    cases hd : o.dst with
    | none => simp [Act.put]
    | some d =>
      have : d ≠ t := fun e => h1 (by rw [hd, e])
      simp [Act.put, this]
theorem putAll_in (f : Nat → Value) (d : Nat) : ∀ (i : Nat) (r : List Oper) (a : Act) (k : Nat) (o : Oper), r[k]? = some o → o.dst = some d → d < a.tmps.size → (∀ (j : Nat) (o' : Oper), k < j → r[j]? = some o' → o'.dst ≠ some d) → (putAll f i r a).tmps[d]? = some (f (i + k))
  | _, [], _, _, _, h, _, _, _ => by simp at h
  | i, o' :: r, a, 0, o, h, hd, hs, hn => by
    simp at h; subst h
    unfold putAll
    rw [putAll_out f d (i + 1) r _ (fun o ho => by
      obtain ⟨j, hj⟩ := List.mem_iff_getElem?.1 ho
      exact hn (j + 1) o (by omega) (by simpa using hj))]
    rw [hd]
    simp [Act.put, hs]
  | i, o' :: r, a, k + 1, o, h, hd, hs, hn => by
    unfold putAll
    rw [putAll_in f d (i + 1) r _ k o (by simpa using h) hd (by cases o'.dst <;> simp [Act.put, hs]) (fun j o'' hj ho => hn (j + 1) o'' (by omega) (by simpa using ho))]
    congr 2; omega
theorem region_posts0 {Q : Exit → Act → World → Prop} {id : Nat} (hm : P.follows .mixedOrders = true) (tbl : List Pst) (hl : laidB l a0.tmps.size = true) (hop : Oblig P l tbl a0 w0 0 l)
    (hend : ∀ (a : Act) (W : World), Below w0.heap.size w0 W → Outer l a0 a → a.tmps.size = a0.tmps.size → a.defers = a0.defers → (∀ i, i < l.length → known tbl i (a.tmps.getD (dstAt l i) undef) W) → Q .normal a W) : (Code.region id l.toArray true).wp P Q a0 w0 := by
  refine region_inv hm (PostI l tbl a0 w0) ?_ ?_ ?_
  · intro ls a W h hd
    have hall := all_listed (by unfold laidB at hl; rw [Bool.and_eq_true, Bool.and_eq_true] at hl; exact hl.1.1) (by rw [h.lsz]; simp) hd
    exact hend a W h.bel h.out h.size h.defs fun i hi => h.done i hi (hall i (by simpa using hi))
  · intro ls a W i h hi
    have hmem := ready_mem hi
    have hil : i < l.length := by simpa using hmem.1
    have ho : l[i]? = some l[i] := List.getElem?_eq_getElem hil
    obtain ⟨o, hoo⟩ : ∃ o, o = l[i] := ⟨_, rfl⟩
    rw [← hoo] at ho
    have hdl : ∀ k, depB o k = true → ls.getD k true = true := by
      intro j hj
      obtain ⟨k, hk, hj⟩ := depB_at hj
      rw [Bool.and_eq_true, beq_iff_eq] at hj
      have h2 := ready_depP hmem.2.2 (show l.toArray[i]? = some o by simpa using ho) k (e := o.after[k]) (Array.getElem?_eq_getElem hk) hj.2
      rw [hj.1] at h2
      exact h2
    have hdep : Deps l tbl o a W := by
      intro j hj
      obtain ⟨k, hk, hj⟩ := depB_at hj
      rw [Bool.and_eq_true, beq_iff_eq] at hj
      have h1 := hmem.2.2
      have ho' : l.toArray[i]? = some o := by simpa using ho
      have h2 := ready_depP h1 ho' k (e := o.after[k]) (Array.getElem?_eq_getElem hk) hj.2
      have hjl : j < l.length := by
        have hb : backB l.toArray = true := by unfold laidB at hl; rw [Bool.and_eq_true, Bool.and_eq_true] at hl; exact hl.1.1
        have hbi := List.all_eq_true.1 hb i (List.mem_range.2 (by simpa using hil))
        rw [ho'] at hbi
        simp only [Option.map_some, Option.getD_some, Array.all_eq_true] at hbi
        have := hbi k hk
        have hlt : (o.after[k]).on < i := by simpa [hj.2] using this
        omega
      rw [hj.1] at h2
      exact h.done j hjl h2
    have hwant : ∀ x, wantP tbl o = some x → Region.wanted o (yielded l.toArray a.tmps) = x := by
      intro x hx
      unfold wantP at hx
      unfold Region.wanted
      cases hg : o.guard with
      | none => rw [hg] at hx; simp at hx; simp [hx]
      | some g =>
        obtain ⟨j, y⟩ := g
        rw [hg] at hx
        simp only at hx ⊢
        split at hx
        · rename_i hj
          cases hb : (tbl.getD j Pst.none).b with
          | none => rw [hb] at hx; simp at hx
          | some z =>
            rw [hb] at hx
            simp at hx
            have hk := hdep j hj
            have hv := (tbl.getD j Pst.none).tells hb hk
            have hy : yielded l.toArray a.tmps j = some z := by
              unfold yielded
              have hjl : ∃ o', l[j]? = some o' := by
                cases hlj : l[j]? with
                | some o' => exact ⟨o', rfl⟩
                | none =>
                  exfalso
                  obtain ⟨k, hk, hj⟩ := depB_at hj
                  rw [Bool.and_eq_true, beq_iff_eq] at hj
                  have hb : backB l.toArray = true := by unfold laidB at hl; rw [Bool.and_eq_true, Bool.and_eq_true] at hl; exact hl.1.1
                  have hbi := List.all_eq_true.1 hb i (List.mem_range.2 (by simpa using hil))
                  have ho' : l.toArray[i]? = some o := by simpa using ho
                  rw [ho'] at hbi
                  simp only [Option.map_some, Option.getD_some, Array.all_eq_true] at hbi
                  have := hbi k hk
                  have hlt : (o.after[k]).on < i := by simpa [hj.2] using this
                  rw [List.getElem?_eq_none_iff] at hlj
                  omega
              obtain ⟨o', hlj⟩ := hjl
              obtain ⟨d, e1, e2, e3⟩ := laid_dst hl hlj
              have hts : d < a.tmps.size := by rw [h.size]; exact e2
              have : a.tmps[d]? = some (.bool z) := by
                rw [e3, Array.getD_eq_getD_getElem?, Array.getElem?_eq_getElem hts] at hv
                rw [Array.getElem?_eq_getElem hts]
                simpa using hv
              simp [hlj, e1, this]
            rw [hy]
            rw [← hx]
            cases z <;> cases y <;> rfl
        · cases hx
    unfold wpOp
    have ho' : l.toArray[i]? = some o := by simpa using ho
    rw [ho']
    simp only
    rcases hop.at i o ho with ⟨h1, h2⟩ | ⟨h1, h2⟩
    · rw [if_pos (hwant _ h1)]
      refine .inl (Oper.wp_mono ?_ (h2 a W Q h.bel h.out hdep))
      rintro a' W' ⟨v, rfl, hb, hv⟩
      rw [Nat.zero_add] at hv
      exact h.step hl ho hb hv hdl
    · rw [if_neg (by rw [hwant _ h1]; exact Bool.false_ne_true)]
      have := h2 W
      rw [Nat.zero_add] at this
      exact h.step hl ho (Below.refl _ _) this hdl
  · exact ⟨below_drewN (Below.refl _ w0) 1, fun t _ => rfl, rfl, rfl, fun j hj hd => by simp [hj] at hd, by simp, fun j _ _ => rfl, fun j o hj ho k _ => by
    have hjl := (List.getElem?_eq_some_iff.1 ho).1
    simp [hjl] at hj⟩
/-- The frame behind the region is not looked into: what its slots hold is told one by one. -/
theorem region_last {Q : Exit → Act → World → Prop} {id : Nat} (hm : P.follows .mixedOrders = true) (tbl : List Pst) (hl : laidB l a0.tmps.size = true) (hop : Oblig P l tbl a0 w0 0 l)
    (hend : ∀ (T : Array Value) (W : World), Below w0.heap.size w0 W → Outer l a0 ⟨T, a0.defers⟩ → (∀ i, i < l.length → known tbl i (T.getD (dstAt l i) undef) W) → Q .normal ⟨T, a0.defers⟩ W) : (Code.region id l.toArray true).wp P Q a0 w0 := by
  refine region_posts0 hm tbl hl hop fun a W hB hO _ hD hk => ?_
  cases a
  subst hD
  exact hend _ W hB hO hk
theorem region_posts {Q : Exit → Act → World → Prop} {id : Nat} (hm : P.follows .mixedOrders = true) (tbl : List Pst) (hl : laidB l a0.tmps.size = true) (hop : Oblig P l tbl a0 w0 0 l)
    (hend : ∀ (f : Nat → Value) (W : World), Below w0.heap.size w0 W → (∀ i, i < l.length → known tbl i (f i) W) → Q .normal (putAll f 0 l a0) W) : (Code.region id l.toArray true).wp P Q a0 w0 := by
  refine region_posts0 hm tbl hl hop fun a W hB hO hS hD hk => ?_
  have e : a = putAll (fun i => a.tmps.getD (dstAt l i) undef) 0 l a0 := by
    have h1 : a.tmps = (putAll (fun i => a.tmps.getD (dstAt l i) undef) 0 l a0).tmps := by
      refine Array.ext_getElem? fun t => ?_
      by_cases ht : outB l t = true
      · rw [hO t ht, putAll_out _ _ _ _ _ (fun o ho => outB_ne ht ho)]
      · have ht : outB l t = false := by simpa using ht
        obtain ⟨o, ho, hd⟩ := List.all_eq_false.1 ht
        obtain ⟨k, hk⟩ := List.mem_iff_getElem?.1 ho
        have hkl := (List.getElem?_eq_some_iff.1 hk).1
        obtain ⟨d, e1, e2, e3⟩ := laid_dst hl hk
        have e4 : d = t := by simpa [e1] using hd
        subst e4
        rw [putAll_in _ d 0 l a0 k o hk e1 e2 (fun j o' hj ho' => by
          obtain ⟨d', f1, f2, f3⟩ := laid_dst hl ho'
          have := laid_ne hl (List.getElem?_eq_some_iff.1 ho').1 hkl (by omega)
          rw [f1]
          intro e
          injection e with e
          exact this (by rw [f3, e3, e]))]
        have hts : d < a.tmps.size := by rw [hS]; exact e2
        rw [Nat.zero_add, e3, Array.getD_eq_getD_getElem?, Array.getElem?_eq_getElem hts]
        rfl
    have h2 : a.defers = (putAll (fun i => a.tmps.getD (dstAt l i) undef) 0 l a0).defers := by rw [defs_putAll, hD]
    cases a
    generalize hX : putAll _ 0 l a0 = X at h1 h2 ⊢
    cases X
    simp only at h1 h2
    rw [h1, h2]
  rw [e]
  exact hend _ W hB hk
end
end Go.Proofs.YtljihclpgpmfeaaDoor
