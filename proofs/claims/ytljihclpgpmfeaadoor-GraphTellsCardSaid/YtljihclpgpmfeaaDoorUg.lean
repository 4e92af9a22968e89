/- Bundle of texts: Gd Ge Gf. -/
import Derived.Test.YtljihclpgpmfeaaDoorUf
import Derived.Maps.OwnOps
import Derived.Maps.OwnSet
import Derived.Maps.Views
import Derived.WideKeyPair
/- A map from edges to numbers that the call made: which edges it has. No function is walked. -/
namespace Go.Proofs.YtljihclpgpmfeaaDoor
set_option maxRecDepth 100000
open Go.RowKit Go.Maps Go.WideMaps

theorem arrE : ArrKey Tryd.prog 49 3 2 := ⟨Tryd.underlying49, by kernel_rfl, by kernel_rfl, by kernel_rfl⟩
theorem lawE : Keyed Tryd.prog 49 := Keyed.of_law arrE.law
theorem typesE : ∃ m, Tryd.prog.types.size = m + 1 := ⟨Tryd.prog.types.size - 1, by kernel_rfl⟩
theorem zeroE (w : World) : (zeroValue 3).run Tryd.prog w = .ok (.int .i64 0) w := by kernel_rfl
def pairV (e : Int × Int) : Value := .agg #[.int .i64 e.1, .int .i64 e.2]
def litE (e : Int × Int) : Lit := .string (keyBytes [.int .i64 e.1, .int .i64 e.2])
def wfE (e : Int × Int) : Prop := (Lit.int .i64 e.1).wf = true ∧ (Lit.int .i64 e.2).wf = true
theorem keyE {e : Int × Int} (h : wfE e) : keyOf Tryd.prog 49 (pairV e) = some (litE e) := keyOf_pair arrE Tryd.underlying3 typesE h.1 h.2
theorem litE_inj {e f : Int × Int} (h : wfE e) (k : wfE f) (hl : litE e = litE f) : e = f := by
  have := lawE.inj (keyE h) (hl ▸ keyE k)
  unfold pairV at this
  simp at this
  exact Prod.ext this.1 this.2
theorem isKeyE {e : Int × Int} (h : wfE e) : WideAt.IsKeyLit (litE e) := lawE.key (keyE h)
/-- Block B is a map of at most k entries, whose keys are the edges of S. -/
def MapE (w : World) (B k : Nat) (S : List (Int × Int)) : Prop := ∃ D, w.ownsMap Tryd.prog 49 (plainElem (H := Unit) Tryd.prog 3) B k D ∧ ∀ e, wfE e → (e ∈ S → ∃ c, ∀ zd, D.atKey (litE e) zd = .lit (.int .i64 c)) ∧ (e ∉ S → ∀ zd, D.atKey (litE e) zd = zd)
section
variable {w w' : World} {B k : Nat} {S : List (Int × Int)}
theorem MapE.lt (h : MapE w B k S) : B < w.heap.size := h.elim fun _ h => World.ownsMap.lt h.1
theorem MapE.below (h : MapE w B k S) (hb : Below w.heap.size w w') : MapE w' B k S := h.elim fun D h => ⟨D, World.ownsMap.kept h.1 (row := none) (grown_of_below hb) (by simp), h.2⟩
theorem MapE.made (w : World) : MapE (w.alloc (.map #[] 0)) w.heap.size 0 [] := ⟨_, World.ownsMap_made _ _ _ _, fun e _ => ⟨fun h => absurd h (by simp), fun _ zd => rfl⟩⟩
theorem MapE.far (h : MapE w B k S) {row : Nat} (hg : w.grownBy w' (some row)) (hne : B ≠ row) : MapE w' B k S := h.elim fun D h => ⟨D, World.ownsMap.kept h.1 hg (by simpa using hne), h.2⟩
theorem MapE.look {t : TypeId} (ht : Tryd.prog.underlying t = some (.map 49 3)) (h : MapE w B k S) {e : Int × Int} (hw : wfE e) :
    ∃ c, (Instr.lookup t (.map (some B)) (.agg #[.int .i64 e.1, .int .i64 e.2]) true).run Tryd.prog w = .ok (.tuple #[.int .i64 c, .bool (S.contains e)]) w := by
  obtain ⟨D, ⟨es, clock, hb, F, _, rfl⟩, hD⟩ := h
  obtain ⟨d1, d2⟩ := hD e hw
  rcases fit_look true lawE ht (zeroE w) hb F (keyE hw) with ⟨hrun, _, hat⟩ | ⟨e0, y, _, _, hrun, hRv, hat, _⟩
  · have hn : e ∉ S := fun hm => by
      obtain ⟨c, hc⟩ := d1 hm
      have h1 := (hat (.lit (.int .i64 (c + 1)))).symm.trans (hc _)
      simp at h1
      omega
    refine ⟨0, ?_⟩
    rw [show S.contains e = false by rw [← Bool.not_eq_true, List.contains_iff_mem]; exact hn]
    exact hrun
  · have hm : e ∈ S := by
      refine Classical.byContradiction fun hn => ?_
      have h0 := (hat (.lit (.int .i64 0))).symm.trans (d2 hn _)
      have h1 := (hat (.lit (.int .i64 1))).symm.trans (d2 hn _)
      rw [h0] at h1
      simp at h1
    obtain ⟨c, hc, _, _⟩ := plainElem_int_inv Tryd.underlying3 hRv
    refine ⟨c, ?_⟩
    rw [show S.contains e = true by rw [List.contains_iff_mem]; exact hm]
    rw [hc] at hrun
    exact hrun
theorem wpList_put_edge {t : TypeId} (ht : Tryd.prog.underlying t = some (.map 49 3)) {ops : Array Oper} {rest : List Oper} {o : Oper} {a : Act} {Q : Exit → Act → World → Prop} (hg : o.guard = none) (m x v : Operand) (hop : o.op = Op.mapUpdate t m x v)
    (hm : a.eval m = .map (some B)) (h : MapE w B k S) (hk : k < 1000000) (e : Int × Int) (hx : a.eval x = .agg #[.int .i64 e.1, .int .i64 e.2]) (c : Int) (hv : a.eval v = .int .i64 c) (hc : (Lit.int .i64 c).wf = true) (hw : wfE e)
    (hK : ∀ w', MapE w' B (k + 1) (S ++ [e]) → w.grownBy w' (some B) → wpList Tryd.prog ops Q rest (a.put o.dst undef) w') : wpList Tryd.prog ops Q (o :: rest) a w := by
  obtain ⟨D, hO, hD⟩ := h
  refine wpList_mapUpdate_own w hg m x v t hop 49 3 lawE ht _ B k D hm hO (by unfold maxLen; omega) _ _ _ hx hv (keyE hw) _ [] (plainElem_int Tryd.underlying3 hc) fun w' h1 h2 => hK w' ⟨_, h1, fun f hf => ?_⟩ h2
  by_cases hfe : f = e
  · subst hfe
    exact ⟨fun _ => ⟨c, fun zd => atKey_put_same hO.isMap (isKeyE hw) _ _⟩, fun hn => absurd (by simp) hn⟩
  · have hne : litE f ≠ litE e := fun h => hfe (litE_inj hf hw h)
    obtain ⟨d1, d2⟩ := hD f hf
    refine ⟨fun hm => ?_, fun hn zd => ?_⟩
    · obtain ⟨c2, hc2⟩ := d1 (by simpa [hfe] using hm)
      exact ⟨c2, fun zd => (atKey_put_other hne _ _).trans (hc2 zd)⟩
    · exact (atKey_put_other hne _ _).trans (d2 (by simp at hn; exact hn.1) zd)
end
end Go.Proofs.YtljihclpgpmfeaaDoor
/- Rows of edges of the call's own: made, appended to. No function is walked. -/
namespace Go.Proofs.YtljihclpgpmfeaaDoor
set_option maxRecDepth 100000
open Go.RowKit Go.Shelf

theorem infoE : (Tryd.prog.info? 49).map (fun i => (i.zero, i.size, i.bytes)) = some (some (.agg #[.int .i64 0, .int .i64 0]), 2, 16) := by kernel_rfl
theorem made_edges (n : Nat) : madeCells #[.int .i64 0, .int .i64 0] (n * 2) = (cellsE (List.replicate n (0, 0))).toArray := by
  apply Array.ext_getElem?
  intro i
  unfold madeCells
  by_cases h : i < n * 2
  · obtain ⟨a0, a1⟩ := cellsE_at (l := List.replicate n ((0 : Int), (0 : Int))) (i := i / 2) (e := (0, 0)) (by rw [List.getElem?_replicate, if_pos (by omega)])
    rcases Nat.mod_two_eq_zero_or_one i with h2 | h2
    · rw [show i / 2 * 2 = i from by omega] at a0
      simp [h, h2, a0]
    · rw [show i / 2 * 2 + 1 = i from by omega] at a1
      simp [h, h2, a1]
  · have : (cellsE (List.replicate n ((0 : Int), (0 : Int)))).length ≤ i := by rw [length_cellsE, List.length_replicate]; omega
    simp [h, this]
theorem mk_edges (l n : Nat) (hl : l ≤ n) (hn : n ≤ 100000) (W : World) : (Instr.makeSlice 24 (.int .i64 (l : Int)) (.int .i64 (n : Int))).run Tryd.prog W = .ok (.slice (some ⟨W.heap.size, 0, none⟩) l n) (W.alloc (.cells (cellsE (List.replicate n (0, 0))).toArray 49)) := by
  obtain ⟨i0, hi, hz0, hz1, hz2⟩ := info_parts infoE
  have hmk := run_make (P := Tryd.prog) W 24 49 i0 _ Tryd.underlying24 hi hz0 .i64 .i64 l n (by omega) (by omega) (by rw [hz2]; omega) (by omega)
  rw [hz1] at hmk
  simp only [Int.toNat_natCast, Value.cells, made_edges] at hmk
  exact hmk
/-- A row of edges of the call's own. -/
def RowE (B : Nat) (W : World) (v : Value) (l : List (Int × Int)) : Prop :=
  (l = [] ∧ v = .slice none 0 0) ∨ ∃ g cap more, v = .slice (some ⟨g, 0, none⟩) l.length cap ∧ B ≤ g ∧ Own W g 49 (cellsE l ++ more) ∧ l.length ≤ cap ∧ cap ≤ maxLen ∧ (cellsE l ++ more).length = cap * 2
section
variable {W W' : World} {v : Value} {l : List (Int × Int)} {B : Nat}
theorem RowE.below (h : RowE B W v l) (hb : Below W.heap.size W W') : RowE B W' v l := by
  rcases h with h | ⟨g, cap, more, e, hg, ho, h⟩
  · exact .inl h
  · exact .inr ⟨g, cap, more, e, hg, ho.below' hb, h⟩
theorem RowE.base {B' : Nat} (h : RowE B W v l) (hB : B' ≤ B) : RowE B' W v l := by
  rcases h with h | ⟨g, cap, more, e, hg, h⟩
  · exact .inl h
  · exact .inr ⟨g, cap, more, e, Nat.le_trans hB hg, h⟩
theorem RowE.rd (h : RowE B W v l) : ∃ A c, v = .slice A l.length c ∧ l.length ≤ c ∧ Rd W A (cellsE l) := by
  rcases h with ⟨rfl, rfl⟩ | ⟨g, cap, more, e, hg, ho, h, _⟩
  · exact ⟨none, 0, rfl, Nat.le_refl _, Rd.nil⟩
  · exact ⟨_, cap, e, h, rd_front ho⟩
theorem RowE.arg (h : RowE B W v l) (hl : l.length ≤ 100000) : ∃ A c, v = .slice A l.length c ∧ ArgE W A l.length c l := by
  obtain ⟨A, c, e, hc, hr⟩ := h.rd
  exact ⟨A, c, e, hr, rfl, by omega, hc⟩
/-- Room made for some edges. -/
theorem RowE.room (W : World) (B n : Nat) (hn : n ≤ 100000) (hB : B ≤ W.heap.size) : RowE B (W.alloc (.cells (cellsE (List.replicate n (0, 0))).toArray 49)) (.slice (some ⟨W.heap.size, 0, none⟩) 0 n) [] :=
  .inr ⟨W.heap.size, n, cellsE (List.replicate n (0, 0)), rfl, hB, Own.new' rfl, Nat.zero_le _, by unfold maxLen; omega, by show (cellsE (List.replicate n ((0 : Int), (0 : Int)))).length = _; rw [length_cellsE, List.length_replicate]⟩
theorem RowE.made {g : Nat} (h : Own W g 49 (cellsE l)) (hB : B ≤ g) (hl : l.length ≤ 100000) : RowE B W (.slice (some ⟨g, 0, none⟩) l.length l.length) l :=
  .inr ⟨g, l.length, [], rfl, hB, by rw [List.append_nil]; exact h, Nat.le_refl _, by unfold maxLen; omega, by rw [List.append_nil, length_cellsE]⟩
/-- append of edges to edges of the call's own: what was written is the row's own block or a new one. -/
theorem run_append_edges (ty : TypeId) (A : Option Addr) (n c : Nat) {k : List (Int × Int)} (h1 : RowE B W v l) (hn : n = k.length) (hr : Rd W A (cellsE k)) (hsz : l.length + n ≤ 1000000) (hB : B ≤ W.heap.size) :
    ∃ v' w', (Builtin.append_ #[24, 24] ty #[v, .slice A n c]).run Tryd.prog W = .ok v' w' ∧ RowE B w' v' (l ++ k) ∧ Below B W w' ∧ (∀ q, q < W.heap.size → some q ≠ v.ownBlock → w'.heap[q]? = W.heap[q]?) := by
  obtain ⟨i0, hi, hz0, hz1, hz2⟩ := info_parts infoE
  cases A with
  | none =>
    have hk : k = [] := by
      rcases Nat.eq_zero_or_pos k.length with h | h
      · exact List.eq_nil_of_length_eq_zero h
      · obtain ⟨b, off, e, _⟩ := hr (by rw [length_cellsE]; omega)
        cases e
    subst hk
    rw [List.append_nil]
    have hn0 : n = 0 := hn
    subst hn0
    refine ⟨v, W, ?_, h1, Below.refl _ _, fun _ _ _ => rfl⟩
    rcases h1 with ⟨_, rfl⟩ | ⟨g, cap, more, rfl, hg, ho, r1, r2, r3⟩
    · simp [Builtin.append_, run_underlying Tryd.underlying24, sizeOf, typeInfo, hi, Builtin.lenOf, Builtin.firstCells]
    · simp [Builtin.append_, run_underlying Tryd.underlying24, sizeOf, typeInfo, hi, Builtin.lenOf, Builtin.firstCells, r1, storeCells]
  | some ad =>
    have hnews : ∀ j u, (cellsE k)[j]? = some u → W.cell? (ad.add j) = some u := fun j u hu => by
      have hl : 0 < (cellsE k).length := by
        rcases Nat.lt_or_ge j (cellsE k).length with h | h
        · omega
        · rw [List.getElem?_eq_none h] at hu; cases hu
      obtain ⟨b, off, e, hb, hc⟩ := hr hl
      injection e with e
      subst e
      rw [add_off]
      exact hc j u hu
    have hown : W.ownsRow B 49 2 v l.length (cellsE l) := by
      rcases h1 with ⟨rfl, rfl⟩ | ⟨g, cap, more, rfl, hg, ho, r1, r2, r3⟩
      · exact World.ownsRow_nil _ _ _ _
      · exact owns_of_own ho hg (length_cellsE l) r1 r2 r3
    obtain ⟨v', w', e, hown', hgrow, hnil, hblk⟩ := run_append_own_at (P := Tryd.prog) W B 24 ty 49 i0 (.agg #[.int .i64 0, .int .i64 0]) 2 16 Tryd.underlying24 hi hz0 hz1 hz2 rfl (by decide) v l.length (cellsE l) hown ad n c (cellsE k) (by rw [length_cellsE, hn]) hnews cellsE_one (by unfold maxLen; omega) (by omega) hB
    refine ⟨v', w', e, ?_, ?_, fun q hq hne => hgrow.block q hq hne⟩
    · by_cases hv : v' = .slice none 0 0
      · obtain ⟨hv0, hm0⟩ := hnil.1 hv
        refine .inl ⟨?_, hv⟩
        have : k = [] := List.eq_nil_of_length_eq_zero (by omega)
        subst this
        rcases h1 with ⟨rfl, _⟩ | ⟨g, cap, more, e, _⟩
        · rfl
        · rw [e] at hv0; cases hv0
      · obtain ⟨g', cap', more', rfl, hg', hO, p1, p2, p3⟩ := row_own hown' hv
        rw [← cellsE_append] at hO p3
        exact .inr ⟨g', cap', more', by rw [List.length_append, hn], hg', hO, by rw [List.length_append, ← hn]; exact p1, p2, p3⟩
    · rcases h1 with ⟨_, rfl⟩ | ⟨g, cap, more, rfl, hg, ho, _⟩
      · exact (below_none hgrow).mono hB
      · exact grown_below hgrow hg hB
theorem wpList_append_edges {ops : Array Oper} {rest : List Oper} {o : Oper} {a : Act} {Q : Exit → Act → World → Prop} (hgd : o.guard = none) (s x : Operand)
    (ho : o.op = .call { callee := .builtin .append, args := #[s, x], argTypes := #[24, 24] }) (A : Option Addr) (n c : Nat) {k : List (Int × Int)} (hs : a.eval s = v) (hx : a.eval x = .slice A n c) (h1 : RowE B W v l) (hn : n = k.length) (hr : Rd W A (cellsE k)) (hsz : l.length + n ≤ 1000000) (hB : B ≤ W.heap.size)
    (h : ∀ v' w', RowE B w' v' (l ++ k) → Below B W w' → (∀ q, q < W.heap.size → some q ≠ v.ownBlock → w'.heap[q]? = W.heap[q]?) → wpList Tryd.prog ops Q rest (a.put o.dst v') w') : wpList Tryd.prog ops Q (o :: rest) a W := by
  obtain ⟨v', w', e, q1, q2, q3⟩ := run_append_edges o.type A n c h1 hn hr hsz hB
  refine wpList_plain hgd fun K hK => ?_
  unfold Oper.wp execOp
  simp only [ho, resolve, invoke, builtin, Sem.run_bind, Sem.run_pure, Result.andThen_ok, List.map_toArray, List.map_cons, List.map_nil, hs, hx, e]
  exact hK _ _ (h v' w' q1 q2 q3)
end
end Go.Proofs.YtljihclpgpmfeaaDoor
/- Walk: graph.New. -/
namespace Go.Proofs.YtljihclpgpmfeaaDoor
set_option maxRecDepth 100000
open Go.RowKit Go.Sort Go.Shelf

/-- An edge, the lesser end first. -/
def normE (e : Int × Int) : Int × Int := (min e.1 e.2, max e.1 e.2)
/-- Are the edges, put the right way round, right ones for so many vertices, none met before? -/
def okN (n : Int) : List (Int × Int) → List (Int × Int) → Bool
  | _, [] => true
  | S, e :: r => (decide (0 ≤ (normE e).1) && decide ((normE e).1 ≠ (normE e).2) && decide ((normE e).2 < n)) && !S.contains (normE e) && okN n (S ++ [normE e]) r
def newO (n : Int) (E : List (Int × Int)) : Except Int (List (Int × Int)) :=
  if 200 < n ∨ 594 < E.length then .error 21 else if n < 0 then .error 20 else if okN n [] E = true then .ok (riseE (E.map normE)) else .error 20
theorem okN_step {n : Int} {E : List (Int × Int)} {k : Nat} {e : Int × Int} (h : E[k]? = some e) : okN n ((E.take k).map normE) (E.drop k) = ((decide (0 ≤ (normE e).1) && decide ((normE e).1 ≠ (normE e).2) && decide ((normE e).2 < n)) && !((E.take k).map normE).contains (normE e) && okN n ((E.take (k + 1)).map normE) (E.drop (k + 1))) := by
  obtain ⟨hl, he⟩ := List.getElem?_eq_some_iff.1 h
  rw [List.drop_eq_getElem_cons hl, he, List.take_add_one, h, List.map_append]
  rfl
theorem okN_end {n : Int} {E S : List (Int × Int)} {k : Nat} (h : E.length ≤ k) : okN n S (E.drop k) = true := by
  rw [List.drop_eq_nil_of_le h]; rfl
/-- A graph in new memory, or an error. -/
def GrE (w : World) (n : Int) (o : Except Int (List (Int × Int))) (e : Ending) (w' : World) : Prop :=
  match o with
  | .error c => e = .returned (.tuple #[.agg #[.int .i64 0, .slice none 0 0], .int .i64 c]) ∧ Below w.heap.size w w'
  | .ok l => ∃ v, e = .returned (.tuple #[.agg #[.int .i64 n, v], .int .i64 0]) ∧ RowE w.heap.size w' v l ∧ Below w.heap.size w w'
theorem MapE.same {w w' : World} {B k : Nat} {S : List (Int × Int)} (h : MapE w B k S) (hs : w'.heap[B]? = w.heap[B]?) : MapE w' B k S := by
  obtain ⟨D, ⟨es, clock, hb, r⟩, hD⟩ := h
  exact ⟨D, ⟨es, clock, hs.trans hb, r⟩, hD⟩
theorem RowE.far {W W' : World} {v : Value} {l : List (Int × Int)} {B m : Nat} (h : RowE B W v l) (hg : W.grownBy W' (some m)) (hm : m < B) : RowE B W' v l := by
  rcases h with h | ⟨g, cap, more, e, hgb, ho, h⟩
  · exact .inl h
  · exact .inr ⟨g, cap, more, e, hgb, ho.grown hg (by intro e; injection e with e; omega), h⟩
set_option maxRecDepth 100000 in
set_option maxHeartbeats 8000000 in
theorem newG_any (N : Int) (A : Option Addr) (n c : Nat) (E : List (Int × Int)) (w : World) (h : ArgE w A n c E) :
    Calls Tryd.prog 22 #[.int .i64 N, .slice A n c] w (GrE w N (newO N E)) := by
  have H := Lib.hid h
  have hle := h.le
  clear h
  by_cases h1 : 200 < N
  · have HR := Lib.hid (show newO N E = .error 21 from if_pos (.inl h1))
    have d1 : decide (200 < N) = true := decide_eq_true h1
    rw [HR.out]
    clear HR h1
    go_enter Tryd.func22, Tryd.ntmps22
    go_wp2
    have hO := Own.new' (t := 26) (w := w) (vs := [.int .i64 0, .slice none 0 0]) rfl
    have q0 := hO.cell 0
    have q1 := hO.cell 1
    simp only [List.getElem?_cons_zero, List.getElem?_cons_succ] at q0 q1
    exact bodyPost_ret (v := .tuple #[.agg #[.int .i64 0, .slice none 0 0], .int .i64 21]) (by simp [results, Tryd.results22, go_sem, q0, q1]) rfl ⟨rfl, alloc_below w _⟩
  have d1 : decide (200 < N) = false := by rw [decide_eq_false_iff_not]; exact h1
  by_cases h2 : 594 < n
  · have HR := Lib.hid (show newO N E = .error 21 from if_pos (.inr (by have := H.out.len; omega)))
    have d2 : decide (594 < (n : Int)) = true := by rw [decide_eq_true_eq]; omega
    rw [HR.out]
    clear HR h1 h2
    go_enter Tryd.func22, Tryd.ntmps22
    go_wp2
    have hO := Own.new' (t := 26) (w := w) (vs := [.int .i64 0, .slice none 0 0]) rfl
    have q0 := hO.cell 0
    have q1 := hO.cell 1
    simp only [List.getElem?_cons_zero, List.getElem?_cons_succ] at q0 q1
    exact bodyPost_ret (v := .tuple #[.agg #[.int .i64 0, .slice none 0 0], .int .i64 21]) (by simp [results, Tryd.results22, go_sem, q0, q1]) rfl ⟨rfl, alloc_below w _⟩
  have d2 : decide (594 < (n : Int)) = false := by rw [decide_eq_false_iff_not]; omega
  by_cases h3 : N < 0
  · have HR := Lib.hid (show newO N E = .error 20 from (if_neg (by have := H.out.len; omega)).trans (if_pos h3))
    have d3 : decide (N < 0) = true := decide_eq_true h3
    rw [HR.out]
    clear HR h1 h2 h3
    go_enter Tryd.func22, Tryd.ntmps22
    go_wp2
    have hO := Own.new' (t := 26) (w := w) (vs := [.int .i64 0, .slice none 0 0]) rfl
    have q0 := hO.cell 0
    have q1 := hO.cell 1
    simp only [List.getElem?_cons_zero, List.getElem?_cons_succ] at q0 q1
    exact bodyPost_ret (v := .tuple #[.agg #[.int .i64 0, .slice none 0 0], .int .i64 20]) (by simp [results, Tryd.results22, go_sem, q0, q1]) rfl ⟨rfl, alloc_below w _⟩
  have d3 : decide (N < 0) = false := by rw [decide_eq_false_iff_not]; exact h3
  have HBAD := Lib.hid (show ∀ S R, okN N [] E = (S && R) → (S = false ∨ R = false) → newO N E = .error 20 from fun S R he hs => (if_neg (by have := H.out.len; omega)).trans ((if_neg h3).trans (if_neg (by rw [he]; rcases hs with h | h <;> simp [h]))))
  have HGOOD := Lib.hid (show okN N [] E = true → newO N E = .ok (riseE (E.map normE)) from fun he => (if_neg (by have := H.out.len; omega)).trans ((if_neg h3).trans (if_pos he)))
  have hn : n ≤ 594 := by omega
  have HN200 := Lib.hid (show N ≤ 200 by omega)
  have HMK := Lib.hid (fun W => mk_edges 0 n (Nat.zero_le _) (by omega) W)
  have hmk := HMK.out
  have hmm := @run_makeMap Tryd.prog
  rw [show ((0 : Nat) : Int) = 0 from rfl] at hmk
  clear h1 h2 h3 HMK
  have hW1 := alloc_below w (.cells #[.int .i64 0, .slice none 0 0] 26)
  have hW2 := alloc_below (w.alloc (.cells #[.int .i64 0, .slice none 0 0] 26)) (.map #[] 0)
  have hW3 := alloc_below ((w.alloc (.cells #[.int .i64 0, .slice none 0 0] 26)).alloc (.map #[] 0)) (.cells (cellsE (List.replicate n (0, 0))).toArray 49)
  have HS0 := Lib.hid (show okN N [] E = okN N ((E.take 0).map normE) (E.drop 0) from rfl)
  have HM0 := Lib.hid (show MapE (((w.alloc (.cells #[.int .i64 0, .slice none 0 0] 26)).alloc (.map #[] 0)).alloc (.cells (cellsE (List.replicate n (0, 0))).toArray 49)) (w.heap.size + 1) 0 ((E.take 0).map normE) from (by have h := (MapE.made (w.alloc (.cells #[.int .i64 0, .slice none 0 0] 26))).below hW3; rw [World.size_alloc] at h; exact h))
  have HR0 := Lib.hid (show RowE (w.heap.size + 2) (((w.alloc (.cells #[.int .i64 0, .slice none 0 0] 26)).alloc (.map #[] 0)).alloc (.cells (cellsE (List.replicate n (0, 0))).toArray 49)) (.slice (some ⟨w.heap.size + 2, 0, none⟩) 0 n) ((E.take 0).map normE) from (by have h := RowE.room ((w.alloc (.cells #[.int .i64 0, .slice none 0 0] 26)).alloc (.map #[] 0)) (w.heap.size + 2) n (by omega) (by simp); rw [World.size_alloc, World.size_alloc] at h; exact h))
  have HG0 := Lib.hid (((Own.new' (t := 26) (w := w) (vs := [.int .i64 0, .slice none 0 0]) rfl).below' hW2).below' hW3)
  have HB0 := Lib.hid ((hW1.trans (hW2.mono (by simp))).trans (hW3.mono (by simp; omega)))
  clear hW1 hW2 hW3
  go_enter Tryd.func22, Tryd.ntmps22
  go_wp2
  go_loopw [7, 8, 9, 10, 11, 12, 30] (fun v7 _ _ _ _ _ i wr => ∃ k : Nat, k ≤ n ∧ i = .int .i64 (k : Int) ∧ Hid (okN N [] E = okN N ((E.take k).map normE) (E.drop k)) ∧ Hid (MapE wr (w.heap.size + 1) k ((E.take k).map normE)) ∧ Hid (RowE (w.heap.size + 2) wr v7 ((E.take k).map normE)) ∧ Hid (Own wr w.heap.size 26 [.int .i64 0, .slice none 0 0]) ∧ Hid (Below w.heap.size w wr) ∧ Hid (v7 ≠ .slice none 0 0)) (fun _ _ _ _ _ _ i _ => n - (intOf i).toNat)
  case atStart => exact ⟨0, Nat.zero_le _, rfl, HS0, HM0, HR0, HG0, HB0, Lib.hid (by simp)⟩
  case round =>
    obtain ⟨k, hk, rfl, hS, hM, hR, hG, hB, hNE⟩ := hrel
    by_cases hlt : k < n
    · obtain ⟨b, off, rfl, hb, hc⟩ := rd_edge H.out.rd (by have := H.out.len; omega)
      obtain ⟨e, he⟩ : ∃ x, E[k]? = some x := ⟨_, List.getElem?_eq_getElem (by have := H.out.len; omega)⟩
      have hst := Lib.hid (hS.out.trans (okN_step he))
      obtain ⟨x0, x1⟩ := e
      obtain ⟨q0, q1⟩ := hc wr hB.out k _ he
      have hbw : b < wr.heap.size := Nat.lt_of_lt_of_le hb hB.out.size
      clear hc
      clear hmk hmm
      obtain ⟨p0, hp0⟩ : ∃ p, min x0 x1 = p := ⟨_, rfl⟩
      obtain ⟨p1, hp1⟩ : ∃ p, max x0 x1 = p := ⟨_, rfl⟩
      have HN := Lib.hid (show normE (x0, x1) = (p0, p1) by unfold normE; rw [← hp0, ← hp1])
      have BV0 := Lib.hid (((alloc_below wr (.cells #[.int .i64 x0, .int .i64 x1] 49)).trans ((alloc_below (wr.alloc (.cells #[.int .i64 x0, .int .i64 x1] 49)) (.cells #[.int .i64 p0, .int .i64 p1] 49)).mono (by simp))))
      have BV := Lib.hid (hB.out.trans (BV0.out.mono hB.out.size))
      have OV := Lib.hid (hG.out.below' BV0.out)
      have yR := OV.out.lt; have fR := OV.out.frozen; have qR := OV.out.cell
      rw [HN.out] at hst
      by_cases c0 : p0 < 0
      · have HX := Lib.hid (HBAD.out _ _ hst.out (.inl (by simp [show ¬ (0 ≤ p0) from by omega])))
        have k0 : decide (p0 < 0) = true := decide_eq_true c0
        clear hst hS he c0
        rw [HX.out]
        go_wp2
        have hF := (OV.out.set 0 (.int .i64 0)).set 1 (.slice none 0 0)
        have r0 := hF.cell 0
        have r1 := hF.cell 1
        simp only [List.set_cons_zero, List.set_cons_succ, List.getElem?_cons_zero, List.getElem?_cons_succ] at r0 r1
        exact bodyPost_ret (v := .tuple #[.agg #[.int .i64 0, .slice none 0 0], .int .i64 20]) (by simp [results, Tryd.results22, go_sem, r0, r1]) rfl ⟨rfl, (BV.out.setCell (by simp; try omega) _).setCell (by simp; try omega) _⟩
      have k0 : decide (p0 < 0) = false := by rw [decide_eq_false_iff_not]; exact c0
      by_cases c1 : p0 = p1
      · have HX := Lib.hid (HBAD.out _ _ hst.out (.inl (by simp [c1])))
        have k1 : (p0 == p1) = true := by rw [beq_iff_eq]; exact c1
        clear hst hS he c0 c1
        rw [HX.out]
        go_wp2
        have hF := (OV.out.set 0 (.int .i64 0)).set 1 (.slice none 0 0)
        have r0 := hF.cell 0
        have r1 := hF.cell 1
        simp only [List.set_cons_zero, List.set_cons_succ, List.getElem?_cons_zero, List.getElem?_cons_succ] at r0 r1
        exact bodyPost_ret (v := .tuple #[.agg #[.int .i64 0, .slice none 0 0], .int .i64 20]) (by simp [results, Tryd.results22, go_sem, r0, r1]) rfl ⟨rfl, (BV.out.setCell (by simp; try omega) _).setCell (by simp; try omega) _⟩
      have k1 : (p0 == p1) = false := by rw [beq_eq_false_iff_ne]; exact c1
      by_cases c2 : N ≤ p1
      · have HX := Lib.hid (HBAD.out _ _ hst.out (.inl (by simp [show ¬ (p1 < N) from by omega])))
        have k2 : decide (N ≤ p1) = true := decide_eq_true c2
        clear hst hS he c0 c1
        rw [HX.out]
        go_wp2
        have hF := (OV.out.set 0 (.int .i64 0)).set 1 (.slice none 0 0)
        have r0 := hF.cell 0
        have r1 := hF.cell 1
        simp only [List.set_cons_zero, List.set_cons_succ, List.getElem?_cons_zero, List.getElem?_cons_succ] at r0 r1
        exact bodyPost_ret (v := .tuple #[.agg #[.int .i64 0, .slice none 0 0], .int .i64 20]) (by simp [results, Tryd.results22, go_sem, r0, r1]) rfl ⟨rfl, (BV.out.setCell (by simp; try omega) _).setCell (by simp; try omega) _⟩
      have k2 : decide (N ≤ p1) = false := by rw [decide_eq_false_iff_not]; exact c2
      have HP := Lib.hid (show 0 ≤ p0 ∧ p0 ≤ 200 ∧ 0 ≤ p1 ∧ p1 ≤ 200 by have := HN200.out; omega)
      have HW := Lib.hid (show wfE (p0, p1) from ⟨WalkArith.wf_i64 (by have := HP.out; omega), WalkArith.wf_i64 (by have := HP.out; omega)⟩)
      have MV := Lib.hid (hM.out.below BV0.out)
      obtain ⟨c5, hlook⟩ := MV.out.look Tryd.underlying79 HW.out
      simp only [] at hlook
      have HNX := Lib.hid (show (E.take k).map normE ++ [(p0, p1)] = (E.take (k + 1)).map normE by rw [List.take_add_one, he, List.map_append, ← HN.out]; rfl)
      clear he c0 c1 c2 hS
      cases hct : ((E.take k).map normE).contains (p0, p1) with
      | true =>
        rw [hct] at hlook
        have HX := Lib.hid (HBAD.out _ _ hst.out (.inl (by rw [hct]; simp)))
        clear hst hct
        rw [HX.out]
        go_wp2
        have hF := (OV.out.set 0 (.int .i64 0)).set 1 (.slice none 0 0)
        have r0 := hF.cell 0
        have r1 := hF.cell 1
        simp only [List.set_cons_zero, List.set_cons_succ, List.getElem?_cons_zero, List.getElem?_cons_succ] at r0 r1
        exact bodyPost_ret (v := .tuple #[.agg #[.int .i64 0, .slice none 0 0], .int .i64 20]) (by simp [results, Tryd.results22, go_sem, r0, r1]) rfl ⟨rfl, (BV.out.setCell (by simp; try omega) _).setCell (by simp; try omega) _⟩
      | false =>
        rw [hct] at hlook
        have hst2 := Lib.hid (hst.out.trans (show _ = okN N ((E.take (k + 1)).map normE) (E.drop (k + 1)) by
          rw [hct, show decide (0 ≤ (p0, p1).1) = true from decide_eq_true (by have := HP.out; show 0 ≤ p0; omega), show decide ((p0, p1).1 ≠ (p0, p1).2) = true from decide_eq_true (by show p0 ≠ p1; rw [beq_eq_false_iff_ne] at k1; exact k1), show decide ((p0, p1).2 < N) = true from decide_eq_true (by show p1 < N; rw [decide_eq_false_iff_not] at k2; omega)]
          rfl))
        clear hst hct
        have hml := hM.out.lt
        have OP := Lib.hid (Own.new' (t := 49) (w := wr.alloc (.cells #[.int .i64 x0, .int .i64 x1] 49)) (g := wr.heap.size + 1) (vs := [.int .i64 p0, .int .i64 p1]) (by simp))
        have RV := Lib.hid (hR.out.below BV0.out)
        have LS := Lib.hid (show ((E.take k).map normE).length = k by rw [List.length_map, List.length_take]; have := H.out.len; omega)
        go_wp2_with (first
          | (at_mapUpdate; refine wpList_put_edge Tryd.underlying79 rfl _ _ _ rfl rfl MV.out (by omega) (p0, p1) rfl _ rfl (WalkArith.wf_i64 (by omega)) HW.out ?_; intro w5 hM5 hg5
             have hs5 := hg5.size
             have OP5 := Lib.hid (OP.out.grown hg5 (by intro e; injection e with e; omega))
             have r0 := OP5.out.cell 0
             have r1 := OP5.out.cell 1
             have rz := OP5.out.lt
             have hP5 := Lib.hid (alloc_below w5 (.cells #[.int .i64 p0, .int .i64 p1] 49))
             have HRA := Lib.hid ((RV.out.far hg5 (by omega)).below hP5.out)
             have HRd := Lib.hid (show Rd (w5.alloc (.cells #[.int .i64 p0, .int .i64 p1] 49)) (some ⟨w5.heap.size, 0, none⟩) (cellsE [(p0, p1)]) from (Own.new' (t := 49) (w := w5) (vs := [.int .i64 p0, .int .i64 p1]) rfl).rd)
             have GV5 := Lib.hid (OV.out.grown hg5 (by intro e; injection e with e; omega))
             have B5 := Lib.hid ((BV.out.trans (grown_below hg5 (by omega) BV.out.size)).trans (hP5.out.mono (by have := BV.out.size; omega)))
             have M5 := Lib.hid (hM5.below hP5.out)
             have s5 : w.heap.size + 2 ≤ (w5.alloc (.cells #[.int .i64 p0, .int .i64 p1] 49)).heap.size := by simp; simp at hs5; omega
             have S5 := Lib.hid s5
             clear hM5 hg5 s5 hs5)
          | (at_builtin; refine wpList_append_edges rfl (.tmp 74) (.tmp 76) rfl (some ⟨w5.heap.size, 0, none⟩) 1 1 (k := [(p0, p1)]) rfl rfl HRA.out rfl HRd.out (by rw [LS.out]; omega) S5.out ?_
             intro v6 w6 hR6 hB6 _
             have R6 := Lib.hid hR6; have B6 := Lib.hid hB6
             clear hR6 hB6))
        refine ⟨⟨k + 1, by omega, by simp, hst2, Lib.hid ?_, Lib.hid ?_, Lib.hid ?_, Lib.hid ?_, Lib.hid ?_⟩, by simp [intOf]; omega⟩
        · have h := M5.out.same (B6.out.block _ (by omega))
          rw [HNX.out] at h
          exact h
        · have h := R6.out
          rw [HNX.out] at h
          exact h
        · exact (B6.out.block _ (by omega)).trans (GV5.out.below' hP5.out)
        · exact B5.out.trans (B6.out.mono (by omega))
        · intro e
          subst e
          rcases R6.out with ⟨h, _⟩ | ⟨g, cap, more, h, _⟩
          · simp at h
          · simp at h
    · obtain rfl : n = k := by omega
      have HX := Lib.hid (HGOOD.out (hS.out.trans (okN_end (by have := H.out.len; omega))))
      have LS := Lib.hid (show ((E.take n).map normE).length = n by rw [List.length_map, List.length_take]; have := H.out.len; omega)
      have TK := Lib.hid (show (E.take n).map normE = E.map normE by rw [List.take_of_length_le (by have := H.out.len; omega)])
      rcases hR.out with ⟨_, e⟩ | ⟨g, cap, more, e, hgb, ho, h1, h2, h3⟩
      · exact absurd e hNE.out
      rw [LS.out] at e h1
      subst e
      rw [TK.out] at ho h3
      have HSo := Lib.hid (sortE_any g n cap (E.map normE) more wr ho (by rw [← TK.out, LS.out]) (by omega))
      have HGR := Lib.hid hgb
      have HH := Lib.hid (show n ≤ cap ∧ cap ≤ maxLen ∧ (cellsE (E.map normE) ++ more).length = cap * 2 ∧ (E.map normE).length = n from ⟨h1, h2, h3, by rw [← TK.out, LS.out]⟩)
      clear hmk hmm ho h1 h2 h3 hR hM hS
      rw [HX.out]
      go_wp2_with fail
      refine HSo.out.mono ?_
      rintro e w' ⟨rfl, hO2, hg2⟩
      have OG := Lib.hid (hG.out.grown hg2 (by intro e; injection e with e; omega))
      have yR := OG.out.lt; have fR := OG.out.frozen; have qR := OG.out.cell
      have BF := Lib.hid (hB.out.trans (grown_below hg2 (by omega) hB.out.size))
      have HO2 := Lib.hid hO2
      clear hO2 hg2
      go_wp2
      have hF := (OG.out.set 0 (.int .i64 N)).set 1 (.slice (some ⟨g, 0, none⟩) n cap)
      have r0 := hF.cell 0
      have r1 := hF.cell 1
      simp only [List.set_cons_zero, List.set_cons_succ, List.getElem?_cons_zero, List.getElem?_cons_succ] at r0 r1
      have LR : (riseE (E.map normE)).length = n := (length_rise _).trans HH.out.2.2.2
      exact bodyPost_ret (v := .tuple #[.agg #[.int .i64 N, .slice (some ⟨g, 0, none⟩) n cap], .int .i64 0]) (by simp [results, Tryd.results22, go_sem, r0, r1]) rfl
        (by show GrE w N (newO N E) _ _
            rw [HX.out]
            exact ⟨_, rfl, .inr ⟨g, cap, more, by rw [LR], by have := HGR.out; omega, (HO2.out.far (by intro e; simp at e; have := HGR.out; omega) _).far (by intro e; simp at e; have := HGR.out; omega) _, by rw [LR]; exact HH.out.1, HH.out.2.1, by have := HH.out.2.2.1; rw [List.length_append, length_cellsE] at this ⊢; rw [LR]; rw [HH.out.2.2.2] at this; exact this⟩, (BF.out.setCell (by simp; try omega) _).setCell (by simp; try omega) _⟩)
end Go.Proofs.YtljihclpgpmfeaaDoor
