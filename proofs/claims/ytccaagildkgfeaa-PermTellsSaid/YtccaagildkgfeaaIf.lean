/- A range over a permutation's cycles: the caller's law; the iterator's maker. -/
import Derived.Test.YtccaagildkgfeaaIe
namespace Go.Proofs.Ytccaagildkgfeaa
open Go.RowKit Go.Shelf

theorem Keep.trans {bx B0 : Nat} {U V W : World} (h : Keep bx B0 U V) (k : Keep bx B0 V W) : Keep bx B0 U W := ⟨Nat.le_trans h.size k.size, fun g vs ho => k.met g vs (h.met g vs ho), k.box.trans h.box, h.bel.trans k.bel⟩
theorem own_put {V : World} {l g : Nat} {t : TypeId} {vs : List Value} {o : Obj} (o' : Obj) (h : Own V g t vs) (hl : V.heap[l]? = some o) (ho : o.isCells = false) : g ≠ l ∧ Own (V.putObj l o') g t vs := by
  have hne : g ≠ l := by
    rintro rfl
    unfold Own at h
    rw [h] at hl
    injection hl with hl
    subst hl
    simp [Obj.isCells] at ho
  exact ⟨hne, (World.putObj_heap_other hne).trans h⟩
theorem below_put {B l : Nat} {V : World} {o : Obj} (o' : Obj) (hB : B ≤ l) (hl : V.heap[l]? = some o) : Below B V (V.putObj l o') :=
  grown_below (grownBy_putObj' V l o') hB (by have := (Array.getElem?_eq_some_iff.1 hl).1; omega)
theorem keep_put {bx B0 l : Nat} {V : World} {o : Obj} {vs : List Value} {t : TypeId} (o' : Obj) (hB : B0 ≤ l) (hbx : Own V bx t vs) (hl : V.heap[l]? = some o) (ho : o.isCells = false) : Keep bx B0 V (V.putObj l o') :=
  ⟨by simp, fun g vs h => (own_put o' h hl ho).2, World.putObj_heap_other (own_put o' hbx hl ho).1, below_put o' hB hl⟩
theorem wpIn_cycles {nn : Nat} {g : Operand} {ps : Array Tmp} {assign body : Code} {Q : Exit → Act → World → Prop} {a : Act} {w : World} (bx m c : Nat) (A : Option Addr) (p : List Int) (w0 : World)
    (hg : a.eval g = .func (.func 43) #[] #[.pointer (some ⟨bx, 0, none⟩)]) (hps : ps.size = 1)
    (hp : rightP p = true) (hA : ArgI w0 A m c p) (hb0 : Below w0.heap.size w0 w) (hbx : Own w bx 22 [.slice A m c])
    (I : Nat → World → Prop)
    (hI : ∀ (j : Nat) (V V' : World) (g : Nat) (vs : List Value), I j V → Own V g 4 vs → w.heap.size < g → V.grownBy V' (some g) → I j V')
    (hIp : ∀ (j : Nat) (V : World) (k : Nat) (o o' : Obj), I j V → w.heap.size ≤ k → V.heap[k]? = some o → o.isCells = false → I j (V.putObj k o'))
    (hIa : ∀ (j : Nat) (V : World) (o : Obj), I j V → I j (V.alloc o))
    (hskip : ∀ (j : Nat) (V : World), j < m → leastB p j = false → I j V → I (j + 1) V) (h0 : I 0 w) (a₁ : Value → Act)
    (hassign : ∀ (l : Nat) (v : Value) (W : World) (K : Act → World → Prop), K (a₁ v) W →
      assign.wpIn (Fence.wide.inRound l) nn Try.prog (Exit.then K (fun _ _ _ => False)) { tmps := (ps.zip #[v]).foldl (fun t (p, v) => t.setIfInBounds p v) a.tmps, defers := [] } W)
    (hbody : ∀ (l j : Nat) (V : World) (g cap : Nat) (more : List Value), j < m → leastB p j = true → I j V → Own V g 3 (cellsI (cyc p j) ++ more) → w.heap.size < g → ord1 p j ≤ cap → cap ≤ maxLen → (cellsI (cyc p j) ++ more).length = cap → Below w0.heap.size w0 V → Own V bx 22 [.slice A m c] → Prev I j g V →
      body.wpIn (Fence.wide.inRound l) nn Try.prog (fun ex _ V' => ex = .normal ∧ KeepsOthers V V' ∧ I (j + 1) V' ∧ Keep bx w0.heap.size V V') (a₁ (.slice (some ⟨g, 0, none⟩) (ord1 p j) cap)) V)
    (hdone : ∀ (W : World), I m W → Below w0.heap.size w0 W → W.heap[w.heap.size]? = some (.deferred (some [])) → Q .normal { a with defers := { target := .collected w.heap.size, args := #[] } :: a.defers } W) :
    (Code.rangeFunc g ps assign body).wpIn Fence.wide (nn + 2) Try.prog Q a w := by
  refine wpIn_rangeFunc ?_
  intro fn _
  obtain ⟨rec, hrec⟩ : ∃ rec : LoopState → Option Code → Loop, rec = fun st pe => { state := st, pending := pe, fn, tmps := a.tmps, params := ps, assign, body, defers := w.heap.size } := ⟨_, rfl⟩
  obtain ⟨W1, hW1⟩ : ∃ W1, (w.alloc (.deferred (some []))).alloc (.loop (rec .ready none)) = W1 := ⟨_, rfl⟩
  have hs1 : W1.heap.size = w.heap.size + 2 := by rw [← hW1]; simp
  have hL1 : W1.heap[w.heap.size + 1]? = some (.loop (rec .ready none)) := by rw [← hW1]; exact heap_new' _ (by simp)
  have hK1 : W1.heap[w.heap.size]? = some (.deferred (some [])) := by rw [← hW1]; exact (Below.heap_alloc _ _ _ (by simp)).trans (heap_new' _ rfl)
  have hI1 : I 0 W1 := by rw [← hW1]; exact hIa _ _ _ (hIa _ _ _ h0)
  have hz0 := hb0.size
  have hb1 : Below w0.heap.size w0 W1 := by rw [← hW1]; exact (hb0.alloc hz0 _).alloc (by simp; omega) _
  have hbx1 : Own W1 bx 22 [.slice A m c] := by rw [← hW1]; exact (hbx.alloc _).alloc _
  refine ⟨w.heap.size + 1, [{ target := .collected w.heap.size, args := #[] }], W1, { target := .fn (.func 43) #[.pointer (some ⟨bx, 0, none⟩)], args := #[.func (.yield (w.heap.size + 1)) #[] #[]] }, W1, 43,
    #[.func (.yield (w.heap.size + 1)) #[] #[], .pointer (some ⟨bx, 0, none⟩)], W1, ?_, ?_, fun _ _ => trivial, ?_, fun _ => by omega, ?_⟩
  · rw [← hW1, hrec]; exact run_enterLoop_outer _ _ _ _ _
  · simp only [resolve, hg]
    simp [go_sem]
  · have eg : ∀ args w, (callFunc 43 args).run Try.prog w = .ok (.enter 43 args) w := enters_of Try.func43 (by kernel_rfl) rfl
    simp [invoke, go_sem, eg]
  · refine (cycles_iter (w.heap.size + 1) nn bx m c A p (fun j V => I j V ∧ V.heap[w.heap.size + 1]? = some (.loop (rec .ready none)) ∧ V.heap[w.heap.size]? = some (.deferred (some []))) w0 W1 hp hA hb1 hbx1 ?_ ?_ ?_ ?_ ⟨hI1, hL1, hK1⟩).mono ?_
    · rintro j V V' vs ⟨h1, h2, h3⟩ ho hgr
      have l1 := (Array.getElem?_eq_some_iff.1 h2).1
      have l2 := (Array.getElem?_eq_some_iff.1 h3).1
      exact ⟨hI j V V' _ vs h1 ho (by omega) hgr, (hgr.block _ l1 (by simp; omega)).trans h2, (hgr.block _ l2 (by simp; omega)).trans h3⟩
    · rintro j V o ⟨h1, h2, h3⟩
      exact ⟨hIa j V o h1, (Below.heap_alloc _ _ _ (Array.getElem?_eq_some_iff.1 h2).1).trans h2, (Below.heap_alloc _ _ _ (Array.getElem?_eq_some_iff.1 h3).1).trans h3⟩
    · rintro j V gg cap more hj hl ⟨h1, h2, h3⟩ ho hgw hc1 hc2 hc3 hbV hxV ⟨V1, hJ1, hg1, hk1⟩
      have l2 := (Array.getElem?_eq_some_iff.1 h2).1
      have hyy := run_yield (P := Try.prog) (args := #[.slice (some ⟨gg, 0, none⟩) (ord1 p j) cap]) h2 (by rw [hrec, hps]; rfl)
      rw [hrec] at hyy
      refine ⟨fn, _, assign, body, hyy, roundIn_of_wpIn trivial (hassign _ _ V _ ⟨_, run_beginRound h2 (by rw [hrec]), ?_⟩)⟩
      obtain ⟨V2, hV2⟩ : ∃ V2, V.putObj (w.heap.size + 1) (.loop { rec .ready none with state := .busy }) = V2 := ⟨_, rfl⟩
      have k2 : V2.heap[w.heap.size + 1]? = some (.loop { rec .ready none with state := .busy }) := by rw [← hV2]; exact World.putObj_heap_same l2
      have d2 : V2.heap[w.heap.size]? = some (.deferred (some [])) := by rw [← hV2]; exact (World.putObj_heap_other (by omega)).trans h3
      have kp : Keep bx w0.heap.size V V2 := by rw [← hV2]; exact keep_put _ (by omega) hxV h2 rfl
      have i2 : I j V2 := by rw [← hV2]; exact hIp _ _ _ _ _ h1 (by omega) h2 rfl
      have o2 : Own V2 gg 3 (cellsI (cyc p j) ++ more) := by rw [← hV2]; exact (own_put _ ho h2 rfl).2
      have x2 : Own V2 bx 22 [.slice A m c] := by rw [← hV2]; exact (own_put _ hxV h2 rfl).2
      rw [hV2]
      refine wpIn_mono (hbody _ j V2 gg cap more hj hl i2 o2 (by omega) hc1 hc2 hc3 (hbV.trans kp.bel) x2 ⟨V1, hJ1.1, hg1, fun b t vs ht ho => by rw [← hV2]; exact (own_put _ (hk1 b t vs ht ho) h2 rfl).2⟩) ?_
      rintro ex a3 V3 ⟨rfl, hk3, hi3, kp3⟩
      have k3 := hk3.same _ _ k2 rfl
      have d3 := hk3.same _ _ d2 rfl
      have l3 := (Array.getElem?_eq_some_iff.1 k3).1
      have hr := run_endRound (P := Try.prog) none k3
      have hxb : Own V3 bx 22 [.slice A m c] := kp3.box.trans x2
      refine ⟨_, _, hr, rfl, ⟨hIp _ _ _ _ _ hi3 (by omega) k3 rfl, ?_, (World.putObj_heap_other (by omega)).trans d3⟩, kp.trans (kp3.trans (keep_put _ (by omega) hxb k3 rfl))⟩
      rw [World.putObj_heap_same l3, hrec]
      rfl
    · rintro j V hj hl ⟨h1, h2, h3⟩
      exact ⟨hskip j V hj hl h1, h2, h3⟩
    · rintro e W2 ⟨⟨v, rfl⟩, ⟨h1, h2, h3⟩, hbW⟩
      have l2 := (Array.getElem?_eq_some_iff.1 h2).1
      have hend := run_endLoop (P := Try.prog) h2 (by rw [hrec]; simp)
      rw [hrec] at hend
      exact ⟨none, _, hend, hdone _ (hIp _ _ _ _ _ h1 (by omega) h2 rfl) (hbW.trans (below_put _ (by omega) h2)) ((World.putObj_heap_other (by omega)).trans h3)⟩
end Go.Proofs.Ytccaagildkgfeaa
