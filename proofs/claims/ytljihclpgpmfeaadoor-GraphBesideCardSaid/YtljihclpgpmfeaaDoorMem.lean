/- Words for memory: a slice that reads as a list of cells; a block that is known whole; what a call leaves of them. No program is named. -/
import Derived.WalkKit
import Derived.Laws.CopyOwn
import Derived.Deep.Draws
namespace Go.Proofs.YtljihclpgpmfeaaDoor
set_option maxRecDepth 100000
open Go.RowKit

/-- A slice whose address is A reads as the cells vs. -/
def Rd (w : World) (A : Option Addr) (vs : List Value) : Prop :=
  0 < vs.length → ∃ b off, A = some ⟨b, off, none⟩ ∧ b < w.heap.size ∧ ∀ j v, vs[j]? = some v → w.cell? ⟨b, off + j, none⟩ = some v
/-- Block g is just the cells vs, of elements of type t, none of them frozen. -/
def Own (w : World) (g : Nat) (t : TypeId) (vs : List Value) : Prop := w.heap[g]? = some (.cells vs.toArray t (0, 0))

theorem below_cells {B : Nat} {W w1 : World} (hb : Below B W w1) :
    (∀ b o, b < B → w1.cell? ⟨b, o, none⟩ = W.cell? ⟨b, o, none⟩) ∧ (∀ b o, b < B → w1.frozen? ⟨b, o, none⟩ = W.frozen? ⟨b, o, none⟩) :=
  ⟨fun b o h => hb.cell (p := ⟨b, o, none⟩) h, fun b o h => hb.frozen (p := ⟨b, o, none⟩) h⟩

section
variable {w w' : World} {A : Option Addr} {vs : List Value}
theorem Rd.nil : Rd w A [] := fun h => absurd h (by simp)
theorem Rd.zero (h : vs.length = 0) : Rd w A vs := fun h' => by omega
theorem Rd.keep (h : Rd w A vs) (hs : w.heap.size ≤ w'.heap.size) (hk : ∀ b o, b < w.heap.size → w'.cell? ⟨b, o, none⟩ = w.cell? ⟨b, o, none⟩) : Rd w' A vs := fun hl => by
  obtain ⟨b, off, e, hb, hc⟩ := h hl
  exact ⟨b, off, e, by omega, fun j v hv => (hk _ _ hb).trans (hc j v hv)⟩
theorem Rd.below (h : Rd w A vs) (hb : Below w.heap.size w w') : Rd w' A vs := h.keep hb.size fun _ _ h => hb.cell h
theorem Rd.alloc (h : Rd w A vs) (o : Obj) : Rd (w.alloc o) A vs := h.below ((Below.refl _ w).alloc (Nat.le_refl _) o)
theorem Rd.drew (h : Rd w A vs) : Rd w.drew A vs := h
theorem Rd.drewN (h : Rd w A vs) (n : Nat) : Rd (w.drewN n) A vs := h
/-- The head of a row that is not empty. -/
theorem Rd.head (h : Rd w A vs) : ∃ b off, (0 < vs.length → A = some ⟨b, off, none⟩ ∧ b < w.heap.size) ∧ (∀ j v, vs[j]? = some v → w.cell? ⟨b, off + j, none⟩ = some v) := by
  by_cases hl : 0 < vs.length
  · obtain ⟨b, off, e, hb, hc⟩ := h hl
    exact ⟨b, off, fun _ => ⟨e, hb⟩, hc⟩
  · refine ⟨0, 0, fun h => absurd h hl, fun j v hv => ?_⟩
    have : vs = [] := List.eq_nil_of_length_eq_zero (by omega)
    subst this; simp at hv
/-- A cut at the front (the model's own spelling of the new address). -/
theorem Rd.drop (h : Rd w A vs) (k : Nat) : Rd w (A.map (·.add k)) (vs.drop k) := fun hl => by
  rw [List.length_drop] at hl
  obtain ⟨b, off, rfl, hb, hc⟩ := h (by omega)
  refine ⟨b, off + k, ?_, hb, fun j v hv => ?_⟩
  · unfold Addr.add
    by_cases hk : k = 0
    · subst hk; simp
    · simp [hk]
  · rw [List.getElem?_drop] at hv
    rw [Nat.add_assoc]
    exact hc _ v hv
theorem Rd.take (h : Rd w A vs) (k : Nat) : Rd w A (vs.take k) := fun hl => by
  rw [List.length_take] at hl
  obtain ⟨b, off, rfl, hb, hc⟩ := h (by omega)
  refine ⟨b, off, rfl, hb, fun j v hv => hc j v ?_⟩
  rw [List.getElem?_take] at hv
  split at hv
  · exact hv
  · cases hv
end

section
variable {w w' : World} {g : Nat} {t : TypeId} {vs : List Value}
theorem Own.lt (h : Own w g t vs) : g < w.heap.size := by
  rcases Nat.lt_or_ge g w.heap.size with hlt | hge
  · exact hlt
  · unfold Own at h; rw [Array.getElem?_eq_none hge] at h; cases h
theorem Own.cell (h : Own w g t vs) (i : Nat) : w.cell? ⟨g, i, none⟩ = vs[i]? := by
  rw [cell_of_row w g i vs.toArray t (0, 0) h]; simp
theorem Own.frozen (h : Own w g t vs) (i : Nat) : w.frozen? ⟨g, i, none⟩ = false := by
  unfold Own at h
  simp [World.frozen?, h]
theorem Own.new (w : World) (t : TypeId) (vs : List Value) : Own (w.alloc (.cells vs.toArray t)) w.heap.size t vs := heap_alloc_new w _
theorem Own.new' (h : g = w.heap.size) : Own (w.alloc (.cells vs.toArray t)) g t vs := h ▸ Own.new w t vs
theorem Own.drew (h : Own w g t vs) : Own w.drew g t vs := h
theorem Own.drewN (h : Own w g t vs) (n : Nat) : Own (w.drewN n) g t vs := h
theorem Own.alloc (h : Own w g t vs) (o : Obj) : Own (w.alloc o) g t vs := (Below.heap_alloc w o g h.lt).trans h
theorem Own.set (h : Own w g t vs) (i : Nat) (u : Value) : Own (w.setCell ⟨g, i, none⟩ u) g t (vs.set i u) := by
  unfold Own at h ⊢
  simp [World.setCell, Array.getElem?_modify, h]
theorem Own.far (h : Own w g t vs) {p : Addr} (hp : g ≠ p.block) (u : Value) : Own (w.setCell p u) g t vs := (Below.heap_setCell w p u g hp).trans h
theorem Own.below {B : Nat} (h : Own w g t vs) (hb : Below B w w') (hg : g < B) : Own w' g t vs := (hb.block g hg).trans h
theorem Own.below' (h : Own w g t vs) (hb : Below w.heap.size w w') : Own w' g t vs := h.below hb h.lt
theorem Own.grown {row : Option Nat} (h : Own w g t vs) (hb : w.grownBy w' row) (hg : some g ≠ row) : Own w' g t vs := (hb.block g h.lt hg).trans h
theorem Own.rd (h : Own w g t vs) : Rd w (some ⟨g, 0, none⟩) vs := fun _ => ⟨g, 0, rfl, h.lt, fun j v hv => by rw [Nat.zero_add, h.cell, hv]⟩
theorem Own.rd_take (h : Own w g t vs) (k : Nat) : Rd w (some ⟨g, 0, none⟩) (vs.take k) := h.rd.take k
/-- Every block that was there keeps what it holds; g alone may hold something else. -/
theorem grown_below {B : Nat} (h : w.grownBy w' (some g)) (hg : B ≤ g) (hB : B ≤ w.heap.size) : Below B w w' :=
  ⟨h.os, h.tape, h.output, h.size, fun k hk => h.block k (by omega) (by simp; omega)⟩
theorem grown_of_below {row : Option Nat} (h : Below w.heap.size w w') : w.grownBy w' row := ⟨h.os, h.tape, h.output, h.size, fun i hi _ => h.block i hi⟩
theorem grown_drew {row : Option Nat} (h : w.grownBy w' row) : w.grownBy w'.drew row := ⟨h.os, h.tape, h.output, h.size, h.block⟩
theorem grown_alloc {row : Option Nat} (h : w.grownBy w' row) (o : Obj) : w.grownBy (w'.alloc o) row :=
  ⟨h.os, h.tape, h.output, Nat.le_trans h.size (by simp), fun i hi hne => (Below.heap_alloc w' o i (Nat.lt_of_lt_of_le hi h.size)).trans (h.block i hi hne)⟩
theorem grown_set (h : w.grownBy w' (some g)) {p : Addr} (hp : p.block = g ∨ w.heap.size ≤ p.block) (u : Value) : w.grownBy (w'.setCell p u) (some g) :=
  ⟨h.os, h.tape, h.output, by simpa [World.setCell] using h.size, fun i hi hne => (Below.heap_setCell w' p u i (by
    rintro rfl
    rcases hp with hp | hp
    · exact hne (by rw [hp])
    · omega)).trans (h.block i hi hne)⟩
theorem grown_then {w2 : World} (h : w.grownBy w' (some g)) (h2 : Below w'.heap.size w' w2) : w.grownBy w2 (some g) :=
  ⟨h2.os.trans h.os, h2.tape.trans h.tape, h2.output.trans h.output, Nat.le_trans h.size h2.size, fun i hi hne => (h2.block i (Nat.lt_of_lt_of_le hi h.size)).trans (h.block i hi hne)⟩
end
theorem below_drewN {B : Nat} {a w : World} (h : Below B a w) (n : Nat) : Below B a (w.drewN n) := ⟨h.os, h.tape, h.output, h.size, h.block⟩
theorem replicate_cells (z : Value) (n : Nat) : madeCells #[z] n = (List.replicate n z).toArray := by
  rw [← toList_madeCells_one]
theorem below_chain {w w1 w2 : World} (h1 : Below w.heap.size w w1) (h2 : Below w1.heap.size w1 w2) : Below w.heap.size w w2 := h1.trans (h2.mono h1.size)

theorem setRow_grown {w : World} {m : Nat} (cs : Array Value) : w.grownBy (w.setRow m cs) (some m) :=
  ⟨rfl, rfl, rfl, by simp [World.setRow], fun k _ hne => setRow_other w m k cs (fun e => hne (by rw [e]))⟩
/-- copy(dst, src): dst a row of the call's own; src any slice that reads as a list. -/
theorem wpList_copy_mine {P : Program} {w : World} {ops : Array Oper} {rest : List Oper} {o : Oper} {a : Act} {Q : Exit → Act → World → Prop} (hgd : o.guard = none) (d s : Operand) (dT sT : TypeId)
    (ho : o.op = .call { callee := .builtin .copy, args := #[d, s], argTypes := #[dT, sT] }) (elem : TypeId) (hu : P.underlying dT = some (.slice elem)) (hsz : (P.info? elem).map (·.size) = some 1)
    (m : Nat) (dLen dCap : Nat) (A : Option Addr) (sLen sCap : Nat) (hd : a.eval d = .slice (some ⟨m, 0, none⟩) dLen dCap) (hs : a.eval s = .slice A sLen sCap)
    (cur : List Value) (t : TypeId) (hg : Own w m t cur) (cs : List Value) (hn : cs.length = Nat.min sLen dLen) (hr : Rd w A cs)
    (hfit : cs.length ≤ cur.length) (h1 : ∀ v ∈ cs, v.oneCell' = true)
    (h : ∀ w', Own w' m t (splice cur 0 cs) → w.grownBy w' (some m) → wpList P ops Q rest (a.put o.dst (goInt cs.length)) w') :
    wpList P ops Q (o :: rest) a w := by
  by_cases h0 : cs.length = 0
  · obtain rfl : cs = [] := List.eq_nil_of_length_eq_zero h0
    refine wpList_copy_nothing hgd d s dT sT ho elem hu hsz _ A dLen dCap sLen sCap hd hs (by simpa using hn.symm) ?_
    exact h w (by unfold Own at hg ⊢; simpa [splice] using hg) (World.grownBy.refl _ _)
  · obtain ⟨b, off, rfl, hb, hc⟩ := hr (by omega)
    refine wpList_copy_own hgd d s dT sT ho elem hu hsz m 0 dLen dCap ⟨b, off, none⟩ sLen sCap hd hs cur.toArray t hg cs hn (fun j v hv => ?_) (by simpa using hfit) h1 ?_
    · have := hc j v hv
      rw [← this]
      unfold Addr.add
      split
      · rename_i e; subst e; rfl
      · rfl
    · exact h _ (by unfold Own; simpa [splice] using setRow_heap w m _ _ t _ hg) (setRow_grown _)
theorem cells_one_of {f : Nat → Nat} {k : Nat} : ∀ v ∈ (List.range k).map (fun q => Value.int .u8 (f q : Nat)), v.oneCell' = true := by
  intro v hv
  obtain ⟨q, _, rfl⟩ := List.mem_map.1 hv
  rfl
end Go.Proofs.YtljihclpgpmfeaaDoor
