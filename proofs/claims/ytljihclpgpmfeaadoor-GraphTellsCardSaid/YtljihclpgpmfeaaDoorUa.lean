/- Bundle of texts: Reg Mem Row Inv Post PostS. -/
import Derived.WalkKit
import Derived.StillTailTactics
import Derived.Laws.CopyOwn
import Derived.Deep.Draws
import Derived.Laws.AppendOwn
import Derived.Maps.AppendAt
/- A region that draws its order, whose operations only read (a chain of further operations may stand behind them), is walked once, in the order of the text, by the walk's own steps. -/
namespace Go.Proofs.YtljihclpgpmfeaaDoor
set_option maxRecDepth 100000
open Go.RowKit

/-- An operation that never calls a function of the program, and never defers. -/
def plainOp (o : Oper) : Bool :=
  match o.op with
  | .move _ | .assign _ | .pick .. | .load .. | .binOp .. | .unOp .. | .convert .. | .fieldAddr .. | .field .. | .indexAddr .. | .index .. | .extract .. | .slice .. | .lookup .. => true
  | .call { callee := .builtin b, .. } => match b with | .len | .cap | .min | .max => true | _ => false
  | _ => false

theorem run_v {P : Program} {w w' : World} {s : Sem Value} {r : Next} (h : (do pure (Next.value (← s)) : Sem Next).run P w = .ok r w') : ∃ v, r = .value v := by
  rw [Sem.run_bind] at h
  cases hr : s.run P w with
  | ok a w1 => rw [hr] at h; cases h; exact ⟨a, rfl⟩
  | halt e w1 => rw [hr] at h; cases h

theorem plain_value {P : Program} {o : Oper} (hp : plainOp o = true) {ρ : Operand → Value} {w w' : World} {r : Next} (h : (execOp ρ o).run P w = .ok r w') : ∃ v, r = .value v := by
  obtain ⟨dst, op, type, pos, after, guard⟩ := o
  cases op <;> simp only [plainOp, Bool.false_eq_true] at hp <;> simp only [execOp] at h
  case call c =>
    obtain ⟨callee, args, argTypes⟩ := c
    cases callee <;> simp only [Bool.false_eq_true] at hp
    case builtin b =>
      cases b <;> simp only [Bool.false_eq_true] at hp <;>
        (simp only [resolve, invoke, builtin, Sem.run_bind, Sem.run_pure, Result.andThen_ok] at h
         exact run_v (s := _) (by rw [Sem.run_bind]; exact h))
  all_goals first
    | exact run_v h
    | (simp only [Sem.run_pure] at h; cases h; exact ⟨_, rfl⟩)
    | (rw [Sem.run_bind] at h
       rename_i c a b
       cases hr : (asBool (ρ c)).run P w with
       | ok a w1 => rw [hr] at h; cases h; exact ⟨_, rfl⟩
       | halt e w1 => rw [hr] at h; cases h)

section
variable {P : Program} {ops : Array Oper} {w : World} {Q : Act → Prop} {a : Act} {o : Oper} {rest : List Oper}
theorem still_step (hw : Region.wanted o (yielded ops a.tmps) = true) (hp : plainOp o = true)
    (h : ∀ K : Act → World → Prop, (∀ a, wpStill P ops w Q rest a → K a w) → o.wp P a w K (fun _ _ _ => False)) : wpStill P ops w Q (o :: rest) a := by
  have h1 := h (fun a' w' => w' = w ∧ wpStill P ops w Q rest a') (fun a ha => ⟨rfl, ha⟩)
  unfold wpStill
  rw [if_pos hw]
  unfold Oper.still
  unfold Oper.wp at h1
  generalize hr : (execOp a.eval o).run P w = r at h1
  cases r with
  | halt e w1 =>
    cases e <;> simp only [Oper.upon] at h1
  | ok n w1 =>
    obtain ⟨v, rfl⟩ := plain_value hp hr
    exact h1
theorem still_skip (hw : Region.wanted o (yielded ops a.tmps) = false) (h : wpStill P ops w Q rest (a.put o.dst undef)) : wpStill P ops w Q (o :: rest) a := by
  unfold wpStill
  rw [if_neg (by rw [hw]; exact Bool.false_ne_true)]
  exact h
theorem still_move {x : Operand} {v : Value} (hg : o.guard = none) (ho : o.op = .move x) (hv : a.eval x = v) (h : wpStill P ops w Q rest (a.put o.dst v)) : wpStill P ops w Q (o :: rest) a := by
  refine still_step (by simp [Region.wanted, hg]) (by simp [plainOp, ho]) fun K hK => ?_
  unfold Oper.wp execOp
  simp only [ho, Sem.run_pure, hv]
  exact hK _ h
theorem still_call (hw : Region.wanted o (yielded ops a.tmps) = true) {f : FuncId} {args : Array Value} {v : Value} (hr : (execOp a.eval o).run P w = .ok (.enter f args) w)
    (hc : Calls P f args w (fun e w'' => e = .returned v ∧ w = w'')) (h : wpStill P ops w Q rest (a.put o.dst v)) : wpStill P ops w Q (o :: rest) a := by
  unfold wpStill
  rw [if_pos hw]
  unfold Oper.still
  rw [hr]
  exact ⟨rfl, v, hc.mono fun e w' ⟨h1, h2⟩ => ⟨h1, h2.symm⟩, h⟩
end
theorem region_tail {P : Program} {id : Nat} {Q : Exit → Act → World → Prop} {a : Act} {w : World} {l : List Oper} (n : Nat) (hm : P.follows .mixedOrders = true) (hB : Region.lexTailB .any l.toArray n = true)
    (h : wpStill P l.toArray w.drew (fun a' => wpList P l.toArray Q (l.drop n) a' w.drew) (l.take n) a) : (Code.region id l.toArray true).wp P Q a w :=
  wp_region_still_tail n hm hB h
end Go.Proofs.YtljihclpgpmfeaaDoor
/- Words for memory: a slice that reads as a list of cells; a block that is known whole; what a call leaves of them. No program is named. -/
namespace Go.Proofs.YtljihclpgpmfeaaDoor
set_option maxRecDepth 100000
open Go.RowKit

/-- A slice whose address is A reads as the cells vs. -/
def Rd (w : World) (A : Option Addr) (vs : List Value) : Prop :=
  0 < vs.length → ∃ b off, A = some ⟨b, off, none⟩ ∧ b < w.heap.size ∧ ∀ j v, vs[j]? = some v → w.cell? ⟨b, off + j, none⟩ = some v
/-- Block g is just the cells vs, of elements of type t, none of them frozen. -/
def Own (w : World) (g : Nat) (t : TypeId) (vs : List Value) : Prop := w.heap[g]? = some (.cells vs.toArray t (0, 0))

theorem below_cells {B : Nat} {W w1 : World} (hb : Below B W w1) :
    (∀ b o, b < B → w1.cell? ⟨b, o, none⟩ = W.cell? ⟨b, o, none⟩) ∧ (∀ b o, b < B → w1.frozen? ⟨b, o, none⟩ = W.frozen? ⟨b, o, none⟩) :=
  ⟨fun b o h => hb.cell (p := ⟨b, o, none⟩) h, fun b o h => hb.frozen (p := ⟨b, o, none⟩) h⟩

section
variable {w w' : World} {A : Option Addr} {vs : List Value}
theorem Rd.nil : Rd w A [] := fun h => absurd h (by simp)
theorem Rd.zero (h : vs.length = 0) : Rd w A vs := fun h' => by omega
theorem Rd.keep (h : Rd w A vs) (hs : w.heap.size ≤ w'.heap.size) (hk : ∀ b o, b < w.heap.size → w'.cell? ⟨b, o, none⟩ = w.cell? ⟨b, o, none⟩) : Rd w' A vs := fun hl => by
  obtain ⟨b, off, e, hb, hc⟩ := h hl
  exact ⟨b, off, e, by omega, fun j v hv => (hk _ _ hb).trans (hc j v hv)⟩
theorem Rd.below (h : Rd w A vs) (hb : Below w.heap.size w w') : Rd w' A vs := h.keep hb.size fun _ _ h => hb.cell h
theorem Rd.alloc (h : Rd w A vs) (o : Obj) : Rd (w.alloc o) A vs := h.below ((Below.refl _ w).alloc (Nat.le_refl _) o)
theorem Rd.drew (h : Rd w A vs) : Rd w.drew A vs := h
theorem Rd.drewN (h : Rd w A vs) (n : Nat) : Rd (w.drewN n) A vs := h
/-- The head of a row that is not empty. -/
theorem Rd.head (h : Rd w A vs) : ∃ b off, (0 < vs.length → A = some ⟨b, off, none⟩ ∧ b < w.heap.size) ∧ (∀ j v, vs[j]? = some v → w.cell? ⟨b, off + j, none⟩ = some v) := by
  by_cases hl : 0 < vs.length
  · obtain ⟨b, off, e, hb, hc⟩ := h hl
    exact ⟨b, off, fun _ => ⟨e, hb⟩, hc⟩
  · refine ⟨0, 0, fun h => absurd h hl, fun j v hv => ?_⟩
    have : vs = [] := List.eq_nil_of_length_eq_zero (by omega)
    subst this; simp at hv
/-- A cut at the front (the model's own spelling of the new address). -/
theorem Rd.drop (h : Rd w A vs) (k : Nat) : Rd w (A.map (·.add k)) (vs.drop k) := fun hl => by
  rw [List.length_drop] at hl
  obtain ⟨b, off, rfl, hb, hc⟩ := h (by omega)
  refine ⟨b, off + k, ?_, hb, fun j v hv => ?_⟩
  · unfold Addr.add
    by_cases hk : k = 0
    · subst hk; simp
    · simp [hk]
  · rw [List.getElem?_drop] at hv
    rw [Nat.add_assoc]
    exact hc _ v hv
theorem Rd.take (h : Rd w A vs) (k : Nat) : Rd w A (vs.take k) := fun hl => by
  rw [List.length_take] at hl
  obtain ⟨b, off, rfl, hb, hc⟩ := h (by omega)
  refine ⟨b, off, rfl, hb, fun j v hv => hc j v ?_⟩
  rw [List.getElem?_take] at hv
  split at hv
  · exact hv
  · cases hv
end

section
variable {w w' : World} {g : Nat} {t : TypeId} {vs : List Value}
theorem Own.lt (h : Own w g t vs) : g < w.heap.size := by
  rcases Nat.lt_or_ge g w.heap.size with hlt | hge
  · exact hlt
  · unfold Own at h; rw [Array.getElem?_eq_none hge] at h; cases h
theorem Own.cell (h : Own w g t vs) (i : Nat) : w.cell? ⟨g, i, none⟩ = vs[i]? := by
  rw [cell_of_row w g i vs.toArray t (0, 0) h]; simp
theorem Own.frozen (h : Own w g t vs) (i : Nat) : w.frozen? ⟨g, i, none⟩ = false := by
  unfold Own at h
  simp [World.frozen?, h]
theorem Own.new (w : World) (t : TypeId) (vs : List Value) : Own (w.alloc (.cells vs.toArray t)) w.heap.size t vs := heap_alloc_new w _
theorem Own.new' (h : g = w.heap.size) : Own (w.alloc (.cells vs.toArray t)) g t vs := h ▸ Own.new w t vs
theorem Own.drew (h : Own w g t vs) : Own w.drew g t vs := h
theorem Own.drewN (h : Own w g t vs) (n : Nat) : Own (w.drewN n) g t vs := h
theorem Own.alloc (h : Own w g t vs) (o : Obj) : Own (w.alloc o) g t vs := (Below.heap_alloc w o g h.lt).trans h
theorem Own.set (h : Own w g t vs) (i : Nat) (u : Value) : Own (w.setCell ⟨g, i, none⟩ u) g t (vs.set i u) := by
  unfold Own at h ⊢
  simp [World.setCell, Array.getElem?_modify, h]
theorem Own.far (h : Own w g t vs) {p : Addr} (hp : g ≠ p.block) (u : Value) : Own (w.setCell p u) g t vs := (Below.heap_setCell w p u g hp).trans h
theorem Own.below {B : Nat} (h : Own w g t vs) (hb : Below B w w') (hg : g < B) : Own w' g t vs := (hb.block g hg).trans h
theorem Own.below' (h : Own w g t vs) (hb : Below w.heap.size w w') : Own w' g t vs := h.below hb h.lt
theorem Own.grown {row : Option Nat} (h : Own w g t vs) (hb : w.grownBy w' row) (hg : some g ≠ row) : Own w' g t vs := (hb.block g h.lt hg).trans h
theorem Own.rd (h : Own w g t vs) : Rd w (some ⟨g, 0, none⟩) vs := fun _ => ⟨g, 0, rfl, h.lt, fun j v hv => by rw [Nat.zero_add, h.cell, hv]⟩
theorem Own.rd_take (h : Own w g t vs) (k : Nat) : Rd w (some ⟨g, 0, none⟩) (vs.take k) := h.rd.take k
/-- Every block that was there keeps what it holds; g alone may hold something else. -/
theorem grown_below {B : Nat} (h : w.grownBy w' (some g)) (hg : B ≤ g) (hB : B ≤ w.heap.size) : Below B w w' :=
  ⟨h.os, h.tape, h.output, h.size, fun k hk => h.block k (by omega) (by simp; omega)⟩
theorem grown_of_below {row : Option Nat} (h : Below w.heap.size w w') : w.grownBy w' row := ⟨h.os, h.tape, h.output, h.size, fun i hi _ => h.block i hi⟩
theorem grown_drew {row : Option Nat} (h : w.grownBy w' row) : w.grownBy w'.drew row := ⟨h.os, h.tape, h.output, h.size, h.block⟩
theorem grown_alloc {row : Option Nat} (h : w.grownBy w' row) (o : Obj) : w.grownBy (w'.alloc o) row :=
  ⟨h.os, h.tape, h.output, Nat.le_trans h.size (by simp), fun i hi hne => (Below.heap_alloc w' o i (Nat.lt_of_lt_of_le hi h.size)).trans (h.block i hi hne)⟩
theorem grown_set (h : w.grownBy w' (some g)) {p : Addr} (hp : p.block = g ∨ w.heap.size ≤ p.block) (u : Value) : w.grownBy (w'.setCell p u) (some g) :=
  ⟨h.os, h.tape, h.output, by simpa [World.setCell] using h.size, fun i hi hne => (Below.heap_setCell w' p u i (by
    rintro rfl
    rcases hp with hp | hp
    · exact hne (by rw [hp])
    · omega)).trans (h.block i hi hne)⟩
theorem grown_then {w2 : World} (h : w.grownBy w' (some g)) (h2 : Below w'.heap.size w' w2) : w.grownBy w2 (some g) :=
  ⟨h2.os.trans h.os, h2.tape.trans h.tape, h2.output.trans h.output, Nat.le_trans h.size h2.size, fun i hi hne => (h2.block i (Nat.lt_of_lt_of_le hi h.size)).trans (h.block i hi hne)⟩
end
theorem below_drewN {B : Nat} {a w : World} (h : Below B a w) (n : Nat) : Below B a (w.drewN n) := ⟨h.os, h.tape, h.output, h.size, h.block⟩
theorem replicate_cells (z : Value) (n : Nat) : madeCells #[z] n = (List.replicate n z).toArray := by
  rw [← toList_madeCells_one]
theorem below_chain {w w1 w2 : World} (h1 : Below w.heap.size w w1) (h2 : Below w1.heap.size w1 w2) : Below w.heap.size w w2 := h1.trans (h2.mono h1.size)

theorem setRow_grown {w : World} {m : Nat} (cs : Array Value) : w.grownBy (w.setRow m cs) (some m) :=
  ⟨rfl, rfl, rfl, by simp [World.setRow], fun k _ hne => setRow_other w m k cs (fun e => hne (by rw [e]))⟩
/-- copy(dst, src): dst a row of the call's own; src any slice that reads as a list. -/
theorem wpList_copy_mine {P : Program} {w : World} {ops : Array Oper} {rest : List Oper} {o : Oper} {a : Act} {Q : Exit → Act → World → Prop} (hgd : o.guard = none) (d s : Operand) (dT sT : TypeId)
    (ho : o.op = .call { callee := .builtin .copy, args := #[d, s], argTypes := #[dT, sT] }) (elem : TypeId) (hu : P.underlying dT = some (.slice elem)) (hsz : (P.info? elem).map (·.size) = some 1)
    (m : Nat) (dLen dCap : Nat) (A : Option Addr) (sLen sCap : Nat) (hd : a.eval d = .slice (some ⟨m, 0, none⟩) dLen dCap) (hs : a.eval s = .slice A sLen sCap)
    (cur : List Value) (t : TypeId) (hg : Own w m t cur) (cs : List Value) (hn : cs.length = Nat.min sLen dLen) (hr : Rd w A cs)
    (hfit : cs.length ≤ cur.length) (h1 : ∀ v ∈ cs, v.oneCell' = true)
    (h : ∀ w', Own w' m t (splice cur 0 cs) → w.grownBy w' (some m) → wpList P ops Q rest (a.put o.dst (goInt cs.length)) w') :
    wpList P ops Q (o :: rest) a w := by
  by_cases h0 : cs.length = 0
  · obtain rfl : cs = [] := List.eq_nil_of_length_eq_zero h0
    refine wpList_copy_nothing hgd d s dT sT ho elem hu hsz _ A dLen dCap sLen sCap hd hs (by simpa using hn.symm) ?_
    exact h w (by unfold Own at hg ⊢; simpa [splice] using hg) (World.grownBy.refl _ _)
  · obtain ⟨b, off, rfl, hb, hc⟩ := hr (by omega)
    refine wpList_copy_own hgd d s dT sT ho elem hu hsz m 0 dLen dCap ⟨b, off, none⟩ sLen sCap hd hs cur.toArray t hg cs hn (fun j v hv => ?_) (by simpa using hfit) h1 ?_
    · have := hc j v hv
      rw [← this]
      unfold Addr.add
      split
      · rename_i e; subst e; rfl
      · rfl
    · exact h _ (by unfold Own; simpa [splice] using setRow_heap w m _ _ t _ hg) (setRow_grown _)
theorem cells_one_of {f : Nat → Nat} {k : Nat} : ∀ v ∈ (List.range k).map (fun q => Value.int .u8 (f q : Nat)), v.oneCell' = true := by
  intro v hv
  obtain ⟨q, _, rfl⟩ := List.mem_map.1 hv
  rfl
end Go.Proofs.YtljihclpgpmfeaaDoor
/- Words for rows of the call's own that grow: appended to, whether there is room or not. No program is named. -/
namespace Go.Proofs.YtljihclpgpmfeaaDoor
set_option maxRecDepth 100000
open Go.RowKit

theorem Own.add {w : World} {g : Nat} {t : TypeId} {vs : List Value} (h : Own w g t vs) {j : Nat} {u : Value} (hu : vs[j]? = some u) : w.cell? ((⟨g, 0, none⟩ : Addr).add j) = some u := by
  have h1 := h.cell j
  rw [hu] at h1
  unfold Addr.add
  split
  · rename_i e; subst e; exact h1
  · simpa using h1
/-- Two rows of unlike types are two blocks. -/
theorem Own.ne {w : World} {g g' : Nat} {t t' : TypeId} {vs vs' : List Value} (h : Own w g t vs) (h' : Own w g' t' vs') (hn : t ≠ t') : g ≠ g' := by
  rintro rfl
  unfold Own at h h'
  rw [h] at h'
  injection h' with h'
  injection h' with _ h2
  exact hn h2
theorem row_own {w : World} {base size n : Nat} {e : TypeId} {v : Value} {xs : List Value} (h : w.ownsRow base e size v n xs) (hn : v ≠ .slice none 0 0) :
    ∃ g cap rest, v = .slice (some ⟨g, 0, none⟩) n cap ∧ base ≤ g ∧ Own w g e (xs ++ rest) ∧ n ≤ cap ∧ cap ≤ maxLen ∧ (xs ++ rest).length = cap * size := by
  rcases h.2 with ⟨h0, _⟩ | ⟨g, cap, cur, rfl, hb, hh, h1, h2, h3, h4⟩
  · exact absurd h0 hn
  · refine ⟨g, cap, cur.toList.drop (n * size), rfl, hb, ?_, h1, h2, ?_⟩
    · unfold Own
      rw [← h4, List.take_append_drop, hh]
    · rw [← h4, List.take_append_drop]; simpa using h3
theorem owns_of_own {w : World} {base size n cap g : Nat} {e : TypeId} {xs rest : List Value} (h : Own w g e (xs ++ rest)) (hb : base ≤ g) (hl : xs.length = n * size) (h1 : n ≤ cap) (h2 : cap ≤ maxLen) (h3 : (xs ++ rest).length = cap * size) :
    w.ownsRow base e size (.slice (some ⟨g, 0, none⟩) n cap) n xs :=
  ⟨hl, .inr ⟨g, cap, (xs ++ rest).toArray, rfl, hb, h, h1, h2, by simpa using h3, by rw [← hl]; simp⟩⟩
theorem below_none {w w' : World} (h : w.grownBy w' none) : Below w.heap.size w w' := ⟨h.os, h.tape, h.output, h.size, fun k hk => h.block k hk (by simp)⟩
/-- append to a row that is there: the row may lie in a new block. -/
theorem wpList_append_row {P : Program} {w : World} {ops : Array Oper} {rest : List Oper} {o : Oper} {a : Act} {Q : Exit → Act → World → Prop} (hgd : o.guard = none) (s x : Operand) (t : TypeId)
    (ho : o.op = .call { callee := .builtin .append, args := #[s, x], argTypes := #[t, t] })
    (e : TypeId) (i : TypeInfo) (z : Value) (size bytes : Nat) (ht : P.underlying t = some (.slice e)) (hi : P.info? e = some i) (hz : i.zero = some z)
    (hsize : i.size = size) (hby : i.bytes = bytes) (hzs : z.cells.size = size) (hsz : 0 < size)
    (g n cap : Nat) (xs more : List Value) (hs : a.eval s = .slice (some ⟨g, 0, none⟩) n cap) (hown : Own w g e (xs ++ more)) (hl : xs.length = n * size) (h1 : n ≤ cap) (h2 : cap ≤ maxLen) (h3 : (xs ++ more).length = cap * size)
    (ad : Addr) (m c : Nat) (news : List Value) (hx : a.eval x = .slice (some ad) m c) (hln : news.length = m * size) (hnews : ∀ j u, news[j]? = some u → w.cell? (ad.add j) = some u) (hone : ∀ u ∈ news, u.oneCell' = true)
    (h63 : n + m ≤ maxLen) (hbytes : (n + m) * bytes ≤ 140737488355328)
    (h : ∀ g' cap' more' w', Own w' g' e ((xs ++ news) ++ more') → (g' = g ∨ w.heap.size ≤ g') → w.grownBy w' (some g) → n + m ≤ cap' → cap' ≤ maxLen → ((xs ++ news) ++ more').length = cap' * size →
      wpList P ops Q rest (a.put o.dst (.slice (some ⟨g', 0, none⟩) (n + m) cap')) w') : wpList P ops Q (o :: rest) a w := by
  refine wpList_append_own_at w hgd s x t ho 0 e i z size bytes ht hi hz hsize hby hzs hsz _ n xs hs (owns_of_own hown (Nat.zero_le _) hl h1 h2 h3) ad m c news hx hln hnews hone h63 hbytes (Nat.zero_le _) ?_
  intro v' w' hown' hgrow hnil hblk
  have hv : v' ≠ .slice none 0 0 := fun e => by have := (hnil.1 e).1; cases this
  obtain ⟨g', cap', more', rfl, _, q1, q2, q3, q4⟩ := row_own hown' hv
  refine h g' cap' more' w' q1 ?_ hgrow q2 q3 q4
  rcases hblk with hb | hb
  · left; simpa [Value.ownBlock] using hb
  · right; have : g' = w.heap.size := by simpa [Value.ownBlock] using hb
    omega
/-- append to nil. -/
theorem wpList_append_new {P : Program} {w : World} {ops : Array Oper} {rest : List Oper} {o : Oper} {a : Act} {Q : Exit → Act → World → Prop} (hgd : o.guard = none) (s x : Operand) (t : TypeId)
    (ho : o.op = .call { callee := .builtin .append, args := #[s, x], argTypes := #[t, t] })
    (e : TypeId) (i : TypeInfo) (z : Value) (size bytes : Nat) (ht : P.underlying t = some (.slice e)) (hi : P.info? e = some i) (hz : i.zero = some z)
    (hsize : i.size = size) (hby : i.bytes = bytes) (hzs : z.cells.size = size) (hsz : 0 < size)
    (hs : a.eval s = .slice none 0 0)
    (ad : Addr) (m c : Nat) (hm : 0 < m) (news : List Value) (hx : a.eval x = .slice (some ad) m c) (hln : news.length = m * size) (hnews : ∀ j u, news[j]? = some u → w.cell? (ad.add j) = some u) (hone : ∀ u ∈ news, u.oneCell' = true)
    (h63 : m ≤ maxLen) (hbytes : m * bytes ≤ 140737488355328)
    (h : ∀ g' cap' more' w', Own w' g' e (news ++ more') → w.heap.size ≤ g' → Below w.heap.size w w' → m ≤ cap' → cap' ≤ maxLen → (news ++ more').length = cap' * size →
      wpList P ops Q rest (a.put o.dst (.slice (some ⟨g', 0, none⟩) m cap')) w') : wpList P ops Q (o :: rest) a w := by
  refine wpList_append_own_at w hgd s x t ho w.heap.size e i z size bytes ht hi hz hsize hby hzs hsz _ 0 [] hs (World.ownsRow_nil _ _ _ _) ad m c news hx hln hnews hone (by omega) (by rw [Nat.zero_add]; exact hbytes) (Nat.le_refl _) ?_
  intro v' w' hown' hgrow hnil _
  have hv : v' ≠ .slice none 0 0 := fun e => by have := (hnil.1 e).2; omega
  obtain ⟨g', cap', more', rfl, q0, q1, q2, q3, q4⟩ := row_own hown' hv
  simp only [Nat.zero_add, List.nil_append] at q1 q2 q4 ⊢
  exact h g' cap' more' w' q1 q0 (below_none hgrow) q2 q3 q4
/-- append of nothing, from nil. -/
theorem wpList_append_none {P : Program} {w : World} {ops : Array Oper} {rest : List Oper} {o : Oper} {a : Act} {Q : Exit → Act → World → Prop} (hgd : o.guard = none) (s x : Operand) (t : TypeId)
    (ho : o.op = .call { callee := .builtin .append, args := #[s, x], argTypes := #[t, t] })
    (e : TypeId) (i : TypeInfo) (ht : P.underlying t = some (.slice e)) (hi : P.info? e = some i)
    (g n cap c : Nat) (hs : a.eval s = .slice (some ⟨g, 0, none⟩) n cap) (h1 : n ≤ cap) (hx : a.eval x = .slice none 0 c)
    (h : wpList P ops Q rest (a.put o.dst (.slice (some ⟨g, 0, none⟩) n cap)) w) : wpList P ops Q (o :: rest) a w := by
  have hr : (Builtin.append_ #[t, t] o.type #[.slice (some ⟨g, 0, none⟩) n cap, .slice none 0 c]).run P w = .ok (.slice (some ⟨g, 0, none⟩) n cap) w := by
    simp [Builtin.append_, run_underlying ht, sizeOf, typeInfo, hi, Builtin.lenOf, Builtin.firstCells, h1, storeCells]
  refine wpList_plain hgd fun K hK => ?_
  unfold Oper.wp execOp
  simp only [ho, resolve, invoke, builtin, Sem.run_bind, Sem.run_pure, Result.andThen_ok, List.map_toArray, List.map_cons, List.map_nil, hs, hx, hr]
  exact hK _ _ h
/-- Bits that are read: handed in, or in a block of the call's own. -/
def Bits (w W : World) (t : TypeId) (A : Option Addr) (vs : List Value) : Prop := Rd w A vs ∨ ∃ g, A = some ⟨g, 0, none⟩ ∧ w.heap.size ≤ g ∧ Own W g t vs
section
variable {w W W' : World} {t : TypeId} {A : Option Addr} {vs : List Value}
theorem Bits.rd (h : Bits w W t A vs) (hb : Below w.heap.size w W) : Rd W A vs := by
  rcases h with h | ⟨g, rfl, _, h⟩
  · exact h.below hb
  · exact h.rd
theorem Bits.below (h : Bits w W t A vs) (hb : Below W.heap.size W W') : Bits w W' t A vs := by
  rcases h with h | ⟨g, rfl, hg, h⟩
  · exact .inl h
  · exact .inr ⟨g, rfl, hg, h.below' hb⟩
theorem Bits.alloc (h : Bits w W t A vs) (o : Obj) : Bits w (W.alloc o) t A vs := h.below ((Below.refl _ W).alloc (Nat.le_refl _) o)
theorem Bits.drew (h : Bits w W t A vs) : Bits w W.drew t A vs := h
theorem Bits.far (h : Bits w W t A vs) {b : Nat} {t' : TypeId} {us : List Value} (ho : Own W b t' us) (hn : t ≠ t') (i : Nat) (u : Value) : Bits w (W.setCell ⟨b, i, none⟩ u) t A vs := by
  rcases h with h | ⟨g, rfl, hg, h⟩
  · exact .inl h
  · exact .inr ⟨g, rfl, hg, h.far (p := ⟨b, i, none⟩) (h.ne ho hn) u⟩
theorem Bits.grown (h : Bits w W t A vs) {b : Nat} {t' : TypeId} {us : List Value} (ho : Own W b t' us) (hn : t ≠ t') (hg : W.grownBy W' (some b)) : Bits w W' t A vs := by
  rcases h with h | ⟨g, rfl, hg', h⟩
  · exact .inl h
  · exact .inr ⟨g, rfl, hg', h.grown hg (by intro e; injection e with e; exact h.ne ho hn e)⟩
theorem Own.grown' {g : Nat} (h : Own W g t vs) {b : Nat} {t' : TypeId} {us : List Value} (ho : Own W b t' us) (hn : t ≠ t') (hg : W.grownBy W' (some b)) : Own W' g t vs :=
  h.grown hg (by intro e; injection e with e; exact h.ne ho hn e)
end
end Go.Proofs.YtljihclpgpmfeaaDoor
/- A region that draws its order, by an invariant: one obligation for each operation, not one way for each order. -/
namespace Go.Proofs.YtljihclpgpmfeaaDoor
set_option maxRecDepth 100000
open Go.RowKit

/-- The rest of the run behind a letter. -/
theorem hideK {P : Program} {o : Oper} {a : Act} {w : World} {K : Act → World → Prop} {Q : Exit → Act → World → Prop} (R : Act → World → Prop) (h : ∀ a' V', R a' V' → K a' V')
    (k : ∀ (K' : Act → World → Prop) (Q' : Exit → Act → World → Prop), (∀ a' V', R a' V' → K' a' V') → o.wp P a w K' Q') : o.wp P a w K Q := k K Q h
section
variable {P : Program} {md : Region.Mode} {ops : Array Oper} {Q : Exit → Act → World → Prop}
/-- The operations that have not come up. -/
def leftOf (ops : Array Oper) (l : Array Bool) : List Nat := (List.range ops.size).filter fun i => !l.getD i true
theorem ready_nil {l : Array Bool} (h : leftOf ops l = []) : Region.ready md ops l = [] := by
  unfold Region.ready
  unfold leftOf at h
  rw [List.filter_eq_nil_iff] at h ⊢
  intro i hi
  have := h i hi
  simp only [Bool.and_eq_true, not_and]
  intro h2
  exact absurd h2 this
theorem ready_mem {l : Array Bool} {i : Nat} (h : i ∈ Region.ready md ops l) : i < ops.size ∧ l.getD i true = false ∧ ((ops[i]?).map (·.after.all fun e => !Region.binds md e || l.getD e.on false)).getD false = true := by
  unfold Region.ready at h
  rw [List.mem_filter, Bool.and_eq_true] at h
  exact ⟨List.mem_range.1 h.1, by simpa using h.2.1, h.2.2⟩
/-- What an operation waits for has come. -/
theorem ready_depP {md : Region.Mode} {ops : Array Oper} {l : Array Bool} {i : Nat} (h : ((ops[i]?).map (·.after.all fun e => !Region.binds md e || l.getD e.on false)).getD false = true) {o : Oper} (ho : ops[i]? = some o) (k : Nat) {e : Edge} (he : o.after[k]? = some e) (hb : Region.binds md e = true) : l.getD e.on true = true := by
  rw [ho] at h
  simp only [Option.map_some, Option.getD_some, Array.all_eq_true] at h
  obtain ⟨hk, hke⟩ := Array.getElem?_eq_some_iff.1 he
  have h1 := h k hk
  rw [hke, hb] at h1
  have h2 : l.getD e.on false = true := by simpa using h1
  cases hl : l[e.on]? with
  | none => rw [Array.getD_eq_getD_getElem?, hl]; rfl
  | some x => rw [Array.getD_eq_getD_getElem?, hl] at h2 ⊢; exact h2
/-- Each operation waits for earlier ones alone. -/
def backB (ops : Array Oper) : Bool := (List.range ops.size).all fun i => ((ops[i]?).map fun o => o.after.all fun e => !Region.binds .any e || decide (e.on < i)).getD true
theorem all_listed {l : Array Bool} (hb : backB ops = true) (hs : l.size = ops.size) (h : leftOf ops l = [] ∨ Region.ready .any ops l = []) : ∀ i, i < ops.size → l.getD i true = true := by
  have h1 : ∀ i, i < ops.size → (∀ j, j < i → l.getD j true = true) → l.getD i true = true := by
    intro i hi hj
    cases hl : l.getD i true with
    | true => rfl
    | false =>
      exfalso
      rcases h with h | h
      · unfold leftOf at h
        rw [List.filter_eq_nil_iff] at h
        exact h i (List.mem_range.2 hi) (by rw [hl]; rfl)
      · unfold Region.ready at h
        rw [List.filter_eq_nil_iff] at h
        refine h i (List.mem_range.2 hi) ?_
        rw [hl, Bool.not_false, Bool.true_and]
        have hbi := List.all_eq_true.1 hb i (List.mem_range.2 hi)
        have ho : ops[i]? = some ops[i] := Array.getElem?_eq_getElem hi
        rw [ho] at hbi ⊢
        simp only [Option.map_some, Option.getD_some, Array.all_eq_true] at hbi ⊢
        intro k hk
        cases hbd : Region.binds .any ops[i].after[k] with
        | false => rfl
        | true =>
        have h3 := hbi k hk
        rw [hbd] at h3
        have hlt : (ops[i].after[k]).on < i := by simpa using h3
        have := hj _ hlt
        have hsz : (ops[i].after[k]).on < l.size := by omega
        simp only [Array.getD_eq_getD_getElem?, Array.getElem?_eq_getElem hsz, Option.getD_some] at this ⊢
        rw [this]; rfl
  intro i
  induction i using Nat.strongRecOn with
  | _ i ih => exact fun hi => h1 i hi fun j hj => ih j hj (by omega)
theorem left_less {l : Array Bool} {i : Nat} (hi : i < ops.size) (hl : l.getD i true = false) : (leftOf ops (l.setIfInBounds i true)).length < (leftOf ops l).length := by
  have hsz : i < l.size := by
    rcases Nat.lt_or_ge i l.size with h | h
    · exact h
    · simp [Array.getElem?_eq_none h] at hl
  have e : leftOf ops (l.setIfInBounds i true) = (leftOf ops l).filter fun j => !(l.setIfInBounds i true).getD j true := by
    unfold leftOf
    rw [List.filter_filter]
    refine List.filter_congr fun j _ => ?_
    by_cases hj : j = i
    · subst hj; simp [hsz]
    · have : (l.setIfInBounds i true).getD j true = l.getD j true := by
        simp [Ne.symm hj]
      rw [this, Bool.and_self]
  rw [e]
  refine List.length_filter_lt_length_iff_exists.2 ⟨i, ?_, ?_⟩
  · unfold leftOf
    rw [List.mem_filter]
    exact ⟨List.mem_range.2 hi, by rw [hl]; rfl⟩
  · simp [hsz]
theorem wpAny_inv (I : Array Bool → Act → World → Prop) (hlast : ∀ l a w, I l a w → leftOf ops l = [] ∨ Region.ready md ops l = [] → Q .normal a w)
    (hstep : ∀ l a w i, I l a w → i ∈ Region.ready md ops l → wpOp P ops Q i (I (l.setIfInBounds i true)) a w) :
    ∀ (fuel : Nat) (l : Array Bool) (a : Act) (w : World), (leftOf ops l).length ≤ fuel → I l a w → wpAny P md ops Q fuel l a w
  | 0, l, a, w, hf, h => by
    have h0 : leftOf ops l = [] := List.eq_nil_of_length_eq_zero (by omega)
    exact ⟨ready_nil h0, hlast l a w h (.inl h0)⟩
  | fuel + 1, l, a, w, hf, h =>
    ⟨fun hr => hlast l a w h (.inr hr), fun i hi => wpOp_mono (fun a' w' h' => wpAny_inv I hlast hstep fuel _ a' w' (by
      have hm := ready_mem hi
      have := left_less (ops := ops) hm.1 hm.2.1
      omega) h') (hstep l a w i h hi)⟩
theorem region_inv {id : Nat} {a : Act} {w : World} (hm : P.follows .mixedOrders = true) (I : Array Bool → Act → World → Prop)
    (hlast : ∀ l a w, I l a w → leftOf ops l = [] ∨ Region.ready .any ops l = [] → Q .normal a w)
    (hstep : ∀ l a w i, I l a w → i ∈ Region.ready .any ops l → wpOp P ops Q i (I (l.setIfInBounds i true)) a w)
    (h : I (Array.replicate ops.size false) a w.drew) : (Code.region id ops true).wp P Q a w :=
  wp_region_any hm (wpAny_inv I hlast hstep ops.size _ a _ (by
    unfold leftOf
    exact Nat.le_trans (List.length_filter_le _ _) (by simp)) h)
end
end Go.Proofs.YtljihclpgpmfeaaDoor
/- A region that draws its order and whose operations leave what was there: one fact for each operation's value, one obligation for each operation. No program is named. -/
namespace Go.Proofs.YtljihclpgpmfeaaDoor
set_option maxRecDepth 100000
open Go.RowKit

/-- What is known of an operation's value, in whatever world comes later. -/
structure Pst where
  p : Value → World → Prop
  b : Option Bool
  mono : ∀ {v W W'}, p v W → Below W.heap.size W W' → p v W'
  tells : ∀ {v W x}, b = some x → p v W → v = .bool x
def Pst.none : Pst := ⟨fun _ _ => True, Option.none, fun _ _ => trivial, nofun⟩
def boolOf : Value → Option Bool
  | .bool x => some x
  | _ => Option.none
theorem boolOf_eq {v : Value} {x : Bool} (h : boolOf v = some x) : v = .bool x := by
  cases v <;> simp [boolOf] at h
  rw [h]
def Pst.val (u : Value) : Pst := ⟨fun v _ => v = u, boolOf u, fun h _ => h, fun h e => by rw [e, boolOf_eq h]⟩
def Pst.mk' (p : Value → World → Prop) (mono : ∀ {v W W'}, p v W → Below W.heap.size W W' → p v W') : Pst := ⟨p, Option.none, mono, nofun⟩
def known (tbl : List Pst) (i : Nat) (v : Value) (W : World) : Prop := (tbl.getD i Pst.none).p v W
def dstAt (l : List Oper) (j : Nat) : Nat := ((l[j]?).bind (·.dst)).getD 0
def depB (o : Oper) (j : Nat) : Bool := o.after.toList.any fun e => e.on == j && Region.binds .any e
theorem depB_at {o : Oper} {j : Nat} (h : depB o j = true) : ∃ (k : Nat) (hk : k < o.after.size), (o.after[k].on == j && Region.binds .any o.after[k]) = true := by
  unfold depB at h
  obtain ⟨e, he, h1⟩ := List.any_eq_true.1 h
  obtain ⟨k, hk⟩ := List.mem_iff_getElem?.1 he
  obtain ⟨h2, rfl⟩ := List.getElem?_eq_some_iff.1 hk
  exact ⟨k, by simpa using h2, by simpa using h1⟩
/-- Is a guarded operation run? -/
def wantP (tbl : List Pst) (o : Oper) : Option Bool :=
  match o.guard with
  | Option.none => some true
  | some (j, x) => if depB o j then ((tbl.getD j Pst.none).b).map (· == x) else Option.none
/-- Each operation has a slot, each its own, and waits for earlier ones alone. -/
def laidB (l : List Oper) (n : Nat) : Bool :=
  backB l.toArray && l.all (fun o => match o.dst with | some d => decide (d < n) | Option.none => false) && (List.range l.length).all fun i => (List.range i).all fun j => dstAt l i != dstAt l j
def outB (l : List Oper) (t : Nat) : Bool := l.all fun o => o.dst != some t
/-- An operation is done: its value is known, and what was there stays. -/
def Done (tbl : List Pst) (i : Nat) (d : Option Tmp) (a : Act) (W : World) (a' : Act) (W' : World) : Prop := ∃ v, a' = a.put d v ∧ Below W.heap.size W W' ∧ known tbl i v W'
def Outer (l : List Oper) (a0 a : Act) : Prop := ∀ t, outB l t = true → a.tmps[t]? = a0.tmps[t]?
def Deps (l : List Oper) (tbl : List Pst) (o : Oper) (a : Act) (W : World) : Prop := ∀ j, depB o j = true → known tbl j (a.tmps.getD (dstAt l j) undef) W
theorem Outer.slot {l : List Oper} {a0 a : Act} (h : Outer l a0 a) (t : Nat) (v : Value) (ho : outB l t = true) (hv : a0.tmps[t]? = some v) : a.tmps.getD t undef = v := by
  rw [Array.getD_eq_getD_getElem?, h t ho, hv]; rfl
inductive Oblig (P : Program) (l : List Oper) (tbl : List Pst) (a0 : Act) (w0 : World) : Nat → List Oper → Prop
  | nil {i} : Oblig P l tbl a0 w0 i []
  | yes {i o r} (hw : wantP tbl o = some true) (h : ∀ a W Q, Below w0.heap.size w0 W → Outer l a0 a → Deps l tbl o a W → o.wp P a W (Done tbl i o.dst a W) Q) (hr : Oblig P l tbl a0 w0 (i + 1) r) : Oblig P l tbl a0 w0 i (o :: r)
  | no {i o r} (hw : wantP tbl o = some false) (h : ∀ W, known tbl i undef W) (hr : Oblig P l tbl a0 w0 (i + 1) r) : Oblig P l tbl a0 w0 i (o :: r)
def putAll (f : Nat → Value) : Nat → List Oper → Act → Act
  | _, [], a => a
  | i, o :: r, a => putAll f (i + 1) r (a.put o.dst (f i))
structure PostI (l : List Oper) (tbl : List Pst) (a0 : Act) (w0 : World) (ls : Array Bool) (a : Act) (W : World) : Prop where
  bel : Below w0.heap.size w0 W
  out : Outer l a0 a
  size : a.tmps.size = a0.tmps.size
  defs : a.defers = a0.defers
  done : ∀ j, j < l.length → ls.getD j true = true → known tbl j (a.tmps.getD (dstAt l j) undef) W
  lsz : ls.size = l.length
  fresh : ∀ j, j < l.length → ls.getD j true = false → a.tmps.getD (dstAt l j) undef = a0.tmps.getD (dstAt l j) undef
  closed : ∀ (j : Nat) (o : Oper), ls.getD j true = true → l[j]? = some o → ∀ k, depB o k = true → ls.getD k true = true
section
variable {P : Program} {l : List Oper} {tbl : List Pst} {a0 : Act} {w0 : World}
theorem Oblig.at {i : Nat} {r : List Oper} (h : Oblig P l tbl a0 w0 i r) : ∀ (k : Nat) (o : Oper), r[k]? = some o →
    (wantP tbl o = some true ∧ ∀ a W Q, Below w0.heap.size w0 W → Outer l a0 a → Deps l tbl o a W → o.wp P a W (Done tbl (i + k) o.dst a W) Q) ∨ (wantP tbl o = some false ∧ ∀ W, known tbl (i + k) undef W) := by
  induction h with
  | nil => intro k o ho; simp at ho
  | yes hw h hr ih =>
    intro k o ho
    cases k with
    | zero => simp at ho; subst ho; exact .inl ⟨hw, h⟩
    | succ k => rw [← Nat.add_assoc, Nat.add_right_comm]; exact ih k o (by simpa using ho)
  | no hw h hr ih =>
    intro k o ho
    cases k with
    | zero => simp at ho; subst ho; exact .inr ⟨hw, h⟩
    | succ k => rw [← Nat.add_assoc, Nat.add_right_comm]; exact ih k o (by simpa using ho)
theorem laid_dst {n : Nat} (h : laidB l n = true) {i : Nat} {o : Oper} (ho : l[i]? = some o) : ∃ d, o.dst = some d ∧ d < n ∧ dstAt l i = d := by
  unfold laidB at h
  rw [Bool.and_eq_true, Bool.and_eq_true] at h
  have h1 := List.all_eq_true.1 h.1.2 o (List.mem_of_getElem? ho)
  cases hd : o.dst with
  | none => rw [hd] at h1; simp at h1
  | some d => rw [hd] at h1; exact ⟨d, rfl, by simpa using h1, by unfold dstAt; rw [ho]; simp [hd]⟩
theorem laid_ne {n : Nat} (h : laidB l n = true) {i j : Nat} (hi : i < l.length) (hj : j < l.length) (hne : i ≠ j) : dstAt l i ≠ dstAt l j := by
  unfold laidB at h
  rw [Bool.and_eq_true] at h
  have key : ∀ {i j : Nat}, i < l.length → j < i → dstAt l i ≠ dstAt l j := by
    intro i j hi hj
    have h1 := List.all_eq_true.1 h.2 i (List.mem_range.2 hi)
    have h2 := List.all_eq_true.1 h1 j (List.mem_range.2 hj)
    simpa using h2
  rcases Nat.lt_or_ge j i with h3 | h3
  · exact key hi h3
  · exact fun e => key hj (by omega) e.symm
theorem outB_ne {t : Nat} (h : outB l t = true) {o : Oper} (ho : o ∈ l) : o.dst ≠ some t := by
  have := List.all_eq_true.1 h o ho
  simpa using this
theorem put_getD_same {a : Act} {d : Tmp} {v : Value} (h : d < a.tmps.size) : (a.put (some d) v).tmps.getD d undef = v := by
  rw [Array.getD_eq_getD_getElem?]; simp [Act.put, h]
theorem put_getD_other {a : Act} {d t : Tmp} {v : Value} (h : d ≠ t) : (a.put (some d) v).tmps.getD t undef = a.tmps.getD t undef := by
  rw [Array.getD_eq_getD_getElem?, Array.getD_eq_getD_getElem?]; simp [Act.put, h]
theorem PostI.step {ls : Array Bool} {a : Act} {W W' : World} {i : Nat} {o : Oper} {v : Value} (h : PostI l tbl a0 w0 ls a W) (hl : laidB l a0.tmps.size = true) (ho : l[i]? = some o) (hb : Below W.heap.size W W') (hv : known tbl i v W') (hdl : ∀ k, depB o k = true → ls.getD k true = true) :
    PostI l tbl a0 w0 (ls.setIfInBounds i true) (a.put o.dst v) W' := by
  obtain ⟨d, hd, hdn, hda⟩ := laid_dst hl ho
  have hi : i < l.length := (List.getElem?_eq_some_iff.1 ho).1
  rw [hd]
  refine ⟨h.bel.trans (hb.mono h.bel.size), fun t ht => ?_, by simp [Act.put, h.size], by simp [Act.put, h.defs], fun j hj hlj => ?_, by simp [h.lsz], fun j hj hlj => ?_, fun j o' hlj hoj k hk => ?_⟩
  · have hne : d ≠ t := by
      intro e
      exact outB_ne ht (List.mem_of_getElem? ho) (by rw [hd, e])
    rw [← h.out t ht]
    simp [Act.put, hne]
  · by_cases hji : j = i
    · subst hji
      rw [hda, put_getD_same (by rw [h.size]; exact hdn)]
      exact hv
    · have hne : d ≠ dstAt l j := by rw [← hda]; exact fun e => laid_ne hl hi hj (Ne.symm hji) e
      rw [put_getD_other hne]
      refine (tbl.getD j Pst.none).mono (h.done j hj ?_) hb
      rw [Array.getD_eq_getD_getElem?, Array.getElem?_setIfInBounds_ne (Ne.symm hji), ← Array.getD_eq_getD_getElem?] at hlj
      exact hlj
  · have hji : j ≠ i := by
      rintro rfl
      rw [Array.getD_eq_getD_getElem?, Array.getElem?_setIfInBounds_self] at hlj
      simp [h.lsz, hi] at hlj
    have hne : d ≠ dstAt l j := by rw [← hda]; exact fun e => laid_ne hl hi hj (Ne.symm hji) e
    rw [put_getD_other hne]
    rw [Array.getD_eq_getD_getElem?, Array.getElem?_setIfInBounds_ne (Ne.symm hji), ← Array.getD_eq_getD_getElem?] at hlj
    exact h.fresh j hj hlj
  · have mono : ∀ k, ls.getD k true = true → (ls.setIfInBounds i true).getD k true = true := by
      intro k hk
      rw [Array.getD_eq_getD_getElem?, Array.getElem?_setIfInBounds]
      split
      · split <;> rfl
      · rw [← Array.getD_eq_getD_getElem?]; exact hk
    by_cases hji : j = i
    · subst hji
      rw [ho] at hoj
      injection hoj with hoj
      subst hoj
      exact mono k (hdl k hk)
    · rw [Array.getD_eq_getD_getElem?, Array.getElem?_setIfInBounds_ne (Ne.symm hji), ← Array.getD_eq_getD_getElem?] at hlj
      exact mono k (h.closed j o' hlj hoj k hk)
theorem size_putAll (f : Nat → Value) : ∀ (i : Nat) (r : List Oper) (a : Act), (putAll f i r a).tmps.size = a.tmps.size
  | _, [], _ => rfl
  | i, o :: r, a => by
    unfold putAll
    rw [size_putAll f (i + 1) r]
    cases o.dst <;> simp [Act.put]
theorem defs_putAll (f : Nat → Value) : ∀ (i : Nat) (r : List Oper) (a : Act), (putAll f i r a).defers = a.defers
  | _, [], _ => rfl
  | i, o :: r, a => by
    unfold putAll
    rw [defs_putAll f (i + 1) r]
    cases o.dst <;> simp [Act.put]
theorem putAll_out (f : Nat → Value) (t : Nat) : ∀ (i : Nat) (r : List Oper) (a : Act), (∀ o ∈ r, o.dst ≠ some t) → (putAll f i r a).tmps[t]? = a.tmps[t]?
  | _, [], _, _ => rfl
  | i, o :: r, a, h => by
    unfold putAll
    rw [putAll_out f t (i + 1) r _ (fun o ho => h o (by simp [ho]))]
    have h1 := h o (by simp)
    cases hd : o.dst with
    | none => simp [Act.put]
    | some d =>
      have : d ≠ t := fun e => h1 (by rw [hd, e])
      simp [Act.put, this]
theorem putAll_in (f : Nat → Value) (d : Nat) : ∀ (i : Nat) (r : List Oper) (a : Act) (k : Nat) (o : Oper), r[k]? = some o → o.dst = some d → d < a.tmps.size → (∀ (j : Nat) (o' : Oper), k < j → r[j]? = some o' → o'.dst ≠ some d) → (putAll f i r a).tmps[d]? = some (f (i + k))
  | _, [], _, _, _, h, _, _, _ => by simp at h
  | i, o' :: r, a, 0, o, h, hd, hs, hn => by
    simp at h; subst h
    unfold putAll
    rw [putAll_out f d (i + 1) r _ (fun o ho => by
      obtain ⟨j, hj⟩ := List.mem_iff_getElem?.1 ho
      exact hn (j + 1) o (by omega) (by simpa using hj))]
    rw [hd]
    simp [Act.put, hs]
  | i, o' :: r, a, k + 1, o, h, hd, hs, hn => by
    unfold putAll
    rw [putAll_in f d (i + 1) r _ k o (by simpa using h) hd (by cases o'.dst <;> simp [Act.put, hs]) (fun j o'' hj ho => hn (j + 1) o'' (by omega) (by simpa using ho))]
    congr 2; omega
theorem region_posts0 {Q : Exit → Act → World → Prop} {id : Nat} (hm : P.follows .mixedOrders = true) (tbl : List Pst) (hl : laidB l a0.tmps.size = true) (hop : Oblig P l tbl a0 w0 0 l)
    (hend : ∀ (a : Act) (W : World), Below w0.heap.size w0 W → Outer l a0 a → a.tmps.size = a0.tmps.size → a.defers = a0.defers → (∀ i, i < l.length → known tbl i (a.tmps.getD (dstAt l i) undef) W) → Q .normal a W) : (Code.region id l.toArray true).wp P Q a0 w0 := by
  refine region_inv hm (PostI l tbl a0 w0) ?_ ?_ ?_
  · intro ls a W h hd
    have hall := all_listed (by unfold laidB at hl; rw [Bool.and_eq_true, Bool.and_eq_true] at hl; exact hl.1.1) (by rw [h.lsz]; simp) hd
    exact hend a W h.bel h.out h.size h.defs fun i hi => h.done i hi (hall i (by simpa using hi))
  · intro ls a W i h hi
    have hmem := ready_mem hi
    have hil : i < l.length := by simpa using hmem.1
    have ho : l[i]? = some l[i] := List.getElem?_eq_getElem hil
    obtain ⟨o, hoo⟩ : ∃ o, o = l[i] := ⟨_, rfl⟩
    rw [← hoo] at ho
    have hdl : ∀ k, depB o k = true → ls.getD k true = true := by
      intro j hj
      obtain ⟨k, hk, hj⟩ := depB_at hj
      rw [Bool.and_eq_true, beq_iff_eq] at hj
      have h2 := ready_depP hmem.2.2 (show l.toArray[i]? = some o by simpa using ho) k (e := o.after[k]) (Array.getElem?_eq_getElem hk) hj.2
      rw [hj.1] at h2
      exact h2
    have hdep : Deps l tbl o a W := by
      intro j hj
      obtain ⟨k, hk, hj⟩ := depB_at hj
      rw [Bool.and_eq_true, beq_iff_eq] at hj
      have h1 := hmem.2.2
      have ho' : l.toArray[i]? = some o := by simpa using ho
      have h2 := ready_depP h1 ho' k (e := o.after[k]) (Array.getElem?_eq_getElem hk) hj.2
      have hjl : j < l.length := by
        have hb : backB l.toArray = true := by unfold laidB at hl; rw [Bool.and_eq_true, Bool.and_eq_true] at hl; exact hl.1.1
        have hbi := List.all_eq_true.1 hb i (List.mem_range.2 (by simpa using hil))
        rw [ho'] at hbi
        simp only [Option.map_some, Option.getD_some, Array.all_eq_true] at hbi
        have := hbi k hk
        have hlt : (o.after[k]).on < i := by simpa [hj.2] using this
        omega
      rw [hj.1] at h2
      exact h.done j hjl h2
    have hwant : ∀ x, wantP tbl o = some x → Region.wanted o (yielded l.toArray a.tmps) = x := by
      intro x hx
      unfold wantP at hx
      unfold Region.wanted
      cases hg : o.guard with
      | none => rw [hg] at hx; simp at hx; simp [hx]
      | some g =>
        obtain ⟨j, y⟩ := g
        rw [hg] at hx
        simp only at hx ⊢
        split at hx
        · rename_i hj
          cases hb : (tbl.getD j Pst.none).b with
          | none => rw [hb] at hx; simp at hx
          | some z =>
            rw [hb] at hx
            simp at hx
            have hk := hdep j hj
            have hv := (tbl.getD j Pst.none).tells hb hk
            have hy : yielded l.toArray a.tmps j = some z := by
              unfold yielded
              have hjl : ∃ o', l[j]? = some o' := by
                cases hlj : l[j]? with
                | some o' => exact ⟨o', rfl⟩
                | none =>
                  exfalso
                  obtain ⟨k, hk, hj⟩ := depB_at hj
                  rw [Bool.and_eq_true, beq_iff_eq] at hj
                  have hb : backB l.toArray = true := by unfold laidB at hl; rw [Bool.and_eq_true, Bool.and_eq_true] at hl; exact hl.1.1
                  have hbi := List.all_eq_true.1 hb i (List.mem_range.2 (by simpa using hil))
                  have ho' : l.toArray[i]? = some o := by simpa using ho
                  rw [ho'] at hbi
                  simp only [Option.map_some, Option.getD_some, Array.all_eq_true] at hbi
                  have := hbi k hk
                  have hlt : (o.after[k]).on < i := by simpa [hj.2] using this
                  rw [List.getElem?_eq_none_iff] at hlj
                  omega
              obtain ⟨o', hlj⟩ := hjl
              obtain ⟨d, e1, e2, e3⟩ := laid_dst hl hlj
              have hts : d < a.tmps.size := by rw [h.size]; exact e2
              have : a.tmps[d]? = some (.bool z) := by
                rw [e3, Array.getD_eq_getD_getElem?, Array.getElem?_eq_getElem hts] at hv
                rw [Array.getElem?_eq_getElem hts]
                simpa using hv
              simp [hlj, e1, this]
            rw [hy]
            rw [← hx]
            cases z <;> cases y <;> rfl
        · cases hx
    unfold wpOp
    have ho' : l.toArray[i]? = some o := by simpa using ho
    rw [ho']
    simp only
    rcases hop.at i o ho with ⟨h1, h2⟩ | ⟨h1, h2⟩
    · rw [if_pos (hwant _ h1)]
      refine .inl (Oper.wp_mono ?_ (h2 a W Q h.bel h.out hdep))
      rintro a' W' ⟨v, rfl, hb, hv⟩
      rw [Nat.zero_add] at hv
      exact h.step hl ho hb hv hdl
    · rw [if_neg (by rw [hwant _ h1]; exact Bool.false_ne_true)]
      have := h2 W
      rw [Nat.zero_add] at this
      exact h.step hl ho (Below.refl _ _) this hdl
  · exact ⟨below_drewN (Below.refl _ w0) 1, fun t _ => rfl, rfl, rfl, fun j hj hd => by simp [hj] at hd, by simp, fun j _ _ => rfl, fun j o hj ho k _ => by
    have hjl := (List.getElem?_eq_some_iff.1 ho).1
    simp [hjl] at hj⟩
/-- The frame behind the region is not looked into: what its slots hold is told one by one. -/
theorem region_last {Q : Exit → Act → World → Prop} {id : Nat} (hm : P.follows .mixedOrders = true) (tbl : List Pst) (hl : laidB l a0.tmps.size = true) (hop : Oblig P l tbl a0 w0 0 l)
    (hend : ∀ (T : Array Value) (W : World), Below w0.heap.size w0 W → Outer l a0 ⟨T, a0.defers⟩ → (∀ i, i < l.length → known tbl i (T.getD (dstAt l i) undef) W) → Q .normal ⟨T, a0.defers⟩ W) : (Code.region id l.toArray true).wp P Q a0 w0 := by
  refine region_posts0 hm tbl hl hop fun a W hB hO _ hD hk => ?_
  cases a
  subst hD
  exact hend _ W hB hO hk
theorem region_posts {Q : Exit → Act → World → Prop} {id : Nat} (hm : P.follows .mixedOrders = true) (tbl : List Pst) (hl : laidB l a0.tmps.size = true) (hop : Oblig P l tbl a0 w0 0 l)
    (hend : ∀ (f : Nat → Value) (W : World), Below w0.heap.size w0 W → (∀ i, i < l.length → known tbl i (f i) W) → Q .normal (putAll f 0 l a0) W) : (Code.region id l.toArray true).wp P Q a0 w0 := by
  refine region_posts0 hm tbl hl hop fun a W hB hO hS hD hk => ?_
  have e : a = putAll (fun i => a.tmps.getD (dstAt l i) undef) 0 l a0 := by
    have h1 : a.tmps = (putAll (fun i => a.tmps.getD (dstAt l i) undef) 0 l a0).tmps := by
      refine Array.ext_getElem? fun t => ?_
      by_cases ht : outB l t = true
      · rw [hO t ht, putAll_out _ _ _ _ _ (fun o ho => outB_ne ht ho)]
      · have ht : outB l t = false := by simpa using ht
        obtain ⟨o, ho, hd⟩ := List.all_eq_false.1 ht
        obtain ⟨k, hk⟩ := List.mem_iff_getElem?.1 ho
        have hkl := (List.getElem?_eq_some_iff.1 hk).1
        obtain ⟨d, e1, e2, e3⟩ := laid_dst hl hk
        have e4 : d = t := by simpa [e1] using hd
        subst e4
        rw [putAll_in _ d 0 l a0 k o hk e1 e2 (fun j o' hj ho' => by
          obtain ⟨d', f1, f2, f3⟩ := laid_dst hl ho'
          have := laid_ne hl (List.getElem?_eq_some_iff.1 ho').1 hkl (by omega)
          rw [f1]
          intro e
          injection e with e
          exact this (by rw [f3, e3, e]))]
        have hts : d < a.tmps.size := by rw [hS]; exact e2
        rw [Nat.zero_add, e3, Array.getD_eq_getD_getElem?, Array.getElem?_eq_getElem hts]
        rfl
    have h2 : a.defers = (putAll (fun i => a.tmps.getD (dstAt l i) undef) 0 l a0).defers := by rw [defs_putAll, hD]
    cases a
    generalize hX : putAll _ 0 l a0 = X at h1 h2 ⊢
    cases X
    simp only at h1 h2
    rw [h1, h2]
  rw [e]
  exact hend _ W hB hk
end
end Go.Proofs.YtljihclpgpmfeaaDoor
/- A region that draws its order and within which some operations, in a row, write memory: one relation for the memory behind so many of them, one fact for each other operation's value. No program is named. -/
namespace Go.Proofs.YtljihclpgpmfeaaDoor
set_option maxRecDepth 100000
open Go.RowKit

/-- Each operation has a slot of its own, or is one of the writers. -/
def laidS (st : List Nat) (l : List Oper) (n : Nat) : Bool :=
  (backB l.toArray && st.all fun s => decide (s < l.length)) && (List.range l.length).all (fun i => match (l[i]?).bind (·.dst) with
    | some d => decide (d < n) && (List.range i).all (fun j => (l[j]?).bind (·.dst) != some d)
    | none => st.contains i)
/-- The writers wait for one another, in a row. -/
def chainS (l : List Oper) : List Nat → Bool
  | r :: s :: t => ((l[s]?).map fun o => depB o r).getD false && decide (r < s) && chainS l (s :: t)
  | _ => true
def LaterS (l : List Oper) (i : Nat) (a0 a : Act) : Prop := ∀ (j d : Nat) (o : Oper), l[j]? = some o → o.dst = some d → depB o i = true → a.tmps.getD d undef = a0.tmps.getD d undef
/-- So many writers may be done when this operation comes. -/
def MostS (st : List Nat) (l : List Oper) (i k : Nat) : Prop := ∀ (j s : Nat) (o : Oper), st[j]? = some s → l[s]? = some o → depB o i = true → k ≤ j
inductive ObligS (st : List Nat) (R : Nat → World → Prop) (P : Program) (l : List Oper) (tbl : List Pst) (a0 : Act) : Nat → List Oper → Prop
  | nil {i} : ObligS st R P l tbl a0 i []
  | yes {i o r} (hi : st.contains i = false) (hw : wantP tbl o = some true) (h : ∀ a W Q k, R k W → MostS st l i k → Outer l a0 a → Deps l tbl o a W → LaterS l i a0 a → o.wp P a W (Done tbl i o.dst a W) Q) (hr : ObligS st R P l tbl a0 (i + 1) r) : ObligS st R P l tbl a0 i (o :: r)
  | no {i o r} (hi : st.contains i = false) (hw : wantP tbl o = some false) (h : ∀ W, known tbl i undef W) (hr : ObligS st R P l tbl a0 (i + 1) r) : ObligS st R P l tbl a0 i (o :: r)
  | st {i o r} (j : Nat) (hi : st[j]? = some i) (hw : wantP tbl o = some true) (hd : o.dst = Option.none) (h : ∀ a W Q, R j W → Outer l a0 a → Deps l tbl o a W → LaterS l i a0 a → o.wp P a W (fun a' W' => a' = a ∧ R (j + 1) W') Q) (hr : ObligS st R P l tbl a0 (i + 1) r) : ObligS st R P l tbl a0 i (o :: r)
structure PostS (st : List Nat) (R : Nat → World → Prop) (l : List Oper) (tbl : List Pst) (a0 : Act) (k : Nat) (ls : Array Bool) (a : Act) (W : World) : Prop where
  rel : R k W
  most : k ≤ st.length
  wr : ∀ j s, st[j]? = some s → (ls.getD s true = true ↔ j < k)
  out : Outer l a0 a
  size : a.tmps.size = a0.tmps.size
  defs : a.defers = a0.defers
  done : ∀ (j d : Nat) (o : Oper), l[j]? = some o → o.dst = some d → ls.getD j true = true → ∀ V, known tbl j (a.tmps.getD d undef) V
  lsz : ls.size = l.length
  fresh : ∀ (j d : Nat) (o : Oper), l[j]? = some o → o.dst = some d → ls.getD j true = false → a.tmps.getD d undef = a0.tmps.getD d undef
  closed : ∀ (j : Nat) (o : Oper), ls.getD j true = true → l[j]? = some o → ∀ k, depB o k = true → ls.getD k true = true
section
variable {st : List Nat} {R : Nat → World → Prop} {P : Program} {l : List Oper} {tbl : List Pst} {a0 : Act} {w0 : World}
theorem ObligS.at {i : Nat} {r : List Oper} (h : ObligS st R P l tbl a0 i r) : ∀ (k : Nat) (o : Oper), r[k]? = some o →
    (st.contains (i + k) = false ∧ wantP tbl o = some true ∧ ∀ a W Q n, R n W → MostS st l (i + k) n → Outer l a0 a → Deps l tbl o a W → LaterS l (i + k) a0 a → o.wp P a W (Done tbl (i + k) o.dst a W) Q) ∨ (st.contains (i + k) = false ∧ wantP tbl o = some false ∧ ∀ W, known tbl (i + k) undef W) ∨
    (∃ j, st[j]? = some (i + k) ∧ wantP tbl o = some true ∧ o.dst = Option.none ∧ ∀ a W Q, R j W → Outer l a0 a → Deps l tbl o a W → LaterS l (i + k) a0 a → o.wp P a W (fun a' W' => a' = a ∧ R (j + 1) W') Q) := by
  induction h with
  | nil => intro k o ho; simp at ho
  | yes hi hw h hr ih =>
    intro k o ho
    cases k with
    | zero => simp at ho; subst ho; exact .inl ⟨hi, hw, h⟩
    | succ k => rw [← Nat.add_assoc, Nat.add_right_comm]; exact ih k o (by simpa using ho)
  | no hi hw h hr ih =>
    intro k o ho
    cases k with
    | zero => simp at ho; subst ho; exact .inr (.inl ⟨hi, hw, h⟩)
    | succ k => rw [← Nat.add_assoc, Nat.add_right_comm]; exact ih k o (by simpa using ho)
  | st j hi hw hd h hr ih =>
    intro k o ho
    cases k with
    | zero => simp at ho; subst ho; exact .inr (.inr ⟨j, hi, hw, hd, h⟩)
    | succ k => rw [← Nat.add_assoc, Nat.add_right_comm]; exact ih k o (by simpa using ho)
theorem laidS_dst {n : Nat} (h : laidS st l n = true) {i d : Nat} {o : Oper} (ho : l[i]? = some o) (hd : o.dst = some d) : d < n ∧ ∀ (j : Nat) (o' : Oper), l[j]? = some o' → o'.dst = some d → j = i := by
  have key : ∀ {i : Nat} {o : Oper}, l[i]? = some o → o.dst = some d → d < n ∧ ∀ (j : Nat) (o' : Oper), j < i → l[j]? = some o' → o'.dst ≠ some d := by
    intro i o ho hd
    unfold laidS at h
    rw [Bool.and_eq_true] at h
    have h1 := List.all_eq_true.1 h.2 i (List.mem_range.2 (List.getElem?_eq_some_iff.1 ho).1)
    rw [ho, Option.bind_some, hd] at h1
    simp only [Bool.and_eq_true, decide_eq_true_eq] at h1
    refine ⟨h1.1, fun j o' hj ho' e => ?_⟩
    have h2 := List.all_eq_true.1 h1.2 j (List.mem_range.2 hj)
    rw [ho', Option.bind_some, e] at h2
    simp at h2
  refine ⟨(key ho hd).1, fun j o' ho' hd' => ?_⟩
  rcases Nat.lt_trichotomy j i with h1 | h1 | h1
  · exact absurd hd' ((key ho hd).2 j o' h1 ho')
  · exact h1
  · exact absurd hd ((key ho' hd').2 i o h1 ho)
theorem laidS_none {n : Nat} (h : laidS st l n = true) {i : Nat} {o : Oper} (ho : l[i]? = some o) (hd : o.dst = Option.none) : st.contains i = true := by
  unfold laidS at h
  rw [Bool.and_eq_true] at h
  have h1 := List.all_eq_true.1 h.2 i (List.mem_range.2 (List.getElem?_eq_some_iff.1 ho).1)
  rw [ho, Option.bind_some, hd] at h1
  exact h1
theorem chainS_at : ∀ {st : List Nat}, chainS l st = true → ∀ (j r s : Nat), st[j]? = some r → st[j + 1]? = some s → r < s ∧ ∃ o, l[s]? = some o ∧ depB o r = true
  | [], _, j, r, s, h1, _ => by simp at h1
  | [_], _, j, r, s, _, h2 => by simp at h2
  | x :: y :: t, h, 0, r, s, h1, h2 => by
    unfold chainS at h
    rw [Bool.and_eq_true, Bool.and_eq_true, decide_eq_true_eq] at h
    simp at h1 h2
    subst h1; subst h2
    refine ⟨h.1.2, ?_⟩
    cases ho : l[y]? with
    | none => rw [ho] at h; simp at h
    | some o => rw [ho] at h; exact ⟨o, rfl, by simpa using h.1.1⟩
  | x :: y :: t, h, j + 1, r, s, h1, h2 => by
    unfold chainS at h
    rw [Bool.and_eq_true] at h
    exact chainS_at (st := y :: t) h.2 j r s (by simpa using h1) (by simpa using h2)
theorem chainS_lt {st : List Nat} (h : chainS l st = true) : ∀ (j m r s : Nat), j < m → st[j]? = some r → st[m]? = some s → r < s := by
  intro j m
  induction m with
  | zero => intro r s hj; omega
  | succ m ih =>
    intro r s hj h1 h2
    obtain ⟨q, hq⟩ : ∃ q, st[m]? = some q := ⟨_, List.getElem?_eq_getElem (by have := (List.getElem?_eq_some_iff.1 h2).1; omega)⟩
    have h3 := (chainS_at h m q s hq h2).1
    by_cases e : j = m
    · subst e
      rw [h1] at hq; injection hq with hq; omega
    · have := ih r q (by omega) h1 hq
      omega
theorem chainS_inj {st : List Nat} (h : chainS l st = true) {j m s : Nat} (h1 : st[j]? = some s) (h2 : st[m]? = some s) : j = m := by
  rcases Nat.lt_trichotomy j m with e | e | e
  · have := chainS_lt h j m s s e h1 h2; omega
  · exact e
  · have := chainS_lt h m j s s e h2 h1; omega
theorem set_getD {ls : Array Bool} {i j : Nat} (h : j ≠ i) : (ls.setIfInBounds i true).getD j true = ls.getD j true := by
  rw [Array.getD_eq_getD_getElem?, Array.getElem?_setIfInBounds_ne (Ne.symm h), ← Array.getD_eq_getD_getElem?]
theorem set_getD_self {ls : Array Bool} {i : Nat} : (ls.setIfInBounds i true).getD i true = true := by
  rw [Array.getD_eq_getD_getElem?, Array.getElem?_setIfInBounds_self]
  split <;> simp
theorem set_mono {ls : Array Bool} {i k : Nat} (hk : ls.getD k true = true) : (ls.setIfInBounds i true).getD k true = true := by
  by_cases h : k = i
  · subst h; exact set_getD_self
  · rw [set_getD h]; exact hk
theorem PostS.step {k : Nat} {ls : Array Bool} {a : Act} {W W' : World} {i : Nat} {o : Oper} {v : Value} (h : PostS st R l tbl a0 k ls a W) (hl : laidS st l a0.tmps.size = true) (hR : ∀ k W W', R k W → Below W.heap.size W W' → R k W') (hkn : ∀ j v V V', known tbl j v V → known tbl j v V') (ho : l[i]? = some o) (hi : st.contains i = false) (hb : Below W.heap.size W W') (hv : known tbl i v W') (hdl : ∀ k, depB o k = true → ls.getD k true = true) :
    PostS st R l tbl a0 k (ls.setIfInBounds i true) (a.put o.dst v) W' := by
  have hi2 : i < l.length := (List.getElem?_eq_some_iff.1 ho).1
  obtain ⟨d, hd⟩ : ∃ d, o.dst = some d := by
    cases hd : o.dst with
    | none => rw [laidS_none hl ho hd] at hi; cases hi
    | some d => exact ⟨d, rfl⟩
  obtain ⟨hdn, hdu⟩ := laidS_dst hl ho hd
  rw [hd]
  have other : ∀ (j d' : Nat) (o' : Oper), l[j]? = some o' → o'.dst = some d' → j ≠ i → d ≠ d' := by
    rintro j d' o' ho' hd' hj rfl
    exact hj (hdu j o' ho' hd')
  refine ⟨hR k W W' h.rel hb, h.most, fun j s hs => ?_, fun t ht => ?_, by simp [Act.put, h.size], by simp [Act.put, h.defs], fun j d' o' ho' hd' hlj V => ?_, by simp [h.lsz], fun j d' o' ho' hd' hlj => ?_, fun j o' hlj hoj k hk => ?_⟩
  · have hne : s ≠ i := by
      rintro rfl
      have : st.contains s = true := List.contains_iff_mem.2 (List.mem_of_getElem? hs)
      rw [this] at hi; cases hi
    rw [set_getD hne]
    exact h.wr j s hs
  · have hne : d ≠ t := by
      intro e
      exact outB_ne ht (List.mem_of_getElem? ho) (by rw [hd, e])
    rw [← h.out t ht]
    simp [Act.put, hne]
  · by_cases hji : j = i
    · subst hji
      rw [ho] at ho'; injection ho' with ho'; subst ho'
      rw [hd] at hd'; injection hd' with hd'; subst hd'
      rw [put_getD_same (by rw [h.size]; exact hdn)]
      exact hkn _ _ _ V hv
    · rw [put_getD_other (other j d' o' ho' hd' hji)]
      rw [set_getD hji] at hlj
      exact h.done j d' o' ho' hd' hlj V
  · have hji : j ≠ i := by
      rintro rfl
      rw [set_getD_self] at hlj; cases hlj
    rw [put_getD_other (other j d' o' ho' hd' hji)]
    rw [set_getD hji] at hlj
    exact h.fresh j d' o' ho' hd' hlj
  · by_cases hji : j = i
    · subst hji
      rw [ho] at hoj
      injection hoj with hoj
      subst hoj
      exact set_mono (hdl k hk)
    · rw [set_getD hji] at hlj
      exact set_mono (h.closed j o' hlj hoj k hk)
theorem PostS.write {k : Nat} {ls : Array Bool} {a : Act} {W W' : World} {i : Nat} {o : Oper} (h : PostS st R l tbl a0 k ls a W) (hc : chainS l st = true) (ho : l[i]? = some o) (hi : st[k]? = some i) (hd : o.dst = Option.none) (hW : R (k + 1) W') (hdl : ∀ k, depB o k = true → ls.getD k true = true) :
    PostS st R l tbl a0 (k + 1) (ls.setIfInBounds i true) a W' := by
  refine ⟨hW, (List.getElem?_eq_some_iff.1 hi).1, fun j s hs => ?_, h.out, h.size, h.defs, fun j d' o' ho' hd' hlj V => ?_, by simp [h.lsz], fun j d' o' ho' hd' hlj => ?_, fun j o' hlj hoj k hk => ?_⟩
  · by_cases e : s = i
    · subst e
      rw [set_getD_self, chainS_inj hc hs hi]
      simp
    · rw [set_getD e, h.wr j s hs]
      have : j ≠ k := by
        rintro rfl
        rw [hi] at hs; injection hs with hs; exact e hs.symm
      omega
  · have hji : j ≠ i := by
      rintro rfl
      rw [ho] at ho'; injection ho' with ho'; subst ho'
      rw [hd] at hd'; cases hd'
    rw [set_getD hji] at hlj
    exact h.done j d' o' ho' hd' hlj V
  · have hji : j ≠ i := by
      rintro rfl
      rw [set_getD_self] at hlj; cases hlj
    rw [set_getD hji] at hlj
    exact h.fresh j d' o' ho' hd' hlj
  · by_cases hji : j = i
    · subst hji
      rw [ho] at hoj
      injection hoj with hoj
      subst hoj
      exact set_mono (hdl k hk)
    · rw [set_getD hji] at hlj
      exact set_mono (h.closed j o' hlj hoj k hk)
theorem region_postsS {Q : Exit → Act → World → Prop} {id : Nat} (st : List Nat) (R : Nat → World → Prop) (hm : P.follows .mixedOrders = true) (tbl : List Pst) (hl : laidS st l a0.tmps.size = true) (hc : chainS l st = true) (hR : ∀ k W W', R k W → Below W.heap.size W W' → R k W') (hkn : ∀ j v V V', known tbl j v V → known tbl j v V') (hsn : ∀ s ∈ st, ∀ v W, known tbl s v W) (h0 : R 0 w0.drew) (hop : ObligS st R P l tbl a0 0 l)
    (hend : ∀ (f : Nat → Value) (W : World), R st.length W → (∀ i, i < l.length → known tbl i (f i) W) → Q .normal (putAll f 0 l a0) W) : (Code.region id l.toArray true).wp P Q a0 w0 := by
  have hbs : backB l.toArray = true ∧ (st.all fun s => decide (s < l.length)) = true := by unfold laidS at hl; rw [Bool.and_eq_true, Bool.and_eq_true] at hl; exact hl.1
  have hback := hbs.1
  refine region_inv hm (fun ls a W => ∃ k, PostS st R l tbl a0 k ls a W) ?_ ?_ ?_
  · rintro ls a W ⟨k, h⟩ hd
    have hall := all_listed hback (by rw [h.lsz]; simp) hd
    have hk : k = st.length := by
      refine Classical.byContradiction fun hne => ?_
      have hlt : k < st.length := by have := h.most; omega
      obtain ⟨s, hs⟩ : ∃ s, st[k]? = some s := ⟨_, List.getElem?_eq_getElem hlt⟩
      have h1 := h.wr k s hs
      by_cases hsl : s < l.length
      · have := h1.1 (hall s (by simpa using hsl)); omega
      · have : ls.getD s true = true := by rw [Array.getD_eq_getD_getElem?, Array.getElem?_eq_none (by rw [h.lsz]; omega)]; rfl
        have := h1.1 this; omega
    subst hk
    have e : a = putAll (fun i => a.tmps.getD (dstAt l i) undef) 0 l a0 := by
      have h1 : a.tmps = (putAll (fun i => a.tmps.getD (dstAt l i) undef) 0 l a0).tmps := by
        refine Array.ext_getElem? fun t => ?_
        by_cases ht : outB l t = true
        · rw [h.out t ht, putAll_out _ _ _ _ _ (fun o ho => outB_ne ht ho)]
        · have ht : outB l t = false := by simpa using ht
          obtain ⟨o, ho, hd⟩ := List.all_eq_false.1 ht
          obtain ⟨k, hk⟩ := List.mem_iff_getElem?.1 ho
          have e4 : o.dst = some t := by simpa using hd
          obtain ⟨e2, e3⟩ := laidS_dst hl hk e4
          rw [putAll_in _ t 0 l a0 k o hk e4 e2 (fun j o' hj ho' e => by
            have := e3 j o' ho' e; omega)]
          have hts : t < a.tmps.size := by rw [h.size]; exact e2
          have e5 : dstAt l k = t := by unfold dstAt; rw [hk]; simp [e4]
          rw [Nat.zero_add, e5, Array.getD_eq_getD_getElem?, Array.getElem?_eq_getElem hts]
          rfl
      have h2 : a.defers = (putAll (fun i => a.tmps.getD (dstAt l i) undef) 0 l a0).defers := by rw [defs_putAll, h.defs]
      cases a
      generalize hX : putAll _ 0 l a0 = X at h1 h2 ⊢
      cases X
      simp only at h1 h2
      rw [h1, h2]
    rw [e]
    refine hend _ W h.rel fun i hi => ?_
    obtain ⟨o, ho⟩ : ∃ o, l[i]? = some o := ⟨_, List.getElem?_eq_getElem hi⟩
    cases hd : o.dst with
    | none => exact hsn i (List.contains_iff_mem.1 (laidS_none hl ho hd)) _ W
    | some d =>
      have e5 : dstAt l i = d := by unfold dstAt; rw [ho]; simp [hd]
      show known tbl i (a.tmps.getD (dstAt l i) undef) W
      rw [e5]
      exact h.done i d o ho hd (hall i (by simpa using hi)) W
  · rintro ls a W i ⟨k, h⟩ hi
    have hmem := ready_mem hi
    have hil : i < l.length := by simpa using hmem.1
    obtain ⟨o, ho⟩ : ∃ o, l[i]? = some o := ⟨_, List.getElem?_eq_getElem hil⟩
    have ho' : l.toArray[i]? = some o := by simpa using ho
    have hdl : ∀ k, depB o k = true → ls.getD k true = true := by
      intro j hj
      obtain ⟨k, hk, hj⟩ := depB_at hj
      rw [Bool.and_eq_true, beq_iff_eq] at hj
      have h2 := ready_depP hmem.2.2 ho' k (e := o.after[k]) (Array.getElem?_eq_getElem hk) hj.2
      rw [hj.1] at h2
      exact h2
    have hlt : ∀ j, depB o j = true → j < i := by
      intro j hj
      obtain ⟨k, hk, hj⟩ := depB_at hj
      rw [Bool.and_eq_true, beq_iff_eq] at hj
      have hbi := List.all_eq_true.1 hback i (List.mem_range.2 (by simpa using hil))
      rw [ho'] at hbi
      simp only [Option.map_some, Option.getD_some, Array.all_eq_true] at hbi
      have hlt : (o.after[k]).on < i := by simpa [hj.2] using hbi k hk
      omega
    have hknown : ∀ j, depB o j = true → known tbl j (a.tmps.getD (dstAt l j) undef) W := by
      intro j hj
      have hjl : j < l.length := by have := hlt j hj; omega
      obtain ⟨o2, ho2⟩ : ∃ o, l[j]? = some o := ⟨_, List.getElem?_eq_getElem hjl⟩
      cases hd : o2.dst with
      | none => exact hsn j (List.contains_iff_mem.1 (laidS_none hl ho2 hd)) _ W
      | some d =>
        have e5 : dstAt l j = d := by unfold dstAt; rw [ho2]; simp [hd]
        rw [e5]
        exact h.done j d o2 ho2 hd (hdl j hj) W
    have hun : ls.getD i true = false := hmem.2.1
    have hlate : LaterS l i a0 a := by
      intro j d o2 hoj hd hdep
      refine h.fresh j d o2 hoj hd ?_
      cases hls : ls.getD j true with
      | false => rfl
      | true =>
        have := h.closed j o2 hls hoj i hdep
        rw [hun] at this; cases this
    have hmost : MostS st l i k := by
      intro j s o2 hs hos hdep
      refine Classical.byContradiction fun hn => ?_
      have h1 := (h.wr j s hs).2 (by omega)
      have := h.closed s o2 h1 hos i hdep
      rw [hun] at this; cases this
    have hwant : ∀ x, wantP tbl o = some x → Region.wanted o (yielded l.toArray a.tmps) = x := by
      intro x hx
      unfold wantP at hx
      unfold Region.wanted
      cases hg : o.guard with
      | none => rw [hg] at hx; simp at hx; simp [hx]
      | some g =>
        obtain ⟨j, y⟩ := g
        rw [hg] at hx
        simp only at hx ⊢
        split at hx
        · rename_i hj
          cases hb : (tbl.getD j Pst.none).b with
          | none => rw [hb] at hx; simp at hx
          | some z =>
            rw [hb] at hx
            simp at hx
            have hv := (tbl.getD j Pst.none).tells hb (hknown j hj)
            have hjl : j < l.length := by have := hlt j hj; omega
            obtain ⟨o2, ho2⟩ : ∃ o, l[j]? = some o := ⟨_, List.getElem?_eq_getElem hjl⟩
            cases hd : o2.dst with
            | none =>
              have := hsn j (List.contains_iff_mem.1 (laidS_none hl ho2 hd)) (.bool !z) W
              have := (tbl.getD j Pst.none).tells hb this
              simp at this
            | some d =>
              have e5 : dstAt l j = d := by unfold dstAt; rw [ho2]; simp [hd]
              rw [e5] at hv
              have hts : d < a.tmps.size := by rw [h.size]; exact (laidS_dst hl ho2 hd).1
              have : a.tmps[d]? = some (.bool z) := by
                rw [Array.getD_eq_getD_getElem?, Array.getElem?_eq_getElem hts] at hv
                rw [Array.getElem?_eq_getElem hts]
                simpa using hv
              have hy : yielded l.toArray a.tmps j = some z := by
                unfold yielded
                simp [ho2, hd, this]
              rw [hy, ← hx]
              cases z <;> cases y <;> rfl
        · cases hx
    unfold wpOp
    rw [ho']
    simp only
    rcases hop.at i o ho with ⟨hi0, h1, h2⟩ | ⟨hi0, h1, h2⟩ | ⟨j, hi0, h1, hd, h2⟩
    · rw [if_pos (hwant _ h1)]
      rw [Nat.zero_add] at hi0
      refine .inl (Oper.wp_mono ?_ (h2 a W Q k h.rel (by rw [Nat.zero_add]; exact hmost) h.out hknown (by rw [Nat.zero_add]; exact hlate)))
      rintro a' W' ⟨v, rfl, hb, hv⟩
      rw [Nat.zero_add] at hv
      exact ⟨k, h.step hl hR hkn ho hi0 hb hv hdl⟩
    · rw [if_neg (by rw [hwant _ h1]; exact Bool.false_ne_true)]
      rw [Nat.zero_add] at hi0
      have := h2 W
      rw [Nat.zero_add] at this
      exact ⟨k, h.step hl hR hkn ho hi0 (Below.refl _ _) this hdl⟩
    · rw [if_pos (hwant _ h1)]
      rw [Nat.zero_add] at hi0
      have hjk : j = k := by
        have e1 : ¬ j < k := fun hlt => by
          have := (h.wr j i hi0).2 hlt
          rw [hun] at this; cases this
        rcases Nat.eq_zero_or_pos j with e | e
        · omega
        · obtain ⟨m, rfl⟩ : ∃ m, j = m + 1 := ⟨j - 1, by omega⟩
          obtain ⟨r, hr⟩ : ∃ r, st[m]? = some r := ⟨_, List.getElem?_eq_getElem (by have := (List.getElem?_eq_some_iff.1 hi0).1; omega)⟩
          obtain ⟨_, o2, ho2, hdr⟩ := chainS_at hc m r i hr hi0
          rw [ho] at ho2; injection ho2 with ho2; subst ho2
          have := (h.wr m r hr).1 (hdl r hdr)
          omega
      subst hjk
      refine .inl (Oper.wp_mono ?_ (h2 a W Q h.rel h.out hknown (by rw [Nat.zero_add]; exact hlate)))
      rintro a' W' ⟨rfl, hW⟩
      exact ⟨j + 1, h.write hc ho hi0 hd hW hdl⟩
  · refine ⟨0, h0, Nat.zero_le _, fun j s hs => ?_, fun t _ => rfl, rfl, rfl, fun j d o ho hd hlj => ?_, by simp, fun j d o ho hd _ => rfl, fun j o hj ho k _ => ?_⟩
    · have hsl : s < l.length := by
        have := List.all_eq_true.1 hbs.2 s (List.mem_of_getElem? hs)
        simpa using this
      have : (Array.replicate l.toArray.size false).getD s true = false := by simp [hsl]
      rw [this]
      exact ⟨fun h => absurd h (by simp), fun h => by omega⟩
    · have hjl := (List.getElem?_eq_some_iff.1 ho).1
      simp [hjl] at hlj
    · have hjl := (List.getElem?_eq_some_iff.1 ho).1
      simp [hjl] at hj
end
/-- What is known hangs on no world. -/
def PureP (p : Pst) : Prop := ∀ v V V', p.p v V → p.p v V'
theorem pureP_val (u : Value) : PureP (Pst.val u) := fun _ _ _ h => h
theorem pureP_none : PureP Pst.none := fun _ _ _ _ => trivial
theorem postsS_val {tbl : List Pst} (h : ∀ p ∈ tbl, PureP p) (j : Nat) (v : Value) (V V' : World) (hk : known tbl j v V) : known tbl j v V' := by
  unfold known at hk ⊢
  rw [List.getD_eq_getElem?_getD] at hk ⊢
  cases hj : tbl[j]? with
  | none => exact trivial
  | some p =>
    rw [hj] at hk
    exact h p (List.mem_of_getElem? hj) v V V' hk
end Go.Proofs.YtljihclpgpmfeaaDoor
