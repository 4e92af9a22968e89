/- Region 3 of StrandTells: what holds between its operations, in whatever order they come; no code is walked. -/
import Derived.Test.YtnhlenagojbigaaRow
import Derived.Test.YtnhlenagojbigaaInv
import Derived.Test.YtnhlenagojbigaaPut
import Derived.Test.YtnhlenagojbigaaBits
import Derived.Lib.Hide
namespace Go.Proofs.Ytnhlenagojbigaa
open Go.RowKit

/-- A fresh copy, and where it stands. -/
def Cp (W0 V : World) (n : Nat) (L : Int) (f : Nat → Bool) (v : Value) : Prop :=
  ∃ g cap more, v = .agg #[.slice (some ⟨g, 0, none⟩) n cap, .int .i64 L] ∧ W0.heap.size ≤ g ∧ Own V g 5 (cellsF f n ++ more)
/-- A box that holds a fresh copy. -/
def Bx (W0 V : World) (n : Nat) (L : Int) (f : Nat → Bool) (b : Nat) : Prop :=
  ∃ g cap more, W0.heap.size ≤ g ∧ Own V g 5 (cellsF f n ++ more) ∧ Own V b 24 [.slice (some ⟨g, 0, none⟩) n cap, .int .i64 L]
def Box (W0 V : World) (b : Nat) : Prop := W0.heap.size ≤ b ∧ ∃ vs : List Value, vs.length = 2 ∧ Own V b 24 vs
def Two (W0 : World) (n : Nat) (L : Int) (f : Nat → Bool) (n' : Nat) (L' : Int) (f' : Nat → Bool) (s7 s8 : Value) (V : World) : Prop :=
  ∃ b b', s7 = .pointer (some ⟨b, 0, none⟩) ∧ s8 = .pointer (some ⟨b', 0, none⟩) ∧ W0.heap.size ≤ b ∧ W0.heap.size ≤ b' ∧ b ≠ b' ∧ Bx W0 V n L f b ∧ Bx W0 V n' L' f' b' ∧ Below W0.heap.size W0 V
structure I3 (W0 : World) (n : Nat) (L : Int) (f : Nat → Bool) (n' : Nat) (L' : Int) (f' : Nat → Bool) (S T : Value) (b0 b1 b2 b3 b4 b5 b6 b7 : Bool) (v38 v39 v40 v41 v7 v8 : Value) (V : World) : Prop where
  bel : Below W0.heap.size W0 V
  i0 : b0 = true → v38 = S
  i1 : b1 = true → Cp W0 V n L f v39
  i2 : b2 = true → v40 = T
  i3 : b3 = true → Cp W0 V n' L' f' v41
  i4 : b4 = true → ∃ b, v7 = .pointer (some ⟨b, 0, none⟩) ∧ Box W0 V b ∧ (b6 = true → Bx W0 V n L f b)
  i5 : b5 = true → ∃ b, v8 = .pointer (some ⟨b, 0, none⟩) ∧ Box W0 V b ∧ (b7 = true → Bx W0 V n' L' f' b)
  ne : b4 = true → b5 = true → v7 ≠ v8
  o6 : b6 = true → b4 = true
  o7 : b7 = true → b5 = true
def RegI (W0 : World) (n : Nat) (L : Int) (f : Nat → Bool) (n' : Nat) (L' : Int) (f' : Nat → Bool) (S T : Value) (a0 : Act) (l : Array Bool) (a : Act) (V : World) : Prop :=
  ∃ (b0 b1 b2 b3 b4 b5 b6 b7 : Bool) (v38 v39 v40 v41 v7 v8 : Value), l = #[b0, b1, b2, b3, b4, b5, b6, b7] ∧
     a = (((((a0.put (some 38) v38).put (some 39) v39).put (some 40) v40).put (some 41) v41).put (some 7) v7).put (some 8) v8 ∧
     I3 W0 n L f n' L' f' S T b0 b1 b2 b3 b4 b5 b6 b7 v38 v39 v40 v41 v7 v8 V
theorem region_invA {P : Program} {ops : Array Oper} {Q : Exit → Act → World → Prop} {id : Nat} {a : Act} {w : World} (hm : P.follows .mixedOrders = true) (I : Act → Array Bool → Act → World → Prop)
    (h : I a (Array.replicate ops.size false) a w.drew)
    (hstep : ∀ l a' w' i, I a l a' w' → i ∈ Region.ready .any ops l → wpOp P ops Q i (I a (l.setIfInBounds i true)) a' w')
    (hlast : ∀ l a' w', I a l a' w' → leftOf ops l = [] ∨ Region.ready .any ops l = [] → Q .normal a' w') : (Code.region id ops true).wp P Q a w :=
  region_inv hm (I a) hlast hstep h

/-- What an operation waits for has come. -/
theorem ready_dep {md : Region.Mode} {ops : Array Oper} {l : Array Bool} {i : Nat} (h : ((ops[i]?).map (·.after.all fun e => !Region.binds md e || l.getD e.on false)).getD false = true) {o : Oper} (ho : ops[i]? = some o) (k : Nat) {e : Edge} (he : o.after[k]? = some e) (hb : Region.binds md e = true) : l.getD e.on false = true := by
  rw [ho] at h
  simp only [Option.map_some, Option.getD_some, Array.all_eq_true] at h
  obtain ⟨hk, hke⟩ := Array.getElem?_eq_some_iff.1 he
  have := h k hk
  rw [hke, hb] at this
  simpa using this
section
variable {W0 V V' : World} {n n' : Nat} {L L' : Int} {f f' : Nat → Bool} {S T v v38 v39 v40 v41 v7 v8 : Value} {b0 b1 b2 b3 b4 b5 b6 b7 : Bool} {b : Nat}
theorem Cp.below (h : Cp W0 V n L f v) (hb : Below V.heap.size V V') : Cp W0 V' n L f v := by
  obtain ⟨g, cap, more, e, hg, ho⟩ := h
  exact ⟨g, cap, more, e, hg, ho.below' hb⟩
theorem Bx.below (h : Bx W0 V n L f b) (hb : Below V.heap.size V V') : Bx W0 V' n L f b := by
  obtain ⟨g, cap, more, hg, ho, h2⟩ := h
  exact ⟨g, cap, more, hg, ho.below' hb, h2.below' hb⟩
theorem Box.below (h : Box W0 V b) (hb : Below V.heap.size V V') : Box W0 V' b := by
  obtain ⟨hg, vs, hl, ho⟩ := h
  exact ⟨hg, vs, hl, ho.below' hb⟩
theorem st_ne_u8 : (5 : TypeId) ≠ 24 := by decide
theorem I3.below (h : I3 W0 n L f n' L' f' S T b0 b1 b2 b3 b4 b5 b6 b7 v38 v39 v40 v41 v7 v8 V) (hb : Below V.heap.size V V') : I3 W0 n L f n' L' f' S T b0 b1 b2 b3 b4 b5 b6 b7 v38 v39 v40 v41 v7 v8 V' where
  bel := h.bel.trans (hb.mono h.bel.size)
  i0 := h.i0
  i1 := fun e => (h.i1 e).below hb
  i2 := h.i2
  i3 := fun e => (h.i3 e).below hb
  i4 := fun e => by
    obtain ⟨b, e1, h1, h2⟩ := h.i4 e
    exact ⟨b, e1, h1.below hb, fun e => (h2 e).below hb⟩
  i5 := fun e => by
    obtain ⟨b, e1, h1, h2⟩ := h.i5 e
    exact ⟨b, e1, h1.below hb, fun e => (h2 e).below hb⟩
  ne := h.ne
  o6 := h.o6
  o7 := h.o7
theorem I3.s0 (h : I3 W0 n L f n' L' f' S T b0 b1 b2 b3 b4 b5 b6 b7 v38 v39 v40 v41 v7 v8 V) : I3 W0 n L f n' L' f' S T true b1 b2 b3 b4 b5 b6 b7 S v39 v40 v41 v7 v8 V := { h with i0 := fun _ => rfl }
theorem I3.s2 (h : I3 W0 n L f n' L' f' S T b0 b1 b2 b3 b4 b5 b6 b7 v38 v39 v40 v41 v7 v8 V) : I3 W0 n L f n' L' f' S T b0 b1 true b3 b4 b5 b6 b7 v38 v39 T v41 v7 v8 V := { h with i2 := fun _ => rfl }
theorem I3.s1 (h : I3 W0 n L f n' L' f' S T b0 b1 b2 b3 b4 b5 b6 b7 v38 v39 v40 v41 v7 v8 V) (hb : Below V.heap.size V V') (hv : Cp W0 V' n L f v) : I3 W0 n L f n' L' f' S T b0 true b2 b3 b4 b5 b6 b7 v38 v v40 v41 v7 v8 V' := { h.below hb with i1 := fun _ => hv }
theorem I3.s3 (h : I3 W0 n L f n' L' f' S T b0 b1 b2 b3 b4 b5 b6 b7 v38 v39 v40 v41 v7 v8 V) (hb : Below V.heap.size V V') (hv : Cp W0 V' n' L' f' v) : I3 W0 n L f n' L' f' S T b0 b1 b2 true b4 b5 b6 b7 v38 v39 v40 v v7 v8 V' := { h.below hb with i3 := fun _ => hv }
theorem alloc_below (V : World) (o : Obj) : Below V.heap.size V (V.alloc o) := (Below.refl _ V).alloc (Nat.le_refl _) o
theorem Box.lt (h : Box W0 V b) : b < V.heap.size := by
  obtain ⟨_, vs, _, ho⟩ := h
  exact ho.lt
theorem I3.s4 (h : I3 W0 n L f n' L' f' S T b0 b1 b2 b3 false b5 b6 b7 v38 v39 v40 v41 v7 v8 V) (u0 u1 : Value) :
    I3 W0 n L f n' L' f' S T b0 b1 b2 b3 true b5 b6 b7 v38 v39 v40 v41 (.pointer (some ⟨V.heap.size, 0, none⟩)) v8 (V.alloc (.cells #[u0, u1] 24)) := by
  have h1 := h.below (alloc_below V (.cells #[u0, u1] 24))
  exact { h1 with
    i4 := fun _ => ⟨V.heap.size, rfl, ⟨h.bel.size, [u0, u1], rfl, Own.new V _ _⟩, fun e => absurd (h.o6 e) (by simp)⟩
    ne := fun _ e5 e => by
      obtain ⟨b, e1, hb, _⟩ := h.i5 e5
      have := hb.lt
      rw [e1] at e
      injection e with e
      injection e with e
      injection e with e
      omega
    o6 := fun _ => rfl }
theorem I3.s5 (h : I3 W0 n L f n' L' f' S T b0 b1 b2 b3 b4 false b6 b7 v38 v39 v40 v41 v7 v8 V) (u0 u1 : Value) :
    I3 W0 n L f n' L' f' S T b0 b1 b2 b3 b4 true b6 b7 v38 v39 v40 v41 v7 (.pointer (some ⟨V.heap.size, 0, none⟩)) (V.alloc (.cells #[u0, u1] 24)) := by
  have h1 := h.below (alloc_below V (.cells #[u0, u1] 24))
  exact { h1 with
    i5 := fun _ => ⟨V.heap.size, rfl, ⟨h.bel.size, [u0, u1], rfl, Own.new V _ _⟩, fun e => absurd (h.o7 e) (by simp)⟩
    ne := fun e4 _ e => by
      obtain ⟨b, e1, hb, _⟩ := h.i4 e4
      have := hb.lt
      rw [e1] at e
      injection e with e
      injection e with e
      injection e with e
      omega
    o7 := fun _ => rfl }
theorem rd_front {w : World} {g : Nat} {t : TypeId} {xs more : List Value} (h : Own w g t (xs ++ more)) : Rd w (some ⟨g, 0, none⟩) xs := by
  have := h.rd_take xs.length
  rwa [List.take_left'  rfl] at this
theorem two_of {vs : List Value} (hl : vs.length = 2) : ∃ x y, vs = [x, y] := by
  match vs, hl with
  | [x, y], _ => exact ⟨x, y, rfl⟩
theorem I3.box4 (h : I3 W0 n L f n' L' f' S T b0 b1 b2 b3 true b5 b6 b7 v38 v39 v40 v41 v7 v8 V) : ∃ b x0 x1, v7 = .pointer (some ⟨b, 0, none⟩) ∧ b < V.heap.size ∧ V.cell? ⟨b, 0, none⟩ = some x0 ∧ V.cell? ⟨b, 1, none⟩ = some x1 ∧ V.frozen? ⟨b, 0, none⟩ = false ∧ V.frozen? ⟨b, 1, none⟩ = false := by
  obtain ⟨b, ep, ⟨hb0, ws, hl, hw⟩, _⟩ := h.i4 rfl
  obtain ⟨x0, x1, rfl⟩ := two_of hl
  exact ⟨b, x0, x1, ep, hw.lt, hw.cell 0, hw.cell 1, hw.frozen 0, hw.frozen 1⟩
theorem I3.box5 (h : I3 W0 n L f n' L' f' S T b0 b1 b2 b3 b4 true b6 b7 v38 v39 v40 v41 v7 v8 V) : ∃ b x0 x1, v8 = .pointer (some ⟨b, 0, none⟩) ∧ b < V.heap.size ∧ V.cell? ⟨b, 0, none⟩ = some x0 ∧ V.cell? ⟨b, 1, none⟩ = some x1 ∧ V.frozen? ⟨b, 0, none⟩ = false ∧ V.frozen? ⟨b, 1, none⟩ = false := by
  obtain ⟨b, ep, ⟨hb0, ws, hl, hw⟩, _⟩ := h.i5 rfl
  obtain ⟨x0, x1, rfl⟩ := two_of hl
  exact ⟨b, x0, x1, ep, hw.lt, hw.cell 0, hw.cell 1, hw.frozen 0, hw.frozen 1⟩
theorem Cp.far (h : Cp W0 V n L f v) {vs : List Value} (ho : Own V b 24 vs) (i : Nat) (u : Value) : Cp W0 (V.setCell ⟨b, i, none⟩ u) n L f v := by
  obtain ⟨g, cap, more, e, hg, h1⟩ := h
  exact ⟨g, cap, more, e, hg, h1.far (p := ⟨b, i, none⟩) (h1.ne ho st_ne_u8) u⟩
theorem Bx.far {b' : Nat} (h : Bx W0 V n L f b') {vs : List Value} (ho : Own V b 24 vs) (hn : b' ≠ b) (i : Nat) (u : Value) : Bx W0 (V.setCell ⟨b, i, none⟩ u) n L f b' := by
  obtain ⟨g, cap, more, hg, h1, h2⟩ := h
  exact ⟨g, cap, more, hg, h1.far (p := ⟨b, i, none⟩) (h1.ne ho st_ne_u8) u, h2.far (p := ⟨b, i, none⟩) hn u⟩
theorem Box.far {b' : Nat} (h : Box W0 V b') (hn : b' ≠ b) (i : Nat) (u : Value) : Box W0 (V.setCell ⟨b, i, none⟩ u) b' := by
  obtain ⟨hg, vs', hl, h1⟩ := h
  exact ⟨hg, vs', hl, h1.far (p := ⟨b, i, none⟩) hn u⟩
theorem I3.s6 (h : I3 W0 n L f n' L' f' S T b0 true b2 b3 true b5 b6 b7 v38 v39 v40 v41 v7 v8 V) {g cap : Nat} (e39 : v39 = .agg #[.slice (some ⟨g, 0, none⟩) n cap, .int .i64 L]) (e7 : v7 = .pointer (some ⟨b, 0, none⟩)) :
    I3 W0 n L f n' L' f' S T b0 true b2 b3 true b5 true b7 v38 v39 v40 v41 v7 v8 ((V.setCell ⟨b, 0, none⟩ (.slice (some ⟨g, 0, none⟩) n cap)).setCell ⟨b, 1, none⟩ (.int .i64 L)) := by
  obtain ⟨b', e1, ⟨hb, vs, hl, ho⟩, _⟩ := h.i4 rfl
  rw [e7] at e1
  injection e1 with e1
  injection e1 with e1
  injection e1 with e1
  subst e1
  obtain ⟨g', cap', more, e2, hg, h1⟩ := h.i1 rfl
  rw [e39] at e2
  have e3 : g = g' ∧ cap = cap' := by
    injection e2 with e2
    have := congrArg (fun x : Array Value => x[0]?) e2
    simpa using this
  obtain ⟨rfl, rfl⟩ := e3
  obtain ⟨x, y, rfl⟩ : ∃ x y, vs = [x, y] := by
    match vs, hl with
    | [x, y], _ => exact ⟨x, y, rfl⟩
  have ho1 := ho.set 0 (.slice (some ⟨g, 0, none⟩) n cap)
  have ho2 := ho1.set 1 (.int .i64 L)
  simp only [List.set_cons_zero, List.set_cons_succ] at ho1 ho2
  have far : ∀ {v : Value} {m : Nat} {M : Int} {F : Nat → Bool}, Cp W0 V m M F v → Cp W0 ((V.setCell ⟨b, 0, none⟩ (.slice (some ⟨g, 0, none⟩) n cap)).setCell ⟨b, 1, none⟩ (.int .i64 L)) m M F v := fun hc => (hc.far ho _ _).far ho1 _ _
  refine { bel := (h.bel.setCell hb _).setCell hb _, i0 := h.i0, i1 := fun e => far (h.i1 e), i2 := h.i2, i3 := fun e => far (h.i3 e), i4 := fun _ => ?_, i5 := fun e5 => ?_, ne := h.ne, o6 := fun _ => rfl, o7 := h.o7 }
  · exact ⟨b, e7, ⟨hb, _, rfl, ho2⟩, fun _ => ⟨g, cap, more, hg, (h1.far (p := ⟨b, 0, none⟩) (h1.ne ho st_ne_u8) _).far (p := ⟨b, 1, none⟩) (h1.ne ho st_ne_u8) _, ho2⟩⟩
  · obtain ⟨b', e8, hb', hx⟩ := h.i5 e5
    have hn : b' ≠ b := by
      rintro rfl
      exact h.ne rfl e5 (by rw [e7, e8])
    exact ⟨b', e8, (hb'.far hn _ _).far hn _ _, fun e => ((hx e).far ho hn _ _).far ho1 hn _ _⟩
theorem I3.s7 (h : I3 W0 n L f n' L' f' S T b0 b1 b2 true b4 true b6 b7 v38 v39 v40 v41 v7 v8 V) {g cap : Nat} (e41 : v41 = .agg #[.slice (some ⟨g, 0, none⟩) n' cap, .int .i64 L']) (e8 : v8 = .pointer (some ⟨b, 0, none⟩)) :
    I3 W0 n L f n' L' f' S T b0 b1 b2 true b4 true b6 true v38 v39 v40 v41 v7 v8 ((V.setCell ⟨b, 0, none⟩ (.slice (some ⟨g, 0, none⟩) n' cap)).setCell ⟨b, 1, none⟩ (.int .i64 L')) := by
  obtain ⟨b', e1, ⟨hb, vs, hl, ho⟩, _⟩ := h.i5 rfl
  rw [e8] at e1
  injection e1 with e1
  injection e1 with e1
  injection e1 with e1
  subst e1
  obtain ⟨g', cap', more, e2, hg, h1⟩ := h.i3 rfl
  rw [e41] at e2
  have e3 : g = g' ∧ cap = cap' := by
    injection e2 with e2
    have := congrArg (fun x : Array Value => x[0]?) e2
    simpa using this
  obtain ⟨rfl, rfl⟩ := e3
  obtain ⟨x, y, rfl⟩ : ∃ x y, vs = [x, y] := by
    match vs, hl with
    | [x, y], _ => exact ⟨x, y, rfl⟩
  have ho1 := ho.set 0 (.slice (some ⟨g, 0, none⟩) n' cap)
  have ho2 := ho1.set 1 (.int .i64 L')
  simp only [List.set_cons_zero, List.set_cons_succ] at ho1 ho2
  have far : ∀ {v : Value} {m : Nat} {M : Int} {F : Nat → Bool}, Cp W0 V m M F v → Cp W0 ((V.setCell ⟨b, 0, none⟩ (.slice (some ⟨g, 0, none⟩) n' cap)).setCell ⟨b, 1, none⟩ (.int .i64 L')) m M F v := fun hc => (hc.far ho _ _).far ho1 _ _
  refine { bel := (h.bel.setCell hb _).setCell hb _, i0 := h.i0, i1 := fun e => far (h.i1 e), i2 := h.i2, i3 := fun e => far (h.i3 e), i4 := fun e4 => ?_, i5 := fun _ => ?_, ne := h.ne, o6 := h.o6, o7 := fun _ => rfl }
  · obtain ⟨b', e7, hb', hx⟩ := h.i4 e4
    have hn : b' ≠ b := by
      rintro rfl
      exact h.ne e4 rfl (by rw [e7, e8])
    exact ⟨b', e7, (hb'.far hn _ _).far hn _ _, fun e => ((hx e).far ho hn _ _).far ho1 hn _ _⟩
  · exact ⟨b, e8, ⟨hb, _, rfl, ho2⟩, fun _ => ⟨g, cap, more, hg, (h1.far (p := ⟨b, 0, none⟩) (h1.ne ho st_ne_u8) _).far (p := ⟨b, 1, none⟩) (h1.ne ho st_ne_u8) _, ho2⟩⟩
theorem I3.get6 {G : Prop} (h : I3 W0 n L f n' L' f' S T b0 true b2 b3 true b5 b6 b7 v38 v39 v40 v41 v7 v8 V)
  (k : ∀ b x0 x1 g cap, v7 = .pointer (some ⟨b, 0, none⟩) → v39 = .agg #[.slice (some ⟨g, 0, none⟩) n cap, .int .i64 L] → b < V.heap.size → V.cell? ⟨b, 0, none⟩ = some x0 → V.cell? ⟨b, 1, none⟩ = some x1 → V.frozen? ⟨b, 0, none⟩ = false → V.frozen? ⟨b, 1, none⟩ = false →
    Hid (I3 W0 n L f n' L' f' S T b0 true b2 b3 true b5 true b7 v38 v39 v40 v41 v7 v8 ((V.setCell ⟨b, 0, none⟩ (.slice (some ⟨g, 0, none⟩) n cap)).setCell ⟨b, 1, none⟩ (.int .i64 L))) → G) : G := by
  obtain ⟨b, x0, x1, ep, z1, c0, c1, k0, k1⟩ := h.box4
  obtain ⟨g, cap, more, ev, hg, hO⟩ := h.i1 rfl
  exact k b x0 x1 g cap ep ev z1 c0 c1 k0 k1 (Lib.hid (h.s6 ev ep))
theorem I3.get7 {G : Prop} (h : I3 W0 n L f n' L' f' S T b0 b1 b2 true b4 true b6 b7 v38 v39 v40 v41 v7 v8 V)
  (k : ∀ b x0 x1 g cap, v8 = .pointer (some ⟨b, 0, none⟩) → v41 = .agg #[.slice (some ⟨g, 0, none⟩) n' cap, .int .i64 L'] → b < V.heap.size → V.cell? ⟨b, 0, none⟩ = some x0 → V.cell? ⟨b, 1, none⟩ = some x1 → V.frozen? ⟨b, 0, none⟩ = false → V.frozen? ⟨b, 1, none⟩ = false →
    Hid (I3 W0 n L f n' L' f' S T b0 b1 b2 true b4 true b6 true v38 v39 v40 v41 v7 v8 ((V.setCell ⟨b, 0, none⟩ (.slice (some ⟨g, 0, none⟩) n' cap)).setCell ⟨b, 1, none⟩ (.int .i64 L'))) → G) : G := by
  obtain ⟨b, x0, x1, ep, z1, c0, c1, k0, k1⟩ := h.box5
  obtain ⟨g, cap, more, ev, hg, hO⟩ := h.i3 rfl
  exact k b x0 x1 g cap ep ev z1 c0 c1 k0 k1 (Lib.hid (h.s7 ev ep))
theorem I3.done (h : I3 W0 n L f n' L' f' S T true true true true true true true true v38 v39 v40 v41 v7 v8 V) : Two W0 n L f n' L' f' v7 v8 V := by
  obtain ⟨b, e1, ⟨hb, _⟩, h1⟩ := h.i4 rfl
  obtain ⟨b', e2, ⟨hb', _⟩, h2⟩ := h.i5 rfl
  exact ⟨b, b', e1, e2, hb, hb', fun e => h.ne rfl rfl (by rw [e1, e2, e]), h1 rfl, h2 rfl, h.bel⟩
theorem I3.start (W0 V : World) (hb : Below W0.heap.size W0 V) : I3 W0 n L f n' L' f' S T false false false false false false false false v38 v39 v40 v41 v7 v8 V where
  bel := hb
  i0 := nofun
  i1 := nofun
  i2 := nofun
  i3 := nofun
  i4 := nofun
  i5 := nofun
  ne := nofun
  o6 := nofun
  o7 := nofun
end
end Go.Proofs.Ytnhlenagojbigaa
