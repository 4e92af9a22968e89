/- Words for rows of the call's own that grow: appended to, whether there is room or not. No program is named. -/
import Derived.Test.YtljihclpgpmfeaaDoorMem
import Derived.Laws.AppendOwn
import Derived.Maps.AppendAt
namespace Go.Proofs.YtljihclpgpmfeaaDoor
set_option maxRecDepth 100000
open Go.RowKit

theorem Own.add {w : World} {g : Nat} {t : TypeId} {vs : List Value} (h : Own w g t vs) {j : Nat} {u : Value} (hu : vs[j]? = some u) : w.cell? ((⟨g, 0, none⟩ : Addr).add j) = some u := by
  have h1 := h.cell j
  rw [hu] at h1
  unfold Addr.add
  split
  · rename_i e; subst e; exact h1
  · simpa using h1
/-- Two rows of unlike types are two blocks. -/
theorem Own.ne {w : World} {g g' : Nat} {t t' : TypeId} {vs vs' : List Value} (h : Own w g t vs) (h' : Own w g' t' vs') (hn : t ≠ t') : g ≠ g' := by
  rintro rfl
  unfold Own at h h'
  rw [h] at h'
  injection h' with h'
  injection h' with _ h2
  exact hn h2
theorem row_own {w : World} {base size n : Nat} {e : TypeId} {v : Value} {xs : List Value} (h : w.ownsRow base e size v n xs) (hn : v ≠ .slice none 0 0) :
    ∃ g cap rest, v = .slice (some ⟨g, 0, none⟩) n cap ∧ base ≤ g ∧ Own w g e (xs ++ rest) ∧ n ≤ cap ∧ cap ≤ maxLen ∧ (xs ++ rest).length = cap * size := by
  rcases h.2 with ⟨h0, _⟩ | ⟨g, cap, cur, rfl, hb, hh, h1, h2, h3, h4⟩
  · exact absurd h0 hn
  · refine ⟨g, cap, cur.toList.drop (n * size), rfl, hb, ?_, h1, h2, ?_⟩
    · unfold Own
      rw [← h4, List.take_append_drop, hh]
    · rw [← h4, List.take_append_drop]; simpa using h3
theorem owns_of_own {w : World} {base size n cap g : Nat} {e : TypeId} {xs rest : List Value} (h : Own w g e (xs ++ rest)) (hb : base ≤ g) (hl : xs.length = n * size) (h1 : n ≤ cap) (h2 : cap ≤ maxLen) (h3 : (xs ++ rest).length = cap * size) :
    w.ownsRow base e size (.slice (some ⟨g, 0, none⟩) n cap) n xs :=
  ⟨hl, .inr ⟨g, cap, (xs ++ rest).toArray, rfl, hb, h, h1, h2, by simpa using h3, by rw [← hl]; simp⟩⟩
theorem below_none {w w' : World} (h : w.grownBy w' none) : Below w.heap.size w w' := ⟨h.os, h.tape, h.output, h.size, fun k hk => h.block k hk (by simp)⟩
/-- append to a row that is there: the row may lie in a new block. -/
theorem wpList_append_row {P : Program} {w : World} {ops : Array Oper} {rest : List Oper} {o : Oper} {a : Act} {Q : Exit → Act → World → Prop} (hgd : o.guard = none) (s x : Operand) (t : TypeId)
    (ho : o.op = .call { callee := .builtin .append, args := #[s, x], argTypes := #[t, t] })
    (e : TypeId) (i : TypeInfo) (z : Value) (size bytes : Nat) (ht : P.underlying t = some (.slice e)) (hi : P.info? e = some i) (hz : i.zero = some z)
    (hsize : i.size = size) (hby : i.bytes = bytes) (hzs : z.cells.size = size) (hsz : 0 < size)
    (g n cap : Nat) (xs more : List Value) (hs : a.eval s = .slice (some ⟨g, 0, none⟩) n cap) (hown : Own w g e (xs ++ more)) (hl : xs.length = n * size) (h1 : n ≤ cap) (h2 : cap ≤ maxLen) (h3 : (xs ++ more).length = cap * size)
    (ad : Addr) (m c : Nat) (news : List Value) (hx : a.eval x = .slice (some ad) m c) (hln : news.length = m * size) (hnews : ∀ j u, news[j]? = some u → w.cell? (ad.add j) = some u) (hone : ∀ u ∈ news, u.oneCell' = true)
    (h63 : n + m ≤ maxLen) (hbytes : (n + m) * bytes ≤ 140737488355328)
    (h : ∀ g' cap' more' w', Own w' g' e ((xs ++ news) ++ more') → (g' = g ∨ w.heap.size ≤ g') → w.grownBy w' (some g) → n + m ≤ cap' → cap' ≤ maxLen → ((xs ++ news) ++ more').length = cap' * size →
      wpList P ops Q rest (a.put o.dst (.slice (some ⟨g', 0, none⟩) (n + m) cap')) w') : wpList P ops Q (o :: rest) a w := by
  refine wpList_append_own_at w hgd s x t ho 0 e i z size bytes ht hi hz hsize hby hzs hsz _ n xs hs (owns_of_own hown (Nat.zero_le _) hl h1 h2 h3) ad m c news hx hln hnews hone h63 hbytes (Nat.zero_le _) ?_
  intro v' w' hown' hgrow hnil hblk
  have hv : v' ≠ .slice none 0 0 := fun e => by have := (hnil.1 e).1; cases this
  obtain ⟨g', cap', more', rfl, _, q1, q2, q3, q4⟩ := row_own hown' hv
  refine h g' cap' more' w' q1 ?_ hgrow q2 q3 q4
  rcases hblk with hb | hb
  · left; simpa [Value.ownBlock] using hb
  · right; have : g' = w.heap.size := by simpa [Value.ownBlock] using hb
    omega
/-- append to nil. -/
theorem wpList_append_new {P : Program} {w : World} {ops : Array Oper} {rest : List Oper} {o : Oper} {a : Act} {Q : Exit → Act → World → Prop} (hgd : o.guard = none) (s x : Operand) (t : TypeId)
    (ho : o.op = .call { callee := .builtin .append, args := #[s, x], argTypes := #[t, t] })
    (e : TypeId) (i : TypeInfo) (z : Value) (size bytes : Nat) (ht : P.underlying t = some (.slice e)) (hi : P.info? e = some i) (hz : i.zero = some z)
    (hsize : i.size = size) (hby : i.bytes = bytes) (hzs : z.cells.size = size) (hsz : 0 < size)
    (hs : a.eval s = .slice none 0 0)
    (ad : Addr) (m c : Nat) (hm : 0 < m) (news : List Value) (hx : a.eval x = .slice (some ad) m c) (hln : news.length = m * size) (hnews : ∀ j u, news[j]? = some u → w.cell? (ad.add j) = some u) (hone : ∀ u ∈ news, u.oneCell' = true)
    (h63 : m ≤ maxLen) (hbytes : m * bytes ≤ 140737488355328)
    (h : ∀ g' cap' more' w', Own w' g' e (news ++ more') → w.heap.size ≤ g' → Below w.heap.size w w' → m ≤ cap' → cap' ≤ maxLen → (news ++ more').length = cap' * size →
      wpList P ops Q rest (a.put o.dst (.slice (some ⟨g', 0, none⟩) m cap')) w') : wpList P ops Q (o :: rest) a w := by
  refine wpList_append_own_at w hgd s x t ho w.heap.size e i z size bytes ht hi hz hsize hby hzs hsz _ 0 [] hs (World.ownsRow_nil _ _ _ _) ad m c news hx hln hnews hone (by omega) (by rw [Nat.zero_add]; exact hbytes) (Nat.le_refl _) ?_
  intro v' w' hown' hgrow hnil _
  have hv : v' ≠ .slice none 0 0 := fun e => by have := (hnil.1 e).2; omega
  obtain ⟨g', cap', more', rfl, q0, q1, q2, q3, q4⟩ := row_own hown' hv
  simp only [Nat.zero_add, List.nil_append] at q1 q2 q4 ⊢
  exact h g' cap' more' w' q1 q0 (below_none hgrow) q2 q3 q4
/-- append of nothing, from nil. -/
theorem wpList_append_none {P : Program} {w : World} {ops : Array Oper} {rest : List Oper} {o : Oper} {a : Act} {Q : Exit → Act → World → Prop} (hgd : o.guard = none) (s x : Operand) (t : TypeId)
    (ho : o.op = .call { callee := .builtin .append, args := #[s, x], argTypes := #[t, t] })
    (e : TypeId) (i : TypeInfo) (ht : P.underlying t = some (.slice e)) (hi : P.info? e = some i)
    (g n cap c : Nat) (hs : a.eval s = .slice (some ⟨g, 0, none⟩) n cap) (h1 : n ≤ cap) (hx : a.eval x = .slice none 0 c)
    (h : wpList P ops Q rest (a.put o.dst (.slice (some ⟨g, 0, none⟩) n cap)) w) : wpList P ops Q (o :: rest) a w := by
  have hr : (Builtin.append_ #[t, t] o.type #[.slice (some ⟨g, 0, none⟩) n cap, .slice none 0 c]).run P w = .ok (.slice (some ⟨g, 0, none⟩) n cap) w := by
    simp [Builtin.append_, run_underlying ht, sizeOf, typeInfo, hi, Builtin.lenOf, Builtin.firstCells, h1, storeCells]
  refine wpList_plain hgd fun K hK => ?_
  unfold Oper.wp execOp
  simp only [ho, resolve, invoke, builtin, Sem.run_bind, Sem.run_pure, Result.andThen_ok, List.map_toArray, List.map_cons, List.map_nil, hs, hx, hr]
  exact hK _ _ h
/-- Bits that are read: handed in, or in a block of the call's own. -/
def Bits (w W : World) (t : TypeId) (A : Option Addr) (vs : List Value) : Prop := Rd w A vs ∨ ∃ g, A = some ⟨g, 0, none⟩ ∧ w.heap.size ≤ g ∧ Own W g t vs
section
variable {w W W' : World} {t : TypeId} {A : Option Addr} {vs : List Value}
theorem Bits.rd (h : Bits w W t A vs) (hb : Below w.heap.size w W) : Rd W A vs := by
  rcases h with h | ⟨g, rfl, _, h⟩
  · exact h.below hb
  · exact h.rd
theorem Bits.below (h : Bits w W t A vs) (hb : Below W.heap.size W W') : Bits w W' t A vs := by
  rcases h with h | ⟨g, rfl, hg, h⟩
  · exact .inl h
  · exact .inr ⟨g, rfl, hg, h.below' hb⟩
theorem Bits.alloc (h : Bits w W t A vs) (o : Obj) : Bits w (W.alloc o) t A vs := h.below ((Below.refl _ W).alloc (Nat.le_refl _) o)
theorem Bits.drew (h : Bits w W t A vs) : Bits w W.drew t A vs := h
theorem Bits.far (h : Bits w W t A vs) {b : Nat} {t' : TypeId} {us : List Value} (ho : Own W b t' us) (hn : t ≠ t') (i : Nat) (u : Value) : Bits w (W.setCell ⟨b, i, none⟩ u) t A vs := by
  rcases h with h | ⟨g, rfl, hg, h⟩
  · exact .inl h
  · exact .inr ⟨g, rfl, hg, h.far (p := ⟨b, i, none⟩) (h.ne ho hn) u⟩
theorem Bits.grown (h : Bits w W t A vs) {b : Nat} {t' : TypeId} {us : List Value} (ho : Own W b t' us) (hn : t ≠ t') (hg : W.grownBy W' (some b)) : Bits w W' t A vs := by
  rcases h with h | ⟨g, rfl, hg', h⟩
  · exact .inl h
  · exact .inr ⟨g, rfl, hg', h.grown hg (by intro e; injection e with e; exact h.ne ho hn e)⟩
theorem Own.grown' {g : Nat} (h : Own W g t vs) {b : Nat} {t' : TypeId} {us : List Value} (ho : Own W b t' us) (hn : t ≠ t') (hg : W.grownBy W' (some b)) : Own W' g t vs :=
  h.grown hg (by intro e; injection e with e; exact h.ne ho hn e)
end
end Go.Proofs.YtljihclpgpmfeaaDoor
