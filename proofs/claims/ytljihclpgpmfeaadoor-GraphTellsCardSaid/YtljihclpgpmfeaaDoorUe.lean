/- Bundle of texts: Ia Ib. -/
import Derived.Test.YtljihclpgpmfeaaDoorProg
import Derived.Test.YtljihclpgpmfeaaDoorUa
import Derived.WalkSpells
import Derived.WalkLawsBesides
import Derived.Outline
import Derived.Deep.DeepFit
import Derived.Deep.QuietTactic
import Derived.BigQuiet
import Derived.Deep.RegionHeld3
import Derived.Deep.DeepCutAuto
import Derived.IntWalk
import Derived.Lib.Hide
/- Numbers in memory; rows of the call's own that grow; walks: fretworklow.SameInts, CopyInts. -/
namespace Go.Proofs.YtljihclpgpmfeaaDoor
set_option maxRecDepth 100000
open Go.RowKit

/-- The cells of numbers. -/
def cellsI (l : List Int) : List Value := l.map (Value.int .i64)
theorem length_cellsI (l : List Int) : (cellsI l).length = l.length := by simp [cellsI]
theorem cellsI_at {l : List Int} {i : Nat} {x : Int} (h : l[i]? = some x) : (cellsI l)[i]? = some (.int .i64 x) := by
  unfold cellsI
  rw [List.getElem?_map, h]
  rfl
theorem cellsI_append (a b : List Int) : cellsI (a ++ b) = cellsI a ++ cellsI b := by simp [cellsI]
theorem cellsI_set (O : List Int) (k : Nat) (x : Int) : (cellsI O).set k (.int .i64 x) = cellsI (O.set k x) := by
  unfold cellsI
  rw [List.map_set]
theorem cellsI_one {l : List Int} : ∀ v ∈ cellsI l, v.oneCell' = true := by
  intro v hv
  obtain ⟨n, _, rfl⟩ := List.mem_map.1 hv
  rfl
theorem infoI : (Tryd.prog.info? 3).map (fun i => (i.zero, i.size, i.bytes)) = some (some (.int .i64 0), 1, 8) := by kernel_rfl
theorem mk_ints (n : Nat) (hn : n ≤ 100000) (W : World) : (Instr.makeSlice 44 (.int .i64 (n : Int)) (.int .i64 (n : Int))).run Tryd.prog W = .ok (.slice (some ⟨W.heap.size, 0, none⟩) n n) (W.alloc (.cells (cellsI (List.replicate n 0)).toArray 3)) := by
  obtain ⟨i0, hi, hz0, hz1, hz2⟩ := info_parts infoI
  have hmk := run_make (P := Tryd.prog) W 44 3 i0 _ Tryd.underlying44 hi hz0 .i64 .i64 n n (by omega) (by omega) (by rw [hz2]; omega) (by omega)
  rw [hz1] at hmk
  simp only [Int.toNat_natCast, Value.cells, replicate_cells, Nat.mul_one] at hmk
  unfold cellsI
  rw [List.map_replicate]
  exact hmk
/-- A slice of numbers: where it lies, how long it is. -/
structure ArgI (w : World) (A : Option Addr) (n c : Nat) (l : List Int) : Prop where
  rd : Rd w A (cellsI l)
  len : n = l.length
  le : n ≤ 9223372036854775807
  cap : n ≤ c
theorem ArgI.keep {w w' : World} {A : Option Addr} {n c : Nat} {l : List Int} (h : ArgI w A n c l) (hb : Below w.heap.size w w') : ArgI w' A n c l := ⟨h.rd.below hb, h.len, h.le, h.cap⟩
/-- The i-th number, and its cell in whatever world comes later. -/
theorem rd_int {w : World} {A : Option Addr} {l : List Int} (h : Rd w A (cellsI l)) (h0 : 0 < l.length) : ∃ b off, A = some ⟨b, off, none⟩ ∧ b < w.heap.size ∧ ∀ V, Below w.heap.size w V → ∀ (i : Nat) (x : Int), l[i]? = some x → V.cell? ⟨b, off + i, none⟩ = some (.int .i64 x) := by
  obtain ⟨b, off, e, hb, hc⟩ := h (by rw [length_cellsI]; exact h0)
  exact ⟨b, off, e, hb, fun V hV i x hx => ((below_cells hV).1 _ _ hb).trans (hc i _ (cellsI_at hx))⟩
theorem heap_new' {W : World} {g : Nat} (o : Obj) (h : g = W.heap.size) : (W.alloc o).heap[g]? = some o := h ▸ heap_alloc_new W o
theorem alloc_below (V : World) (o : Obj) : Below V.heap.size V (V.alloc o) := (Below.refl _ V).alloc (Nat.le_refl _) o
theorem rd_front {w : World} {g : Nat} {t : TypeId} {xs more : List Value} (h : Own w g t (xs ++ more)) : Rd w (some ⟨g, 0, none⟩) xs := by
  have := h.rd_take xs.length
  rwa [List.take_left' rfl] at this
/-- A row of numbers of the call's own. -/
def RowI (B : Nat) (W : World) (v : Value) (l : List Int) : Prop :=
  (l = [] ∧ v = .slice none 0 0) ∨ ∃ g cap more, v = .slice (some ⟨g, 0, none⟩) l.length cap ∧ B ≤ g ∧ Own W g 3 (cellsI l ++ more) ∧ l.length ≤ cap ∧ cap ≤ maxLen ∧ (cellsI l ++ more).length = cap
section
variable {W W' : World} {v : Value} {l : List Int} {B : Nat}
theorem RowI.below (h : RowI B W v l) (hb : Below W.heap.size W W') : RowI B W' v l := by
  rcases h with h | ⟨g, cap, more, e, hg, ho, h⟩
  · exact .inl h
  · exact .inr ⟨g, cap, more, e, hg, ho.below' hb, h⟩
theorem RowI.base {B' : Nat} (h : RowI B W v l) (hB : B' ≤ B) : RowI B' W v l := by
  rcases h with h | ⟨g, cap, more, e, hg, h⟩
  · exact .inl h
  · exact .inr ⟨g, cap, more, e, Nat.le_trans hB hg, h⟩
theorem RowI.rd (h : RowI B W v l) : ∃ A c, v = .slice A l.length c ∧ l.length ≤ c ∧ Rd W A (cellsI l) := by
  rcases h with ⟨rfl, rfl⟩ | ⟨g, cap, more, e, hg, ho, h, _⟩
  · exact ⟨none, 0, rfl, Nat.le_refl _, Rd.nil⟩
  · exact ⟨_, cap, e, h, rd_front ho⟩
theorem RowI.arg (h : RowI B W v l) (hl : l.length ≤ 100000) : ∃ A c, v = .slice A l.length c ∧ ArgI W A l.length c l := by
  obtain ⟨A, c, e, hc, hr⟩ := h.rd
  exact ⟨A, c, e, hr, rfl, by omega, hc⟩
theorem RowI.start (W : World) (B : Nat) (hB : B ≤ W.heap.size) : RowI B (W.alloc (.cells #[] 3)) (.slice (some ⟨W.heap.size, 0, none⟩) 0 0) [] :=
  .inr ⟨W.heap.size, 0, [], rfl, hB, Own.new' (vs := []) rfl, Nat.le_refl _, Nat.zero_le _, rfl⟩
theorem RowI.made {g : Nat} (h : Own W g 3 (cellsI l)) (hB : B ≤ g) (hl : l.length ≤ 100000) : RowI B W (.slice (some ⟨g, 0, none⟩) l.length l.length) l :=
  .inr ⟨g, l.length, [], rfl, hB, by rw [List.append_nil]; exact h, Nat.le_refl _, by unfold maxLen; omega, by rw [List.append_nil, length_cellsI]⟩
theorem add_off {b off k : Nat} : (⟨b, off, none⟩ : Addr).add k = ⟨b, off + k, none⟩ := by
  unfold Addr.add
  split
  · rename_i h; subst h; rfl
  · rfl
/-- append of numbers to numbers of the call's own. -/
theorem run_append_ints (ty : TypeId) (A : Option Addr) (n c : Nat) {k : List Int} (h1 : RowI B W v l) (hn : n = k.length) (hr : Rd W A (cellsI k)) (hsz : l.length + n ≤ 1000000) (hB : B ≤ W.heap.size) :
    ∃ v' w', (Builtin.append_ #[44, 44] ty #[v, .slice A n c]).run Tryd.prog W = .ok v' w' ∧ RowI B w' v' (l ++ k) ∧ Below B W w' := by
  obtain ⟨i0, hi, hz0, hz1, hz2⟩ := info_parts infoI
  cases A with
  | none =>
    have hk : k = [] := by
      rcases Nat.eq_zero_or_pos k.length with h | h
      · exact List.eq_nil_of_length_eq_zero h
      · obtain ⟨b, off, e, _⟩ := hr (by rw [length_cellsI]; exact h)
        cases e
    subst hk
    rw [List.append_nil]
    have hn0 : n = 0 := hn
    subst hn0
    refine ⟨v, W, ?_, h1, Below.refl _ _⟩
    rcases h1 with ⟨_, rfl⟩ | ⟨g, cap, more, rfl, hg, ho, r1, r2, r3⟩
    · simp [Builtin.append_, run_underlying Tryd.underlying44, sizeOf, typeInfo, hi, Builtin.lenOf, Builtin.firstCells]
    · simp [Builtin.append_, run_underlying Tryd.underlying44, sizeOf, typeInfo, hi, Builtin.lenOf, Builtin.firstCells, r1, storeCells]
  | some ad =>
    have hnews : ∀ j u, (cellsI k)[j]? = some u → W.cell? (ad.add j) = some u := fun j u hu => by
      have hl : 0 < (cellsI k).length := by
        rcases Nat.lt_or_ge j (cellsI k).length with h | h
        · omega
        · rw [List.getElem?_eq_none h] at hu; cases hu
      obtain ⟨b, off, e, hb, hc⟩ := hr hl
      injection e with e
      subst e
      rw [add_off]
      exact hc j u hu
    have hown : W.ownsRow B 3 1 v l.length (cellsI l) := by
      rcases h1 with ⟨rfl, rfl⟩ | ⟨g, cap, more, rfl, hg, ho, r1, r2, r3⟩
      · exact World.ownsRow_nil _ _ _ _
      · exact owns_of_own ho hg (by rw [length_cellsI, Nat.mul_one]) r1 r2 (by rw [r3, Nat.mul_one])
    obtain ⟨v', w', e, hown', hgrow, hnil, hblk⟩ := run_append_own_at (P := Tryd.prog) W B 44 ty 3 i0 (.int .i64 0) 1 8 Tryd.underlying44 hi hz0 hz1 hz2 rfl (by decide) v l.length (cellsI l) hown ad n c (cellsI k) (by rw [length_cellsI, Nat.mul_one]; exact hn.symm) hnews cellsI_one (by unfold maxLen; omega) (by omega) hB
    refine ⟨v', w', e, ?_, ?_⟩
    · by_cases hv : v' = .slice none 0 0
      · obtain ⟨hv0, hm0⟩ := hnil.1 hv
        refine .inl ⟨?_, hv⟩
        have : k = [] := List.eq_nil_of_length_eq_zero (by omega)
        subst this
        rcases h1 with ⟨rfl, _⟩ | ⟨g, cap, more, e, _⟩
        · rfl
        · rw [e] at hv0; cases hv0
      · obtain ⟨g', cap', more', rfl, hg', hO, p1, p2, p3⟩ := row_own hown' hv
        rw [← cellsI_append] at hO p3
        exact .inr ⟨g', cap', more', by rw [List.length_append, hn], hg', hO, by rw [List.length_append, ← hn]; exact p1, p2, by rw [p3, Nat.mul_one]⟩
    · rcases h1 with ⟨_, rfl⟩ | ⟨g, cap, more, rfl, hg, ho, _⟩
      · exact (below_none hgrow).mono hB
      · exact grown_below hgrow hg hB
theorem wpList_append_ints {ops : Array Oper} {rest : List Oper} {o : Oper} {a : Act} {Q : Exit → Act → World → Prop} (hgd : o.guard = none) (s x : Operand)
    (ho : o.op = .call { callee := .builtin .append, args := #[s, x], argTypes := #[44, 44] }) (A : Option Addr) (n c : Nat) {k : List Int} (hs : a.eval s = v) (hx : a.eval x = .slice A n c) (h1 : RowI B W v l) (hn : n = k.length) (hr : Rd W A (cellsI k)) (hsz : l.length + n ≤ 1000000) (hB : B ≤ W.heap.size)
    (h : ∀ v' w', RowI B w' v' (l ++ k) → Below B W w' → wpList Tryd.prog ops Q rest (a.put o.dst v') w') : wpList Tryd.prog ops Q (o :: rest) a W := by
  obtain ⟨v', w', e, q1, q2⟩ := run_append_ints o.type A n c h1 hn hr hsz hB
  refine wpList_plain hgd fun K hK => ?_
  unfold Oper.wp execOp
  simp only [ho, resolve, invoke, builtin, Sem.run_bind, Sem.run_pure, Result.andThen_ok, List.map_toArray, List.map_cons, List.map_nil, hs, hx, e]
  exact hK _ _ (h v' w' q1 q2)
end
/-- Numbers in new memory. -/
def FreshI (w : World) (l : List Int) (e : Ending) (w' : World) : Prop := ∃ v, e = .returned v ∧ RowI w.heap.size w' v l ∧ Below w.heap.size w w'
theorem drop_step {us vs : List Int} {k : Nat} {a b : Int} (ha : us[k]? = some a) (hb : vs[k]? = some b) : (us.drop k == vs.drop k) = (a == b && us.drop (k + 1) == vs.drop (k + 1)) := by
  obtain ⟨h1, rfl⟩ := List.getElem?_eq_some_iff.1 ha
  obtain ⟨h2, rfl⟩ := List.getElem?_eq_some_iff.1 hb
  rw [List.drop_eq_getElem_cons h1, List.drop_eq_getElem_cons h2]
  rfl
theorem drop_end {us vs : List Int} {k : Nat} (h1 : k ≤ us.length) (h2 : k ≤ vs.length) (h : us.length ≤ k ∨ vs.length ≤ k) : (us.drop k == vs.drop k) = (decide (k = us.length) && decide (k = vs.length)) := by
  rcases Nat.lt_or_ge k us.length with h3 | h3
  · have h4 : vs.length = k := by omega
    rw [List.drop_eq_getElem_cons h3, List.drop_eq_nil_of_le (show vs.length ≤ k by omega)]
    have : decide (k = us.length) = false := by rw [decide_eq_false_iff_not]; omega
    rw [this]; rfl
  · rw [List.drop_eq_nil_of_le h3]
    rcases Nat.lt_or_ge k vs.length with h4 | h4
    · rw [List.drop_eq_getElem_cons h4]
      have : decide (k = vs.length) = false := by rw [decide_eq_false_iff_not]; omega
      rw [this, Bool.and_false]; rfl
    · rw [List.drop_eq_nil_of_le h4]
      have e1 : decide (k = us.length) = true := by rw [decide_eq_true_eq]; omega
      have e2 : decide (k = vs.length) = true := by rw [decide_eq_true_eq]; omega
      rw [e1, e2]; rfl
end Go.Proofs.YtljihclpgpmfeaaDoor
/- Walk: fretworklow.SameInts. -/
namespace Go.Proofs.YtljihclpgpmfeaaDoor
set_option maxRecDepth 100000
open Go.RowKit

def tblSIe (b : Nat) (off : Nat) (c : Nat) (d : Nat) (n : Nat) (m : Nat) (k : Nat) (x : Int) (q : Nat) (e : Nat) : List Pst := [Pst.val (.int .i64 (k : Nat)), Pst.val (.slice (some ⟨b, off, none⟩) n c), Pst.val (.int .i64 (n : Nat)), Pst.val (.bool true), Pst.val (.bool true), Pst.val (.int .i64 (k : Nat)), Pst.val (.slice (some ⟨q, e, none⟩) m d), Pst.val (.int .i64 (m : Nat)), Pst.val (.bool true), Pst.val (.bool true), Pst.val (.bool true), Pst.val (.slice (some ⟨b, off, none⟩) n c), Pst.val (.int .i64 (k : Nat)), Pst.val (.pointer (some ⟨b, off + k, none⟩)), Pst.val (.int .i64 x), Pst.val (.slice (some ⟨q, e, none⟩) m d), Pst.val (.int .i64 (k : Nat)), Pst.val (.pointer (some ⟨q, e + k, none⟩)), Pst.val (.int .i64 x), Pst.val (.bool true), Pst.val (.bool true)]
def tblSIn (b : Nat) (off : Nat) (c : Nat) (d : Nat) (n : Nat) (m : Nat) (k : Nat) (x : Int) (y : Int) (q : Nat) (e : Nat) : List Pst := [Pst.val (.int .i64 (k : Nat)), Pst.val (.slice (some ⟨b, off, none⟩) n c), Pst.val (.int .i64 (n : Nat)), Pst.val (.bool true), Pst.val (.bool true), Pst.val (.int .i64 (k : Nat)), Pst.val (.slice (some ⟨q, e, none⟩) m d), Pst.val (.int .i64 (m : Nat)), Pst.val (.bool true), Pst.val (.bool true), Pst.val (.bool true), Pst.val (.slice (some ⟨b, off, none⟩) n c), Pst.val (.int .i64 (k : Nat)), Pst.val (.pointer (some ⟨b, off + k, none⟩)), Pst.val (.int .i64 x), Pst.val (.slice (some ⟨q, e, none⟩) m d), Pst.val (.int .i64 (k : Nat)), Pst.val (.pointer (some ⟨q, e + k, none⟩)), Pst.val (.int .i64 y), Pst.val (.bool false), Pst.val (.bool false)]
def tblSIm (B : Option Addr) (b : Nat) (off : Nat) (c : Nat) (d : Nat) (n : Nat) (m : Nat) (k : Nat) : List Pst := [Pst.val (.int .i64 (k : Nat)), Pst.val (.slice (some ⟨b, off, none⟩) n c), Pst.val (.int .i64 (n : Nat)), Pst.val (.bool true), Pst.val (.bool true), Pst.val (.int .i64 (k : Nat)), Pst.val (.slice B m d), Pst.val (.int .i64 (m : Nat)), Pst.val (.bool false), Pst.val (.bool false), Pst.val (.bool false), Pst.none, Pst.none, Pst.none, Pst.none, Pst.none, Pst.none, Pst.none, Pst.none, Pst.none, Pst.val (.bool false)]
def tblSIz (A : Option Addr) (c : Nat) (n : Nat) (k : Nat) : List Pst := [Pst.val (.int .i64 (k : Nat)), Pst.val (.slice A n c), Pst.val (.int .i64 (n : Nat)), Pst.val (.bool false), Pst.val (.bool false), Pst.none, Pst.none, Pst.none, Pst.none, Pst.val (.bool false), Pst.val (.bool false), Pst.none, Pst.none, Pst.none, Pst.none, Pst.none, Pst.none, Pst.none, Pst.none, Pst.none, Pst.val (.bool false)]
set_option maxRecDepth 100000 in
set_option maxHeartbeats 8000000 in
theorem sameInts_any (A B : Option Addr) (c d n m : Nat) (us vs : List Int) (w : World) (h1 : ArgI w A n c us) (h2 : ArgI w B m d vs) :
    Calls Tryd.prog 37 #[.slice A n c, .slice B m d] w fun e w' => e = .returned (.bool (us == vs)) ∧ Below w.heap.size w w' := by
  have H1 := Lib.hid h1; have H2 := Lib.hid h2
  have hn := h1.le
  have hm := h2.le
  clear h1 h2
  go_enter Tryd.func37, Tryd.ntmps37
  go_wp2
  go_loopw [5] (fun i wr => ∃ k : Nat, k ≤ n ∧ k ≤ m ∧ i = .int .i64 (k : Int) ∧ Hid ((us == vs) = (us.drop k == vs.drop k)) ∧ Hid (Below w.heap.size w wr)) (fun i _ => n - (intOf i).toNat)
  case atStart => exact ⟨0, Nat.zero_le _, Nat.zero_le _, rfl, Lib.hid rfl, Lib.hid (Below.refl _ w)⟩
  case round =>
    obtain ⟨k, hk, hkm, rfl, hS, hBw⟩ := hrel
    by_cases hlt : k < n
    · have HD := Lib.hid (show decide (k < n) = true by rw [decide_eq_true_eq]; exact hlt)
      by_cases hltm : k < m
      · have HE := Lib.hid (show decide (k < m) = true by rw [decide_eq_true_eq]; exact hltm)
        obtain ⟨b, off, rfl, hb, hc1⟩ := rd_int H1.out.rd (by have := H1.out.len; omega)
        obtain ⟨q, e, rfl, hb2, hc2⟩ := rd_int H2.out.rd (by have := H2.out.len; omega)
        obtain ⟨x, hx⟩ : ∃ x, us[k]? = some x := ⟨_, List.getElem?_eq_getElem (by have := H1.out.len; omega)⟩
        obtain ⟨y, hy⟩ : ∃ x, vs[k]? = some x := ⟨_, List.getElem?_eq_getElem (by have := H2.out.len; omega)⟩
        have hst := Lib.hid (hS.out.trans (drop_step hx hy))
        have C1 := Lib.hid (fun V (hV : Below wr.heap.size wr V) => hc1 V (hBw.out.trans (hV.mono hBw.out.size)) k x hx)
        have C2 := Lib.hid (fun V (hV : Below wr.heap.size wr V) => hc2 V (hBw.out.trans (hV.mono hBw.out.size)) k y hy)
        clear hc1 hc2 hx hy hS hb hb2
        by_cases hxy : x = y
        · subst hxy
          have HQ := Lib.hid (show (x == x) = true by simp)
          have hS2 := Lib.hid (hst.out.trans (by rw [HQ.out, Bool.true_and]))
          clear hst
          go_wp2
          refine region_posts (by kernel_rfl) (tblSIe b off c d n m k x q e) (by kernel_rfl) ?_ ?_
          · skip
            refine .yes rfl (fun a W Q hB hO hD => ?_) ?_
            · have e5 : a.tmps.getD 5 undef = .int .i64 (k : Nat) := hO.slot 5 _ rfl rfl
              clear hO hD
              go_wp2
              exact ⟨_, rfl, Below.refl _ _, rfl⟩
            refine .yes rfl (fun a W Q hB hO hD => ?_) ?_
            · have e0 : a.tmps.getD 0 undef = .slice (some ⟨b, off, none⟩) n c := hO.slot 0 _ rfl rfl
              clear hO hD
              go_wp2
              exact ⟨_, rfl, Below.refl _ _, rfl⟩
            refine .yes rfl (fun a W Q hB hO hD => ?_) ?_
            · have e7 : a.tmps.getD 7 undef = .slice (some ⟨b, off, none⟩) n c := hD 1 rfl
              clear hO hD
              go_wp2
              exact ⟨_, rfl, Below.refl _ _, rfl⟩
            refine .yes rfl (fun a W Q hB hO hD => ?_) ?_
            · have e6 : a.tmps.getD 6 undef = .int .i64 (k : Nat) := hD 0 rfl
              have e8 : a.tmps.getD 8 undef = .int .i64 (n : Nat) := hD 2 rfl
              clear hO hD
              have hd := HD.out
              go_wp2
              exact ⟨_, rfl, Below.refl _ _, rfl⟩
            refine .yes rfl (fun a W Q hB hO hD => ?_) ?_
            · have e9 : a.tmps.getD 9 undef = .bool true := hD 3 rfl
              clear hO hD
              go_wp2
              exact ⟨_, rfl, Below.refl _ _, rfl⟩
            refine .yes rfl (fun a W Q hB hO hD => ?_) ?_
            · have e5 : a.tmps.getD 5 undef = .int .i64 (k : Nat) := hO.slot 5 _ rfl rfl
              clear hO hD
              go_wp2
              exact ⟨_, rfl, Below.refl _ _, rfl⟩
            refine .yes rfl (fun a W Q hB hO hD => ?_) ?_
            · have e1 : a.tmps.getD 1 undef = .slice (some ⟨q, e, none⟩) m d := hO.slot 1 _ rfl rfl
              clear hO hD
              go_wp2
              exact ⟨_, rfl, Below.refl _ _, rfl⟩
            refine .yes rfl (fun a W Q hB hO hD => ?_) ?_
            · have e12 : a.tmps.getD 12 undef = .slice (some ⟨q, e, none⟩) m d := hD 6 rfl
              clear hO hD
              go_wp2
              exact ⟨_, rfl, Below.refl _ _, rfl⟩
            refine .yes rfl (fun a W Q hB hO hD => ?_) ?_
            · have e11 : a.tmps.getD 11 undef = .int .i64 (k : Nat) := hD 5 rfl
              have e13 : a.tmps.getD 13 undef = .int .i64 (m : Nat) := hD 7 rfl
              clear hO hD
              have hd := HE.out
              go_wp2
              exact ⟨_, rfl, Below.refl _ _, rfl⟩
            refine .yes rfl (fun a W Q hB hO hD => ?_) ?_
            · have e10 : a.tmps.getD 10 undef = .bool true := hD 4 rfl
              have e14 : a.tmps.getD 14 undef = .bool true := hD 8 rfl
              clear hO hD
              go_wp2
              exact ⟨_, rfl, Below.refl _ _, rfl⟩
            refine .yes rfl (fun a W Q hB hO hD => ?_) ?_
            · have e15 : a.tmps.getD 15 undef = .bool true := hD 9 rfl
              clear hO hD
              go_wp2
              exact ⟨_, rfl, Below.refl _ _, rfl⟩
            refine .yes rfl (fun a W Q hB hO hD => ?_) ?_
            · have e0 : a.tmps.getD 0 undef = .slice (some ⟨b, off, none⟩) n c := hO.slot 0 _ rfl rfl
              clear hO hD
              go_wp2
              exact ⟨_, rfl, Below.refl _ _, rfl⟩
            refine .yes rfl (fun a W Q hB hO hD => ?_) ?_
            · have e5 : a.tmps.getD 5 undef = .int .i64 (k : Nat) := hO.slot 5 _ rfl rfl
              clear hO hD
              go_wp2
              exact ⟨_, rfl, Below.refl _ _, rfl⟩
            refine .yes rfl (fun a W Q hB hO hD => ?_) ?_
            · have e17 : a.tmps.getD 17 undef = .slice (some ⟨b, off, none⟩) n c := hD 11 rfl
              have e18 : a.tmps.getD 18 undef = .int .i64 (k : Nat) := hD 12 rfl
              clear hO hD
              go_wp2
              exact ⟨_, rfl, Below.refl _ _, rfl⟩
            refine .yes rfl (fun a W Q hB hO hD => ?_) ?_
            · have e19 : a.tmps.getD 19 undef = .pointer (some ⟨b, off + k, none⟩) := hD 13 rfl
              clear hO hD
              have hc := C1.out W hB
              go_wp2
              exact ⟨_, rfl, Below.refl _ _, rfl⟩
            refine .yes rfl (fun a W Q hB hO hD => ?_) ?_
            · have e1 : a.tmps.getD 1 undef = .slice (some ⟨q, e, none⟩) m d := hO.slot 1 _ rfl rfl
              clear hO hD
              go_wp2
              exact ⟨_, rfl, Below.refl _ _, rfl⟩
            refine .yes rfl (fun a W Q hB hO hD => ?_) ?_
            · have e5 : a.tmps.getD 5 undef = .int .i64 (k : Nat) := hO.slot 5 _ rfl rfl
              clear hO hD
              go_wp2
              exact ⟨_, rfl, Below.refl _ _, rfl⟩
            refine .yes rfl (fun a W Q hB hO hD => ?_) ?_
            · have e21 : a.tmps.getD 21 undef = .slice (some ⟨q, e, none⟩) m d := hD 15 rfl
              have e22 : a.tmps.getD 22 undef = .int .i64 (k : Nat) := hD 16 rfl
              clear hO hD
              go_wp2
              exact ⟨_, rfl, Below.refl _ _, rfl⟩
            refine .yes rfl (fun a W Q hB hO hD => ?_) ?_
            · have e23 : a.tmps.getD 23 undef = .pointer (some ⟨q, e + k, none⟩) := hD 17 rfl
              clear hO hD
              have hc := C2.out W hB
              go_wp2
              exact ⟨_, rfl, Below.refl _ _, rfl⟩
            refine .yes rfl (fun a W Q hB hO hD => ?_) ?_
            · have e20 : a.tmps.getD 20 undef = .int .i64 x := hD 14 rfl
              have e24 : a.tmps.getD 24 undef = .int .i64 x := hD 18 rfl
              clear hO hD
              have hq := HQ.out
              go_wp2
              exact ⟨_, rfl, Below.refl _ _, rfl⟩
            refine .yes rfl (fun a W Q hB hO hD => ?_) ?_
            · have e16 : a.tmps.getD 16 undef = .bool true := hD 10 rfl
              have e25 : a.tmps.getD 25 undef = .bool true := hD 19 rfl
              clear hO hD
              go_wp2
              exact ⟨_, rfl, Below.refl _ _, rfl⟩
            exact .nil
          · intro f V hBz hR
            have e20 : f 20 = .bool true := hR 20 (by decide)
            have HB2 := Lib.hid (hBw.out.trans (hBz.mono hBw.out.size))
            clear hR hBz
            simp only [putAll, Nat.zero_add, Nat.reduceAdd, Act.put, List.setIfInBounds_toArray, List.set_cons_zero, List.set_cons_succ, e20]
            go_wp2
            go_roundw
            case rel => exact ⟨k + 1, by omega, by omega, by go_num, hS2, HB2⟩
            case measure => simp [intOf]; omega
        · have HQ := Lib.hid (show (x == y) = false by rw [beq_eq_false_iff_ne]; exact hxy)
          have hS2 := Lib.hid (hst.out.trans (by rw [HQ.out, Bool.false_and]))
          have d1 : decide (k = n) = false := by rw [decide_eq_false_iff_not]; omega
          have d2 : ((k : Int) == n) = false := by rw [beq_eq_false_iff_ne]; omega
          clear hst hxy
          go_wp2
          refine region_posts (by kernel_rfl) (tblSIn b off c d n m k x y q e) (by kernel_rfl) ?_ ?_
          · skip
            refine .yes rfl (fun a W Q hB hO hD => ?_) ?_
            · have e5 : a.tmps.getD 5 undef = .int .i64 (k : Nat) := hO.slot 5 _ rfl rfl
              clear hO hD
              go_wp2
              exact ⟨_, rfl, Below.refl _ _, rfl⟩
            refine .yes rfl (fun a W Q hB hO hD => ?_) ?_
            · have e0 : a.tmps.getD 0 undef = .slice (some ⟨b, off, none⟩) n c := hO.slot 0 _ rfl rfl
              clear hO hD
              go_wp2
              exact ⟨_, rfl, Below.refl _ _, rfl⟩
            refine .yes rfl (fun a W Q hB hO hD => ?_) ?_
            · have e7 : a.tmps.getD 7 undef = .slice (some ⟨b, off, none⟩) n c := hD 1 rfl
              clear hO hD
              go_wp2
              exact ⟨_, rfl, Below.refl _ _, rfl⟩
            refine .yes rfl (fun a W Q hB hO hD => ?_) ?_
            · have e6 : a.tmps.getD 6 undef = .int .i64 (k : Nat) := hD 0 rfl
              have e8 : a.tmps.getD 8 undef = .int .i64 (n : Nat) := hD 2 rfl
              clear hO hD
              have hd := HD.out
              go_wp2
              exact ⟨_, rfl, Below.refl _ _, rfl⟩
            refine .yes rfl (fun a W Q hB hO hD => ?_) ?_
            · have e9 : a.tmps.getD 9 undef = .bool true := hD 3 rfl
              clear hO hD
              go_wp2
              exact ⟨_, rfl, Below.refl _ _, rfl⟩
            refine .yes rfl (fun a W Q hB hO hD => ?_) ?_
            · have e5 : a.tmps.getD 5 undef = .int .i64 (k : Nat) := hO.slot 5 _ rfl rfl
              clear hO hD
              go_wp2
              exact ⟨_, rfl, Below.refl _ _, rfl⟩
            refine .yes rfl (fun a W Q hB hO hD => ?_) ?_
            · have e1 : a.tmps.getD 1 undef = .slice (some ⟨q, e, none⟩) m d := hO.slot 1 _ rfl rfl
              clear hO hD
              go_wp2
              exact ⟨_, rfl, Below.refl _ _, rfl⟩
            refine .yes rfl (fun a W Q hB hO hD => ?_) ?_
            · have e12 : a.tmps.getD 12 undef = .slice (some ⟨q, e, none⟩) m d := hD 6 rfl
              clear hO hD
              go_wp2
              exact ⟨_, rfl, Below.refl _ _, rfl⟩
            refine .yes rfl (fun a W Q hB hO hD => ?_) ?_
            · have e11 : a.tmps.getD 11 undef = .int .i64 (k : Nat) := hD 5 rfl
              have e13 : a.tmps.getD 13 undef = .int .i64 (m : Nat) := hD 7 rfl
              clear hO hD
              have hd := HE.out
              go_wp2
              exact ⟨_, rfl, Below.refl _ _, rfl⟩
            refine .yes rfl (fun a W Q hB hO hD => ?_) ?_
            · have e10 : a.tmps.getD 10 undef = .bool true := hD 4 rfl
              have e14 : a.tmps.getD 14 undef = .bool true := hD 8 rfl
              clear hO hD
              go_wp2
              exact ⟨_, rfl, Below.refl _ _, rfl⟩
            refine .yes rfl (fun a W Q hB hO hD => ?_) ?_
            · have e15 : a.tmps.getD 15 undef = .bool true := hD 9 rfl
              clear hO hD
              go_wp2
              exact ⟨_, rfl, Below.refl _ _, rfl⟩
            refine .yes rfl (fun a W Q hB hO hD => ?_) ?_
            · have e0 : a.tmps.getD 0 undef = .slice (some ⟨b, off, none⟩) n c := hO.slot 0 _ rfl rfl
              clear hO hD
              go_wp2
              exact ⟨_, rfl, Below.refl _ _, rfl⟩
            refine .yes rfl (fun a W Q hB hO hD => ?_) ?_
            · have e5 : a.tmps.getD 5 undef = .int .i64 (k : Nat) := hO.slot 5 _ rfl rfl
              clear hO hD
              go_wp2
              exact ⟨_, rfl, Below.refl _ _, rfl⟩
            refine .yes rfl (fun a W Q hB hO hD => ?_) ?_
            · have e17 : a.tmps.getD 17 undef = .slice (some ⟨b, off, none⟩) n c := hD 11 rfl
              have e18 : a.tmps.getD 18 undef = .int .i64 (k : Nat) := hD 12 rfl
              clear hO hD
              go_wp2
              exact ⟨_, rfl, Below.refl _ _, rfl⟩
            refine .yes rfl (fun a W Q hB hO hD => ?_) ?_
            · have e19 : a.tmps.getD 19 undef = .pointer (some ⟨b, off + k, none⟩) := hD 13 rfl
              clear hO hD
              have hc := C1.out W hB
              go_wp2
              exact ⟨_, rfl, Below.refl _ _, rfl⟩
            refine .yes rfl (fun a W Q hB hO hD => ?_) ?_
            · have e1 : a.tmps.getD 1 undef = .slice (some ⟨q, e, none⟩) m d := hO.slot 1 _ rfl rfl
              clear hO hD
              go_wp2
              exact ⟨_, rfl, Below.refl _ _, rfl⟩
            refine .yes rfl (fun a W Q hB hO hD => ?_) ?_
            · have e5 : a.tmps.getD 5 undef = .int .i64 (k : Nat) := hO.slot 5 _ rfl rfl
              clear hO hD
              go_wp2
              exact ⟨_, rfl, Below.refl _ _, rfl⟩
            refine .yes rfl (fun a W Q hB hO hD => ?_) ?_
            · have e21 : a.tmps.getD 21 undef = .slice (some ⟨q, e, none⟩) m d := hD 15 rfl
              have e22 : a.tmps.getD 22 undef = .int .i64 (k : Nat) := hD 16 rfl
              clear hO hD
              go_wp2
              exact ⟨_, rfl, Below.refl _ _, rfl⟩
            refine .yes rfl (fun a W Q hB hO hD => ?_) ?_
            · have e23 : a.tmps.getD 23 undef = .pointer (some ⟨q, e + k, none⟩) := hD 17 rfl
              clear hO hD
              have hc := C2.out W hB
              go_wp2
              exact ⟨_, rfl, Below.refl _ _, rfl⟩
            refine .yes rfl (fun a W Q hB hO hD => ?_) ?_
            · have e20 : a.tmps.getD 20 undef = .int .i64 x := hD 14 rfl
              have e24 : a.tmps.getD 24 undef = .int .i64 y := hD 18 rfl
              clear hO hD
              have hq := HQ.out
              go_wp2
              exact ⟨_, rfl, Below.refl _ _, rfl⟩
            refine .yes rfl (fun a W Q hB hO hD => ?_) ?_
            · have e16 : a.tmps.getD 16 undef = .bool true := hD 10 rfl
              have e25 : a.tmps.getD 25 undef = .bool false := hD 19 rfl
              clear hO hD
              go_wp2
              exact ⟨_, rfl, Below.refl _ _, rfl⟩
            exact .nil
          · intro f V hBz hR
            have e20 : f 20 = .bool false := hR 20 (by decide)
            have HB2 := Lib.hid (hBw.out.trans (hBz.mono hBw.out.size))
            clear hR hBz
            simp only [putAll, Nat.zero_add, Nat.reduceAdd, Act.put, List.setIfInBounds_toArray, List.set_cons_zero, List.set_cons_succ, e20]
            go_wp2
            go_ret
            exact ⟨by rw [hS2.out]; rfl, HB2.out⟩
      · have HE := Lib.hid (show decide (k < m) = false by rw [decide_eq_false_iff_not]; exact hltm)
        obtain ⟨b, off, rfl, hb, hc1⟩ := rd_int H1.out.rd (by have := H1.out.len; omega)
        have hS2 := Lib.hid (hS.out.trans ((drop_end (us := us) (vs := vs) (k := k) (by have := H1.out.len; omega) (by have := H2.out.len; omega) (.inr (by have := H2.out.len; omega))).trans (show _ = false by rw [Bool.and_eq_false_iff]; left; rw [decide_eq_false_iff_not]; have := H1.out.len; omega)))
        have d2 : ((k : Int) == n) = false := by rw [beq_eq_false_iff_ne]; omega
        clear hc1 hb hS
        go_wp2
        refine region_posts (by kernel_rfl) (tblSIm B b off c d n m k) (by kernel_rfl) ?_ ?_
        · skip
          refine .yes rfl (fun a W Q hB hO hD => ?_) ?_
          · have e5 : a.tmps.getD 5 undef = .int .i64 (k : Nat) := hO.slot 5 _ rfl rfl
            clear hO hD
            go_wp2
            exact ⟨_, rfl, Below.refl _ _, rfl⟩
          refine .yes rfl (fun a W Q hB hO hD => ?_) ?_
          · have e0 : a.tmps.getD 0 undef = .slice (some ⟨b, off, none⟩) n c := hO.slot 0 _ rfl rfl
            clear hO hD
            go_wp2
            exact ⟨_, rfl, Below.refl _ _, rfl⟩
          refine .yes rfl (fun a W Q hB hO hD => ?_) ?_
          · have e7 : a.tmps.getD 7 undef = .slice (some ⟨b, off, none⟩) n c := hD 1 rfl
            clear hO hD
            go_wp2
            exact ⟨_, rfl, Below.refl _ _, rfl⟩
          refine .yes rfl (fun a W Q hB hO hD => ?_) ?_
          · have e6 : a.tmps.getD 6 undef = .int .i64 (k : Nat) := hD 0 rfl
            have e8 : a.tmps.getD 8 undef = .int .i64 (n : Nat) := hD 2 rfl
            clear hO hD
            have hd := HD.out
            go_wp2
            exact ⟨_, rfl, Below.refl _ _, rfl⟩
          refine .yes rfl (fun a W Q hB hO hD => ?_) ?_
          · have e9 : a.tmps.getD 9 undef = .bool true := hD 3 rfl
            clear hO hD
            go_wp2
            exact ⟨_, rfl, Below.refl _ _, rfl⟩
          refine .yes rfl (fun a W Q hB hO hD => ?_) ?_
          · have e5 : a.tmps.getD 5 undef = .int .i64 (k : Nat) := hO.slot 5 _ rfl rfl
            clear hO hD
            go_wp2
            exact ⟨_, rfl, Below.refl _ _, rfl⟩
          refine .yes rfl (fun a W Q hB hO hD => ?_) ?_
          · have e1 : a.tmps.getD 1 undef = .slice B m d := hO.slot 1 _ rfl rfl
            clear hO hD
            go_wp2
            exact ⟨_, rfl, Below.refl _ _, rfl⟩
          refine .yes rfl (fun a W Q hB hO hD => ?_) ?_
          · have e12 : a.tmps.getD 12 undef = .slice B m d := hD 6 rfl
            clear hO hD
            go_wp2
            exact ⟨_, rfl, Below.refl _ _, rfl⟩
          refine .yes rfl (fun a W Q hB hO hD => ?_) ?_
          · have e11 : a.tmps.getD 11 undef = .int .i64 (k : Nat) := hD 5 rfl
            have e13 : a.tmps.getD 13 undef = .int .i64 (m : Nat) := hD 7 rfl
            clear hO hD
            have hd := HE.out
            go_wp2
            exact ⟨_, rfl, Below.refl _ _, rfl⟩
          refine .yes rfl (fun a W Q hB hO hD => ?_) ?_
          · have e10 : a.tmps.getD 10 undef = .bool true := hD 4 rfl
            have e14 : a.tmps.getD 14 undef = .bool false := hD 8 rfl
            clear hO hD
            go_wp2
            exact ⟨_, rfl, Below.refl _ _, rfl⟩
          refine .yes rfl (fun a W Q hB hO hD => ?_) ?_
          · have e15 : a.tmps.getD 15 undef = .bool false := hD 9 rfl
            clear hO hD
            go_wp2
            exact ⟨_, rfl, Below.refl _ _, rfl⟩
          refine .no rfl (fun W => trivial) ?_
          refine .no rfl (fun W => trivial) ?_
          refine .no rfl (fun W => trivial) ?_
          refine .no rfl (fun W => trivial) ?_
          refine .no rfl (fun W => trivial) ?_
          refine .no rfl (fun W => trivial) ?_
          refine .no rfl (fun W => trivial) ?_
          refine .no rfl (fun W => trivial) ?_
          refine .no rfl (fun W => trivial) ?_
          refine .yes rfl (fun a W Q hB hO hD => ?_) ?_
          · have e16 : a.tmps.getD 16 undef = .bool false := hD 10 rfl
            clear hO hD
            go_wp2
            exact ⟨_, rfl, Below.refl _ _, rfl⟩
          exact .nil
        · intro f V hBz hR
          have e20 : f 20 = .bool false := hR 20 (by decide)
          have HB2 := Lib.hid (hBw.out.trans (hBz.mono hBw.out.size))
          clear hR hBz
          simp only [putAll, Nat.zero_add, Nat.reduceAdd, Act.put, List.setIfInBounds_toArray, List.set_cons_zero, List.set_cons_succ, e20]
          go_wp2
          go_ret
          exact ⟨by rw [hS2.out]; rfl, HB2.out⟩
    · have HD := Lib.hid (show decide (k < n) = false by rw [decide_eq_false_iff_not]; exact hlt)
      obtain rfl : n = k := by omega
      have hS3 := Lib.hid (hS.out.trans (drop_end (us := us) (vs := vs) (k := n) (by have := H1.out.len; omega) (by have := H2.out.len; omega) (.inl (by have := H1.out.len; omega))))
      clear hS
      by_cases he : n = m
      · subst he
        have hS2 := Lib.hid (hS3.out.trans (show _ = true by rw [Bool.and_eq_true, decide_eq_true_eq, decide_eq_true_eq]; exact ⟨H1.out.len, H2.out.len⟩))
        go_wp2
        refine region_posts (by kernel_rfl) (tblSIz A c n n) (by kernel_rfl) ?_ ?_
        · skip
          refine .yes rfl (fun a W Q hB hO hD => ?_) ?_
          · have e5 : a.tmps.getD 5 undef = .int .i64 (n : Nat) := hO.slot 5 _ rfl rfl
            clear hO hD
            go_wp2
            exact ⟨_, rfl, Below.refl _ _, rfl⟩
          refine .yes rfl (fun a W Q hB hO hD => ?_) ?_
          · have e0 : a.tmps.getD 0 undef = .slice A n c := hO.slot 0 _ rfl rfl
            clear hO hD
            go_wp2
            exact ⟨_, rfl, Below.refl _ _, rfl⟩
          refine .yes rfl (fun a W Q hB hO hD => ?_) ?_
          · have e7 : a.tmps.getD 7 undef = .slice A n c := hD 1 rfl
            clear hO hD
            go_wp2
            exact ⟨_, rfl, Below.refl _ _, rfl⟩
          refine .yes rfl (fun a W Q hB hO hD => ?_) ?_
          · have e6 : a.tmps.getD 6 undef = .int .i64 (n : Nat) := hD 0 rfl
            have e8 : a.tmps.getD 8 undef = .int .i64 (n : Nat) := hD 2 rfl
            clear hO hD
            have hd := HD.out
            go_wp2
            exact ⟨_, rfl, Below.refl _ _, rfl⟩
          refine .yes rfl (fun a W Q hB hO hD => ?_) ?_
          · have e9 : a.tmps.getD 9 undef = .bool false := hD 3 rfl
            clear hO hD
            go_wp2
            exact ⟨_, rfl, Below.refl _ _, rfl⟩
          refine .no rfl (fun W => trivial) ?_
          refine .no rfl (fun W => trivial) ?_
          refine .no rfl (fun W => trivial) ?_
          refine .no rfl (fun W => trivial) ?_
          refine .yes rfl (fun a W Q hB hO hD => ?_) ?_
          · have e10 : a.tmps.getD 10 undef = .bool false := hD 4 rfl
            clear hO hD
            go_wp2
            exact ⟨_, rfl, Below.refl _ _, rfl⟩
          refine .yes rfl (fun a W Q hB hO hD => ?_) ?_
          · have e15 : a.tmps.getD 15 undef = .bool false := hD 9 rfl
            clear hO hD
            go_wp2
            exact ⟨_, rfl, Below.refl _ _, rfl⟩
          refine .no rfl (fun W => trivial) ?_
          refine .no rfl (fun W => trivial) ?_
          refine .no rfl (fun W => trivial) ?_
          refine .no rfl (fun W => trivial) ?_
          refine .no rfl (fun W => trivial) ?_
          refine .no rfl (fun W => trivial) ?_
          refine .no rfl (fun W => trivial) ?_
          refine .no rfl (fun W => trivial) ?_
          refine .no rfl (fun W => trivial) ?_
          refine .yes rfl (fun a W Q hB hO hD => ?_) ?_
          · have e16 : a.tmps.getD 16 undef = .bool false := hD 10 rfl
            clear hO hD
            go_wp2
            exact ⟨_, rfl, Below.refl _ _, rfl⟩
          exact .nil
        · intro f V hBz hR
          have e20 : f 20 = .bool false := hR 20 (by decide)
          have HB2 := Lib.hid (hBw.out.trans (hBz.mono hBw.out.size))
          clear hR hBz
          simp only [putAll, Nat.zero_add, Nat.reduceAdd, Act.put, List.setIfInBounds_toArray, List.set_cons_zero, List.set_cons_succ, e20]
          go_wp2
          go_ret
          exact ⟨by rw [hS2.out]; rfl, HB2.out⟩
      · have hS2 := Lib.hid (hS3.out.trans (show _ = false by rw [Bool.and_eq_false_iff]; right; rw [decide_eq_false_iff_not]; have := H2.out.len; omega))
        have d2 : ((n : Int) == m) = false := by rw [beq_eq_false_iff_ne]; omega
        clear he
        go_wp2
        refine region_posts (by kernel_rfl) (tblSIz A c n n) (by kernel_rfl) ?_ ?_
        · skip
          refine .yes rfl (fun a W Q hB hO hD => ?_) ?_
          · have e5 : a.tmps.getD 5 undef = .int .i64 (n : Nat) := hO.slot 5 _ rfl rfl
            clear hO hD
            go_wp2
            exact ⟨_, rfl, Below.refl _ _, rfl⟩
          refine .yes rfl (fun a W Q hB hO hD => ?_) ?_
          · have e0 : a.tmps.getD 0 undef = .slice A n c := hO.slot 0 _ rfl rfl
            clear hO hD
            go_wp2
            exact ⟨_, rfl, Below.refl _ _, rfl⟩
          refine .yes rfl (fun a W Q hB hO hD => ?_) ?_
          · have e7 : a.tmps.getD 7 undef = .slice A n c := hD 1 rfl
            clear hO hD
            go_wp2
            exact ⟨_, rfl, Below.refl _ _, rfl⟩
          refine .yes rfl (fun a W Q hB hO hD => ?_) ?_
          · have e6 : a.tmps.getD 6 undef = .int .i64 (n : Nat) := hD 0 rfl
            have e8 : a.tmps.getD 8 undef = .int .i64 (n : Nat) := hD 2 rfl
            clear hO hD
            have hd := HD.out
            go_wp2
            exact ⟨_, rfl, Below.refl _ _, rfl⟩
          refine .yes rfl (fun a W Q hB hO hD => ?_) ?_
          · have e9 : a.tmps.getD 9 undef = .bool false := hD 3 rfl
            clear hO hD
            go_wp2
            exact ⟨_, rfl, Below.refl _ _, rfl⟩
          refine .no rfl (fun W => trivial) ?_
          refine .no rfl (fun W => trivial) ?_
          refine .no rfl (fun W => trivial) ?_
          refine .no rfl (fun W => trivial) ?_
          refine .yes rfl (fun a W Q hB hO hD => ?_) ?_
          · have e10 : a.tmps.getD 10 undef = .bool false := hD 4 rfl
            clear hO hD
            go_wp2
            exact ⟨_, rfl, Below.refl _ _, rfl⟩
          refine .yes rfl (fun a W Q hB hO hD => ?_) ?_
          · have e15 : a.tmps.getD 15 undef = .bool false := hD 9 rfl
            clear hO hD
            go_wp2
            exact ⟨_, rfl, Below.refl _ _, rfl⟩
          refine .no rfl (fun W => trivial) ?_
          refine .no rfl (fun W => trivial) ?_
          refine .no rfl (fun W => trivial) ?_
          refine .no rfl (fun W => trivial) ?_
          refine .no rfl (fun W => trivial) ?_
          refine .no rfl (fun W => trivial) ?_
          refine .no rfl (fun W => trivial) ?_
          refine .no rfl (fun W => trivial) ?_
          refine .no rfl (fun W => trivial) ?_
          refine .yes rfl (fun a W Q hB hO hD => ?_) ?_
          · have e16 : a.tmps.getD 16 undef = .bool false := hD 10 rfl
            clear hO hD
            go_wp2
            exact ⟨_, rfl, Below.refl _ _, rfl⟩
          exact .nil
        · intro f V hBz hR
          have e20 : f 20 = .bool false := hR 20 (by decide)
          have HB2 := Lib.hid (hBw.out.trans (hBz.mono hBw.out.size))
          clear hR hBz
          simp only [putAll, Nat.zero_add, Nat.reduceAdd, Act.put, List.setIfInBounds_toArray, List.set_cons_zero, List.set_cons_succ, e20]
          go_wp2
          go_ret
          exact ⟨by rw [hS2.out]; rfl, HB2.out⟩
end Go.Proofs.YtljihclpgpmfeaaDoor
