/- Bundle of texts: ShelfAI Rb Gv. -/
import Derived.Shelf.Strconv.AppendIntPublic10
import Derived.Test.YtljihclpgpmfeaaDoorProg
import Derived.Test.YtljihclpgpmfeaaDoorWd
import Derived.Test.YtljihclpgpmfeaaDoorUg
import Derived.Test.YtljihclpgpmfeaaDoorGm
import Derived.Lib.ItoaLen
/- The library's contracts (LaysM.n176), laid at this program. -/
namespace Go.Proofs
set_option maxRecDepth 100000
open Go.Shelf
def Tryd.aiM_ren : Go.Shelf.Ren := ⟨fun | 129 => 59 | 176 => 65 | 249 => 78 | 283 => 88 | 284 => 89 | 285 => 90 | 286 => 91 | 288 => 92 | 317 => 98 | 318 => 99 | 319 => 100 | 320 => 101 | 337 => 103 | 338 => 104 | n => n, fun | 0 => 0 | 2 => 2 | 3 => 3 | 4 => 4 | 5 => 5 | 9 => 9 | 20 => 20 | 37 => 22 | 46 => 97 | 51 => 120 | 53 => 69 | 171 => 121 | 173 => 123 | 212 => 133 | 213 => 134 | 232 => 137 | 233 => 138 | n => n, fun | 17 => 0 | 18 => 1 | 19 => 2 | n => n⟩
set_option maxRecDepth 100000 in
theorem Tryd.aiM : Go.Proofs.LaysM.n176 Tryd.prog Tryd.aiM_ren := {
  mixed := by kernel_rfl
  f129 := Tryd.func59.trans (congrArg some (by kernel_rfl))
  f176 := Tryd.func65.trans (congrArg some (by kernel_rfl))
  f249 := Tryd.func78.trans (congrArg some (by kernel_rfl))
  f283 := Tryd.func88.trans (congrArg some (by kernel_rfl))
  f284 := Tryd.func89.trans (congrArg some (by kernel_rfl))
  f285 := Tryd.func90.trans (congrArg some (by kernel_rfl))
  f286 := Tryd.func91.trans (congrArg some (by kernel_rfl))
  f288 := Tryd.func92.trans (congrArg some (by kernel_rfl))
  f317 := Tryd.func98.trans (congrArg some (by kernel_rfl))
  f318 := Tryd.func99.trans (congrArg some (by kernel_rfl))
  f319 := Tryd.func100.trans (congrArg some (by kernel_rfl))
  f320 := Tryd.func101.trans (congrArg some (by kernel_rfl))
  f337 := Tryd.func103.trans (congrArg some (by kernel_rfl))
  f338 := Tryd.func104.trans (congrArg some (by kernel_rfl))
  t0 := Tryd.underlying0
  a0 := Tryd.isAgg0
  z0 := Tryd.sizeOf0
  v0 := Tryd.zeroValue0
  t2 := Tryd.underlying2
  a2 := Tryd.isAgg2
  z2 := Tryd.sizeOf2
  v2 := Tryd.zeroValue2
  t3 := Tryd.underlying3
  a3 := Tryd.isAgg3
  z3 := Tryd.sizeOf3
  v3 := Tryd.zeroValue3
  t4 := Tryd.underlying4
  a4 := Tryd.isAgg4
  z4 := Tryd.sizeOf4
  v4 := Tryd.zeroValue4
  t5 := Tryd.underlying5
  a5 := Tryd.isAgg5
  z5 := Tryd.sizeOf5
  v5 := Tryd.zeroValue5
  t9 := Tryd.underlying9
  a9 := Tryd.isAgg9
  z9 := Tryd.sizeOf9
  v9 := Tryd.zeroValue9
  t20 := Tryd.underlying20
  a20 := Tryd.isAgg20
  z20 := Tryd.sizeOf20
  v20 := Tryd.zeroValue20
  t37 := Tryd.underlying22
  a37 := Tryd.isAgg22
  z37 := Tryd.sizeOf22
  v37 := Tryd.zeroValue22
  t46 := Tryd.underlying97
  a46 := Tryd.isAgg97
  z46 := Tryd.sizeOf97
  v46 := Tryd.zeroValue97
  t51 := Tryd.underlying120
  a51 := Tryd.isAgg120
  z51 := Tryd.sizeOf120
  v51 := Tryd.zeroValue120
  t53 := Tryd.underlying69
  a53 := Tryd.isAgg69
  z53 := Tryd.sizeOf69
  v53 := Tryd.zeroValue69
  t171 := Tryd.underlying121
  a171 := Tryd.isAgg121
  z171 := Tryd.sizeOf121
  v171 := Tryd.zeroValue121
  t173 := Tryd.underlying123
  a173 := Tryd.isAgg123
  z173 := Tryd.sizeOf123
  v173 := Tryd.zeroValue123
  t212 := Tryd.underlying133
  a212 := Tryd.isAgg133
  z212 := Tryd.sizeOf133
  v212 := Tryd.zeroValue133
  t213 := Tryd.underlying134
  a213 := Tryd.isAgg134
  z213 := Tryd.sizeOf134
  t232 := Tryd.underlying137
  a232 := Tryd.isAgg137
  z232 := Tryd.sizeOf137
  v232 := Tryd.zeroValue137
  t233 := Tryd.underlying138
  a233 := Tryd.isAgg138
  z233 := Tryd.sizeOf138
  v233 := Tryd.zeroValue138
  g17 := by kernel_rfl
  g18 := by kernel_rfl
  g19 := by kernel_rfl
  i0 := by kernel_rfl
  i2 := by kernel_rfl
  i3 := by kernel_rfl
  i4 := by kernel_rfl
  i5 := by kernel_rfl
  i9 := by kernel_rfl
  i20 := by kernel_rfl
  i37 := by kernel_rfl
  i46 := by kernel_rfl
  i51 := by kernel_rfl
  i53 := by kernel_rfl
  i171 := by kernel_rfl
  i173 := by kernel_rfl
  i212 := by kernel_rfl
  i232 := by kernel_rfl
  i233 := by kernel_rfl
  m17 := by kernel_rfl
  m18 := by kernel_rfl
  m19 := by kernel_rfl
 }
end Go.Proofs
/- Rows of bytes of the call's own. No function is walked. -/
namespace Go.Proofs.YtljihclpgpmfeaaDoor
set_option maxRecDepth 100000
open Go.RowKit

theorem infoB : (Tryd.prog.info? 5).map (fun i => (i.zero, i.size, i.bytes)) = some (some (.int .u8 0), 1, 1) := by kernel_rfl
/-- A row of bytes of the call's own. -/
def RowB (B : Nat) (W : World) (v : Value) (l : List UInt8) : Prop :=
  (l = [] ∧ v = .slice none 0 0) ∨ ∃ g cap more, v = .slice (some ⟨g, 0, none⟩) l.length cap ∧ B ≤ g ∧ Own W g 5 (cellsB l ++ more) ∧ l.length ≤ cap ∧ cap ≤ maxLen ∧ (cellsB l ++ more).length = cap
/-- Blocks of other kinds stay. -/
def KeepT (W W' : World) : Prop := ∀ (g : Nat) (t : TypeId) (vs : List Value), t ≠ 5 → Own W g t vs → Own W' g t vs
section
variable {W W' : World} {v : Value} {k l : List UInt8} {B : Nat}
theorem RowB.below (h : RowB B W v l) (hb : Below W.heap.size W W') : RowB B W' v l := by
  rcases h with h | ⟨g, cap, more, e, hg, ho, h⟩
  · exact .inl h
  · exact .inr ⟨g, cap, more, e, hg, ho.below' hb, h⟩
theorem RowB.far (h : RowB B W v l) {b : Nat} {t : TypeId} {us : List Value} (ho : Own W b t us) (hn : 5 ≠ t) (i : Nat) (u : Value) : RowB B (W.setCell ⟨b, i, none⟩ u) v l := by
  rcases h with h | ⟨g, cap, more, e, hg, h1, h⟩
  · exact .inl h
  · exact .inr ⟨g, cap, more, e, hg, h1.far (p := ⟨b, i, none⟩) (h1.ne ho hn) u, h⟩
theorem RowB.rd (h : RowB B W v l) : ∃ A c, v = .slice A l.length c ∧ Rd W A (cellsB l) := by
  rcases h with ⟨rfl, rfl⟩ | ⟨g, cap, more, e, hg, ho, h⟩
  · exact ⟨none, 0, rfl, Rd.nil⟩
  · exact ⟨_, cap, e, rd_front ho⟩
theorem RowB.one (h : RowB B W v l) : v.oneCell' = true := by
  rcases h with ⟨rfl, rfl⟩ | ⟨g, cap, more, e, _⟩
  · rfl
  · rw [e]; rfl
theorem KeepT.refl (W : World) : KeepT W W := fun _ _ _ _ h => h
/-- append of bytes to bytes of the call's own. -/
theorem run_append_bytes (ty : TypeId) (A : Option Addr) (n c : Nat) (h1 : RowB B W v l) (hn : n = k.length) (hr : Rd W A (cellsB k)) (hsz : l.length + n ≤ 1000000) (hB : B ≤ W.heap.size) :
    ∃ v' w', (Builtin.append_ #[22, 22] ty #[v, .slice A n c]).run Tryd.prog W = .ok v' w' ∧ RowB B w' v' (l ++ k) ∧ Below B W w' ∧ KeepT W w' := by
  obtain ⟨i0, hi, hz0, hz1, hz2⟩ := info_parts infoB
  cases A with
  | none =>
    have hk : k = [] := by
      rcases Nat.eq_zero_or_pos k.length with h | h
      · exact List.eq_nil_of_length_eq_zero h
      · obtain ⟨b, off, e, _⟩ := hr (by rw [length_cellsB]; exact h)
        cases e
    subst hk
    rw [List.append_nil]
    have hn0 : n = 0 := hn
    subst hn0
    refine ⟨v, W, ?_, h1, Below.refl _ _, KeepT.refl _⟩
    rcases h1 with ⟨_, rfl⟩ | ⟨g, cap, more, rfl, hg, ho, r1, r2, r3⟩
    · simp [Builtin.append_, run_underlying Tryd.underlying22, sizeOf, typeInfo, hi, Builtin.lenOf, Builtin.firstCells]
    · simp [Builtin.append_, run_underlying Tryd.underlying22, sizeOf, typeInfo, hi, Builtin.lenOf, Builtin.firstCells, r1, storeCells]
  | some ad =>
    have hnews : ∀ j u, (cellsB k)[j]? = some u → W.cell? (ad.add j) = some u := fun j u hu => by
      have hl : 0 < (cellsB k).length := by
        rcases Nat.lt_or_ge j (cellsB k).length with h | h
        · omega
        · rw [List.getElem?_eq_none h] at hu; cases hu
      obtain ⟨b, off, e, hb, hc⟩ := hr hl
      injection e with e
      subst e
      rw [add_off]
      exact hc j u hu
    have hown : W.ownsRow B 5 1 v l.length (cellsB l) := by
      rcases h1 with ⟨rfl, rfl⟩ | ⟨g, cap, more, rfl, hg, ho, r1, r2, r3⟩
      · exact World.ownsRow_nil _ _ _ _
      · exact owns_of_own ho hg (by rw [length_cellsB, Nat.mul_one]) r1 r2 (by rw [r3, Nat.mul_one])
    obtain ⟨v', w', e, hown', hgrow, hnil, hblk⟩ := run_append_own_at (P := Tryd.prog) W B 22 ty 5 i0 (.int .u8 0) 1 1 Tryd.underlying22 hi hz0 hz1 hz2 rfl (by decide) v l.length (cellsB l) hown ad n c (cellsB k) (by rw [length_cellsB, Nat.mul_one]; exact hn.symm) hnews cellsB_one (by unfold maxLen; omega) (by omega) hB
    refine ⟨v', w', e, ?_, ?_, ?_⟩
    · by_cases hv : v' = .slice none 0 0
      · obtain ⟨hv0, hm0⟩ := hnil.1 hv
        refine .inl ⟨?_, hv⟩
        have : k = [] := List.eq_nil_of_length_eq_zero (by omega)
        subst this
        rcases h1 with ⟨rfl, _⟩ | ⟨g, cap, more, e, _⟩
        · rfl
        · rw [e] at hv0; cases hv0
      · obtain ⟨g', cap', more', rfl, hg', hO, p1, p2, p3⟩ := row_own hown' hv
        rw [← cellsB_append] at hO p3
        exact .inr ⟨g', cap', more', by rw [List.length_append, hn], hg', hO, by rw [List.length_append, ← hn]; exact p1, p2, by rw [p3, Nat.mul_one]⟩
    · rcases h1 with ⟨_, rfl⟩ | ⟨g, cap, more, rfl, hg, ho, _⟩
      · exact (below_none hgrow).mono hB
      · exact grown_below hgrow hg hB
    · intro g2 t2 vs2 ht hO2
      rcases h1 with ⟨_, rfl⟩ | ⟨g, cap, more, rfl, hg, ho, _⟩
      · exact hO2.below' (below_none hgrow)
      · exact hO2.grown' ho ht hgrow
theorem wpList_append_bytes {ops : Array Oper} {rest : List Oper} {o : Oper} {a : Act} {Q : Exit → Act → World → Prop} (hgd : o.guard = none) (s x : Operand)
    (ho : o.op = .call { callee := .builtin .append, args := #[s, x], argTypes := #[22, 22] }) (A : Option Addr) (n c : Nat) (hs : a.eval s = v) (hx : a.eval x = .slice A n c) (h1 : RowB B W v l) (hn : n = k.length) (hr : Rd W A (cellsB k)) (hsz : l.length + n ≤ 1000000) (hB : B ≤ W.heap.size)
    (h : ∀ v' w', RowB B w' v' (l ++ k) → Below B W w' → KeepT W w' → wpList Tryd.prog ops Q rest (a.put o.dst v') w') : wpList Tryd.prog ops Q (o :: rest) a W := by
  obtain ⟨v', w', e, q1, q2, q3⟩ := run_append_bytes o.type A n c h1 hn hr hsz hB
  refine wpList_plain hgd fun K hK => ?_
  unfold Oper.wp execOp
  simp only [ho, resolve, invoke, builtin, Sem.run_bind, Sem.run_pure, Result.andThen_ok, List.map_toArray, List.map_cons, List.map_nil, hs, hx, e]
  exact hK _ _ (h v' w' q1 q2 q3)
end
theorem byteCells_eq (l : List UInt8) : Lib.byteCells l = cellsB l := by
  unfold Lib.byteCells cellsB Lib.numsL
  rw [List.map_map]
  rfl
theorem RowB.owns {W : World} {v : Value} {l : List UInt8} {B : Nat} (h : RowB B W v l) : W.ownsRow B 5 1 v l.length (cellsB l) := by
  rcases h with ⟨rfl, rfl⟩ | ⟨g, cap, more, rfl, hg, ho, r1, r2, r3⟩
  · exact World.ownsRow_nil _ _ _ _
  · exact owns_of_own ho hg (by rw [length_cellsB, Nat.mul_one]) r1 r2 (by rw [r3, Nat.mul_one])
theorem RowB.of_owns {W : World} {v : Value} {l : List UInt8} {B n : Nat} {xs : List Value} (h : W.ownsRow B 5 1 v n xs) (hn : n = l.length) (hx : xs = cellsB l) : RowB B W v l := by
  subst hn; subst hx
  by_cases hv : v = .slice none 0 0
  · refine .inl ⟨?_, hv⟩
    rcases h.2 with ⟨_, h0⟩ | ⟨g, cap, cur, e, _⟩
    · exact List.eq_nil_of_length_eq_zero h0
    · rw [hv] at e; cases e
  · obtain ⟨g', cap', more', rfl, hg', hO, p1, p2, p3⟩ := row_own h hv
    exact .inr ⟨g', cap', more', rfl, hg', hO, p1, p2, by rw [p3, Nat.mul_one]⟩
/-- strconv.AppendInt at base 10, over a row of bytes. -/
theorem appendInt_any (B : Nat) (i : Int) (h0 : -9223372036854775808 ≤ i) (h1 : i ≤ 9223372036854775807) (v : Value) (l : List UInt8) (w : World) (hr : RowB B w v l) (hB : B ≤ w.heap.size) (hl : l.length ≤ 100000000000000)
    (ht : Lib.TabBelow Tryd.prog B w "internal/strconv.uint64pow10" .u64 Lib.pow10Tab) :
    Calls Tryd.prog 65 #[v, .int .i64 i, .int .i64 10] w fun e w' => ∃ v', e = .returned v' ∧ RowB B w' v' (l ++ Lib.itoa i) ∧ Below B w w' := by
  refine (Any.strconv_AppendInt_10 Tryd.aiM B l.length i h0 h1 v (cellsB l) w hr.owns hB (by omega) ht).mono ?_
  rintro e w' ⟨v', rfl, h2, h3, _⟩
  exact ⟨v', rfl, RowB.of_owns h2 (by rw [List.length_append]) (by rw [cellsB_append, byteCells_eq]), h3⟩
end Go.Proofs.YtljihclpgpmfeaaDoor
/- Walks: graph.line, graph.Text. -/
namespace Go.Proofs.YtljihclpgpmfeaaDoor
set_option maxRecDepth 100000
open Go.RowKit

def lineB (a b : Int) : List UInt8 := ((Lib.itoa a ++ [32]) ++ Lib.itoa b) ++ [10]
theorem cells32 : cellsB [32] = [.int .u8 32] := rfl
theorem cells10 : cellsB [10] = [.int .u8 10] := rfl
def InI (a : Int) : Prop := -9223372036854775808 ≤ a ∧ a ≤ 9223372036854775807
theorem lineB_len {a b : Int} (ha : InI a) (hb : InI b) : (lineB a b).length ≤ 44 := by
  have h1 := Lib.itoa_length_le a ha.1 ha.2
  have h2 := Lib.itoa_length_le b hb.1 hb.2
  unfold lineB
  simp only [List.length_append, List.length_cons, List.length_nil]
  omega
def TabW (B : Nat) (w : World) : Prop := Lib.TabBelow Tryd.prog B w "internal/strconv.uint64pow10" .u64 Lib.pow10Tab
theorem TabW.mono {B C : Nat} {w : World} (h : TabW B w) (hc : B ≤ C) : TabW C w := fun w' hb => h w' (hb.mono hc)
theorem TabW.on {B : Nat} {w w1 : World} (h : TabW B w) (hb : Below B w w1) : TabW B w1 := Lib.TabBelow.on h hb
set_option maxRecDepth 100000 in
set_option maxHeartbeats 4000000 in
theorem line_any (B : Nat) (a b : Int) (v : Value) (l : List UInt8) (w : World) (hr : RowB B w v l) (hB : B ≤ w.heap.size) (hl : l.length ≤ 900000) (ha : InI a) (hb : InI b) (ht : TabW B w) :
    Calls Tryd.prog 44 #[v, .int .i64 a, .int .i64 b] w fun e w' => ∃ v', e = .returned v' ∧ RowB B w' v' (l ++ lineB a b) ∧ Below B w w' := by
  have HR := Lib.hid hr
  have HT := Lib.hid ht
  have la := Lib.itoa_length_le a ha.1 ha.2
  have lb := Lib.itoa_length_le b hb.1 hb.2
  have HA := Lib.hid ha
  have HBb := Lib.hid hb
  clear hr ht ha hb
  go_enter Tryd.func44, Tryd.ntmps44
  go_wp2_with fail
  refine (appendInt_any B a HA.out.1 HA.out.2 _ l _ HR.out hB (by omega) HT.out).mono ?_
  rintro e w1 ⟨v1, rfl, hr1, hb1⟩
  have hs1 := hb1.size
  have HR1 := Lib.hid (hr1.below (alloc_below w1 (.cells #[.int .u8 32] 5)))
  have H32 := Lib.hid (show Own (w1.alloc (.cells #[.int .u8 32] 5)) w1.heap.size 5 (cellsB [32]) from by rw [cells32]; exact Own.new w1 _ _)
  have HB1 := Lib.hid (hb1.trans ((alloc_below w1 (.cells #[.int .u8 32] 5)).mono (by omega)))
  clear hr1 hb1
  go_wp2_with (at_builtin; refine wpList_append_bytes rfl (.tmp 10) (.tmp 11) rfl (some ⟨w1.heap.size, 0, none⟩) 1 1 (k := [32]) rfl rfl HR1.out rfl H32.out.rd (by simp only [List.length_append]; omega) (by simp; omega) ?_)
  intro v2 w2 hr2 hb2 _
  have HB2 := Lib.hid (HB1.out.trans hb2)
  have HR2 := Lib.hid hr2
  have HT2 := Lib.hid (HT.out.on HB2.out)
  have hs2 := HB2.out.size
  clear hr2 hb2
  go_wp2_with fail
  refine (appendInt_any B b HBb.out.1 HBb.out.2 _ _ _ HR2.out (by omega) (by simp only [List.length_append, List.length_cons, List.length_nil]; omega) HT2.out).mono ?_
  rintro e w3 ⟨v3, rfl, hr3, hb3⟩
  have HR3 := Lib.hid (hr3.below (alloc_below w3 (.cells #[.int .u8 10] 5)))
  have H10 := Lib.hid (show Own (w3.alloc (.cells #[.int .u8 10] 5)) w3.heap.size 5 (cellsB [10]) from by rw [cells10]; exact Own.new w3 _ _)
  have hs3 := hb3.size
  have HB3 := Lib.hid ((HB2.out.trans hb3).trans ((alloc_below w3 (.cells #[.int .u8 10] 5)).mono (by omega)))
  clear hr3 hb3
  go_wp2_with (at_builtin; refine wpList_append_bytes rfl (.tmp 16) (.tmp 17) rfl (some ⟨w3.heap.size, 0, none⟩) 1 1 (k := [10]) rfl rfl HR3.out rfl H10.out.rd (by simp only [List.length_append, List.length_cons, List.length_nil]; omega) (by simp; omega) ?_)
  intro v4 w4 hr4 hb4 _
  have HB4 := Lib.hid (HB3.out.trans hb4)
  have HR4 := Lib.hid (show RowB B w4 v4 (l ++ lineB a b) from by
    unfold lineB
    simpa only [List.append_assoc, List.cons_append, List.nil_append] using hr4)
  clear hr4 hb4
  go_wp2
  go_ret
  exact ⟨_, rfl, HR4.out, HB4.out⟩
def textK (N : Int) (E : List (Int × Int)) (k : Nat) : List UInt8 := lineB N (E.length : Int) ++ (E.take k).flatMap fun e => lineB e.1 e.2
def textG (N : Int) (E : List (Int × Int)) : List UInt8 := lineB N (E.length : Int) ++ E.flatMap fun e => lineB e.1 e.2
theorem textK_all {N : Int} {E : List (Int × Int)} {k : Nat} (h : k = E.length) : textK N E k = textG N E := by
  unfold textK textG; rw [List.take_of_length_le (by omega)]
theorem textK_step {N : Int} {E : List (Int × Int)} {k : Nat} {e : Int × Int} (h : E[k]? = some e) : textK N E (k + 1) = textK N E k ++ lineB e.1 e.2 := by
  unfold textK
  rw [List.take_add_one, h]
  simp [List.append_assoc]
def InE (E : List (Int × Int)) : Prop := ∀ e ∈ E, InI e.1 ∧ InI e.2
theorem right_in {N : Int} {E : List (Int × Int)} (h : rightG N E = true) : InI N ∧ InE E := by
  have hr := rightG_iff.1 h
  have h2 : 0 ≤ N ∧ N ≤ 200 := by
    unfold rightG at h
    rw [Bool.and_eq_true, Bool.and_eq_true, Bool.and_eq_true, decide_eq_true_eq, decide_eq_true_eq, decide_eq_true_eq] at h
    exact h.1.1
  refine ⟨⟨by omega, by omega⟩, fun e he => ?_⟩
  have h3 : okE N none E = true := by
    unfold rightG at h
    rw [Bool.and_eq_true] at h
    exact h.2
  obtain ⟨v1, v2, v3⟩ := okE_valid h3 e he
  exact ⟨⟨by omega, by omega⟩, ⟨by omega, by omega⟩⟩
theorem textK_len {N : Int} {E : List (Int × Int)} (hN : InI N) (hE : InE E) (h : E.length ≤ 594) : ∀ k, (textK N E k).length ≤ 44 + 44 * k := by
  intro k
  induction k with
  | zero =>
    show (lineB N (E.length : Int) ++ []).length ≤ _
    rw [List.append_nil]
    have := lineB_len (a := N) (b := (E.length : Int)) hN ⟨by omega, by omega⟩
    omega
  | succ k ih =>
    cases hk : E[k]? with
    | none =>
      have : textK N E (k + 1) = textK N E k := by unfold textK; rw [List.take_add_one, hk]; simp
      rw [this]; omega
    | some e =>
      have hm := hE e (List.mem_of_getElem? hk)
      have := lineB_len hm.1 hm.2
      rw [textK_step hk, List.length_append]; omega
def textO (N : Int) (E : List (Int × Int)) : Option (List UInt8) := if rightG N E then some (textG N E) else none
def TextV : Option (List UInt8) → Value
  | none => .tuple #[.string ⟨#[]⟩, .int .i64 20]
  | some l => .tuple #[.string (strB l), .int .i64 0]
set_option maxRecDepth 100000 in
set_option maxHeartbeats 4000000 in
theorem text_any (N : Int) (A : Option Addr) (n c : Nat) (E : List (Int × Int)) (w : World) (h : ArgE w A n c E) (ht : TabW w.heap.size w) :
    Calls Tryd.prog 16 #[.agg #[.int .i64 N, .slice A n c]] w fun e w' => e = .returned (TextV (textO N E)) ∧ Below w.heap.size w w' := by
  have HB0 := Lib.hid (alloc_below w (.cells #[.int .i64 N, .slice A n c] 26))
  have HA := Lib.hid (h.keep HB0.out)
  have G0 := Lib.hid (Own.new' (t := 26) (w := w) (vs := [.int .i64 N, .slice A n c]) rfl)
  have HT := Lib.hid ht
  have HL := Lib.hid h.len
  clear h ht
  have HR := Lib.hid (rightG_any N A n c E _ HA.out)
  obtain ⟨r, hr⟩ : ∃ r, rightG N E = r := ⟨_, rfl⟩
  have RG := Lib.hid hr
  rw [hr] at HR
  clear hr
  go_enter Tryd.func16, Tryd.ntmps16
  go_wp2_with fail
  refine HR.out.mono ?_
  rintro e w1 ⟨rfl, hb⟩
  have OG := Lib.hid (G0.out.below' hb)
  have HA1 := Lib.hid (HA.out.keep hb)
  have HB1 := Lib.hid (HB0.out.trans (hb.mono HB0.out.size))
  have g0 : w1.cell? ⟨w.heap.size, 0, none⟩ = some (.int .i64 N) := OG.out.cell 0
  have g1 : w1.cell? ⟨w.heap.size, 1, none⟩ = some (.slice A n c) := OG.out.cell 1
  have zg := OG.out.lt
  clear hb
  cases r with
  | false =>
    have HX := Lib.hid (show textO N E = none by unfold textO; rw [RG.out]; rfl)
    go_wp2
    go_ret2
    exact ⟨by rw [HX.out]; rfl, HB1.out⟩
  | true =>
    have HX := Lib.hid (show textO N E = some (textG N E) by unfold textO; rw [RG.out]; rfl)
    have HI := Lib.hid (right_in RG.out)
    have HN := Lib.hid (show n ≤ 594 by have := rightG_len RG.out; have := HL.out; omega)
    have HLE := Lib.hid (rightG_len RG.out)
    have hs1 := HB1.out.size
    go_wp2_with fail
    have HT1 := Lib.hid ((HT.out.on HB1.out).mono hs1)
    refine (line_any w1.heap.size N (n : Int) (.slice none 0 0) [] _ (.inl ⟨rfl, rfl⟩) (Nat.le_refl _) (Nat.zero_le _) HI.out.1 ⟨by omega, by have := HN.out; omega⟩ HT1.out).mono ?_
    rintro e w2 ⟨v2, rfl, hr2, hb2⟩
    have HB2 := Lib.hid hb2
    have HR2 := Lib.hid (show RowB w1.heap.size w2 v2 (textK N E 0) from by
      have h : RowB w1.heap.size w2 v2 ([] ++ lineB N (n : Int)) := hr2
      rw [HL.out] at h
      unfold textK
      rw [List.take_zero]
      simpa using h)
    clear hr2 hb2
    have OG2 := Lib.hid (OG.out.below' HB2.out)
    have g0 : w2.cell? ⟨w.heap.size, 0, none⟩ = some (.int .i64 N) := OG2.out.cell 0
    have g1 : w2.cell? ⟨w.heap.size, 1, none⟩ = some (.slice A n c) := OG2.out.cell 1
    have zg := OG2.out.lt
    go_wp2
    go_loopw [4, 6, 19] (fun x _ i wr => ∃ k : Nat, k ≤ n ∧ i = .int .i64 (k : Int) ∧ Hid (RowB w1.heap.size wr x (textK N E k)) ∧ Hid (Below w1.heap.size w1 wr)) (fun _ _ i _ => n - (intOf i).toNat)
    case atStart => exact ⟨0, Nat.zero_le _, rfl, HR2, HB2⟩
    case round =>
      obtain ⟨k, hk, rfl, hS, hB⟩ := hrel
      have HAr := Lib.hid (HA1.out.keep hB.out)
      have HBw := Lib.hid (HB1.out.trans (hB.out.mono hs1))
      have hn5 := HN.out
      by_cases hlt : k < n
      · obtain ⟨b, off, rfl, hb, hc⟩ := rd_edge HAr.out.rd (by have := HAr.out.len; omega)
        obtain ⟨e, he⟩ : ∃ x, E[k]? = some x := ⟨_, List.getElem?_eq_getElem (by have := HL.out; omega)⟩
        have HST := Lib.hid (textK_step (N := N) he)
        have HIE := Lib.hid (HI.out.2 e (List.mem_of_getElem? he))
        have HLK := Lib.hid (textK_len HI.out.1 HI.out.2 HLE.out k)
        obtain ⟨x0, x1⟩ := e
        obtain ⟨q0, q1⟩ := hc _ (Below.refl _ _) k _ he
        clear hc he
        have HSa := Lib.hid (hS.out.below (alloc_below wr (.cells #[.int .i64 x0, .int .i64 x1] 49)))
        have HBa := Lib.hid (hB.out.trans ((alloc_below wr (.cells #[.int .i64 x0, .int .i64 x1] 49)).mono hB.out.size))
        have HTa := Lib.hid (HT1.out.on HBa.out)
        have hs3 := HBa.out.size
        go_wp2_with fail
        refine (line_any w1.heap.size x0 x1 _ _ _ HSa.out hs3 (by have := HLK.out; have := HN.out; omega) HIE.out.1 HIE.out.2 HTa.out).mono ?_
        rintro e w3 ⟨v3, rfl, hr3, hb3⟩
        have HS3 := Lib.hid (show RowB w1.heap.size w3 v3 (textK N E (k + 1)) from by rw [HST.out]; exact hr3)
        have HB3 := Lib.hid (HBa.out.trans hb3)
        clear hr3 hb3
        go_wp2
        go_roundw
        case rel => exact ⟨k + 1, by omega, by go_num, HS3, HB3⟩
        case measure => simp [intOf]; omega
      · obtain rfl : k = n := by omega
        have HXT := Lib.hid (textK_all (N := N) HL.out)
        have hS2 := hS.out
        rw [HXT.out] at hS2
        obtain ⟨A4, c4, rfl, hrd⟩ := hS2.rd
        have cv := conv_word A4 _ c4 (textG N E) wr rfl hrd
        clear hS2 hrd hS
        go_wp2
        go_ret2
        exact ⟨by rw [HX.out]; rfl, HBw.out⟩
end Go.Proofs.YtljihclpgpmfeaaDoor
