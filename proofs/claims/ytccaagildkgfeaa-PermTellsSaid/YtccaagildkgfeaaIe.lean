/- Walk: the iterator over a permutation's cycles (perm.cycles and its closure). -/
import Derived.Test.YtccaagildkgfeaaPc
import Derived.RangeFuncNested
import Derived.RangeFuncBound
import Derived.RangeFuncCalls
import Derived.RangeFuncLeaves
import Derived.Shelf.Abstract
import Derived.OwnWalkIn
import Derived.TacticsInMore
import Derived.LoopNIn
import Derived.LoopIn
namespace Go.Proofs.Ytccaagildkgfeaa
open Go.RowKit Go.Shelf
attribute [local go_sem] Oper.semAt_some

/-- What a round of the caller's keeps: what lay when the caller began, the iterator's own variable, and every row of truths. -/
structure Keep (bx B0 : Nat) (V V' : World) : Prop where
  size : V.heap.size ≤ V'.heap.size
  met : ∀ (g : Nat) (vs : List Value), Own V g 4 vs → Own V' g 4 vs
  box : V'.heap[bx]? = V.heap[bx]?
  bel : Below B0 V V'
theorem grown_join {B g : Nat} {w V V' : World} (h : w.grownBy V (some g)) (h2 : Below B V V') (hB : w.heap.size ≤ B) : w.grownBy V' (some g) :=
  ⟨h2.os.trans h.os, h2.tape.trans h.tape, h2.output.trans h.output, Nat.le_trans h.size h2.size, fun i hi hne => (h2.block i (Nat.lt_of_lt_of_le hi hB)).trans (h.block i hi hne)⟩
theorem wpListIn_append_ints {F : Fence} {nn : Nat} {W : World} {v : Value} {l k : List Int} {B : Nat} {ops : Array Oper} {rest : List Oper} {o : Oper} {a : Act} {Q : Exit → Act → World → Prop} (hgd : o.guard = none) (s x : Operand)
    (ho : o.op = .call { callee := .builtin .append, args := #[s, x], argTypes := #[22, 22] }) (A : Option Addr) (n c : Nat) (hs : a.eval s = v) (hx : a.eval x = .slice A n c) (h1 : RowI B W v l) (hn : n = k.length) (hr : Rd W A (cellsI k)) (hsz : l.length + n ≤ 1000000) (hB : B ≤ W.heap.size)
    (h : ∀ v' w', RowI B w' v' (l ++ k) → Below B W w' → wpListIn F nn Try.prog ops Q rest (a.put o.dst v') w') : wpListIn F nn Try.prog ops Q (o :: rest) a W := by
  obtain ⟨v', w', e, q1, q2⟩ := run_append_ints o.type A n c h1 hn hr hsz hB
  refine wpListIn_plain hgd fun K hK => ?_
  unfold Oper.wpIn
  refine ⟨?_, ?_⟩
  · simp [Oper.about, ho, resolve, Target.leads, Sem.run_pure]
  · rw [Oper.semAt_plain F _ _ (by rw [ho]; intro c hc'; cases hc')]
    simp [execOp, ho, resolve, invoke, builtin, hs, hx, e, Result.andThen]
    exact hK _ _ (h v' w' q1 q2)
def lenV : Value → Nat
  | .slice _ n _ => n
  | _ => 0
theorem RowI.lenV {B : Nat} {W : World} {v : Value} {l : List Int} (h : RowI B W v l) : lenV v = l.length := by
  rcases h with ⟨rfl, rfl⟩ | ⟨g, cap, more, rfl, _⟩
  · rfl
  · rfl
theorem RowI.far {B : Nat} {W : World} {v : Value} {l : List Int} (h : RowI B W v l) {b : Nat} {t : TypeId} {us : List Value} (ho : Own W b t us) (hn : 3 ≠ t) (i : Nat) (u : Value) : RowI B (W.setCell ⟨b, i, none⟩ u) v l := by
  rcases h with h | ⟨g, cap, more, e, hg, h1, h⟩
  · exact .inl h
  · exact .inr ⟨g, cap, more, e, hg, h1.far (p := ⟨b, i, none⟩) (h1.ne ho hn) u, h⟩
/-- The world when the round began: what the caller said there, and where the new row lies. -/
def Prev (J : Nat → World → Prop) (j g : Nat) (V : World) : Prop := ∃ V1, J j V1 ∧ V1.heap.size ≤ g ∧ ∀ (b : Nat) (t : TypeId) (vs : List Value), t ≠ 4 → Own V1 b t vs → Own V b t vs
def ItO (w0 W : World) (bx m c : Nat) (A : Option Addr) (p : List Int) (J : Nat → World → Prop) (s12 : Value) (V : World) : Prop :=
  ∃ j : Nat, j ≤ m ∧ s12 = .int .i64 (j : Int) ∧ J j V ∧ Own V W.heap.size 4 (metL m (cycs p j).flatten) ∧ Own V bx 22 [.slice A m c] ∧ Below w0.heap.size w0 V ∧ W.heap.size + 1 ≤ V.heap.size
def ItI (w0 W W1 : World) (bx m c : Nat) (A : Option Addr) (p : List Int) (j : Nat) (s5 s6 : Value) (V : World) : Prop :=
  ∃ k : Nat, k ≤ ord1 p j ∧ s6 = .int .i64 ((it p k j : Nat) : Int) ∧ RowI W1.heap.size V s5 ((cyc p j).take k) ∧ Own V W.heap.size 4 (metL m ((cycs p j).flatten ++ (cyc p j).take k)) ∧ Own V bx 22 [.slice A m c] ∧ Below w0.heap.size w0 V ∧ W1.grownBy V (some W.heap.size) ∧ lenV s5 = k
set_option maxRecDepth 100000 in
set_option maxHeartbeats 8000000 in
theorem cycles_iter (l nn bx m c : Nat) (A : Option Addr) (p : List Int) (J : Nat → World → Prop) (w0 W : World) (hp : rightP p = true) (hA : ArgI w0 A m c p) (hb0 : Below w0.heap.size w0 W) (hbx : Own W bx 22 [.slice A m c])
    (hst : ∀ (j : Nat) (V V' : World) (vs : List Value), J j V → Own V W.heap.size 4 vs → V.grownBy V' (some W.heap.size) → J j V')
    (hal : ∀ (j : Nat) (V : World) (o : Obj), J j V → J j (V.alloc o))
    (hy : ∀ (j : Nat) (V : World) (g cap : Nat) (more : List Value), j < m → leastB p j = true → J j V → Own V g 3 (cellsI (cyc p j) ++ more) → W.heap.size < g → ord1 p j ≤ cap → cap ≤ maxLen → (cellsI (cyc p j) ++ more).length = cap → Below w0.heap.size w0 V → Own V bx 22 [.slice A m c] → Prev J j g V →
      YieldAt Fence.wide nn Try.prog l #[.slice (some ⟨g, 0, none⟩) (ord1 p j) cap] V fun e V' => e = .returned (.bool true) ∧ J (j + 1) V' ∧ Keep bx w0.heap.size V V')
    (hskip : ∀ (j : Nat) (V : World), j < m → leastB p j = false → J j V → J (j + 1) V) (h0 : J 0 W) :
    CallsIn Fence.wide (nn + 1) Try.prog 43 #[.func (.yield l) #[] #[], .pointer (some ⟨bx, 0, none⟩)] W fun e W' => (∃ v, e = .returned v) ∧ J m W' ∧ Below w0.heap.size w0 W' := by
  have HP := Lib.hid hp; have HA := Lib.hid hA; have HB0 := Lib.hid hb0; have HST := Lib.hid hst; have HAL := Lib.hid hal; have HY := Lib.hid hy; have HSK := Lib.hid hskip; have HJ0 := Lib.hid h0
  have HX := Lib.hid hbx
  have hm : m ≤ 200 := by have := (right_true hp).1; have := hA.len; omega
  have HL := Lib.hid hA.len
  have q0 : W.cell? ⟨bx, 0, none⟩ = some (.slice A m c) := hbx.cell 0
  have z0 := hbx.lt
  have hmk := mk_bools m (by omega)
  clear hp hA hb0 hst hal hy hskip h0 hbx
  refine callsIn_of_wp Try.func43 rfl trivial ?_ rfl
  simp only [Try.ntmps43, List.size_toArray, List.length_cons, List.length_nil, Nat.reduceAdd, Nat.reduceSub, Array.replicate_succ, Array.replicate_zero, List.push_toArray, List.append_toArray, List.nil_append, List.cons_append]
  gi_wp2
  gi_loopw [4, 5, 6, 12] (fun _ _ _ s12 V => ItO w0 W bx m c A p J s12 V) (fun _ _ _ s12 _ => m - (intOf s12).toNat)
  case atStart => exact ⟨0, Nat.zero_le _, rfl, HAL.out _ _ _ HJ0.out, Own.new' rfl, HX.out.alloc _, HB0.out.alloc HB0.out.size _, by simp⟩
  case round =>
    obtain ⟨j, hj, rfl, hJ, hM, hX, hB, hsz⟩ := hrel
    have HJ := Lib.hid hJ; have HM := Lib.hid hM; have HX1 := Lib.hid hX; have HB := Lib.hid hB
    have HBW := Lib.hid HB0.out
    clear hJ hM hX hB HX HJ0 HB0 q0
    by_cases hlt : j < m
    · have hjl : j < p.length := by have := HL.out; omega
      have cm : wr.cell? ⟨W.heap.size, j, none⟩ = some (.bool (!leastB p j)) := (HM.out.cell j).trans ((metL_at hlt).trans (by rw [met_first HP.out hjl]))
      have zm := HM.out.lt
      have q1 : wr.cell? ⟨bx, 0, none⟩ = some (.slice A m c) := HX1.out.cell 0
      have z1 := HX1.out.lt
      cases hl : leastB p j with
      | false =>
        rw [hl] at cm
        have HS := Lib.hid (cycs_step_no hl)
        have HJ2 := Lib.hid (HSK.out j wr hlt hl HJ.out)
        clear hl
        gi_wp2
        go_roundw
        case rel => exact ⟨j + 1, by omega, by go_num, HJ2.out, by rw [HS.out]; exact HM.out, HX1.out, HB.out, hsz⟩
        case measure => simp [intOf]; omega
      | true =>
        rw [hl] at cm
        have HLe := Lib.hid hl
        clear hl
        obtain ⟨V1, hV1⟩ : ∃ V1, V1 = wr := ⟨_, rfl⟩
        subst hV1
        gi_wp2
        gi_loopw [5, 6] (fun s5 s6 V => ItI w0 W V1 bx m c A p j s5 s6 V) (fun s5 _ _ => ord1 p j - lenV s5)
        case atStart =>
          exact ⟨0, Nat.zero_le _, rfl, by rw [List.take_zero]; exact RowI.start _ _ (Nat.le_refl _), by rw [List.take_zero, List.append_nil]; exact HM.out.alloc _, HX1.out.alloc _, HB.out.alloc HB.out.size _, grown_alloc (World.grownBy.refl _ _) _, rfl⟩
        case round =>
          obtain ⟨k, hk, rfl, hrow, hM2, hX2, hB2, hG, hlen⟩ := hrel
          have HR := Lib.hid hrow; have HM2 := Lib.hid hM2; have HX2 := Lib.hid hX2; have HB2 := Lib.hid hB2; have HG := Lib.hid hG; have HLN := Lib.hid hlen
          have z2 := hM2.lt
          have z3 := hX2.lt
          clear hrow hM2 hX2 hB2 hG hlen cm q1
          have hB1s := HB.out.size
          have hg2 := HG.out.size
          by_cases hkl : k < ord1 p j
          · obtain ⟨b, off, rfl, hb, hc⟩ := rd_int HA.out.rd (by omega)
            have htm : it p k j < m := by have := it_lt HP.out hjl k; have := HL.out; omega
            have cm : wr.cell? ⟨W.heap.size, it p k j, none⟩ = some (.bool false) := (HM2.out.cell _).trans ((metL_at htm).trans (by rw [met_way HP.out hjl HLe.out hkl]))
            have fm := HM2.out.frozen (it p k j)
            have hpt := at0_eq HP.out (it_lt HP.out hjl k)
            have HC := Lib.hid (fun V hV => hc V hV _ _ hpt)
            have HN := Lib.hid (show at0 p (it p k j) = it p (k + 1) j from rfl)
            have HT := Lib.hid (show (cyc p j).take k ++ [((it p k j : Nat) : Int)] = (cyc p j).take (k + 1) by rw [List.take_add_one, cyc_at hkl]; rfl)
            have HTL := Lib.hid (show ((cyc p j).take k).length = k by rw [List.length_take, length_cyc]; omega)
            have hol := (ord1_spec HP.out hjl).2.1
            rw [HN.out] at HC
            have HMs := Lib.hid (show Own (wr.setCell ⟨W.heap.size, it p k j, none⟩ (.bool true)) W.heap.size 4 (metL m ((cycs p j).flatten ++ (cyc p j).take (k + 1))) by
              have h := HM2.out.set (it p k j) (.bool true)
              rw [metL_set, List.append_assoc, HT.out] at h
              exact h)
            generalize it p k j = t at htm cm fm HT HMs HC ⊢
            obtain ⟨t2, ht2⟩ : ∃ t2, it p (k + 1) j = t2 := ⟨_, rfl⟩
            rw [ht2] at HC
            have HT2 := Lib.hid ht2
            clear ht2
            have HRs := Lib.hid (HR.out.far HM2.out (by decide) t (.bool true))
            have HXs := Lib.hid (HX2.out.far (p := ⟨W.heap.size, t, none⟩) (HX2.out.ne HM2.out (by decide)) (.bool true))
            have HBs := Lib.hid (HB2.out.setCell (p := ⟨W.heap.size, t, none⟩) (show w0.heap.size ≤ W.heap.size by have := HBW.out.size; omega) (.bool true))
            have HGs := Lib.hid (grown_set HG.out (p := ⟨W.heap.size, t, none⟩) (.inl rfl) (.bool true))
            have hzs : V1.heap.size ≤ (wr.setCell ⟨W.heap.size, t, none⟩ (.bool true)).heap.size := HGs.out.size
            clear hpt hc HN
            have HA1 := Lib.hid (HRs.out.below (alloc_below _ (.cells #[.int .i64 (t : Int)] 3)))
            have HA2 := Lib.hid (show Rd ((wr.setCell ⟨W.heap.size, t, none⟩ (.bool true)).alloc (.cells #[.int .i64 (t : Int)] 3)) (some ⟨wr.heap.size, 0, none⟩) (cellsI [(t : Int)]) from (Own.new' (g := wr.heap.size) (vs := [.int .i64 (t : Int)]) (by simp)).rd)
            have hs1 : ((cyc p j).take k).length + 1 ≤ 1000000 := by have := HTL.out; have := HL.out; omega
            have hs2 : V1.heap.size ≤ ((wr.setCell ⟨W.heap.size, t, none⟩ (.bool true)).alloc (.cells #[.int .i64 (t : Int)] 3)).heap.size := by simp; omega
            have HS1 := Lib.hid hs1; have HS2 := Lib.hid hs2
            clear hs1 hs2 hzs
            gi_wp2_with (gi_at_builtin; refine wpListIn_append_ints rfl (.tmp 33) (.tmp 35) rfl (some ⟨wr.heap.size, 0, none⟩) 1 1 (k := [(t : Int)]) rfl rfl HA1.out rfl HA2.out HS1.out HS2.out ?_)
            intro v3 w3 hr3 hb3
            have HR3 := Lib.hid (show RowI V1.heap.size w3 v3 ((cyc p j).take (k + 1)) by rw [← HT.out]; exact hr3)
            have HM3 := Lib.hid ((HMs.out.alloc (.cells #[.int .i64 (t : Int)] 3)).below hb3 zm)
            have HX3 := Lib.hid ((HXs.out.alloc (.cells #[.int .i64 (t : Int)] 3)).below hb3 z1)
            have hbs : Below w0.heap.size w0 ((wr.setCell ⟨W.heap.size, t, none⟩ (.bool true)).alloc (.cells #[.int .i64 (t : Int)] 3)) := HBs.out.alloc HBs.out.size _
            have HB3 := Lib.hid (hbs.trans (hb3.mono hB1s))
            have HG3 := Lib.hid (grown_join (grown_alloc HGs.out (.cells #[.int .i64 (t : Int)] 3)) hb3 (Nat.le_refl _))
            have hl3 := HR3.out.lenV
            rw [List.length_take, length_cyc, Nat.min_eq_left (by omega)] at hl3
            have HL3 := Lib.hid hl3
            have q3 : w3.cell? ⟨bx, 0, none⟩ = some (.slice (some ⟨b, off, none⟩) m c) := HX3.out.cell 0
            have z4 := HX3.out.lt
            have q4 := HC.out w3 HB3.out
            clear hr3 hb3 hbs hl3 HR HM2 HX2 HB2 HG HRs HXs HBs HGs HMs cm fm
            gi_wp2
            go_roundw
            case rel => exact ⟨k + 1, by omega, by rw [HT2.out], HR3.out, HM3.out, HX3.out, HB3.out, HG3.out, HL3.out⟩
            case measure => have := HL3.out; have := HLN.out; omega
          · obtain rfl : ord1 p j = k := by omega
            have htm : it p (ord1 p j) j < m := by have := it_lt HP.out hjl (ord1 p j); have := HL.out; omega
            have HT := Lib.hid (show (cyc p j).take (ord1 p j) = cyc p j from List.take_of_length_le (by rw [length_cyc]; exact Nat.le_refl _))
            have HMf := Lib.hid (show Own wr W.heap.size 4 (metL m (cycs p (j + 1)).flatten) by have h := HM2.out; rw [HT.out, ← flat_step_yes HLe.out] at h; exact h)
            have cm : wr.cell? ⟨W.heap.size, it p (ord1 p j) j, none⟩ = some (.bool true) := (HM2.out.cell _).trans ((metL_at htm).trans (by rw [HT.out, met_end HP.out hjl]))
            have HJ2 := Lib.hid (HST.out j V1 wr _ HJ.out HM.out HG.out)
            have hrow := HR.out
            rw [HT.out] at hrow
            rcases hrow with ⟨h0, _⟩ | ⟨g, cap, more, e5, hgb, ho, hcl, hcm, hce⟩
            · exact absurd (congrArg List.length h0) (by rw [length_cyc]; have := ord1_pos p j; simp; omega)
            · rw [length_cyc] at e5 hcl
              obtain ⟨fn, tmps, assign, body, hyy, hR⟩ := HY.out j wr g cap more hlt HLe.out HJ2.out ho (by omega) hcl hcm hce HB2.out HX2.out ⟨V1, HJ.out, hgb, fun b t vs ht ho => ho.grown' HM.out ht HG.out⟩
              subst e5
              have HRR := Lib.hid hR
              generalize it p (ord1 p j) j = t at htm cm ⊢
              clear hR ho hce HR HM2
              gi_wp2
              refine HRR.out.mono ?_
              rintro e V2 ⟨rfl, hJ3, hK3⟩
              have HJ3 := Lib.hid hJ3; have HK3 := Lib.hid hK3
              clear hJ3 hK3 hyy HRR
              gi_wp2
              go_roundw
              case rel => exact ⟨j + 1, by omega, by go_num, HJ3.out, HK3.out.met _ _ HMf.out, HK3.out.box.trans HX2.out, HB2.out.trans HK3.out.bel, Nat.le_trans (by omega) HK3.out.size⟩
              case measure => simp [intOf]; omega
    · obtain rfl : m = j := by omega
      gi_wp2
      go_end0
      exact ⟨⟨_, rfl⟩, HJ.out, HB.out⟩
end Go.Proofs.Ytccaagildkgfeaa
