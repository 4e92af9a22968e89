/- Appends of a word; walks: fretworkref16.mod, Turn, Flip. -/
import Derived.Test.YtmfeponanjgapaaWq2
namespace Go.Proofs.Ytmfeponanjgapaa
open Go.RowKit

section
variable {W W' : World} {v x : Value} {l : List UInt8} {ws : List (List UInt8)} {B : Nat}
theorem RowB.wdo (h : RowB B W v l) : WdO W v l := by
  rcases h with ⟨rfl, rfl⟩ | ⟨g, cap, more, e, hg, ho, h⟩
  · exact ⟨none, 0, rfl, .inl rfl⟩
  · exact ⟨_, cap, e, .inr ⟨g, more, rfl, ho.mark⟩⟩
theorem RowB.start (W : World) (B : Nat) (hB : B ≤ W.heap.size) : RowB B (W.alloc (.cells #[] 5)) (.slice (some ⟨W.heap.size, 0, none⟩) 0 0) [] :=
  .inr ⟨W.heap.size, 0, [], rfl, hB, Own.new' (vs := []) rfl, Nat.le_refl _, Nat.zero_le _, rfl⟩
theorem WdO.one' (h : WdO W v l) : v.oneCell' = true := by
  obtain ⟨A, c, rfl, _⟩ := h
  rfl
/-- append of a word to words of the call's own. -/
theorem run_append_word (ty : TypeId) (g0 : Nat) (h1 : RowW B W v ws) (hx : Own W g0 36 [x]) (hv : WdO W x l) (hsz : ws.length ≤ 100000) (hB : B ≤ W.heap.size) :
    ∃ v' w', (Builtin.append_ #[22, 22] ty #[v, .slice (some ⟨g0, 0, none⟩) 1 1]).run Try.prog W = .ok v' w' ∧ RowW B w' v' (ws ++ [l]) ∧ Below B W w' := by
  obtain ⟨i0, hi, hz0, hz1, hz2⟩ := info_parts infoW
  have hown : ∃ vs, vs.length = ws.length ∧ W.ownsRow B 36 1 v ws.length vs ∧ ∀ (i : Nat) (v : Value) (l : List UInt8), vs[i]? = some v → ws[i]? = some l → WdO W v l := by
    rcases h1 with ⟨rfl, rfl⟩ | ⟨g, cap, vs, more, rfl, hg, ho, r1, r2, r3, r4, r5⟩
    · exact ⟨[], rfl, World.ownsRow_nil _ _ _ _, fun i v l h => by simp at h⟩
    · exact ⟨vs, r1, owns_of_own ho hg (by rw [r1, Nat.mul_one]) r2 r3 (by rw [r4, Nat.mul_one]), r5⟩
  obtain ⟨vs, hvl, hown, hall⟩ := hown
  obtain ⟨v', w', e, hown', hgrow, hnil, hblk⟩ := run_append_own_at (P := Try.prog) W B 22 ty 36 i0 (.slice none 0 0) 1 24 Try.underlying22 hi hz0 hz1 hz2 rfl (by decide) v ws.length vs hown ⟨g0, 0, none⟩ 1 1 [x] rfl (fun j u hj => hx.add hj) (by simp [hv.one']) (by unfold maxLen; omega) (by omega) hB
  obtain ⟨g, cap, more, rfl, hg, hO, p1, p2, p3⟩ := row_own hown' (fun e => by have := (hnil.1 e).2; omega)
  have key : Below B W w' ∧ ∀ u k, WdO W u k → WdO w' u k := by
    rcases h1 with ⟨_, rfl⟩ | ⟨g1, cap1, vs1, more1, rfl, hg1, ho1, _⟩
    · exact ⟨(below_none hgrow).mono hB, fun u k h => h.below (below_none hgrow)⟩
    · exact ⟨grown_below hgrow hg1 hB, fun u k h => h.grown ho1 hgrow⟩
  exact ⟨_, w', e, RowW.more hg hO hvl p1 p2 (by rw [p3, Nat.mul_one]) (fun i u k hu hk => key.2 _ _ (hall i u k hu hk)) (key.2 _ _ hv), key.1⟩
theorem wpList_append_word {ops : Array Oper} {rest : List Oper} {o : Oper} {a : Act} {Q : Exit → Act → World → Prop} (hgd : o.guard = none) (s y : Operand)
    (ho : o.op = .call { callee := .builtin .append, args := #[s, y], argTypes := #[22, 22] }) (g0 : Nat) (hs : a.eval s = v) (hy : a.eval y = .slice (some ⟨g0, 0, none⟩) 1 1) (h1 : RowW B W v ws) (hx : Own W g0 36 [x]) (hv : WdO W x l) (hsz : ws.length ≤ 100000) (hB : B ≤ W.heap.size)
    (h : ∀ v' w', RowW B w' v' (ws ++ [l]) → Below B W w' → wpList Try.prog ops Q rest (a.put o.dst v') w') : wpList Try.prog ops Q (o :: rest) a W := by
  obtain ⟨v', w', e, q1, q2⟩ := run_append_word o.type g0 h1 hx hv hsz hB
  refine wpList_plain hgd fun K hK => ?_
  unfold Oper.wp execOp
  simp only [ho, resolve, invoke, builtin, Sem.run_bind, Sem.run_pure, Result.andThen_ok, List.map_toArray, List.map_cons, List.map_nil, hs, hy, e]
  exact hK _ _ (h v' w' q1 q2)
end
set_option maxRecDepth 100000 in
theorem mod_any (k : Int) (n : Nat) (w : World) (h0 : 0 < n) (hn : n ≤ 1000) :
    Calls Try.prog 28 #[.int .i64 k, .int .i64 n] w fun e w' => e = .returned (.int .i64 (turnK n k)) ∧ w = w' := by
  have hz : ((n : Int) == 0) = false := by rw [beq_eq_false_iff_ne]; omega
  have e1 : (turnK n k : Int) = if k.tmod n < 0 then k.tmod n + n else k.tmod n := by
    unfold turnK
    rw [Int.toNat_of_nonneg (Int.emod_nonneg k (by omega))]
    rcases Int.lt_or_le k 0 with h | h
    · have e2 := Int.tmod_def k n
      have e3 := Int.tmod_eq_emod (a := k) (b := n)
      rw [e3]
      have h4 := Int.emod_nonneg k (b := (n : Int)) (by omega)
      have h5 := Int.emod_lt_of_pos k (b := (n : Int)) (by omega)
      split
      · rename_i h6
        rw [if_neg (by omega)]; omega
      · rename_i h6
        rw [if_pos (by have : ((n : Int)).natAbs = n := by simp
                       omega)]
        have : (((n : Int)).natAbs : Int) = n := by simp
        omega
    · have e3 : k.tmod n = k % n := Int.tmod_eq_emod_of_nonneg h
      have h4 := Int.emod_nonneg k (b := (n : Int)) (by omega)
      rw [e3, if_neg (by omega)]
  obtain ⟨r, hr⟩ : ∃ r, k.tmod (n : Int) = r := ⟨_, rfl⟩
  have hr0 : -1000 < r := by rw [← hr]; have := Int.lt_tmod_of_pos k (b := (n : Int)) (by omega); omega
  have hr1 : r < 1000 := by rw [← hr]; have := Int.tmod_lt_of_pos k (b := (n : Int)) (by omega); omega
  rw [hr] at e1
  have E1 := Lib.hid e1
  clear e1
  by_cases hneg : r < 0
  · go_enter Try.func28, Try.ntmps28
    go_wp2
    go_ret
    exact ⟨by rw [E1.out, if_pos hneg]; rfl, rfl⟩
  · have hd : decide (r < 0) = false := by rw [decide_eq_false_iff_not]; exact hneg
    go_enter Try.func28, Try.ntmps28
    go_wp2
    go_ret
    exact ⟨by rw [E1.out, if_neg (by omega)]; rfl, rfl⟩
/-- A word of a list that reads, its cell known. -/
theorem RdW.word {w : World} {A : Option Addr} {ws : List (List UInt8)} (h : RdW w A ws) {j : Nat} (hj : j < ws.length) : ∃ b off B c l, A = some ⟨b, off, none⟩ ∧ b < w.heap.size ∧ ws[j]? = some l ∧ (∀ V, Below w.heap.size w V → V.cell? ⟨b, off + j, none⟩ = some (.slice B l.length c)) ∧ Rd w B (cellsB l) := by
  obtain ⟨b, off, h0, h1⟩ := h.at
  obtain ⟨hA, hb⟩ := h0 (by omega)
  obtain ⟨l, hl⟩ : ∃ l, ws[j]? = some l := ⟨_, List.getElem?_eq_getElem hj⟩
  obtain ⟨B, c, hc, hr⟩ := h1 j l hl
  exact ⟨b, off, B, c, l, hA, hb, hl, fun V hV => ((below_cells hV).1 _ _ hb).trans hc, hr⟩
def TurL (w : World) (n : Nat) (ws : List (List UInt8)) (o i : Value) (wr : World) : Prop := ∃ k : Nat, k ≤ n ∧ i = .int .i64 (k : Int) ∧ RowW w.heap.size wr o (ws.take k) ∧ Below w.heap.size w wr
set_option maxRecDepth 100000 in
set_option maxHeartbeats 4000000 in
theorem refTurn_any (A : Option Addr) (c n : Nat) (k : Int) (ws : List (List UInt8)) (w : World) (hr : RdW w A ws) (hl : n = ws.length) (hn : n ≤ 1000) (hs : ∀ l ∈ ws, l.length ≤ 1000) :
    Calls Try.prog 14 #[.slice A n c, .int .i64 k] w (FreshR w (turnW ws (turnK n k))) := by
  have HR := Lib.hid hr
  have HL := Lib.hid hl; have HS := Lib.hid hs
  clear hr hl hs
  obtain ⟨kk, hkk⟩ : ∃ kk, turnK n k = kk := ⟨_, rfl⟩
  have HKK := Lib.hid hkk
  rw [hkk]
  clear hkk
  have HTL := Lib.hid (show (turnW ws kk).length = n by rw [length_turnW, HL.out])
  go_enter Try.func14, Try.ntmps14
  go_wp2
  go_loopw [5, 6] (fun o i wr => TurL w n (turnW ws kk) o i wr) (fun _ i _ => n - (intOf i).toNat)
  case atStart => exact ⟨0, Nat.zero_le _, rfl, .inl ⟨rfl, rfl⟩, Below.refl _ w⟩
  case round =>
    obtain ⟨i, hi, rfl, hrow, hbw⟩ := hrel
    have HB := Lib.hid hbw
    have HW := Lib.hid hrow
    clear hbw hrow
    by_cases hlt : i < n
    · have hn0 : 0 < n := by omega
      obtain ⟨j, hj⟩ : ∃ j, (kk + i) % n = j := ⟨_, rfl⟩
      have hjn : j < n := by rw [← hj]; exact Nat.mod_lt _ hn0
      have hkl : kk < n := by rw [← HKK.out]; exact turnK_lt hn0 k
      have hji : ((kk : Int) + (i : Int)) % (n : Int) = (j : Int) := by rw [← hj, Int.natCast_emod, Int.natCast_add]
      obtain ⟨b, off, B', c', l, rfl, hbl, hlj, hcell, hrl⟩ := HR.out.word (j := j) (by have := HL.out; omega)
      have hl1 : l.length ≤ 1000 := HS.out l (List.mem_of_getElem? hlj)
      have hat : (turnW ws kk)[i]? = some l := by
        have h1 := turnW_at (ws := ws) (j := kk) (t := i) (by have := HL.out; omega) (by have := HL.out; omega)
        rw [← HL.out, hj] at h1
        unfold wd at h1
        rw [List.getD_eq_getElem?_getD, List.getD_eq_getElem?_getD, hlj, List.getElem?_eq_getElem (by have := HTL.out; omega)] at h1
        rw [List.getElem?_eq_getElem (by have := HTL.out; omega)]
        exact congrArg some h1
      have HT := Lib.hid (show (turnW ws kk).take i ++ [l] = (turnW ws kk).take (i + 1) by rw [List.take_add_one, hat]; rfl)
      have HCL := Lib.hid hcell; have HRL := Lib.hid hrl
      have HMK := Lib.hid (mod_any k n (wr.alloc (.cells #[] 5)) hn0 hn)
      rw [HKK.out] at HMK
      have hz : ((n : Int) == 0) = false := by rw [beq_eq_false_iff_ne]; omega
      clear hj hlj hcell hrl hat
      have hb1 := Lib.hid (HB.out.alloc HB.out.size (.cells #[] 5))
      have cj := HCL.out (wr.alloc (.cells #[] 5)) hb1.out
      have HJI := Lib.hid hji
      clear hji
      go_wp2_with fail
      refine HMK.out.mono ?_
      rintro e _ ⟨rfl, rfl⟩
      have hji := HJI.out
      have HS0 := Lib.hid (RowB.start wr wr.heap.size (Nat.le_refl _))
      go_wp2_with (at_builtin; refine wpList_append_bytes rfl (.tmp 14) (.tmp 26) rfl B' l.length c' (k := l) rfl rfl HS0.out rfl (HRL.out.below hb1.out) (by simp; omega) (by simp) ?_)
      intro v2 w2 hr2 hb2 _
      obtain ⟨A2, c2, rfl, hv2⟩ := (show RowB wr.heap.size w2 v2 l from hr2).wdo
      have hb3 : Below wr.heap.size wr w2 := (alloc_below wr (.cells #[] 5)).trans hb2
      have HV2 := Lib.hid (show WdO (w2.alloc (.cells #[.slice A2 l.length c2] 36)) (.slice A2 l.length c2) l from WdO.below (w := w2) ⟨A2, c2, rfl, hv2⟩ (alloc_below _ _))
      have HB2 := Lib.hid (below_chain (HB.out.trans (hb3.mono HB.out.size)) ((alloc_below w2 (.cells #[.slice A2 l.length c2] 36))))
      have HW2 := Lib.hid ((HW.out.below hb3).below (alloc_below w2 (.cells #[.slice A2 l.length c2] 36)))
      have HTK := Lib.hid (show ((turnW ws kk).take i).length ≤ 100000 by rw [List.length_take]; omega)
      clear hr2 hb2 hv2 hb3 HS0 cj HB HW
      go_wp2_with (at_builtin; refine wpList_append_word rfl (.tmp 13) (.tmp 28) rfl w2.heap.size rfl rfl HW2.out (Own.new' (vs := [.slice A2 l.length c2]) rfl) HV2.out HTK.out HB2.out.size ?_)
      intro v3 w3 hr3 hb3
      have HR3 := Lib.hid (show RowW w.heap.size w3 v3 ((turnW ws kk).take (i + 1)) by rw [← HT.out]; exact hr3)
      have HB3 := Lib.hid (HB2.out.trans hb3)
      clear hr3 hb3 hji HJI
      go_wp2
      go_roundw
      case rel => exact ⟨i + 1, by omega, by go_num, HR3.out, HB3.out⟩
      case measure => simp [intOf]; omega
    · obtain rfl : i = n := by omega
      have HT := Lib.hid (show (turnW ws kk).take i = turnW ws kk from List.take_of_length_le (by rw [HTL.out]; exact Nat.le_refl _))
      go_wp2
      go_ret
      exact ⟨_, rfl, by have := HW.out; rw [HT.out] at this; exact this, HB.out⟩
def FliL (w : World) (n : Nat) (ws : List (List UInt8)) (o i : Value) (wr : World) : Prop := ∃ k : Nat, k ≤ n ∧ i = .int .i64 ((n : Int) - 1 - k) ∧ RowW w.heap.size wr o (ws.take k) ∧ Below w.heap.size w wr
set_option maxRecDepth 100000 in
set_option maxHeartbeats 4000000 in
theorem refFlip_any (A : Option Addr) (c n : Nat) (ws : List (List UInt8)) (w : World) (hr : RdW w A ws) (hl : n = ws.length) (hn : n ≤ 1000) (hs : ∀ l ∈ ws, l.length ≤ 1000) :
    Calls Try.prog 16 #[.slice A n c] w (FreshR w ws.reverse) := by
  have HR := Lib.hid hr
  have HL := Lib.hid hl; have HS := Lib.hid hs
  clear hr hl hs
  obtain ⟨us, hus⟩ : ∃ us, ws.reverse = us := ⟨_, rfl⟩
  have HU := Lib.hid hus
  rw [hus]
  clear hus
  have HTL := Lib.hid (show us.length = n by rw [← HU.out, List.length_reverse, HL.out])
  go_enter Try.func16, Try.ntmps16
  go_wp2
  go_loopw [3, 4] (fun o i wr => FliL w n us o i wr) (fun _ i _ => (intOf i + 1).toNat)
  case atStart => exact ⟨0, Nat.zero_le _, by simp, .inl ⟨rfl, rfl⟩, Below.refl _ w⟩
  case round =>
    obtain ⟨i, hi, rfl, hrow, hbw⟩ := hrel
    have HB := Lib.hid hbw
    have HW := Lib.hid hrow
    clear hbw hrow
    by_cases hlt : i < n
    · obtain ⟨j, hj⟩ : ∃ j, n - 1 - i = j := ⟨_, rfl⟩
      have hjn : j < n := by omega
      obtain ⟨b, off, B', c', l, rfl, hbl, hlj, hcell, hrl⟩ := HR.out.word (j := j) (by have := HL.out; omega)
      have hl1 : l.length ≤ 1000 := HS.out l (List.mem_of_getElem? hlj)
      have hat : us[i]? = some l := by
        rw [← HU.out, List.getElem?_reverse (by have := HL.out; omega), ← HL.out, hj, hlj]
      have HT := Lib.hid (show us.take i ++ [l] = us.take (i + 1) by rw [List.take_add_one, hat]; rfl)
      have HCL := Lib.hid hcell; have HRL := Lib.hid hrl
      have hji : (n : Int) - 1 - (i : Int) = (j : Int) := by omega
      have hin : i + 1 ≤ n := hlt
      rw [hji]
      have HJI := Lib.hid (show (n : Int) - 1 - ((i + 1 : Nat) : Int) = (j : Int) - 1 by omega)
      have HM := Lib.hid (show i + 1 ≤ n ∧ j < n from ⟨hin, hjn⟩)
      clear hj hlj hcell hrl hat hji hi
      have hb1 := Lib.hid (HB.out.alloc HB.out.size (.cells #[] 5))
      have cj := HCL.out (wr.alloc (.cells #[] 5)) hb1.out
      have HS0 := Lib.hid (RowB.start wr wr.heap.size (Nat.le_refl _))
      go_wp2_with (at_builtin; refine wpList_append_bytes rfl (.tmp 13) (.tmp 17) rfl B' l.length c' (k := l) rfl rfl HS0.out rfl (HRL.out.below hb1.out) (by simp; omega) (by simp) ?_)
      intro v2 w2 hr2 hb2 _
      obtain ⟨A2, c2, rfl, hv2⟩ := (show RowB wr.heap.size w2 v2 l from hr2).wdo
      have hb3 : Below wr.heap.size wr w2 := (alloc_below wr (.cells #[] 5)).trans hb2
      have HV2 := Lib.hid (show WdO (w2.alloc (.cells #[.slice A2 l.length c2] 36)) (.slice A2 l.length c2) l from WdO.below (w := w2) ⟨A2, c2, rfl, hv2⟩ (alloc_below _ _))
      have HB2 := Lib.hid (below_chain (HB.out.trans (hb3.mono HB.out.size)) ((alloc_below w2 (.cells #[.slice A2 l.length c2] 36))))
      have HW2 := Lib.hid ((HW.out.below hb3).below (alloc_below w2 (.cells #[.slice A2 l.length c2] 36)))
      have HTK := Lib.hid (show (us.take i).length ≤ 100000 by rw [List.length_take]; omega)
      clear hr2 hb2 hv2 hb3 HS0 cj HB HW
      go_wp2_with (at_builtin; refine wpList_append_word rfl (.tmp 12) (.tmp 19) rfl w2.heap.size rfl rfl HW2.out (Own.new' (vs := [.slice A2 l.length c2]) rfl) HV2.out HTK.out HB2.out.size ?_)
      intro v3 w3 hr3 hb3
      have HR3 := Lib.hid (show RowW w.heap.size w3 v3 (us.take (i + 1)) by rw [← HT.out]; exact hr3)
      have HB3 := Lib.hid (HB2.out.trans hb3)
      clear hr3 hb3
      go_wp2
      go_roundw
      case rel => exact ⟨i + 1, HM.out.1, by rw [HJI.out], HR3.out, HB3.out⟩
      case measure => simp [intOf]
    · obtain rfl : i = n := by omega
      have HT := Lib.hid (show us.take i = us from List.take_of_length_le (by rw [HTL.out]; exact Nat.le_refl _))
      have hneg : (i : Int) - 1 - (i : Int) = -1 := by omega
      rw [hneg]
      clear hneg
      go_wp2
      go_ret
      exact ⟨_, rfl, by have := HW.out; rw [HT.out] at this; exact this, HB.out⟩
end Go.Proofs.Ytmfeponanjgapaa
