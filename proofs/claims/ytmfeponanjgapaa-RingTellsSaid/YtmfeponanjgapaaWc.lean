/- Walks: ring.Turn. -/
import Derived.Test.YtmfeponanjgapaaWb
import Derived.Deep.RegionLaw
import Derived.IntWalk
namespace Go.Proofs.Ytmfeponanjgapaa
open Go.RowKit

section
variable {w0 W : World} {v v1 v2 : Value} {l : List UInt8} {ws1 ws2 : List (List UInt8)} {B : Nat}
theorem WdO.one (h : WdO W v l) : v.oneCell' = true := by
  obtain ⟨A, c, rfl, _⟩ := h
  rfl
theorem RowW.cat {g cap : Nat} {us vs more : List Value} (hB : B ≤ g) (ho : Own W g 36 ((us ++ vs) ++ more)) (h1 : us.length = ws1.length) (h1' : vs.length = ws2.length) (h2 : ws1.length + ws2.length ≤ cap) (h3 : cap ≤ maxLen) (h4 : ((us ++ vs) ++ more).length = cap)
    (h5 : ∀ (i : Nat) (v : Value) (l : List UInt8), us[i]? = some v → ws1[i]? = some l → WdO W v l) (h6 : ∀ (i : Nat) (v : Value) (l : List UInt8), vs[i]? = some v → ws2[i]? = some l → WdO W v l) : RowW B W (.slice (some ⟨g, 0, none⟩) (ws1.length + ws2.length) cap) (ws1 ++ ws2) := by
  refine .inr ⟨g, cap, us ++ vs, more, by rw [List.length_append], hB, ho, by simp [h1, h1'], by simpa using h2, h3, h4, fun i u k hu hk => ?_⟩
  rcases Nat.lt_or_ge i ws1.length with hi | hi
  · rw [List.getElem?_append_left (by omega)] at hu
    rw [List.getElem?_append_left hi] at hk
    exact h5 i u k hu hk
  · rw [List.getElem?_append_right (by omega)] at hu
    rw [List.getElem?_append_right hi] at hk
    rw [h1] at hu
    exact h6 _ u k hu hk
/-- append of words of the call's own to words of the call's own. -/
theorem step_append_words {ops : Array Oper} {o : Oper} {a : Act} {K : Act → World → Prop} {Q : Exit → Act → World → Prop} {E : Prop} (hgd : o.guard = none) (s x : Operand)
    (ho : o.op = .call { callee := .builtin .append, args := #[s, x], argTypes := #[22, 22] }) (hs : a.eval s = v1) (hx : a.eval x = v2) (h1 : RowW w0.heap.size W v1 ws1) (h2 : RowW w0.heap.size W v2 ws2) (hne : ws1 ≠ []) (hsz : ws1.length + ws2.length ≤ 1000) (hb : Below w0.heap.size w0 W)
    (h : ∀ v w', RowW w0.heap.size w' v (ws1 ++ ws2) → Below w0.heap.size w0 w' → K (a.put o.dst v) w') : if Region.wanted o (yielded ops a.tmps) = true then Oper.wp Try.prog o a W K Q else E := by
  have hB := hb.size
  have hw : Region.wanted o (yielded ops a.tmps) = true := by simp [Region.wanted, hgd]
  rw [if_pos hw]
  obtain ⟨i0, hi, hz0, hz1, hz2⟩ := info_parts infoW
  rcases h1 with ⟨h0, _⟩ | ⟨g, cap, us, more, rfl, hg, ho1, r1, r2, r3, r4, r5⟩
  · exact absurd h0 hne
  have hr : ∃ v w', (Builtin.append_ #[22, 22] o.type #[.slice (some ⟨g, 0, none⟩) ws1.length cap, v2]).run Try.prog W = .ok v w' ∧ RowW w0.heap.size w' v (ws1 ++ ws2) ∧ Below w0.heap.size W w' := by
    rcases h2 with ⟨rfl, rfl⟩ | ⟨g2, cap2, vs, more2, rfl, hg2, ho2, q1, q2, q3, q4, q5⟩
    · refine ⟨.slice (some ⟨g, 0, none⟩) ws1.length cap, W, ?_, ?_, Below.refl _ _⟩
      · simp [Builtin.append_, run_underlying Try.underlying22, sizeOf, typeInfo, hi, Builtin.lenOf, Builtin.firstCells, r2, storeCells]
      · rw [List.append_nil]
        exact .inr ⟨g, cap, us, more, rfl, hg, ho1, r1, r2, r3, r4, r5⟩
    · obtain ⟨v', w', e, hown, hgrow, hnil, hblk⟩ := run_append_own_at (P := Try.prog) W w0.heap.size 22 o.type 36 i0 (.slice none 0 0) 1 24 Try.underlying22 hi hz0 hz1 hz2 rfl (by decide) _ ws1.length us
        (owns_of_own ho1 hg (by omega) r2 r3 (by omega)) ⟨g2, 0, none⟩ ws2.length cap2 vs (by omega) (fun j u hj => ho2.add (by rw [List.getElem?_append_left (List.getElem?_eq_some_iff.1 hj).1]; exact hj)) (fun u hu => by
          obtain ⟨j, hj⟩ := List.mem_iff_getElem?.1 hu
          have hlt := (List.getElem?_eq_some_iff.1 hj).1
          exact (q5 j u _ hj (List.getElem?_eq_getElem (by omega))).one) (by unfold maxLen; omega) (by omega) hB
      refine ⟨v', w', e, ?_⟩
      obtain ⟨g', cap', more', rfl, hg', hO, p1, p2, p3⟩ := row_own hown (fun e => by have := (hnil.1 e).1; cases this)
      have hgb : W.grownBy w' (some g) := hgrow
      exact ⟨RowW.cat hg' hO r1 q1 p1 p2 (by omega) (fun i v l hv hl => (r5 i v l hv hl).grown ho1 hgb) (fun i v l hv hl => (q5 i v l hv hl).grown ho1 hgb), grown_below hgb hg hB⟩
  obtain ⟨v, w', e, hR, hbel⟩ := hr
  unfold Oper.wp execOp
  simp only [ho, resolve, invoke, builtin, Sem.run_bind, Sem.run_pure, Result.andThen_ok, List.map_toArray, List.map_cons, List.map_nil, hs, hx, e]
  exact h _ _ hR (hb.trans hbel)
end
theorem add_off {b off k : Nat} : (⟨b, off, none⟩ : Addr).add k = ⟨b, off + k, none⟩ := by
  unfold Addr.add
  split
  · rename_i e; subst e; rfl
  · rfl
theorem RdW.drop {w : World} {A : Option Addr} {ws : List (List UInt8)} (h : RdW w A ws) (k : Nat) : RdW w (A.map (·.add k)) (ws.drop k) := by
  obtain ⟨vs, h1, h2, h3⟩ := h
  exact ⟨vs.drop k, by simp [h1], h2.drop k, fun i v l hv hl => h3 (k + i) v l (by rwa [List.getElem?_drop] at hv) (by rwa [List.getElem?_drop] at hl)⟩
theorem RdW.take {w : World} {A : Option Addr} {ws : List (List UInt8)} (h : RdW w A ws) (k : Nat) : RdW w A (ws.take k) := by
  obtain ⟨vs, h1, h2, h3⟩ := h
  refine ⟨vs.take k, by simp [h1], h2.take k, fun i v l hv hl => ?_⟩
  rw [List.getElem?_take] at hv hl
  by_cases h : i < k
  · rw [if_pos h] at hv hl
    exact h3 i v l hv hl
  · rw [if_neg h] at hv
    cases hv
theorem RowW.base {B B' : Nat} {W : World} {v : Value} {ws : List (List UInt8)} (h : RowW B W v ws) (hB : B' ≤ B) : RowW B' W v ws := by
  rcases h with h | ⟨g, cap, vs, more, e, hg, h⟩
  · exact .inl h
  · exact .inr ⟨g, cap, vs, more, e, Nat.le_trans hB hg, h⟩
def RowE (w V : World) (ws : List (List UInt8)) (e : Ending) (w' : World) : Prop := ∃ v, e = .returned v ∧ RowW w.heap.size w' v ws ∧ Below V.heap.size V w'
theorem FreshR.at {w V w' : World} {ws : List (List UInt8)} {e : Ending} (hV : Below w.heap.size w V) (h : FreshR V ws e w') : RowE w V ws e w' := by
  obtain ⟨v, h1, h2, h3⟩ := h
  exact ⟨v, h1, h2.base hV.size, h3⟩
/-- Where a turn by k begins. -/
def turnK (n : Nat) (k : Int) : Nat := (k % n).toNat
def turnW (ws : List (List UInt8)) (j : Nat) : List (List UInt8) := ws.drop j ++ ws.take j
theorem turnK_lt {n : Nat} (h : 0 < n) (k : Int) : turnK n k < n := by
  unfold turnK
  have h1 := Int.emod_lt_of_pos k (show (0 : Int) < n by omega)
  have h2 := Int.emod_nonneg k (show (n : Int) ≠ 0 by omega)
  omega
theorem turnK_eq {n : Nat} (h : 0 < n) (k : Int) : (k.tmod n + n).tmod n = (turnK n k : Int) := by
  have h1 := Int.emod_lt_of_pos k (show (0 : Int) < n by omega)
  have h2 := Int.emod_nonneg k (show (n : Int) ≠ 0 by omega)
  have h3 := Int.tmod_lt_of_pos k (show (0 : Int) < n by omega)
  have h4 : -(n : Int) < k.tmod n := by
    have := Int.tmod_lt_of_pos (-k) (show (0 : Int) < n by omega)
    rw [Int.neg_tmod] at this
    omega
  rw [Int.tmod_eq_emod_of_nonneg (by omega), Int.add_emod_right]
  unfold turnK
  rw [Int.toNat_of_nonneg h2, Int.tmod_def, Int.sub_mul_emod_self_left]
set_option maxRecDepth 100000 in
set_option maxHeartbeats 4000000 in
theorem turn_any (A : Option Addr) (c n : Nat) (k : Int) (ws : List (List UInt8)) (w : World) (hr : RdW w A ws) (hl : n = ws.length) (hn : n ≤ 1000) (hc : n ≤ c) (hs : ∀ l ∈ ws, l.length ≤ 1000) :
    Calls Try.prog 10 #[.slice A n c, .int .i64 k] w (FreshR w (turnW ws (turnK n k))) := by
  have HR := Lib.hid hr
  have HL := Lib.hid hl; have HS := Lib.hid hs
  clear hr hl hs
  rcases Nat.eq_zero_or_pos n with h0 | h0
  · subst h0
    go_enter Try.func10, Try.ntmps10
    go_wp2
    go_ret
    have h := HL.out
    have : ws = [] := List.eq_nil_of_length_eq_zero h.symm
    subst this
    exact ⟨_, rfl, .inl ⟨by simp [turnW], rfl⟩, Below.refl _ w⟩
  · have hj := turnK_lt h0 k
    have hq := turnK_eq h0 k
    generalize turnK n k = j at hj hq
    have hz : ((n : Int) == 0) = false := by rw [beq_eq_false_iff_ne]; omega
    have ht1 : k.tmod n < n := Int.tmod_lt_of_pos k (by omega)
    have ht2 : -(n : Int) < k.tmod n := by
      have := Int.tmod_lt_of_pos (-k) (show (0 : Int) < n by omega)
      rw [Int.neg_tmod] at this
      omega
    go_enter Try.func10, Try.ntmps10
    go_wp2
    obtain ⟨b, off, h1, _⟩ := HR.out.at
    have hA := (h1 (by have := HL.out; omega)).1
    subst hA
    clear h1 hq ht1 ht2 hz
    have D1 := Lib.hid (fun (V : World) (hV : Below w.heap.size w V) => (copied_any (some ⟨b, off + j, none⟩) (c - j) (n - j) (ws.drop j) V (by
        have := (HR.out.below hV).drop j
        rwa [Option.map_some, add_off] at this) (by rw [List.length_drop, ← HL.out]) (by omega) (fun l hl => HS.out l (List.mem_of_mem_drop hl))).mono (fun _ _ => FreshR.at hV))
    have D2 := Lib.hid (fun (V : World) (hV : Below w.heap.size w V) => (copied_any (some ⟨b, off, none⟩) c j (ws.take j) V ((HR.out.below hV).take j) (by rw [List.length_take, ← HL.out]; omega) (by omega) (fun l hl => HS.out l (List.mem_of_mem_take hl))).mono (fun _ _ => FreshR.at hV))
    have i0 : (0 : Int) ≤ (j : Int) := by omega
    have i1 : (j : Int) ≤ (n : Int) := by omega
    have i2 : (n : Int) ≤ (c : Int) := by omega
    have i3 : (j : Int) ≤ (c : Int) := by omega
    have i4 : ¬ c = j := by omega
    have D0 := Lib.hid (show Below w.heap.size w w.drew from below_drewN (Below.refl w.heap.size w) 1)
    have N1 := Lib.hid (show ws.drop j ≠ [] by intro e; have := congrArg List.length e; rw [List.length_drop, ← HL.out] at this; simp at this; omega)
    have N2 := Lib.hid (show (ws.drop j).length + (ws.take j).length ≤ 1000 by rw [List.length_drop, List.length_take, ← HL.out]; omega)
    go_region_held3 (fun V => Below w.heap.size w V) (first | assumption | exact D0.out | exact below_chain D0.out hbA | exact below_chain (below_chain D0.out hbA) hbB | exact hbD)
      (first
       | (go_at_call 25; (with_reducible refine (D1.out _ D0.out).mono ?_); rintro e w1 ⟨v1, rfl, hrA, hbA⟩)
       | (go_at_call 25; (with_reducible refine (D2.out _ (below_chain D0.out hbA)).mono ?_); rintro e w2 ⟨v2, rfl, hrB, hbB⟩; have hrC := hrA.below hbB)
       | ((refine step_append_words (by rfl) _ _ (by rfl) (by rfl) (by rfl) (w0 := w) (ws1 := ws.drop j) (ws2 := ws.take j) hrC hrB N1.out N2.out (below_chain (below_chain D0.out hbA) hbB) ?_); intro v3 w3 hrD hbD))
    have HD := Lib.hid hrD; have HE := Lib.hid hbD
    clear hrA hbA hrB hbB hrC hrD hbD
    go_wp2
    go_ret
    exact ⟨_, rfl, HD.out, HE.out⟩
end Go.Proofs.Ytmfeponanjgapaa
