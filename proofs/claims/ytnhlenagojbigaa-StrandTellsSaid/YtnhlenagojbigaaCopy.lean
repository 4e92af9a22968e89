/- Walks: fretworklow.CopyBytes, LentBytes, KeptBytes. -/
import Derived.Test.YtnhlenagojbigaaStrA
import Derived.Test.YtnhlenagojbigaaLow
import Derived.Test.YtnhlenagojbigaaRow
import Derived.Laws.AppendOwnNone
import Derived.Lib.AppendStr
namespace Go.Proofs.Ytnhlenagojbigaa
open Go.RowKit

/-- Bytes in new memory, that has room behind them. -/
def FreshB (w : World) (n : Nat) (vs : List Value) (e : Ending) (w' : World) : Prop :=
  ∃ g cap more, e = .returned (.slice (some ⟨g, 0, none⟩) n cap) ∧ w.heap.size ≤ g ∧ Own w' g 5 (vs ++ more) ∧ n ≤ cap ∧ cap ≤ maxLen ∧ (vs ++ more).length = cap ∧ Below w.heap.size w w'

set_option maxRecDepth 100000 in
set_option maxHeartbeats 2000000 in
theorem copyBytes_any (A : Option Addr) (n c : Nat) (f : Nat → Bool) (w : World) (hr : Rd w A (cellsF f n)) (hn : n ≤ 140737488351232) :
    Calls Try.prog 27 #[.slice A n c] w (FreshB w n (cellsF f n)) := by
  have HR := Lib.hid hr
  clear hr
  obtain ⟨i0, hi, hz0, hz1, hz2⟩ := info_parts info5
  have I0 := Lib.hid hi; have I1 := Lib.hid hz0; have I2 := Lib.hid hz1; have I3 := Lib.hid hz2
  clear hi hz0 hz1 hz2
  rcases Option.eq_none_or_eq_some A with hA | ⟨ad, hA⟩
  · obtain rfl : n = 0 := by
      rcases Nat.eq_zero_or_pos n with h | h
      · exact h
      · obtain ⟨b, off, e, _⟩ := HR.out (by rw [length_cellsF]; exact h)
        rw [hA] at e; cases e
    subst hA
    go_enter Try.func27, Try.ntmps27
    go_wp2_with (at_builtin; refine wpList_append_none rfl (.tmp 3) (.tmp 4) 22 rfl 5 i0 Try.underlying22 I0.out w.heap.size 0 0 c rfl (Nat.le_refl _) rfl ?_)
    go_ret
    exact ⟨w.heap.size, 0, [], rfl, Nat.le_refl _, Own.new' (vs := []) rfl, Nat.le_refl _, Nat.zero_le _, rfl, (Below.refl _ w).alloc (Nat.le_refl _) _⟩
  · subst hA
    have hce : ∀ j u, (cellsF f n)[j]? = some u → (w.alloc (.cells #[] 5)).cell? (ad.add j) = some u := fun j u hu => by
      have hl : 0 < (cellsF f n).length := by
        rcases Nat.lt_or_ge j (cellsF f n).length with h | h
        · omega
        · rw [List.getElem?_eq_none h] at hu; cases hu
      obtain ⟨b, off, e, hb, hc⟩ := (HR.out.alloc (.cells #[] 5)) hl
      injection e with e
      subst e
      have := hc j u hu
      rw [← this]
      unfold Addr.add
      split
      · rename_i e; subst e; rfl
      · rfl
    have HC := Lib.hid hce
    clear hce
    go_enter Try.func27, Try.ntmps27
    go_wp2_with (at_builtin; refine wpList_append_own_at _ rfl (.tmp 3) (.tmp 4) 22 rfl w.heap.size 5 i0 (.int .u8 0) 1 1 Try.underlying22 I0.out I1.out I2.out I3.out rfl (by omega) _ 0 [] rfl (owns_of_own (cap := 0) (rest := []) (Own.new' (vs := []) rfl) (Nat.le_refl _) rfl (Nat.le_refl _) (Nat.zero_le _) rfl) ad n c (cellsF f n) rfl (by rw [length_cellsF, Nat.mul_one]) HC.out cells_one_of (by unfold maxLen; omega) (by omega) (by simp) ?_)
    intro v' w' hown hgrow hnil hblk
    obtain ⟨g, cap, more, rfl, hg, hO, h1, h2, h3⟩ := row_own hown hnil
    have hb := Lib.hid (((Below.refl w.heap.size w).alloc (Nat.le_refl _) (.cells #[] 5)).trans (grown_below hgrow (Nat.le_refl _) (by simp)))
    have H3 := Lib.hid h3; have HO := Lib.hid hO
    clear hown hgrow hnil hblk h3 hO
    go_wp2
    go_ret
    exact ⟨g, cap, more, rfl, hg, HO.out, h1, h2, by rw [H3.out, Nat.mul_one], hb.out⟩
/-- What stands in memory that is lent. -/
def lentN (f : Nat → Bool) (n : Nat) : List Int := numsF f n ++ [5, 4, 3, 2, 1]
theorem length_lentN (f : Nat → Bool) (n : Nat) : (lentN f n).length = n + 5 := by simp [lentN, length_numsF]
theorem lentN_map (f : Nat → Bool) (n : Nat) : (lentN f n).map (Value.int .u8) = cellsF f n ++ Lib.strCells ⟨#[5, 4, 3, 2, 1]⟩ := by
  unfold lentN
  rw [List.map_append, numsF_map]
  rfl
def Lent (w : World) (n : Nat) (f : Nat → Bool) (e : Ending) (w' : World) : Prop :=
  ∃ g cap more, e = .returned (.slice (some ⟨g, 0, none⟩) n cap) ∧ w.heap.size ≤ g ∧ Own w' g 5 ((lentN f n).map (Value.int .u8) ++ more) ∧ n + 5 ≤ cap ∧ cap ≤ maxLen ∧ Below w.heap.size w w'
set_option maxRecDepth 100000 in
set_option maxHeartbeats 2000000 in
theorem lentBytes_any (A : Option Addr) (n c : Nat) (f : Nat → Bool) (w : World) (hr : Rd w A (cellsF f n)) (hn : n ≤ 140737488351232) :
    Calls Try.prog 26 #[.slice A n c] w (Lent w n f) := by
  have HR := Lib.hid hr
  clear hr
  obtain ⟨i0, hi, hz0, hz1, hz2⟩ := info_parts info5
  have I0 := Lib.hid hi; have I1 := Lib.hid hz0; have I2 := Lib.hid hz1; have I3 := Lib.hid hz2
  clear hi hz0 hz1 hz2
  go_enter Try.func26, Try.ntmps26
  go_wp2_with fail
  refine (copyBytes_any A n c f _ HR.out hn).mono ?_
  rintro e w1 ⟨g, cap, more, rfl, hg, hO, h1, h2, h3, hbk⟩
  have HO := Lib.hid hO; have H3 := Lib.hid h3; have hb := Lib.hid hbk
  clear hO h3 hbk
  go_wp2_with (at_builtin; refine Lib.wpList_append_own_string _ rfl (.tmp 4) (.const (.string ⟨#[5, 4, 3, 2, 1]⟩)) 22 9 rfl w.heap.size 5 i0 Try.underlying22 Try.underlying9 I0.out I1.out I2.out I3.out _ n (cellsF f n) rfl (owns_of_own HO.out hg (by rw [length_cellsF, Nat.mul_one]) h1 h2 (by rw [H3.out, Nat.mul_one])) ⟨#[5, 4, 3, 2, 1]⟩ rfl (by unfold maxLen; show n + 5 ≤ _; omega) (by show n + 5 ≤ _; omega) hb.out.size ?_)
  intro v' w' hown hgrow hnil
  obtain ⟨g2, cap2, more2, rfl, hg2, hO2, p1, p2, p3⟩ := row_own hown hnil
  have hb2 := Lib.hid (hb.out.trans (grown_below hgrow hg hb.out.size))
  have p1 : n + 5 ≤ cap2 := p1
  have p0 : n ≤ cap2 := by omega
  have HO2 := Lib.hid hO2
  clear hown hgrow hnil p3 hO2
  go_wp2
  go_ret
  exact ⟨g2, cap2, more2, rfl, hg2, by rw [lentN_map]; exact HO2.out, p1, p2, hb2.out⟩
theorem conv_nums (A : Option Addr) (n c : Nat) (zs : List Int) (w : World) (hl : zs.length = n) (h0 : 0 < n) (hr : Rd w A (zs.map (Value.int .u8))) : (convert 22 9 (.slice A n c)).run Try.prog w = .ok (.string (strOfNums zs)) w := by
  obtain ⟨b, off, rfl, hb, hc⟩ := hr (by rw [List.length_map]; omega)
  exact run_convert_bytes_arg w 22 5 Try.underlying22 Try.underlying5 b off n c zs hl (fun i hi => hc i _ (by
    rw [List.getElem?_map, List.getD_eq_getElem?_getD, List.getElem?_eq_getElem (by omega)]; rfl)) 9 Try.underlying9
theorem str_lent (f : Nat → Bool) (n : Nat) : strOfNums (lentN f n) = strF f n ++ ⟨#[5, 4, 3, 2, 1]⟩ := by
  apply ByteArray.ext
  apply Array.ext'
  unfold lentN strF strOfNums
  simp
set_option maxRecDepth 100000 in
set_option maxHeartbeats 2000000 in
theorem keptBytes_any (A : Option Addr) (g n c cap : Nat) (f : Nat → Bool) (w : World) (hr : Rd w (some ⟨g, 0, none⟩) ((lentN f n).map (Value.int .u8))) (hs : Rd w A (cellsF f n)) (hn : n ≤ 140737488351232) (hc : n + 5 ≤ cap) :
    Calls Try.prog 29 #[.slice (some ⟨g, 0, none⟩) n cap, .slice A n c] w fun e w' => e = .returned (.bool true) ∧ Below w.heap.size w w' := by
  have c1 := conv_nums _ (n + 5) cap _ w.drew (length_lentN f n) (by omega) hr.drew
  have c2 := conv_bytes A n c f w.drew hs.drew
  have hYX := (str_lent f n).symm
  have hsz : (strF f n).size = n := by unfold strF; rw [strOfNums_size, length_numsF]
  generalize strOfNums (lentN f n) = X at c1 hYX
  generalize strF f n = Y at c2 hYX hsz
  have hY2 : ¬ 9223372036854775807 < Y.size + 5 := by omega
  clear hsz
  have hc2 : (n : Int) + 5 ≤ (cap : Int) := by omega
  have hc3 : (0 : Int) ≤ (n : Int) + 5 := by omega
  have hc4 : ((n : Int) + 5).toNat = n + 5 := by omega
  clear hr hs
  go_enter Try.func29, Try.ntmps29
  go_upto_region 1 with (fail)
  refine region_tail 10 (by kernel_rfl) (by kernel_rfl) ?_
  simp only [List.take_succ_cons, List.take_zero, List.drop_succ_cons, List.drop_zero]
  repeat (refine still_step rfl rfl (fun K hK => ?_); go_wp2)
  refine wpStill_nil ?_
  go_wp2
  go_ret
  exact ⟨by simp, below_drewN (Below.refl _ w) 1⟩
end Go.Proofs.Ytnhlenagojbigaa
