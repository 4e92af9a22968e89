/- Walks: fretworkref01: Said, Text. -/
import Derived.Test.YtnhlenagojbigaaRefA
import Derived.Test.YtnhlenagojbigaaStrP
namespace Go.Proofs.Ytnhlenagojbigaa
open Go.RowKit

theorem half_step (f : Nat → Bool) (i j : Nat) (hj : j < 8) : (byteF f i / (128 / 2 ^ j)) % 2 = (f (8 * i + j)).toNat := by
  have h := testBit_byteF f i (7 - j)
  rw [decide_eq_true (show 7 - j < 8 by omega), Bool.true_and, show 7 - (7 - j) = j by omega, Nat.testBit_eq_decide_div_mod_eq] at h
  have e : 128 / 2 ^ j = 2 ^ (7 - j) := by
    have : j = 0 ∨ j = 1 ∨ j = 2 ∨ j = 3 ∨ j = 4 ∨ j = 5 ∨ j = 6 ∨ j = 7 := by omega
    rcases this with rfl | rfl | rfl | rfl | rfl | rfl | rfl | rfl <;> rfl
  rw [e, ← h]
  rcases Nat.mod_two_eq_zero_or_one (byteF f i / 2 ^ (7 - j)) with q | q <;> rw [q] <;> rfl
theorem half_next (j : Nat) (hj : j < 8) : 128 / 2 ^ j / 2 = 128 / 2 ^ (j + 1) ∧ 0 < 128 / 2 ^ j := by
  have : j = 0 ∨ j = 1 ∨ j = 2 ∨ j = 3 ∨ j = 4 ∨ j = 5 ∨ j = 6 ∨ j = 7 := by omega
  rcases this with rfl | rfl | rfl | rfl | rfl | rfl | rfl | rfl <;> decide
theorem conv_digits (A : Option Addr) (m c : Nat) (f : Nat → Bool) (w : World) (hr : Rd w A (cellsD f m)) : (convert 22 9 (.slice A m c)).run Try.prog w = .ok (.string (txtF f m)) w := by
  by_cases h0 : m = 0
  · subst h0
    exact conv_bytes A 0 c (fun _ => false) w (Rd.zero rfl)
  · have h := conv_nums A m c (numsD f m) w (length_numsD f m) (by omega) (by rw [numsD_map]; exact hr)
    rw [h, strOf_numsD]
theorem mk_room (n : Nat) (hn : n ≤ 281474976710656) (W : World) : (Instr.makeSlice 22 (.int .i64 0) (.int .i64 (n : Int))).run Try.prog W = .ok (.slice (some ⟨W.heap.size, 0, none⟩) 0 n) (W.alloc (.cells (List.replicate n (.int .u8 0)).toArray 5)) := by
  obtain ⟨i0, hi, hz0, hz1, hz2⟩ := info_parts info5
  have hmk := run_make (P := Try.prog) W 22 5 i0 _ Try.underlying22 hi hz0 .i64 .i64 0 n (by omega) (by omega) (by rw [hz2]; omega) (by omega)
  rw [hz1] at hmk
  simp only [Int.toNat_natCast, Value.cells, replicate_cells, Nat.mul_one] at hmk
  exact hmk
/-- A row that is written: its first m cells are digits. -/
def DigRow (w : World) (f : Nat → Bool) (m : Nat) (v : Value) (wr : World) : Prop :=
  ∃ g cap more, v = .slice (some ⟨g, 0, none⟩) m cap ∧ w.heap.size ≤ g ∧ Own wr g 5 (cellsD f m ++ more) ∧ m ≤ cap ∧ cap ≤ maxLen ∧ (cellsD f m ++ more).length = cap * 1 ∧ Below w.heap.size w wr

set_option maxRecDepth 100000 in
set_option maxHeartbeats 4000000 in
theorem said_ref (A : Option Addr) (n c : Nat) (f : Nat → Bool) (w : World) (hr : Rd w A (cellsF f n)) (hn : n ≤ 1000) :
    Calls Try.prog 48 #[.slice A n c] w fun e w' => e = .returned (.string (txtF f (8 * n))) ∧ Below w.heap.size w w' := by
  have HR := Lib.hid hr
  clear hr
  obtain ⟨N8, hN8⟩ : ∃ N, N = 8 * n := ⟨_, rfl⟩
  have hI8 : (8 : Int) * (n : Int) = (N8 : Int) := by omega
  have hmk : ∀ W : World, (Instr.makeSlice 22 (.int .i64 0) (.int .i64 (N8 : Int))).run Try.prog W = .ok (.slice (some ⟨W.heap.size, 0, none⟩) 0 N8) (W.alloc (.cells (List.replicate N8 (.int .u8 0)).toArray 5)) := mk_room N8 (by omega)
  have HN8 := Lib.hid hN8
  have hN8b : N8 ≤ 8000 := by omega
  clear hN8
  go_enter Try.func48, Try.ntmps48
  go_wp2
  go_loopw [3, 4, 5] (fun s3 s4 _ wr => ∃ i : Nat, i ≤ n ∧ s4 = .int .i64 i ∧ Hid (DigRow w f (8 * i) s3 wr)) (fun _ v _ _ => n - (intOf v).toNat)
  case atStart => exact ⟨0, Nat.zero_le _, rfl, ⟨w.heap.size, N8, List.replicate N8 (.int .u8 0), rfl, Nat.le_refl _, Own.new' (vs := List.replicate N8 (.int .u8 0)) rfl, Nat.zero_le _, by unfold maxLen; omega, by simp [cellsD], (Below.refl _ w).alloc (Nat.le_refl _) _⟩⟩
  case round =>
    obtain ⟨i, hi, rfl, hD⟩ := hrel
    by_cases hlt : i < n
    · obtain ⟨b, off, rfl, hb, hc⟩ := HR.out (by rw [length_cellsF]; omega)
      have hcB := Lib.hid (hc i _ (cellsF_at f n i hlt))
      have hbl := Lib.hid (byteF_lt f i)
      have hst := Lib.hid (half_step f i)
      clear hc
      generalize byteF f i = B at hcB hbl hst
      go_wp2_with fail
      go_loopw [3, 5] (fun s3 s5 wr => ∃ j : Nat, j ≤ 8 ∧ s5 = .int .i64 (128 / 2 ^ j : Nat) ∧ Hid (DigRow w f (8 * i + j) s3 wr)) (fun _ v _ => (intOf v).toNat)
      case atStart => exact ⟨0, by omega, rfl, hD.out⟩
      case round =>
        obtain ⟨j, hj, rfl, ⟨g, cap, more, rfl, hg, hO, h1, h2, h3, hbw⟩⟩ := hrel
        have HO := Lib.hid hO; have H3 := Lib.hid h3; have hbW := Lib.hid hbw
        clear hO h3 hbw
        obtain ⟨H, hH⟩ : ∃ H, H = 128 / 2 ^ j := ⟨_, rfl⟩
        rw [← hH]
        by_cases hl2 : j < 8
        · have hnx := half_next j hl2
          rw [← hH] at hnx
          have hH0 : (0 : Int) < (H : Int) := by omega
          have hHn := Lib.hid hnx.1
          have hH128 : H ≤ 128 := by rw [hH]; exact Nat.div_le_self _ _
          have ht1 : decide (0 < H) = true := by rw [decide_eq_true_eq]; omega
          have hHz : ((H : Int) == 0) = false := by rw [beq_eq_false_iff_ne]; omega
          have hHz2 : ¬ (H : Int) = 0 := by omega
          have hB0 : (B : Int) ≤ 255 := by have := hbl.out; omega
          have hcell : wr.cell? ⟨b, off + i, none⟩ = some (.int .u8 (B : Nat)) := (hbW.out.cell (p := ⟨b, off + i, none⟩) hb).trans hcB.out
          obtain ⟨d, hd⟩ : ∃ d, d = (f (8 * i + j)).toNat := ⟨_, rfl⟩
          have hd1 : d ≤ 1 := by rw [hd]; cases f (8 * i + j) <;> decide
          obtain ⟨Q, hQ⟩ : ∃ Q, Q = B / H := ⟨_, rfl⟩
          have hQB : Q ≤ 255 := by rw [hQ]; have := hbl.out; have := Nat.div_le_self B H; omega
          have hQI : (B : Int) / (H : Int) = (Q : Int) := by rw [hQ]; exact (Int.natCast_ediv B H).symm
          have hbit : (Q : Int) % 2 = (d : Int) := by
            have := hst.out j hl2
            rw [← hH, ← hd, ← hQ] at this
            omega
          clear hQ
          have HD := Lib.hid hd
          have hH2 : (H : Int) / 2 = ((128 / 2 ^ (j + 1) : Nat) : Int) := by have := hHn.out; omega
          have HH2 := Lib.hid hH2
          clear hH hd hnx hH2
          obtain ⟨i0, hi0, hz0, hz1, hz2⟩ := info_parts info5
          have I0 := Lib.hid hi0; have I1 := Lib.hid hz0; have I2 := Lib.hid hz1; have I3 := Lib.hid hz2
          clear hi0 hz0 hz1 hz2
          go_wp2_with (at_builtin; refine wpList_append_row rfl (.tmp 20) (.tmp 31) 22 rfl 5 i0 (.int .u8 0) 1 1 Try.underlying22 I0.out I1.out I2.out I3.out rfl (by omega) g (8 * i + j) cap (cellsD f (8 * i + j)) more rfl (HO.out.alloc _) (by rw [length_cellsD]; omega) h1 h2 H3.out ⟨wr.heap.size, 0, none⟩ 1 1 [.int .u8 (48 + (d : Int))] rfl rfl ?c1 ?c2 ?c3 ?c4 ?c5)
          case c1 => exact fun k u hu => (Own.new' (g := wr.heap.size) (t := 5) (vs := [.int .u8 (48 + (d : Int))]) (w := wr) rfl).add hu
          case c2 => intro u hu; simp only [List.mem_singleton] at hu; subst hu; rfl
          case c3 => unfold maxLen; omega
          case c4 => omega
          case c5 =>
            intro g' cap' more' w6 hO6 hg6 hgr hp1 hp2 hp3
            have vb := Lib.hid ((hbW.out.alloc hbW.out.size _).trans (grown_below hgr hg (by have := hbW.out.size; simp; try omega)))
            have hd6 := Lib.hid (show DigRow w f (8 * i + (j + 1)) (.slice (some ⟨g', 0, none⟩) (8 * i + j + 1) cap') w6 from ⟨g', cap', more', rfl, by have := hbW.out.size; omega, by
              have e := cellsD_succ f (8 * i + j)
              rw [← HD.out] at e
              show Own w6 g' _ (cellsD f (8 * i + j + 1) ++ more')
              rw [← e]; simpa using hO6, hp1, hp2, by
              have e := cellsD_succ f (8 * i + j)
              rw [← HD.out] at e
              show (cellsD f (8 * i + j + 1) ++ more').length = _
              rw [← e]; simpa using hp3, vb.out⟩)
            clear hgr hO6 hp3 hp1 hp2 hg6
            go_wp2
            go_roundw
            case rel => exact ⟨j + 1, by omega, by rw [← HH2.out], hd6.out⟩
            case measure => simp [intOf]; omega
        · obtain rfl : j = 8 := by omega
          have hH0 : H = 0 := hH
          subst hH0
          go_wp2
          go_roundw
          case rel => exact ⟨i + 1, by omega, by go_num, ⟨g, cap, more, rfl, hg, HO.out, h1, h2, H3.out, hbW.out⟩⟩
          case measure => simp [intOf]; omega
    · obtain rfl : i = n := by omega
      obtain ⟨g, cap, more, rfl, hg, hO, h1, h2, h3, hbw⟩ := hD
      have hcv := conv_digits (some ⟨g, 0, none⟩) (8 * i) cap f wr (by have h := hO.rd_take (8 * i); rwa [List.take_left' (length_cellsD _ _)] at h)
      have hbW := Lib.hid hbw
      clear hO h3 hbw
      go_wp2
      go_ret
      exact ⟨rfl, hbW.out⟩
/-- The text of a strand that is right, else none. -/
def textS (L : Int) (n : Nat) (f : Nat → Bool) : ByteArray := if rightB L n f then txtF f L.toNat else ⟨#[]⟩
theorem textS_no {L : Int} {n : Nat} {f : Nat → Bool} (h : rightB L n f = false) : textS L n f = ⟨#[]⟩ := by unfold textS; rw [h]; rfl
theorem textS_yes {l n : Nat} {f : Nat → Bool} (h : rightB (l : Int) n f = true) : textS l n f = txtF f l := by unfold textS; rw [h]; rfl

set_option maxRecDepth 100000 in
set_option maxHeartbeats 4000000 in
theorem text_any (A : Option Addr) (n c : Nat) (L : Int) (f : Nat → Bool) (w : World) (hs : ArgS w A n L f) (hn : n ≤ 1000) :
    Calls Try.prog 31 #[.agg #[.slice A n c, .int .i64 L]] w fun e w' => e = .returned (.tuple #[.string (textS L n f), .bool (rightB L n f)]) ∧ Below w.heap.size w w' := by
  have HS := Lib.hid hs
  clear hs
  obtain ⟨N8, hN8⟩ : ∃ N, N = 8 * n := ⟨_, rfl⟩
  have hsd := fun W hr => said_ref A n c f W hr hn
  rw [← hN8] at hsd
  have HSD := Lib.hid hsd
  have hsz := txtF_size f N8
  have HG := Lib.hid (txtF_get f N8)
  have HX := Lib.hid (fun p (hp : p ≤ N8) => txtF_extract f (n := N8) (Nat.zero_le p) hp)
  clear hsd
  have hN8b : N8 ≤ 8000 := by omega
  have HN8 := Lib.hid hN8
  clear hN8
  have hB := Lib.hid ((Below.refl w.heap.size w).alloc (Nat.le_refl _) (.cells #[.slice A n c, .int .i64 L] 24))
  have hL0 := HS.out.lo; have hL1 := HS.out.hi
  by_cases c1 : L < 0
  · skip
    have hR := Lib.hid (right_lt (n := n) (f := f) c1)
    have d1 : decide (L < 0) = true := by rw [decide_eq_true_eq]; omega
    go_enter Try.func31, Try.ntmps31
    go_wp2_with fail
    refine (HSD.out _ (HS.out.rd.alloc _)).mono ?_
    rintro e w1 ⟨rfl, hbk⟩
    have hb := Lib.hid (hB.out.trans (hbk.mono (by simp)))
    have o1 := Lib.hid ((Own.new' (g := w.heap.size) (t := 24) (vs := [.slice A n c, .int .i64 L]) (w := w) rfl).below' hbk)
    have q1 := o1.out.cell; have z1 := o1.out.lt
    clear hbk
    generalize txtF f N8 = X at hsz HG HX
    go_wp2
    go_ret2
    exact ⟨by rw [textS_no hR.out, hR.out]; rfl, hb.out⟩
  by_cases c2 : 4194304 < L
  · skip
    have hR := Lib.hid (right_gt (n := n) (f := f) c2)
    have d1 : decide (L < 0) = false := by rw [decide_eq_false_iff_not]; omega
    have d2 : decide (4194304 < L) = true := by rw [decide_eq_true_eq]; omega
    go_enter Try.func31, Try.ntmps31
    go_wp2_with fail
    refine (HSD.out _ (HS.out.rd.alloc _)).mono ?_
    rintro e w1 ⟨rfl, hbk⟩
    have hb := Lib.hid (hB.out.trans (hbk.mono (by simp)))
    have o1 := Lib.hid ((Own.new' (g := w.heap.size) (t := 24) (vs := [.slice A n c, .int .i64 L]) (w := w) rfl).below' hbk)
    have q1 := o1.out.cell; have z1 := o1.out.lt
    clear hbk
    generalize txtF f N8 = X at hsz HG HX
    go_wp2
    go_ret2
    exact ⟨by rw [textS_no hR.out, hR.out]; rfl, hb.out⟩
  by_cases c3 : (N8 : Int) < L
  · skip
    have hR := Lib.hid (right_len (n := n) (f := f) (L := L) (by omega) (by have := HN8.out; omega))
    have d1 : decide (L < 0) = false := by rw [decide_eq_false_iff_not]; omega
    have d2 : decide (4194304 < L) = false := by rw [decide_eq_false_iff_not]; omega
    have d3 : decide ((N8 : Int) < L) = true := by rw [decide_eq_true_eq]; omega
    go_enter Try.func31, Try.ntmps31
    go_wp2_with fail
    refine (HSD.out _ (HS.out.rd.alloc _)).mono ?_
    rintro e w1 ⟨rfl, hbk⟩
    have hb := Lib.hid (hB.out.trans (hbk.mono (by simp)))
    have o1 := Lib.hid ((Own.new' (g := w.heap.size) (t := 24) (vs := [.slice A n c, .int .i64 L]) (w := w) rfl).below' hbk)
    have q1 := o1.out.cell; have z1 := o1.out.lt
    clear hbk
    generalize txtF f N8 = X at hsz HG HX
    go_wp2
    go_ret2
    exact ⟨by rw [textS_no hR.out, hR.out]; rfl, hb.out⟩
  by_cases c4 : 7 < (N8 : Int) - L
  · skip
    have hR := Lib.hid (right_len (n := n) (f := f) (L := L) (by omega) (by have := HN8.out; omega))
    have d1 : decide (L < 0) = false := by rw [decide_eq_false_iff_not]; omega
    have d2 : decide (4194304 < L) = false := by rw [decide_eq_false_iff_not]; omega
    have d3 : decide ((N8 : Int) < L) = false := by rw [decide_eq_false_iff_not]; omega
    have d4 : decide (7 < (N8 : Int) - L) = true := by rw [decide_eq_true_eq]; omega
    go_enter Try.func31, Try.ntmps31
    go_wp2_with fail
    refine (HSD.out _ (HS.out.rd.alloc _)).mono ?_
    rintro e w1 ⟨rfl, hbk⟩
    have hb := Lib.hid (hB.out.trans (hbk.mono (by simp)))
    have o1 := Lib.hid ((Own.new' (g := w.heap.size) (t := 24) (vs := [.slice A n c, .int .i64 L]) (w := w) rfl).below' hbk)
    have q1 := o1.out.cell; have z1 := o1.out.lt
    clear hbk
    generalize txtF f N8 = X at hsz HG HX
    go_wp2
    go_ret2
    exact ⟨by rw [textS_no hR.out, hR.out]; rfl, hb.out⟩
  obtain ⟨l, rfl⟩ := Int.eq_ofNat_of_zero_le (show 0 ≤ L by omega)
  have d1 : decide ((l : Int) < 0) = false := by rw [decide_eq_false_iff_not]; omega
  have d2 : decide (4194304 < (l : Int)) = false := by rw [decide_eq_false_iff_not]; omega
  have d3 : decide (N8 < l) = false := by rw [decide_eq_false_iff_not]; omega
  have d4 : decide (7 < (N8 : Int) - (l : Int)) = false := by rw [decide_eq_false_iff_not]; omega
  have hln := Lib.hid (show n = (l + 7) / 8 by have := HN8.out; omega)
  have hlN : l ≤ N8 := by omega
  go_enter Try.func31, Try.ntmps31
  go_wp2_with fail
  refine (HSD.out _ (HS.out.rd.alloc _)).mono ?_
  rintro e w1 ⟨rfl, hbk⟩
  have hb := Lib.hid (hB.out.trans (hbk.mono (by simp)))
  have o1 := Lib.hid ((Own.new' (g := w.heap.size) (t := 24) (vs := [.slice A n c, .int .i64 (l : Int)]) (w := w) rfl).below' hbk)
  have q1 := o1.out.cell; have z1 := o1.out.lt
  clear hbk
  generalize txtF f N8 = X at hsz HG HX
  go_wp2_with fail
  go_loop [5] (fun v => ∃ i : Nat, l ≤ i ∧ i ≤ N8 ∧ v = .int .i64 i ∧ Hid (∀ j, l ≤ j → j < i → f j = false)) (fun v => N8 - (intOf v).toNat)
  case atStart => exact ⟨l, Nat.le_refl _, hlN, rfl, fun j h1 h2 => by omega⟩
  case round =>
    obtain ⟨i, hi1, hi2, rfl, hz⟩ := hrel
    by_cases hlt : i < N8
    · have hg := HG.out i (by omega)
      cases hfi : f i with
      | true =>
        rw [hfi] at hg
        have hR := Lib.hid (show rightB (l : Int) n f = false by
          cases hb0 : rightB (l : Int) n f with
          | false => rfl
          | true =>
            have h := ((rightB_iff HS.out.zero).1 hb0).2.zero i (by rw [Int.toNat_natCast]; exact hi1)
            rw [hfi] at h; cases h)
        clear hfi
        have hg : (X[i]'(by omega)).toNat = 49 := hg
        go_wp2
        go_ret2
        exact ⟨by rw [textS_no hR.out, hR.out]; rfl, hb.out⟩
      | false =>
        rw [hfi] at hg
        have hz2 := Lib.hid (show ∀ j, l ≤ j → j < i + 1 → f j = false from fun j h1 h2 => by
          by_cases he : j = i
          · rw [he]; exact hfi
          · exact hz.out j h1 (by omega))
        clear hfi
        have hg : (X[i]'(by omega)).toNat = 48 := hg
        go_wp2
        go_round
        case rel => exact ⟨i + 1, by omega, by omega, by go_num, hz2.out⟩
        case measure => simp [intOf]; omega
    · obtain rfl : i = N8 := by omega
      have hR := Lib.hid (show rightB (l : Int) n f = true from RS.rightB ⟨by omega, hln.out, fun j hj => by
        rcases Nat.lt_or_ge j i with h | h
        · exact hz.out j hj h
        · exact HS.out.zero j (by have := HN8.out; omega)⟩)
      have hx := HX.out l hlN
      have hxx := Lib.hid (show X.extract 0 l = txtF f l by rw [hx, Nat.sub_zero]; exact txtF_congr fun j _ => by rw [Nat.zero_add])
      clear hx
      go_wp2
      go_ret2
      exact ⟨by rw [textS_yes hR.out, hR.out, ← hxx.out]; rfl, hb.out⟩
end Go.Proofs.Ytnhlenagojbigaa
