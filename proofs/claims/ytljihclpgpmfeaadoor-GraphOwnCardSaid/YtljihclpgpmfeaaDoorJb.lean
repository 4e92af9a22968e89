/- Walk: fretworklow.ApartInts. -/
import Derived.Test.YtljihclpgpmfeaaDoorIa
import Derived.Test.YtljihclpgpmfeaaDoorFillN
namespace Go.Proofs.YtljihclpgpmfeaaDoor
set_option maxRecDepth 100000
open Go.RowKit

theorem wrap_mod (a : Int) : (IntKind.i64.wrap a) % 18446744073709551616 = a % 18446744073709551616 := by
  unfold IntKind.wrap
  have e1 : (2 : Int) ^ IntKind.i64.bits = 18446744073709551616 := by decide
  rw [e1]
  simp only []
  split
  · rw [Int.sub_emod]; simp
  · simp
theorem wrap_congr {a b : Int} (h : a % 18446744073709551616 = b % 18446744073709551616) : IntKind.i64.wrap a = IntKind.i64.wrap b := by
  unfold IntKind.wrap
  have e1 : (2 : Int) ^ IntKind.i64.bits = 18446744073709551616 := by decide
  rw [e1, h]
theorem wrap_addl (a b : Int) : IntKind.i64.wrap (IntKind.i64.wrap a + b) = IntKind.i64.wrap (a + b) := wrap_congr (by rw [Int.add_emod, wrap_mod, ← Int.add_emod])
theorem wrap_addr (a b : Int) : IntKind.i64.wrap (a + IntKind.i64.wrap b) = IntKind.i64.wrap (a + b) := wrap_congr (by rw [Int.add_emod, wrap_mod, ← Int.add_emod])
theorem wrap_subl (a b : Int) : IntKind.i64.wrap (IntKind.i64.wrap a - b) = IntKind.i64.wrap (a - b) := wrap_congr (by rw [Int.sub_emod, wrap_mod, ← Int.sub_emod])
theorem w64 (a : Int) : wrap64 a = IntKind.i64.wrap a := (IntWalk.i64_left a).symm
theorem wrap_wrap64 (a : Int) : IntKind.i64.wrap (IntKind.i64.wrap a) = IntKind.i64.wrap a := wrap_congr (wrap_mod a)
/-- What is added up. -/
def sumC (cs : Nat → Nat) : Nat → Int
  | 0 => 0
  | k + 1 => sumC cs k + (cs k : Int) * ((k : Int) + 1)
theorem wrap_zero : IntKind.i64.wrap 0 = 0 := by decide
/-- The rows, as a list of slices. -/
def rowV (act : Nat → Bool) (gs ns cs : Nat → Nat) (i : Nat) : Value := bif act i then .slice (some ⟨gs i, 0, none⟩) (ns i) (cs i) else .slice none 0 0
def rowsN (act : Nat → Bool) (gs ns cs : Nat → Nat) (K : Nat) : List Value := (List.range K).map (rowV act gs ns cs)
theorem rowsN_at (act : Nat → Bool) (gs ns cs : Nat → Nat) {K i : Nat} (h : i < K) : (rowsN act gs ns cs K)[i]? = some (rowV act gs ns cs i) := by
  unfold rowsN
  rw [List.getElem?_map, List.getElem?_range h]
  rfl
/-- A value that is a number, but for a turn of 64 bits. -/
def Sm (s : Value) (x : Int) : Prop := ∃ y, s = .int .i64 y ∧ y = IntKind.i64.wrap x
abbrev FillI (w : World) (act : Nat → Bool) (gs cs : Nat → Nat) (K k : Nat) (wr : World) : Prop := FillN w 3 act (fun j => .int .i64 ((j : Int) + 1)) gs cs K k wr

set_option maxRecDepth 100000 in
set_option maxHeartbeats 8000000 in
theorem apartInts_any (gl K kc : Nat) (act : Nat → Bool) (gs ns cs : Nat → Nat) (w : World) (hl : ∃ more, Own w gl 44 (rowsN act gs ns cs K ++ more)) (hK : K ≤ 100000) (hn : ∀ i, i < K → act i = true → ns i ≤ cs i ∧ cs i ≤ maxLen) (h0 : ∀ i, i < K → act i = false → cs i = 0)
   (hd : ∀ a b, a < K → b < K → act a = true → act b = true → gs a = gs b → a = b) (ho : ∀ i, i < K → act i = true → ∃ cur : List Value, cur.length = cs i ∧ Own w (gs i) 3 cur) :
    Calls Tryd.prog 23 #[.slice (some ⟨gl, 0, none⟩) K kc] w fun e w' => e = .returned (.bool true) ∧ Only (fun b => ∃ j, j < K ∧ act j = true ∧ b = gs j) w w' := by
  obtain ⟨more, hl⟩ := hl
  have HL := Lib.hid hl; have HN := Lib.hid hn; have HD := Lib.hid hd; have H0 := Lib.hid h0
  have hF0 := Lib.hid (FillN.zero (w := w) (t := 3) (val := fun j => .int .i64 ((j : Int) + 1)) (gs := gs) (cs := cs) (K := K) ho)
  have hgl := Lib.hid (show ¬ ∃ j, j < K ∧ act j = true ∧ gl = gs j from fun ⟨j, hj, hj2, e⟩ => by obtain ⟨cur, _, h⟩ := ho j hj hj2; exact hl.ne h (by decide) e)
  clear hl hn hd ho h0
  go_enter Tryd.func23, Tryd.ntmps23
  go_wp2_with fail
  go_loopw [3, 4, 5, 6] (fun s v _ _ wr => ∃ k : Nat, k ≤ K ∧ v = .int .i64 k ∧ Hid (Sm s (sumC cs k)) ∧ Hid (FillI w act gs cs K k wr)) (fun _ v _ _ _ => K - (intOf v).toNat)
  case atStart => exact ⟨0, Nat.zero_le _, rfl, Lib.hid ⟨_, rfl, by rw [show sumC cs 0 = 0 from rfl, wrap_zero]⟩, hF0⟩
  case round =>
    obtain ⟨k, hk, rfl, ⟨x, rfl, hx⟩, hF⟩ := hrel
    have HS := Lib.hid hx
    clear hx
    by_cases hlt : k < K
    · cases ha : act k with
      | true =>
        have hN := HN.out k hlt ha
        unfold maxLen at hN
        have hLw := Lib.hid (HL.out.only hF.out.only hgl.out)
        have hcell : wr.cell? ⟨gl, k, none⟩ = some (.slice (some ⟨gs k, 0, none⟩) (ns k) (cs k)) := (hLw.out.cell k).trans (by rw [List.getElem?_append_left (by simp [rowsN]; omega), rowsN_at act gs ns cs hlt]; unfold rowV; rw [ha]; rfl)
        have hk0 : (0 : Int) ≤ (k : Int) := by omega
        have hk1 : (k : Int) < (K : Int) := by omega
        go_upto_region 5 with (fail)
        refine region_tail 10 (by kernel_rfl) (by kernel_rfl) ?_
        simp only [List.take_succ_cons, List.take_zero, List.drop_succ_cons, List.drop_zero]
        repeat (refine still_step rfl rfl (fun K hK => ?_); go_wp2)
        refine wpStill_nil ?_
        clear hcell
        go_wp2_with fail
        go_loopw [6] (fun v wr => ∃ i : Nat, i ≤ cs k ∧ v = .int .i64 i ∧ Hid (FillAtN w 3 act (fun j => .int .i64 ((j : Int) + 1)) gs cs K k i wr)) (fun v _ => cs k - (intOf v).toNat)
        case atStart => exact ⟨0, Nat.zero_le _, rfl, hF.out.drew.start hlt⟩
        case round =>
          obtain ⟨i, hi, rfl, hA⟩ := hrel
          by_cases hl2 : i < cs k
          · obtain ⟨⟨v0, hc0⟩, hf0⟩ := hA.out.own hl2 ha
            have hstep := Lib.hid (hA.out.step hl2 hlt ha HD.out)
            have hi1 : (i : Int) < (cs k : Int) := by omega
            have hk255 : (k : Int) ≤ 100000 := by omega
            go_wp2
            go_roundw
            case rel => exact ⟨i + 1, by omega, by go_num, hstep.out⟩
            case measure => simp [intOf]; omega
          · have he : i = cs k := by omega
            rw [he] at hA
            have hdone := Lib.hid hA.out.done
            clear hA he
            go_wp2
            go_roundw
            case rel => exact ⟨k + 1, by omega, by go_num, Lib.hid ⟨_, rfl, by rw [HS.out]; simp only [w64, wrap_addl, wrap_addr]; rfl⟩, hdone⟩
            case measure => simp [intOf]; omega
      | false =>
        have hz := H0.out k hlt ha
        have hLw := Lib.hid (HL.out.only hF.out.only hgl.out)
        have hcell : wr.cell? ⟨gl, k, none⟩ = some (.slice none 0 0) := (hLw.out.cell k).trans (by rw [List.getElem?_append_left (by simp [rowsN]; omega), rowsN_at act gs ns cs hlt]; unfold rowV; rw [ha]; rfl)
        have hk0 : (0 : Int) ≤ (k : Int) := by omega
        have hk1 : (k : Int) < (K : Int) := by omega
        go_upto_region 5 with (fail)
        refine region_tail 10 (by kernel_rfl) (by kernel_rfl) ?_
        simp only [List.take_succ_cons, List.take_zero, List.drop_succ_cons, List.drop_zero]
        repeat (refine still_step rfl rfl (fun K hK => ?_); go_wp2)
        refine wpStill_nil ?_
        clear hcell
        go_wp2_with fail
        go_loopw [6] (fun v V => v = .int .i64 0 ∧ Hid (FillI w act gs cs K k V)) (fun _ _ => 0)
        case atStart => exact ⟨rfl, hF.out.drew⟩
        case round =>
          obtain ⟨rfl, hA⟩ := hrel
          have hdone := Lib.hid (show FillI w act gs cs K (k + 1) wr from ((hA.out.start hlt).of_none hz).done)
          clear hA
          go_wp2
          go_roundw
          case rel => exact ⟨k + 1, by omega, by go_num, Lib.hid ⟨_, rfl, by rw [HS.out]; simp only [w64, sumC, hz]; simp [wrap_wrap64]⟩, hdone⟩
          case measure => simp [intOf]; omega
    · obtain rfl : k = K := by omega
      obtain ⟨w5, hw5⟩ : ∃ V, V = wr := ⟨_, rfl⟩
      subst hw5
      go_wp2_with fail
      go_loopw [2, 3, 7, 8, 9] (fun _ s v _ _ wr2 => ∃ j : Nat, j ≤ k ∧ v = .int .i64 j ∧ Hid (Sm s (sumC cs k - sumC cs j)) ∧ Hid (Below w5.heap.size w5 wr2)) (fun _ _ v _ _ _ => k - (intOf v).toNat)
      case atStart => exact ⟨0, Nat.zero_le _, rfl, Lib.hid ⟨_, rfl, by rw [HS.out]; congr 1; simp [sumC]⟩, Lib.hid (Below.refl _ _)⟩
      case round =>
        obtain ⟨j, hj, rfl, ⟨x, rfl, hx⟩, hB⟩ := hrel
        have HS := Lib.hid hx
        clear hx
        by_cases hl3 : j < k
        · cases ha : act j with
          | true =>
            have hN := HN.out j hl3 ha
            unfold maxLen at hN
            have hLw := Lib.hid ((HL.out.only hF.out.only hgl.out).below' hB.out)
            have hO := Lib.hid ((hF.out.full j hl3 ha).below' hB.out)
            have hcell : wr.cell? ⟨gl, j, none⟩ = some (.slice (some ⟨gs j, 0, none⟩) (ns j) (cs j)) := (hLw.out.cell j).trans (by rw [List.getElem?_append_left (by simp [rowsN]; omega), rowsN_at act gs ns cs hl3]; unfold rowV; rw [ha]; rfl)
            have hk0 : (0 : Int) ≤ (j : Int) := by omega
            have hk1 : (j : Int) < (k : Int) := by omega
            go_upto_region 14 with (fail)
            refine region_tail 10 (by kernel_rfl) (by kernel_rfl) ?_
            simp only [List.take_succ_cons, List.take_zero, List.drop_succ_cons, List.drop_zero]
            repeat (refine still_step rfl rfl (fun K hK => ?_); go_wp2)
            refine wpStill_nil ?_
            clear hcell hLw
            go_wp2_with fail
            have hB1 := Lib.hid (below_drewN hB.out 1)
            go_loopw [3, 9] (fun s v wr3 => ∃ i : Nat, i ≤ cs j ∧ v = .int .i64 i ∧ Hid (Sm s (sumC cs k - sumC cs j - (i : Int) * ((j : Int) + 1))) ∧ Hid (Below w5.heap.size w5 wr3) ∧ Hid (Own wr3 (gs j) 3 (List.replicate (cs j) (.int .i64 ((j : Int) + 1))))) (fun _ v _ => cs j - (intOf v).toNat)
            case atStart => exact ⟨0, Nat.zero_le _, rfl, Lib.hid ⟨_, rfl, by rw [HS.out]; congr 1; simp⟩, hB1, hO⟩
            case round =>
              obtain ⟨i, hi, rfl, ⟨x2, rfl, hx2⟩, hB2, hO2⟩ := hrel
              have HS2 := Lib.hid hx2
              clear hx2
              by_cases hl4 : i < cs j
              · have hc1 := (hO2.out.cell i).trans (List.getElem?_replicate_of_lt hl4)
                have hi1 : (i : Int) < (cs j : Int) := by omega
                have hk255 : (j : Int) ≤ 100000 := by omega
                go_wp2
                go_roundw
                case rel => exact ⟨i + 1, by omega, by go_num, Lib.hid ⟨_, rfl, by rw [HS2.out]; simp only [w64, wrap_subl]; congr 1; rw [Int.natCast_add, Int.add_mul]; omega⟩, hB2, hO2⟩
                case measure => simp [intOf]; omega
              · have he : i = cs j := by omega
                go_wp2
                go_roundw
                case rel => exact ⟨j + 1, by omega, by go_num, Lib.hid ⟨_, rfl, by rw [HS2.out, he]; congr 1; simp only [sumC]; omega⟩, hB2⟩
                case measure => simp [intOf]; omega
          | false =>
            have hz := H0.out j hl3 ha
            have hLw := Lib.hid ((HL.out.only hF.out.only hgl.out).below' hB.out)
            have hcell : wr.cell? ⟨gl, j, none⟩ = some (.slice none 0 0) := (hLw.out.cell j).trans (by rw [List.getElem?_append_left (by simp [rowsN]; omega), rowsN_at act gs ns cs hl3]; unfold rowV; rw [ha]; rfl)
            have hk0 : (0 : Int) ≤ (j : Int) := by omega
            have hk1 : (j : Int) < (k : Int) := by omega
            go_upto_region 14 with (fail)
            refine region_tail 10 (by kernel_rfl) (by kernel_rfl) ?_
            simp only [List.take_succ_cons, List.take_zero, List.drop_succ_cons, List.drop_zero]
            repeat (refine still_step rfl rfl (fun K hK => ?_); go_wp2)
            refine wpStill_nil ?_
            clear hcell hLw
            go_wp2_with fail
            have hB1 := Lib.hid (below_drewN hB.out 1)
            go_loopw [3, 9] (fun s v V => v = .int .i64 0 ∧ s = .int .i64 x ∧ Hid (Below w5.heap.size w5 V)) (fun _ _ _ => 0)
            case atStart => exact ⟨rfl, rfl, hB1⟩
            case round =>
              obtain ⟨rfl, rfl, hA⟩ := hrel
              go_wp2
              go_roundw
              case rel => exact ⟨j + 1, by omega, by go_num, Lib.hid ⟨_, rfl, by rw [HS.out]; simp only [sumC, hz]; simp⟩, hA⟩
              case measure => simp [intOf]; omega
        · obtain rfl : j = k := by omega
          obtain rfl : x = 0 := by rw [HS.out, Int.sub_self]; exact wrap_zero
          go_wp2
          go_ret
          exact ⟨rfl, hF.out.only.then hB.out⟩
end Go.Proofs.YtljihclpgpmfeaaDoor
