/- Walk: fretworklow.ApartBytes. -/
import Derived.Test.YtnhlenagojbigaaStrA
import Derived.Test.YtnhlenagojbigaaFill
namespace Go.Proofs.Ytnhlenagojbigaa
open Go.RowKit

/-- The rows, as a list of slices. -/
def rowsV (gs ns cs : Nat → Nat) (K : Nat) : List Value := (List.range K).map fun i => .slice (some ⟨gs i, 0, none⟩) (ns i) (cs i)
theorem rowsV_at (gs ns cs : Nat → Nat) {K i : Nat} (h : i < K) : (rowsV gs ns cs K)[i]? = some (.slice (some ⟨gs i, 0, none⟩) (ns i) (cs i)) := by
  unfold rowsV
  rw [List.getElem?_map, List.getElem?_range h]
  rfl
abbrev FillB (w : World) (gs cs : Nat → Nat) (K k : Nat) (wr : World) : Prop := Fill w 5 (fun j => .int .u8 (j : Nat)) gs cs K k wr
def Sees (w0 : World) (X : World) : Prop := Below w0.heap.size w0 X

set_option maxRecDepth 100000 in
set_option maxHeartbeats 8000000 in
theorem apartBytes_any (gl K kc : Nat) (gs ns cs : Nat → Nat) (w : World) (hl : Own w gl 22 (rowsV gs ns cs K)) (hK : K ≤ 256) (hn : ∀ i, i < K → ns i ≤ cs i ∧ cs i ≤ maxLen) (hd : ∀ a b, a < K → b < K → gs a = gs b → a = b)
   (ho : ∀ i, i < K → ∃ cur : List Value, cur.length = cs i ∧ Own w (gs i) 5 cur) :
    Calls Try.prog 28 #[.slice (some ⟨gl, 0, none⟩) K kc] w fun e w' => e = .returned (.bool true) ∧ Only (fun b => ∃ j, j < K ∧ b = gs j) w w' := by
  have HL := Lib.hid hl; have HN := Lib.hid hn; have HD := Lib.hid hd
  have hF0 := Lib.hid (Fill.zero (w := w) (t := 5) (val := fun j => .int .u8 (j : Nat)) (gs := gs) (cs := cs) (K := K) ho)
  have hgl := Lib.hid (show ¬ ∃ j, j < K ∧ gl = gs j from fun ⟨j, hj, e⟩ => by obtain ⟨cur, _, h⟩ := ho j hj; exact hl.ne h (by decide) e)
  clear hl hn hd ho
  go_enter Try.func28, Try.ntmps28
  go_wp2_with fail
  go_loopw [3, 4, 5] (fun v _ _ wr => ∃ k : Nat, k ≤ K ∧ v = .int .i64 k ∧ Hid (FillB w gs cs K k wr)) (fun v _ _ _ => K - (intOf v).toNat)
  case atStart => exact ⟨0, Nat.zero_le _, rfl, hF0.out⟩
  case round =>
    obtain ⟨k, hk, rfl, hF⟩ := hrel
    by_cases hlt : k < K
    · have hN := HN.out k hlt
      unfold maxLen at hN
      have hLw := Lib.hid (HL.out.only hF.out.only hgl.out)
      have hcell : wr.cell? ⟨gl, k, none⟩ = some (.slice (some ⟨gs k, 0, none⟩) (ns k) (cs k)) := (hLw.out.cell k).trans (rowsV_at gs ns cs hlt)
      have hk0 : (0 : Int) ≤ (k : Int) := by omega
      have hk1 : (k : Int) < (K : Int) := by omega
      go_upto_region 4 with (fail)
      refine region_tail 10 (by kernel_rfl) (by kernel_rfl) ?_
      simp only [List.take_succ_cons, List.take_zero, List.drop_succ_cons, List.drop_zero]
      repeat (refine still_step rfl rfl (fun K hK => ?_); go_wp2)
      refine wpStill_nil ?_
      clear hcell
      go_wp2_with fail
      go_loopw [5] (fun v wr => ∃ i : Nat, i ≤ cs k ∧ v = .int .i64 i ∧ Hid (FillAt w 5 (fun j => .int .u8 (j : Nat)) gs cs K k i wr)) (fun v _ => cs k - (intOf v).toNat)
      case atStart => exact ⟨0, Nat.zero_le _, rfl, hF.out.drew.start hlt⟩
      case round =>
        obtain ⟨i, hi, rfl, hA⟩ := hrel
        by_cases hl2 : i < cs k
        · obtain ⟨⟨v0, hc0⟩, hf0⟩ := hA.out.own hl2
          have hstep := Lib.hid (hA.out.step hl2 hlt HD.out)
          have hi1 : (i : Int) < (cs k : Int) := by omega
          have hk255 : (k : Int) ≤ 255 := by omega
          go_wp2
          go_roundw
          case rel => exact ⟨i + 1, by omega, by go_num, hstep.out⟩
          case measure => simp [intOf]; omega
        · have he : i = cs k := by omega
          rw [he] at hA
          have hdone := Lib.hid hA.out.done
          clear hA he
          go_wp2
          go_roundw
          case rel => exact ⟨k + 1, by omega, by go_num, hdone.out⟩
          case measure => simp [intOf]; omega
    · obtain rfl : k = K := by omega
      obtain ⟨w5, hw5⟩ : ∃ V, V = wr := ⟨_, rfl⟩
      subst hw5
      go_wp2_with fail
      go_loopw [6, 7, 8] (fun v _ _ wr2 => ∃ j : Nat, j ≤ k ∧ v = .int .i64 j ∧ Hid (Below w5.heap.size w5 wr2)) (fun v _ _ _ => k - (intOf v).toNat)
      case atStart => exact ⟨0, Nat.zero_le _, rfl, Below.refl _ _⟩
      case round =>
        obtain ⟨j, hj, rfl, hB⟩ := hrel
        by_cases hl3 : j < k
        · have hN := HN.out j hl3
          unfold maxLen at hN
          have hLw := Lib.hid ((HL.out.only hF.out.only hgl.out).below' hB.out)
          have hO := Lib.hid ((hF.out.full j hl3).below' hB.out)
          have hcell := (hLw.out.cell j).trans (rowsV_at gs ns cs hl3)
          have hk0 : (0 : Int) ≤ (j : Int) := by omega
          have hk1 : (j : Int) < (k : Int) := by omega
          go_upto_region 12 with (fail)
          refine region_tail 10 (by kernel_rfl) (by kernel_rfl) ?_
          simp only [List.take_succ_cons, List.take_zero, List.drop_succ_cons, List.drop_zero]
          repeat (refine still_step rfl rfl (fun K hK => ?_); go_wp2)
          refine wpStill_nil ?_
          clear hcell hLw
          go_wp2_with fail
          have hB1 := Lib.hid (below_drewN hB.out 1)
          go_loopw [8] (fun v wr3 => ∃ i : Nat, i ≤ cs j ∧ v = .int .i64 i ∧ Hid (Below w5.heap.size w5 wr3) ∧ Hid (Own wr3 (gs j) 5 (List.replicate (cs j) (.int .u8 (j : Nat))))) (fun v _ => cs j - (intOf v).toNat)
          case atStart => exact ⟨0, Nat.zero_le _, rfl, hB1.out, hO.out⟩
          case round =>
            obtain ⟨i, hi, rfl, hB2, hO2⟩ := hrel
            by_cases hl4 : i < cs j
            · have hc1 := (hO2.out.cell i).trans (List.getElem?_replicate_of_lt hl4)
              have hi1 : (i : Int) < (cs j : Int) := by omega
              have hk255 : (j : Int) ≤ 255 := by omega
              go_wp2
              go_roundw
              case rel => exact ⟨i + 1, by omega, by go_num, hB2.out, hO2.out⟩
              case measure => simp [intOf]; omega
            · go_wp2
              go_roundw
              case rel => exact ⟨j + 1, by omega, by go_num, hB2.out⟩
              case measure => simp [intOf]; omega
        · have hd : decide ((k : Int) ≤ 256) = true := by rw [decide_eq_true_eq]; omega
          go_wp2
          go_ret
          exact ⟨rfl, hF.out.only.then hB.out⟩
end Go.Proofs.Ytnhlenagojbigaa
