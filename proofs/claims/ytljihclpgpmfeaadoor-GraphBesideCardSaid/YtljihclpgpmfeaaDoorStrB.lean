/- Walks: strand.put, get, Right. -/
import Derived.Test.YtljihclpgpmfeaaDoorStrA
namespace Go.Proofs.YtljihclpgpmfeaaDoor
set_option maxRecDepth 100000
open Go.RowKit

/-- The bits f, with w digits of n laid over from the place at on (over noughts). -/
def putF (f : Nat → Bool) (at_ n w : Nat) (i : Nat) : Bool := f i || (decide (at_ ≤ i ∧ i < at_ + w) && n.testBit (w - 1 - (i - at_)))
/-- .. the first i digits alone. -/
def putTo (f : Nat → Bool) (at_ n w k : Nat) (i : Nat) : Bool := f i || (decide (at_ ≤ i ∧ i < at_ + k) && n.testBit (w - 1 - (i - at_)))
theorem putTo_zero (f : Nat → Bool) (a n w : Nat) : putTo f a n w 0 = f := by
  funext i
  unfold putTo
  have : ¬ (a ≤ i ∧ i < a + 0) := by omega
  rw [decide_eq_false this]; simp
theorem putTo_all (f : Nat → Bool) (a n w : Nat) : putTo f a n w w = putF f a n w := rfl
theorem putTo_no {f : Nat → Bool} {a n w k : Nat} (h : n.testBit (w - 1 - k) = false) : putTo f a n w (k + 1) = putTo f a n w k := by
  funext i
  unfold putTo
  by_cases hi : i = a + k
  · subst hi
    simp [h]
  · have : (a ≤ i ∧ i < a + (k + 1)) ↔ (a ≤ i ∧ i < a + k) := by omega
    simp [this]
theorem putTo_yes {f : Nat → Bool} {a n w k : Nat} (h : n.testBit (w - 1 - k) = true) (i : Nat) : putTo f a n w (k + 1) i = (putTo f a n w k i || decide (i = a + k)) := by
  unfold putTo
  by_cases hi : i = a + k
  · subst hi
    simp [h]
  · have : (a ≤ i ∧ i < a + (k + 1)) ↔ (a ≤ i ∧ i < a + k) := by omega
    simp [this, hi]
theorem test_u64 (n s : Nat) (hn : n < 18446744073709551616) : (bits BinOp.and IntKind.u64 ((n : Int) / 2 ^ s) 1 == 1) = n.testBit s := by
  have e : (n : Int) / 2 ^ s = ((n / 2 ^ s : Nat) : Int) := by simp
  have hd : n / 2 ^ s < 18446744073709551616 := Nat.lt_of_le_of_lt (Nat.div_le_self _ _) hn
  rw [e, show (1 : Int) = ((1 : Nat) : Int) from rfl, u64_and_nat _ 1 hd (by omega), nat_mask1, Nat.testBit_eq_decide_div_mod_eq]
  have : n / 2 ^ s % 2 < 2 := Nat.mod_lt _ (by omega)
  by_cases h1 : n / 2 ^ s % 2 = 1
  · simp [h1]
  · have : n / 2 ^ s % 2 = 0 := by omega
    simp [this]
theorem or_byte (f g : Nat → Bool) (p : Nat) (h : ∀ i, i / 8 = p / 8 → g i = (f i || decide (i = p))) :
    bits BinOp.or IntKind.u8 ((byteF f (p / 8) : Nat) : Int) (2 ^ (7 - p % 8) % 256) = ((byteF g (p / 8) : Nat) : Int) := by
  have hr : p % 8 < 8 := Nat.mod_lt _ (by omega)
  have hp : (2 : Nat) ^ (7 - p % 8) < 256 := Nat.lt_of_lt_of_le (Nat.pow_lt_pow_right (by omega) (show 7 - p % 8 < 8 by omega)) (by omega)
  have e : ((2 : Int) ^ (7 - p % 8) % 256) = ((2 ^ (7 - p % 8) : Nat) : Int) := by
    have : ((2 ^ (7 - p % 8) : Nat) : Int) = (2 : Int) ^ (7 - p % 8) := by simp
    rw [← this]
    generalize 2 ^ (7 - p % 8) = P at hp
    omega
  rw [e, u8_or_nat _ _ (byteF_lt f _) hp]
  congr 1
  refine eq_byteF (Nat.or_lt_two_pow (n := 8) (byteF_lt f _) hp) (fun t ht => ?_)
  rw [Nat.testBit_or, testBit_byteF, Nat.testBit_two_pow, h _ (by omega)]
  have e1 : (7 - p % 8 = t) ↔ (8 * (p / 8) + (7 - t) = p) := by omega
  simp [ht, e1]

set_option maxRecDepth 100000 in
set_option maxHeartbeats 1000000 in
theorem put_any (g k : Nat) (L : Int) (f : Nat → Bool) (at_ n wd : Nat) (w : World) (hg : Own w g 5 (cellsF f k)) (hk : k ≤ 1000000) (hw : wd ≤ 64) (hat : at_ + wd ≤ 8 * k) (hn : n < 18446744073709551616) :
    Calls Tryd.prog 61 #[.agg #[.slice (some ⟨g, 0, none⟩) k k, .int .i64 L], .int .i64 at_, .int .u64 n, .int .i64 wd] w fun e w' =>
      e = .returned (.tuple #[]) ∧ Own w' g 5 (cellsF (putF f at_ n wd) k) ∧ w.grownBy w' (some g) := by
  have hgs := hg.lt
  have HG0 := Lib.hid hg
  have HN := Lib.hid hn
  clear hg hn
  go_enter Tryd.func61, Tryd.ntmps61
  go_wp2
  go_loopw [8, 10] (fun _ v wr => ∃ i : Nat, i ≤ wd ∧ v = .int .i64 i ∧ Hid (Own wr g 5 (cellsF (putTo f at_ n wd i) k)) ∧ wr.cell? ⟨w.heap.size, 0, none⟩ = some (.slice (some ⟨g, 0, none⟩) k k) ∧ Hid (w.grownBy wr (some g)))
     (fun _ v _ => wd - (intOf v).toNat)
  case atStart => exact ⟨0, by omega, rfl, by rw [putTo_zero]; exact HG0.out.alloc _, by simp, grown_of_below ((Below.refl _ _).alloc (by simp) _)⟩
  case round =>
    obtain ⟨i, hi, rfl, HG, hc, HB⟩ := hrel
    by_cases hlt : i < wd
    · have hcell : wr.cell? ⟨g, (at_ + i) / 8, none⟩ = some (.int .u8 (byteF (putTo f at_ n wd i) ((at_ + i) / 8) : Nat)) := (HG.out.cell _).trans (cellsF_at _ _ _ (by omega))
      have hfr : wr.frozen? ⟨g, (at_ + i) / 8, none⟩ = false := HG.out.frozen _
      have ht := test_u64 n (wd - 1 - i) HN.out
      by_cases hb : n.testBit (wd - 1 - i) = true
      · have hor := Lib.hid (or_byte (putTo f at_ n wd i) (putTo f at_ n wd (i + 1)) (at_ + i) (fun j _ => putTo_yes hb j))
        have HG1 := Lib.hid (cellsF_set (f := putTo f at_ n wd i) (g := putTo f at_ n wd (i + 1)) (k := k) (q := (at_ + i) / 8) rfl (fun j _ hj => by rw [putTo_yes hb j]; have : ¬ j = at_ + i := (fun e => hj (by rw [e])); simp [this]))
        generalize byteF (putTo f at_ n wd i) ((at_ + i) / 8) = X at hcell hor
        rw [hb] at ht
        clear hb
        go_wp2
        refine region_tail 16 (by kernel_rfl) (by kernel_rfl) ?_
        simp only [List.take_succ_cons, List.take_zero, List.drop_succ_cons, List.drop_zero]
        repeat (refine still_step rfl rfl (fun K hK => ?_); go_wp2)
        refine wpStill_nil ?_
        go_wp2
        go_roundw
        case rel =>
          rw [hor.out]
          exact ⟨i + 1, by omega, by go_num, by rw [← HG1.out]; exact (HG.out.set _ _).drew, by
            rw [World.cell?_drew, World.cell?_setCell_other _ _ _ _ (by intro e; injection e with e; omega)]; exact hc, grown_drew (grown_set HB.out (.inl rfl) _)⟩
        case measure => simp [intOf]; omega
      · simp only [Bool.not_eq_true] at hb
        have hno := Lib.hid (putTo_no (f := f) (a := at_) hb)
        rw [hb] at ht
        clear hb
        go_wp2
        go_roundw
        case rel => exact ⟨i + 1, by omega, by go_num, by rw [hno.out]; exact HG.out, hc, HB.out⟩
        case measure => simp [intOf]; omega
    · obtain rfl : i = wd := by omega
      go_wp2
      go_end0
      exact ⟨rfl, HG.out, HB.out⟩
end Go.Proofs.YtljihclpgpmfeaaDoor
