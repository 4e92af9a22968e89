/- Walk: period. -/
import Derived.Test.YtmfeponanjgapaaPer
import Derived.Test.YtmfeponanjgapaaWk
namespace Go.Proofs.Ytmfeponanjgapaa
open Go.RowKit

def av (r : List Int) (i : Nat) : Int := r.getD i 0
theorem av_at {r : List Int} {i : Nat} (h : i < r.length) : r[i]? = some (av r i) := by
  unfold av
  rw [List.getD_eq_getElem?_getD, List.getElem?_eq_getElem h]
  rfl
/-- The borders, as far as they are known. -/
def BdL (r : List Int) (k : Nat) (O : List Int) : Prop := O.length = r.length ∧ ∀ i, i < k → ∃ b : Nat, O[i]? = some (b : Int) ∧ IsBd (av r) i b
theorem BdL.start {r : List Int} (h : 0 < r.length) : BdL r 1 (idL r.length 0) := by
  refine ⟨length_idL _ _, fun i hi => ⟨0, ?_, ?_⟩⟩
  · obtain rfl : i = 0 := by omega
    unfold idL
    rw [List.getElem?_map, List.getElem?_range h]
    simp
  · obtain rfl : i = 0 := by omega
    exact isBd_zero
theorem BdL.step {r O : List Int} {k b : Nat} (h : BdL r k O) (hk : k < r.length) (hb : IsBd (av r) k b) : BdL r (k + 1) (O.set k (b : Int)) := by
  refine ⟨by rw [List.length_set]; exact h.1, fun i hi => ?_⟩
  rw [List.getElem?_set]
  by_cases e : k = i
  · subst e
    exact ⟨b, by rw [if_pos rfl, if_pos (by rw [h.1]; exact hk)], hb⟩
  · rw [if_neg e]
    exact h.2 i (by omega)
theorem cellsI_set (O : List Int) (k : Nat) (x : Int) : (cellsI O).set k (.int .i64 x) = cellsI (O.set k x) := by
  unfold cellsI
  rw [List.map_set]
/-- How far on a list can be turned and stays. -/
def stepOf (r : List Int) (n : Nat) (s : Nat) : Prop := LeastFP (circ (av r) n) s
def PerPost (w : World) (r : List Int) (e : Ending) (w' : World) : Prop := ∃ s : Nat, e = .returned (.int .i64 s) ∧ s ≤ r.length ∧ LeastFP (circ (av r) r.length) s ∧ Below w.heap.size w w'
/-- Round k's start: what is known, and what the block of the borders holds. -/
def PeL (w : World) (r : List Int) (n : Nat) (s5 s6 : Value) (wr : World) : Prop :=
  ∃ k b : Nat, k + 1 ≤ n ∧ s5 = .int .i64 ((k : Int) + 1) ∧ s6 = .int .i64 b ∧ IsBd (av r) k b ∧ ∃ O, BdL r (k + 1) O ∧ Own wr w.heap.size 3 (cellsI O) ∧ Below w.heap.size w wr
def PeI (w : World) (r : List Int) (k : Nat) (O : List Int) (s6 : Value) (wr : World) : Prop :=
  ∃ b : Nat, s6 = .int .i64 b ∧ Cand (av r) (k + 1) b ∧ Own wr w.heap.size 3 (cellsI O) ∧ Below w.heap.size w wr
set_option maxRecDepth 100000 in
set_option maxHeartbeats 4000000 in
theorem period_any (A : Option Addr) (c n : Nat) (r : List Int) (w : World) (hr : Rd w A (cellsI r)) (hl : n = r.length) (hn0 : 0 < n) (hn : n ≤ 1000) :
    Calls Try.prog 24 #[.slice A n c] w (PerPost w r) := by
  obtain ⟨b, off, h0, h1⟩ := hr.head
  have hA := (h0 (by rw [length_cellsI]; omega)).1
  have hb := (h0 (by rw [length_cellsI]; omega)).2
  subst hA
  have HC := Lib.hid (fun (V : World) (hV : Below w.heap.size w V) (i : Nat) (hi : i < n) => (show V.cell? ⟨b, off + i, none⟩ = some (.int .i64 (av r i)) from ((below_cells hV).1 _ _ hb).trans (h1 i _ (cellsI_at (av_at (by omega))))))
  have HL := Lib.hid hl
  clear hr h0 h1 hl
  have hmk := mk_ints n (by omega)
  go_enter Try.func24, Try.ntmps24
  go_wp2
  go_loopw [5, 6] (fun s5 s6 wr => PeL w r n s5 s6 wr) (fun s5 _ _ => n - (intOf s5).toNat)
  case atStart => exact ⟨0, 0, by omega, rfl, rfl, isBd_zero, idL n 0, by have := HL.out; subst this; exact BdL.start hn0, by rw [← zeros_idL]; exact Own.new w _ _, (Below.refl _ w).alloc (Nat.le_refl _) _⟩
  case round =>
    obtain ⟨k, b0, hk, rfl, rfl, hbd, O, hO, hW, hB⟩ := hrel
    have HO := Lib.hid hO; have HW := Lib.hid hW; have HB := Lib.hid hB; have HD := Lib.hid hbd
    clear hO hW hB hbd
    by_cases hlt : k + 1 < n
    · obtain ⟨wo, hwo⟩ : ∃ wo : World, wo = wr := ⟨_, rfl⟩
      subst hwo
      have HK := Lib.hid hlt
      go_wp2
      go_loopw [6] (fun s6 wi => PeI w r k O s6 wi) (fun s6 _ => (intOf s6).toNat)
      case atStart => exact ⟨b0, rfl, Cand.start HD.out, HW.out, HB.out⟩
      case round =>
        obtain ⟨b1, rfl, hcd, hW2, hB2⟩ := hrel
        have HC1 := Lib.hid hcd; have HW2 := Lib.hid hW2; have HB2 := Lib.hid hB2
        have hb1 := hcd.lt
        have ck : wr.drew.cell? ⟨b, off + (k + 1), none⟩ = some (.int .i64 (av r (k + 1))) := HC.out wr.drew (below_drewN HB2.out 1) _ HK.out
        have cb : wr.drew.cell? ⟨b, off + b1, none⟩ = some (.int .i64 (av r b1)) := HC.out wr.drew (below_drewN HB2.out 1) _ (by omega)
        clear hcd hW2 hB2
        obtain ⟨x, hx⟩ : ∃ x, av r (k + 1) = x := ⟨_, rfl⟩
        obtain ⟨y, hy⟩ : ∃ x, av r b1 = x := ⟨_, rfl⟩
        rw [hx] at ck
        rw [hy] at cb
        have HX := Lib.hid hx; have HY := Lib.hid hy
        clear hx hy
        rcases Nat.eq_zero_or_pos b1 with h0 | h0
        · skip
          have H0 := Lib.hid h0
          have hd : decide (0 < b1) = false := by rw [decide_eq_false_iff_not]; omega
          clear h0
          by_cases hxy : x = y
          · subst hxy
            have EB := Lib.hid (HC1.out.hit (by rw [HX.out, HY.out]))
            go_wp2
            go_quiet (fail)
            go_wp2
            have ck2 : (wr.drewN (nq + 1)).cell? ⟨b, off + (k + 1), none⟩ = some (.int .i64 x) := ck
            have cb2 : (wr.drewN (nq + 1)).cell? ⟨b, off + b1, none⟩ = some (.int .i64 x) := cb
            clear ck cb
            refine region_tail 8 (by kernel_rfl) (by kernel_rfl) ?_
            simp only [List.take_succ_cons, List.take_zero, List.drop_succ_cons, List.drop_zero]
            repeat (refine still_step rfl rfl (fun K hK => ?_); go_wp2)
            refine wpStill_nil ?_
            have cw : (wr.drewN (nq + 1)).cell? ⟨w.heap.size, k + 1, none⟩ = some (.int .i64 (O.getD (k + 1) 0)) := (HW2.out.cell _).trans (cellsI_at (by rw [List.getD_eq_getElem?_getD, List.getElem?_eq_getElem (by have := HO.out.1; have := HL.out; have := HK.out; omega)]; rfl))
            have fw : (wr.drewN (nq + 1)).frozen? ⟨w.heap.size, k + 1, none⟩ = false := HW2.out.frozen _
            clear ck2 cb2
            go_wp2
            go_roundw
            case rel => exact ⟨k + 1, (b1 + 1), by have := HK.out; omega, by go_num, by go_num, EB.out, _, HO.out.step (by have := HL.out; have := HK.out; omega) EB.out, by have h := HW2.out.set (k + 1) (.int .i64 ((b1 + 1) : Nat)); rw [cellsI_set] at h; exact h, (below_drewN (below_drewN (HB2.out.setCell (p := ⟨w.heap.size, k + 1, none⟩) (Nat.le_refl _) _) nq) 1)⟩
            case measure => simp [intOf]; have := HK.out; omega
          · have hq : (x == y) = false := by rw [beq_eq_false_iff_ne]; exact hxy
            have EB := Lib.hid (show IsBd (av r) (k + 1) b1 by have h := HC1.out; have e1 := HX.out; have e2 := HY.out; have e0 := H0.out; subst e0; exact h.miss (by rw [e1, e2]; exact hxy))
            go_wp2
            go_quiet (fail)
            go_wp2
            have ck2 : (wr.drewN (nq + 1)).cell? ⟨b, off + (k + 1), none⟩ = some (.int .i64 x) := ck
            have cb2 : (wr.drewN (nq + 1)).cell? ⟨b, off + b1, none⟩ = some (.int .i64 y) := cb
            clear ck cb
            refine region_tail 8 (by kernel_rfl) (by kernel_rfl) ?_
            simp only [List.take_succ_cons, List.take_zero, List.drop_succ_cons, List.drop_zero]
            repeat (refine still_step rfl rfl (fun K hK => ?_); go_wp2)
            refine wpStill_nil ?_
            have cw : (wr.drewN (nq + 1)).cell? ⟨w.heap.size, k + 1, none⟩ = some (.int .i64 (O.getD (k + 1) 0)) := (HW2.out.cell _).trans (cellsI_at (by rw [List.getD_eq_getElem?_getD, List.getElem?_eq_getElem (by have := HO.out.1; have := HL.out; have := HK.out; omega)]; rfl))
            have fw : (wr.drewN (nq + 1)).frozen? ⟨w.heap.size, k + 1, none⟩ = false := HW2.out.frozen _
            clear ck2 cb2
            go_wp2
            go_roundw
            case rel => exact ⟨k + 1, b1, by have := HK.out; omega, by go_num, rfl, EB.out, _, HO.out.step (by have := HL.out; have := HK.out; omega) EB.out, by have h := HW2.out.set (k + 1) (.int .i64 (b1 : Nat)); rw [cellsI_set] at h; exact h, (below_drewN (below_drewN (HB2.out.setCell (p := ⟨w.heap.size, k + 1, none⟩) (Nat.le_refl _) _) nq) 1)⟩
            case measure => simp [intOf]; have := HK.out; omega
        · have hd : decide ((0 : Int) < (b1 : Int)) = true := by rw [decide_eq_true_eq]; omega
          by_cases hxy : x = y
          · skip
            subst hxy
            have hq2 : (x != x) = false := by simp
            have EB := Lib.hid (HC1.out.hit (by rw [HX.out, HY.out]))
            go_wp2
            refine region_tail 12 (by kernel_rfl) (by kernel_rfl) ?_
            simp only [List.take_succ_cons, List.take_zero, List.drop_succ_cons, List.drop_zero]
            repeat (refine still_step rfl rfl (fun K hK => ?_); go_wp2)
            refine wpStill_nil ?_
            go_wp2
            have ck2 : wr.drew.drew.cell? ⟨b, off + (k + 1), none⟩ = some (.int .i64 x) := ck
            have cb2 : wr.drew.drew.cell? ⟨b, off + b1, none⟩ = some (.int .i64 x) := cb
            clear ck cb
            refine region_tail 8 (by kernel_rfl) (by kernel_rfl) ?_
            simp only [List.take_succ_cons, List.take_zero, List.drop_succ_cons, List.drop_zero]
            repeat (refine still_step rfl rfl (fun K hK => ?_); go_wp2)
            refine wpStill_nil ?_
            have cw : wr.drew.drew.cell? ⟨w.heap.size, k + 1, none⟩ = some (.int .i64 (O.getD (k + 1) 0)) := (HW2.out.cell _).trans (cellsI_at (by rw [List.getD_eq_getElem?_getD, List.getElem?_eq_getElem (by have := HO.out.1; have := HL.out; have := HK.out; omega)]; rfl))
            have fw : wr.drew.drew.frozen? ⟨w.heap.size, k + 1, none⟩ = false := HW2.out.frozen _
            clear ck2 cb2
            go_wp2
            go_roundw
            case rel => exact ⟨k + 1, (b1 + 1), by have := HK.out; omega, by go_num, by go_num, EB.out, _, HO.out.step (by have := HL.out; have := HK.out; omega) EB.out, by have h := HW2.out.set (k + 1) (.int .i64 ((b1 + 1) : Nat)); rw [cellsI_set] at h; exact h, (below_drewN (HB2.out.setCell (p := ⟨w.heap.size, k + 1, none⟩) (Nat.le_refl _) _) 2)⟩
            case measure => simp [intOf]; have := HK.out; omega
          · have hq : (x == y) = false := by rw [beq_eq_false_iff_ne]; exact hxy
            have hqn : (x != y) = true := by rw [bne_iff_ne]; exact hxy
            obtain ⟨c1, hc1, hbd1⟩ := HO.out.2 (b1 - 1) (by omega)
            have hback := Lib.hid (HC1.out.back h0 (by rw [HX.out, HY.out]; exact hxy) hbd1)
            have hcl := hbd1.le
            have cw : wr.drew.cell? ⟨w.heap.size, b1 - 1, none⟩ = some (.int .i64 (c1 : Int)) := (HW2.out.cell _).trans (cellsI_at hc1)
            have cw2 : ((b1 : Int) - 1).toNat = b1 - 1 := by omega
            clear hc1 hbd1 hxy
            go_wp2
            refine region_tail 12 (by kernel_rfl) (by kernel_rfl) ?_
            simp only [List.take_succ_cons, List.take_zero, List.drop_succ_cons, List.drop_zero]
            repeat (refine still_step rfl rfl (fun K hK => ?_); go_wp2)
            refine wpStill_nil ?_
            go_wp2
            go_roundw
            case rel => exact ⟨c1, rfl, hback.out, HW2.out.drew, below_drewN HB2.out 1⟩
            case measure => simp [intOf]; omega
    · obtain rfl : n = k + 1 := by omega
      obtain ⟨c1, hc1, hbd⟩ := HO.out.2 k (by omega)
      have hcl := hbd.le
      obtain ⟨P, hP⟩ : ∃ P : Nat, P = k + 1 - c1 := ⟨_, rfl⟩
      have HL2 := Lib.hid (least_of (a := av r) (n := k + 1) (p := P) (by omega) (by omega) (by rw [hP]; exact hbd.per) (fun q h1 h2 => by rw [hP]; exact hbd.min q h1 h2))
      have hP0 : 0 < P := by omega
      have hP1 : ((k : Int) + 1) - (c1 : Int) = (P : Int) := by omega
      have cw : wr.cell? ⟨w.heap.size, k, none⟩ = some (.int .i64 (c1 : Int)) := (HW.out.cell _).trans (cellsI_at hc1)
      have hPk : P ≤ k + 1 := by omega
      clear hc1 hbd hP hcl
      by_cases hz : (k + 1) % P = 0
      · have hs := Lib.hid (show LeastFP (circ (av r) r.length) P by have h := HL2.out; rw [if_pos hz] at h; rw [← HL.out]; exact h)
        have e1 : (((k : Int) + 1) % (P : Int) == 0) = true := by rw [beq_iff_eq]; have := congrArg (fun x : Nat => (x : Int)) hz; simpa [Int.natCast_emod] using this
        go_wp2
        go_ret
        exact ⟨P, rfl, by rw [← HL.out]; exact hPk, hs.out, HB.out⟩
      · have hs := Lib.hid (show LeastFP (circ (av r) r.length) (k + 1) by have h := HL2.out; rw [if_neg hz] at h; rw [← HL.out]; exact h)
        have e1 : (((k : Int) + 1) % (P : Int) == 0) = false := by
          rw [beq_eq_false_iff_ne]
          intro e
          apply hz
          have : (((k + 1) % P : Nat) : Int) = 0 := by rw [Int.natCast_emod]; exact_mod_cast e
          exact_mod_cast this
        go_wp2
        go_ret
        exact ⟨k + 1, rfl, by rw [← HL.out]; exact Nat.le_refl _, hs.out, HB.out⟩
end Go.Proofs.Ytmfeponanjgapaa
