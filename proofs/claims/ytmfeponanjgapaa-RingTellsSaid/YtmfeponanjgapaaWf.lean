/- Walks: Same, sameInts. -/
import Derived.Test.YtmfeponanjgapaaWe
namespace Go.Proofs.Ytmfeponanjgapaa
open Go.RowKit

theorem beq_drop {α : Type} [BEq α] [LawfulBEq α] {us vs : List α} {k : Nat} {a x : α} (ha : us[k]? = some a) (hx : vs[k]? = some x) : (us.drop k == vs.drop k) = ((a == x) && (us.drop (k + 1) == vs.drop (k + 1))) := by
  obtain ⟨h1, rfl⟩ := List.getElem?_eq_some_iff.1 ha
  obtain ⟨h2, rfl⟩ := List.getElem?_eq_some_iff.1 hx
  rw [List.drop_eq_getElem_cons h1, List.drop_eq_getElem_cons h2]
  rfl
theorem beq_end {α : Type} [BEq α] [LawfulBEq α] {us vs : List α} {k : Nat} (ha : us.length ≤ k) (hx : vs.length ≤ k) : (us.drop k == vs.drop k) = true := by
  rw [List.drop_eq_nil_of_le ha, List.drop_eq_nil_of_le hx]
  rfl
theorem beq_len {α : Type} [BEq α] [LawfulBEq α] {us vs : List α} (h : us.length ≠ vs.length) : (us == vs) = false := by
  rw [beq_eq_false_iff_ne]
  rintro rfl
  exact h rfl
set_option maxRecDepth 100000 in
set_option maxHeartbeats 4000000 in
theorem same_any (A B : Option Addr) (c d n m : Nat) (us vs : List (List UInt8)) (w : World) (hr : RdW w A us) (hs : RdW w B vs) (hl : n = us.length) (hk : m = vs.length) (hn : n ≤ 9223372036854775807) :
    Calls Try.prog 11 #[.slice A n c, .slice B m d] w fun e w' => e = .returned (.bool (us == vs)) ∧ Below w.heap.size w w' := by
  have HR := Lib.hid hr; have HS := Lib.hid hs
  have HL := Lib.hid hl; have KL := Lib.hid hk
  clear hr hl hs hk
  by_cases hnm : n = m
  · subst hnm
    go_enter Try.func11, Try.ntmps11
    go_wp2
    go_loopw [5, 13] (fun _ i wr => ∃ k : Nat, k ≤ n ∧ i = .int .i64 k ∧ Hid ((us == vs) = (us.drop k == vs.drop k)) ∧ Hid (Below w.heap.size w wr)) (fun _ i _ => n - (intOf i).toNat)
    case atStart => exact ⟨0, Nat.zero_le _, rfl, Lib.hid rfl, Lib.hid (Below.refl _ _)⟩
    case round =>
      obtain ⟨k, hk, rfl, hS, hB⟩ := hrel
      by_cases hlt : k < n
      · obtain ⟨b, off, h0, h1⟩ := (HR.out.below hB.out).at
        obtain ⟨b', off', h0', h1'⟩ := (HS.out.below hB.out).at
        have hA := (h0 (by have := HL.out; omega)).1
        have hA' := (h0' (by have := KL.out; omega)).1
        subst hA hA'
        obtain ⟨a, ha⟩ : ∃ l, us[k]? = some l := ⟨_, List.getElem?_eq_getElem (by have := HL.out; omega)⟩
        obtain ⟨x, hx⟩ : ∃ l, vs[k]? = some l := ⟨_, List.getElem?_eq_getElem (by have := KL.out; omega)⟩
        obtain ⟨A', c', hc, hra⟩ := h1 k a ha
        obtain ⟨B', d', hd, hrb⟩ := h1' k x hx
        have hst := Lib.hid (hS.out.trans (beq_drop ha hx))
        have c1 := conv_word A' a.length c' a wr.drew rfl hra.drew
        have c2 := conv_word B' x.length d' x wr.drew rfl hrb.drew
        have HBq := Lib.hid (strB_beq a x)
        have hc9 : wr.drew.cell? ⟨b, off + k, none⟩ = some (.slice A' a.length c') := hc
        have hd9 : wr.drew.cell? ⟨b', off' + k, none⟩ = some (.slice B' x.length d') := hd
        generalize strB a = X at c1 HBq
        generalize strB x = Y at c2 HBq
        have hB2 := Lib.hid (below_drewN hB.out 1)
        clear h0 h1 h0' h1' ha hx hra hrb hS hB
        cases hq : (X.toList == Y.toList) with
        | true =>
          have hqn : (X.toList != Y.toList) = false := by rw [bne, hq]; rfl
          have hs2 := Lib.hid (show (us == vs) = (us.drop (k + 1) == vs.drop (k + 1)) by rw [hst.out, ← HBq.out, hq, Bool.true_and])
          clear hst HBq
          go_wp2
          refine region_tail 10 (by kernel_rfl) (by kernel_rfl) ?_
          simp only [List.take_succ_cons, List.take_zero, List.drop_succ_cons, List.drop_zero]
          repeat (refine still_step rfl rfl (fun K hK => ?_); go_wp2)
          refine wpStill_nil ?_
          go_wp2
          go_roundw
          case rel => exact ⟨k + 1, by omega, by go_num, hs2, hB2⟩
          case measure => simp [intOf]; omega
        | false =>
          have hqn : (X.toList != Y.toList) = true := by rw [bne, hq]; rfl
          have hs2 := Lib.hid (show (us == vs) = false by rw [hst.out, ← HBq.out, hq, Bool.false_and])
          clear hst HBq
          go_wp2
          refine region_tail 10 (by kernel_rfl) (by kernel_rfl) ?_
          simp only [List.take_succ_cons, List.take_zero, List.drop_succ_cons, List.drop_zero]
          repeat (refine still_step rfl rfl (fun K hK => ?_); go_wp2)
          refine wpStill_nil ?_
          go_wp2
          go_ret
          exact ⟨by rw [hs2.out]; rfl, hB2.out⟩
      · have hs2 := Lib.hid (hS.out.trans (beq_end (k := k) (by have := HL.out; omega) (by have := KL.out; omega)))
        go_wp2
        go_ret
        exact ⟨by rw [hs2.out]; rfl, hB.out⟩
  · have hnm' : ((n : Int) != (m : Int)) = true := by rw [bne_iff_ne]; omega
    have hs2 := Lib.hid (beq_len (us := us) (vs := vs) (by have := HL.out; have := KL.out; omega))
    go_enter Try.func11, Try.ntmps11
    go_wp2
    go_ret
    exact ⟨by rw [hs2.out]; rfl, Below.refl _ _⟩
/-- The cells of numbers. -/
def cellsI (l : List Int) : List Value := l.map (Value.int .i64)
theorem length_cellsI (l : List Int) : (cellsI l).length = l.length := by simp [cellsI]
theorem cellsI_at {l : List Int} {i : Nat} {x : Int} (h : l[i]? = some x) : (cellsI l)[i]? = some (.int .i64 x) := by
  unfold cellsI
  rw [List.getElem?_map, h]
  rfl
set_option maxRecDepth 100000 in
set_option maxHeartbeats 4000000 in
theorem sameInts_any (A B : Option Addr) (c d n m : Nat) (us vs : List Int) (w : World) (hr : Rd w A (cellsI us)) (hs : Rd w B (cellsI vs)) (hl : n = us.length) (hk : m = vs.length) (hn : n ≤ 9223372036854775807) :
    Calls Try.prog 18 #[.slice A n c, .slice B m d] w fun e w' => e = .returned (.bool (us == vs)) ∧ Below w.heap.size w w' := by
  have HR := Lib.hid hr; have HS := Lib.hid hs
  have HL := Lib.hid hl; have KL := Lib.hid hk
  clear hr hl hs hk
  by_cases hnm : n = m
  · subst hnm
    go_enter Try.func18, Try.ntmps18
    go_wp2
    go_loopw [5, 13] (fun _ i wr => ∃ k : Nat, k ≤ n ∧ i = .int .i64 k ∧ Hid ((us == vs) = (us.drop k == vs.drop k)) ∧ Hid (Below w.heap.size w wr)) (fun _ i _ => n - (intOf i).toNat)
    case atStart => exact ⟨0, Nat.zero_le _, rfl, Lib.hid rfl, Lib.hid (Below.refl _ _)⟩
    case round =>
      obtain ⟨k, hk, rfl, hS, hB⟩ := hrel
      by_cases hlt : k < n
      · obtain ⟨b, off, h0, h1⟩ := (HR.out.below hB.out).head
        obtain ⟨b', off', h0', h1'⟩ := (HS.out.below hB.out).head
        have hA := (h0 (by rw [length_cellsI]; have := HL.out; omega)).1
        have hA' := (h0' (by rw [length_cellsI]; have := KL.out; omega)).1
        subst hA hA'
        obtain ⟨a, ha⟩ : ∃ l, us[k]? = some l := ⟨_, List.getElem?_eq_getElem (by have := HL.out; omega)⟩
        obtain ⟨x, hx⟩ : ∃ l, vs[k]? = some l := ⟨_, List.getElem?_eq_getElem (by have := KL.out; omega)⟩
        have hc : wr.drew.cell? ⟨b, off + k, none⟩ = some (.int .i64 a) := h1 k _ (cellsI_at ha)
        have hd : wr.drew.cell? ⟨b', off' + k, none⟩ = some (.int .i64 x) := h1' k _ (cellsI_at hx)
        have hst := Lib.hid (hS.out.trans (beq_drop ha hx))
        have hB2 := Lib.hid (below_drewN hB.out 1)
        clear h0 h1 h0' h1' ha hx hS hB
        cases hq : (a == x) with
        | true =>
          have hqn : (a != x) = false := by rw [bne, hq]; rfl
          have hs2 := Lib.hid (show (us == vs) = (us.drop (k + 1) == vs.drop (k + 1)) by rw [hst.out, hq, Bool.true_and])
          clear hst hq
          go_wp2
          refine region_tail 8 (by kernel_rfl) (by kernel_rfl) ?_
          simp only [List.take_succ_cons, List.take_zero, List.drop_succ_cons, List.drop_zero]
          repeat (refine still_step rfl rfl (fun K hK => ?_); go_wp2)
          refine wpStill_nil ?_
          go_wp2
          go_roundw
          case rel => exact ⟨k + 1, by omega, by go_num, hs2, hB2⟩
          case measure => simp [intOf]; omega
        | false =>
          have hqn : (a != x) = true := by rw [bne, hq]; rfl
          have hs2 := Lib.hid (show (us == vs) = false by rw [hst.out, hq, Bool.false_and])
          clear hst hq
          go_wp2
          refine region_tail 8 (by kernel_rfl) (by kernel_rfl) ?_
          simp only [List.take_succ_cons, List.take_zero, List.drop_succ_cons, List.drop_zero]
          repeat (refine still_step rfl rfl (fun K hK => ?_); go_wp2)
          refine wpStill_nil ?_
          go_wp2
          go_ret
          exact ⟨by rw [hs2.out]; rfl, hB2.out⟩
      · have hs2 := Lib.hid (hS.out.trans (beq_end (k := k) (by have := HL.out; omega) (by have := KL.out; omega)))
        go_wp2
        go_ret
        exact ⟨by rw [hs2.out]; rfl, hB.out⟩
  · have hnm' : ((n : Int) != (m : Int)) = true := by rw [bne_iff_ne]; omega
    have hs2 := Lib.hid (beq_len (us := us) (vs := vs) (by have := HL.out; have := KL.out; omega))
    go_enter Try.func18, Try.ntmps18
    go_wp2
    go_ret
    exact ⟨by rw [hs2.out]; rfl, Below.refl _ _⟩
end Go.Proofs.Ytmfeponanjgapaa
