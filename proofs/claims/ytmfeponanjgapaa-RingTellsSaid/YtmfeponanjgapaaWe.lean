/- Walks: slices.Reverse, ring.Flip. -/
import Derived.Test.YtmfeponanjgapaaWc
import Derived.RegionTactic
import Derived.ChangeAlike
namespace Go.Proofs.Ytmfeponanjgapaa
open Go.RowKit

/-- Where the element of place i stood, k exchanges ago. -/
def revF (n k i : Nat) : Nat := if i < k ∨ n ≤ i + k then n - 1 - i else i
def revK (vs : List Value) (k : Nat) : List Value := (List.range vs.length).map fun i => vs.getD (revF vs.length k i) undef
theorem length_revK (vs : List Value) (k : Nat) : (revK vs k).length = vs.length := by simp [revK]
theorem revK_at (vs : List Value) (k : Nat) {i : Nat} (h : i < vs.length) : (revK vs k)[i]? = some (vs.getD (revF vs.length k i) undef) := by
  unfold revK
  rw [List.getElem?_map, List.getElem?_range h]
  rfl
theorem revK_mem {vs : List Value} {k : Nat} {v : Value} (h : v ∈ revK vs k) : v ∈ vs := by
  unfold revK at h
  rw [List.mem_map] at h
  obtain ⟨i, hi, rfl⟩ := h
  have hi := List.mem_range.1 hi
  have hr : revF vs.length k i < vs.length := by unfold revF; split <;> omega
  rw [List.getD_eq_getElem?_getD, List.getElem?_eq_getElem hr]
  exact List.getElem_mem hr
theorem revK_zero (vs : List Value) : revK vs 0 = vs := by
  apply List.ext_getElem?
  intro i
  rcases Nat.lt_or_ge i vs.length with h | h
  · rw [revK_at vs 0 h, show revF vs.length 0 i = i by unfold revF; rw [if_neg (by omega)], List.getD_eq_getElem?_getD, List.getElem?_eq_getElem h]
    rfl
  · rw [List.getElem?_eq_none (by rw [length_revK]; exact h), List.getElem?_eq_none h]
theorem revK_done (vs : List Value) {k : Nat} (h : vs.length ≤ 2 * k + 1) : revK vs k = vs.reverse := by
  apply List.ext_getElem?
  intro i
  rcases Nat.lt_or_ge i vs.length with h1 | h1
  · rw [revK_at vs k h1, List.getElem?_reverse h1, List.getD_eq_getElem?_getD]
    have e : revF vs.length k i = vs.length - 1 - i := by
      unfold revF
      split
      · rfl
      · omega
    rw [e, List.getElem?_eq_getElem (by omega)]
    rfl
  · rw [List.getElem?_eq_none (by rw [length_revK]; exact h1), List.getElem?_eq_none (by rw [List.length_reverse]; exact h1)]
theorem revK_step (vs : List Value) {k : Nat} (h : 2 * k + 1 < vs.length) : ((revK vs k).set k ((revK vs k).getD (vs.length - 1 - k) undef)).set (vs.length - 1 - k) ((revK vs k).getD k undef) = revK vs (k + 1) := by
  apply List.ext_getElem?
  intro i
  rcases Nat.lt_or_ge i vs.length with h1 | h1
  · rw [revK_at vs (k + 1) h1, List.getElem?_set, List.getElem?_set, List.getD_eq_getElem?_getD, List.getD_eq_getElem?_getD, revK_at vs k (show k < vs.length by omega), revK_at vs k (show vs.length - 1 - k < vs.length by omega), revK_at vs k h1]
    simp only [List.length_set, length_revK, Option.getD_some]
    have hk : revF vs.length k k = k := by unfold revF; rw [if_neg (by omega)]
    have hm : revF vs.length k (vs.length - 1 - k) = vs.length - 1 - k := by unfold revF; rw [if_neg (by omega)]
    by_cases e1 : vs.length - 1 - k = i
    · subst e1
      rw [if_pos rfl, if_pos (by omega), hk, show revF vs.length (k + 1) (vs.length - 1 - k) = k by unfold revF; rw [if_pos (by omega)]; omega]
    · rw [if_neg e1]
      by_cases e2 : k = i
      · subst e2
        rw [if_pos rfl, if_pos (by omega), hm, show revF vs.length (k + 1) k = vs.length - 1 - k by unfold revF; rw [if_pos (by omega)]]
      · rw [if_neg e2]
        have : revF vs.length k i = revF vs.length (k + 1) i := by
          unfold revF
          split <;> split <;> first | rfl | omega
        rw [this]
  · rw [List.getElem?_eq_none (by rw [List.length_set, List.length_set, length_revK]; exact h1), List.getElem?_eq_none (by rw [length_revK]; exact h1)]
set_option maxRecDepth 100000 in
set_option maxHeartbeats 4000000 in
theorem reverse_any (g n cap : Nat) (vs more : List Value) (w : World) (ho : Own w g 36 (vs ++ more)) (hl : n = vs.length) (hn : n ≤ 1000) (h1 : ∀ v ∈ vs, ∃ A n c, v = .slice A n c) :
    Calls Try.prog 29 #[.slice (some ⟨g, 0, none⟩) n cap] w fun e w' => e = .returned (.tuple #[]) ∧ Own w' g 36 (vs.reverse ++ more) ∧ w.grownBy w' (some g) := by
  have HO := Lib.hid ho
  have HL := Lib.hid hl
  have H1 := Lib.hid h1
  clear ho hl h1
  go_enter Try.func29, Try.ntmps29
  go_wp2
  go_loopw [2, 3] (fun i j wr => ∃ k : Nat, 2 * k ≤ n ∧ i = .int .i64 k ∧ j = .int .i64 ((n : Int) - 1 - k) ∧ Hid (Own wr g 36 (revK vs k ++ more)) ∧ Hid (w.grownBy wr (some g))) (fun i _ _ => n - (intOf i).toNat)
  case atStart => exact ⟨0, by omega, rfl, by simp, Lib.hid (by rw [revK_zero]; exact HO.out), Lib.hid (World.grownBy.refl _ _)⟩
  case round =>
    obtain ⟨k, hk, rfl, rfl, hO, hG⟩ := hrel
    by_cases hlt : 2 * k + 1 < n
    · obtain ⟨j, hj⟩ : ∃ j : Nat, (n : Int) - 1 - k = j := ⟨n - 1 - k, by omega⟩
      rw [hj]
      have hj' : j = n - 1 - k := by omega
      have hjn : j < n := by omega
      have hkj : k < j := by omega
      clear hj
      obtain ⟨a, ha⟩ : ∃ a, (revK vs k)[k]? = some a := ⟨_, List.getElem?_eq_getElem (by rw [length_revK]; have := HL.out; omega)⟩
      obtain ⟨x, hx⟩ : ∃ a, (revK vs k)[j]? = some a := ⟨_, List.getElem?_eq_getElem (by rw [length_revK]; have := HL.out; omega)⟩
      obtain ⟨A1, n1, c1, rfl⟩ : ∃ A n c, a = .slice A n c := H1.out a (revK_mem (List.mem_of_getElem? ha))
      obtain ⟨A2, n2, c2, rfl⟩ : ∃ A n c, x = .slice A n c := H1.out x (revK_mem (List.mem_of_getElem? hx))
      have ca : wr.cell? ⟨g, k, none⟩ = some (.slice A1 n1 c1) := by rw [hO.out.cell, List.getElem?_append_left (List.getElem?_eq_some_iff.1 ha).1, ha]
      have cx : wr.cell? ⟨g, j, none⟩ = some (.slice A2 n2 c2) := by rw [hO.out.cell, List.getElem?_append_left (List.getElem?_eq_some_iff.1 hx).1, hx]
      have fa : wr.frozen? ⟨g, k, none⟩ = false := hO.out.frozen k
      have fx : wr.frozen? ⟨g, j, none⟩ = false := hO.out.frozen j
      have HA := Lib.hid ha; have HX := Lib.hid hx; have HJ := Lib.hid hj'
      clear ha hx hj'
      have hne : ¬ k = j := by omega
      have hne2 : ¬ j = k := by omega
      go_wp2
      go_region
      have hO2 := Lib.hid (show Own (((wr.setCell ⟨g, k, none⟩ (.slice A2 n2 c2)).setCell ⟨g, j, none⟩ (.slice A1 n1 c1)).drew) g 36 (revK vs (k + 1) ++ more) by
        have h := ((hO.out.set k (.slice A2 n2 c2)).set j (.slice A1 n1 c1)).drew
        have e1 := HA.out; have e2 := HX.out; have e3 := HJ.out; have e4 := HL.out
        have e := revK_step vs (k := k) (by omega)
        rw [← e4, ← e3, List.getD_eq_getElem?_getD, List.getD_eq_getElem?_getD, e1, e2, Option.getD_some, Option.getD_some] at e
        rw [List.set_append_left _ _ (by rw [length_revK]; omega), List.set_append_left _ _ (by rw [List.length_set, length_revK]; omega), e] at h
        exact h)
      have hG2 := Lib.hid (grown_drew (grown_set (grown_set hG.out (p := ⟨g, k, none⟩) (.inl rfl) (.slice A2 n2 c2)) (p := ⟨g, j, none⟩) (.inl rfl) (.slice A1 n1 c1)))
      have e5 : (j : Int) = (n : Int) - 1 - k := by have := HJ.out; omega
      have E5 := Lib.hid e5
      clear ca cx fa fx hO hG e5
      go_wp2
      go_roundw
      case rel => exact ⟨k + 1, by omega, by go_num, by rw [E5.out]; go_num, hO2, hG2⟩
      case measure => simp [intOf]; omega
    · have hlt2 : decide ((k : Int) < (n : Int) - 1 - k) = false := by rw [decide_eq_false_iff_not]; omega
      go_wp2
      go_end0
      exact ⟨rfl, by have h := hO.out; rw [revK_done vs (by have := HL.out; omega)] at h; exact h, hG.out⟩
set_option maxRecDepth 100000 in
theorem reverse_nil (w : World) : Calls Try.prog 29 #[.slice none 0 0] w fun e w' => e = .returned (.tuple #[]) ∧ w = w' := by
  go_enter Try.func29, Try.ntmps29
  go_wp2
  go_loop [2, 3] (fun i j => i = .int .i64 0 ∧ j = .int .i64 (-1)) (fun _ _ => 0)
  case atStart => exact ⟨rfl, rfl⟩
  case round =>
    obtain ⟨rfl, rfl⟩ := hrel
    go_wp2
    go_end0
    exact ⟨rfl, rfl⟩
set_option maxRecDepth 100000 in
set_option maxHeartbeats 2000000 in
theorem flip_any (A : Option Addr) (c n : Nat) (ws : List (List UInt8)) (w : World) (hr : RdW w A ws) (hl : n = ws.length) (hn : n ≤ 1000) (hs : ∀ l ∈ ws, l.length ≤ 1000) :
    Calls Try.prog 15 #[.slice A n c] w (FreshR w ws.reverse) := by
  have HC := Lib.hid (copied_any A c n ws w hr hl hn hs)
  have HL := Lib.hid hl
  clear hr hs hl
  go_enter Try.func15, Try.ntmps15
  go_wp2_with fail
  refine HC.out.mono ?_
  rintro e w1 ⟨v, rfl, hrow, hb⟩
  have HB := Lib.hid hb
  clear hb
  rcases hrow with ⟨h0, rfl⟩ | ⟨g, cap, vs, more, rfl, hg, ho, r1, r2, r3, r4, r5⟩
  · have H0 := Lib.hid h0
    clear h0
    go_wp2_with fail
    refine (reverse_nil _).mono ?_
    rintro e _ ⟨rfl, rfl⟩
    go_wp2
    go_ret
    exact ⟨_, rfl, .inl ⟨by rw [H0.out]; rfl, rfl⟩, HB.out⟩
  · have HO := Lib.hid ho; have R1 := Lib.hid r1; have R4 := Lib.hid r4; have R5 := Lib.hid r5; have E := HL.out
    rw [← E] at r2 ⊢
    clear ho r1 r4 r5 E
    go_wp2_with fail
    refine (reverse_any g n cap vs more _ HO.out (by have := HL.out; have := R1.out; omega) hn (fun v hv => by
      obtain ⟨j, hj⟩ := List.mem_iff_getElem?.1 hv
      have hlt := (List.getElem?_eq_some_iff.1 hj).1
      obtain ⟨A, c, e, _⟩ := R5.out j v _ hj (List.getElem?_eq_getElem (by have := R1.out; omega))
      exact ⟨A, _, c, e⟩)).mono ?_
    rintro e w2 ⟨rfl, ho2, hgr⟩
    have HO2 := Lib.hid ho2; have HG := Lib.hid hgr
    clear ho2 hgr
    go_wp2
    go_ret
    refine ⟨_, rfl, .inr ⟨g, cap, vs.reverse, more, by rw [List.length_reverse, ← HL.out]; rfl, hg, HO2.out, by simp [R1.out], by rw [List.length_reverse, ← HL.out]; exact r2, r3, by simpa using R4.out, fun i v l hv hl => ?_⟩, HB.out.trans (grown_below HG.out hg HB.out.size)⟩
    have h1 := (List.getElem?_eq_some_iff.1 hv).1
    rw [List.length_reverse] at h1
    have h2 := R1.out
    rw [List.getElem?_reverse h1] at hv
    rw [List.getElem?_reverse (by omega), ← h2] at hl
    exact (R5.out _ v l hv hl).grown HO.out HG.out
end Go.Proofs.Ytmfeponanjgapaa
