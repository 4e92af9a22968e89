/- Walks: fretworkref16.Least. -/
import Derived.Test.YtmfeponanjgapaaWx
import Derived.Test.YtmfeponanjgapaaWs
namespace Go.Proofs.Ytmfeponanjgapaa
open Go.RowKit

set_option maxRecDepth 100000 in
theorem refLeast_zero (A : Option Addr) (c : Nat) (w : World) : Calls Try.prog 13 #[.slice A 0 c] w fun e w' => e = .returned (.tuple #[.slice none 0 0, .slice none 0 0]) ∧ w = w' := by
  go_enter Try.func13, Try.ntmps13
  go_wp2
  go_ret2
  exact ⟨rfl, rfl⟩
theorem min_next {ws : List (List UInt8)} {p k : Nat} (h : ∀ q, q < k → 0 ≤ cmpW (turnW ws q) (turnW ws p)) (hk : cmpW (turnW ws k) (turnW ws p) < 0) : ∀ q, q < k + 1 → 0 ≤ cmpW (turnW ws q) (turnW ws k) := by
  intro q hq
  rcases Nat.lt_or_ge q k with h1 | h1
  · refine Int.not_lt.1 fun h2 => ?_
    have h3 := h q h1
    have h4 := cmpW_trans (Int.le_of_lt h2) (Int.le_of_lt hk)
    have h5 : turnW ws q = turnW ws p := cmpW_zero (by omega)
    have h6 := cmpW_neg (turnW ws k) (turnW ws p)
    rw [h5] at h2
    omega
  · obtain rfl : q = k := by omega
    rw [cmpW_self]; omega
theorem min_same {ws : List (List UInt8)} {p k : Nat} (h : ∀ q, q < k → 0 ≤ cmpW (turnW ws q) (turnW ws p)) (hk : ¬ cmpW (turnW ws k) (turnW ws p) < 0) : ∀ q, q < k + 1 → 0 ≤ cmpW (turnW ws q) (turnW ws p) := by
  intro q hq
  rcases Nat.lt_or_ge q k with h1 | h1
  · exact h q h1
  · obtain rfl : q = k := by omega
    omega
theorem first_min (ws : List (List UInt8)) : ∀ q, q < 1 → 0 ≤ cmpW (turnW ws q) (turnW ws 0) := by
  intro q hq
  obtain rfl : q = 0 := by omega
  rw [cmpW_self]; omega
def RL1 (w : World) (n : Nat) (ws : List (List UInt8)) (s4 s5 : Value) (wr : World) : Prop :=
  ∃ k p : Nat, 1 ≤ k ∧ k ≤ n ∧ s5 = .int .i64 (k : Int) ∧ p < k ∧ Hid (∀ q, q < k → 0 ≤ cmpW (turnW ws q) (turnW ws p)) ∧ RowW w.heap.size wr s4 (turnW ws p) ∧ Below w.heap.size w wr
def plT (ws : List (List UInt8)) (p k : Nat) : List Int := ((List.range k).filter fun x => turnW ws x == turnW ws p).map (Int.ofNat ·)
theorem plT_len (ws : List (List UInt8)) (p k : Nat) : (plT ws p k).length ≤ k := by
  unfold plT
  rw [List.length_map]
  have := List.length_filter_le (fun x => turnW ws x == turnW ws p) (List.range k)
  rwa [List.length_range] at this
theorem plT_hit {ws : List (List UInt8)} {p k : Nat} (h : turnW ws k = turnW ws p) : plT ws p (k + 1) = plT ws p k ++ [(k : Int)] := by
  unfold plT
  rw [range_hit (by simpa using h), List.map_append]
  rfl
theorem plT_miss {ws : List (List UInt8)} {p k : Nat} (h : turnW ws k ≠ turnW ws p) : plT ws p (k + 1) = plT ws p k := by
  unfold plT
  rw [range_gap (a := k) (by omega) (fun x h1 h2 => by obtain rfl : x = k := by omega
                                                       simpa using h)]
def RL2 (w : World) (n : Nat) (ws : List (List UInt8)) (p : Nat) (s6 s7 : Value) (wr : World) : Prop :=
  ∃ k : Nat, k ≤ n ∧ s7 = .int .i64 (k : Int) ∧ RowI w.heap.size wr s6 (plT ws p k) ∧ Below w.heap.size w wr
set_option maxRecDepth 100000 in
set_option maxHeartbeats 4000000 in
theorem refLeast_any (A : Option Addr) (c n : Nat) (ws : List (List UInt8)) (w : World) (hr : RdW w A ws) (hl : n = ws.length) (h0 : 0 < n) (hn : n ≤ 1000) (hs : ∀ l ∈ ws, l.length ≤ 1000) :
    Calls Try.prog 13 #[.slice A n c] w (LeastPost w ws) := by
  have HT := Lib.hid (fun (V : World) (hV : Below w.heap.size w V) (j : Nat) (hj : j < n) => (show Calls Try.prog 14 #[.slice A n c, .int .i64 (j : Int)] V (FreshR V (turnW ws j)) from by
    have := refTurn_any A c n (j : Int) ws V (hr.below hV) hl hn hs
    rwa [turnK_nat hj] at this))
  have HTL := Lib.hid (show ∀ j, (turnW ws j).length = n from fun j => by rw [length_turnW, hl])
  have HTS := Lib.hid (show ∀ j, ∀ l ∈ turnW ws j, l.length ≤ 1000 from fun j => turn_sizes hs)
  have HL := Lib.hid hl
  clear hr hl hs
  have hz0 : ((n : Int) == 0) = false := by rw [beq_eq_false_iff_ne]; omega
  go_enter Try.func13, Try.ntmps13
  go_wp2_with fail
  refine (HT.out w (Below.refl _ w) 0 h0).mono ?_
  rintro e w1 ⟨v1, rfl, hr1, hb1⟩
  have HW1 := Lib.hid hr1; have HB1 := Lib.hid hb1
  clear hr1 hb1
  go_wp2
  go_loopw [4, 5] (fun s4 s5 wr => RL1 w n ws s4 s5 wr) (fun _ s5 _ => n - (intOf s5).toNat)
  case atStart => exact ⟨1, 0, Nat.le_refl _, h0, rfl, by omega, Lib.hid (first_min ws), HW1.out, HB1.out⟩
  case round =>
    obtain ⟨k, p, hk1, hk, rfl, hp, hmin, hrow, hbw⟩ := hrel
    have HB := Lib.hid hbw
    obtain ⟨A4, c4, rfl, hrd⟩ := hrow.rd
    have HD := Lib.hid hrd
    have HRow := Lib.hid hrow
    clear hbw hrow hrd
    by_cases hlt : k < n
    · go_wp2_with fail
      refine (HT.out wr HB.out k hlt).mono ?_
      rintro e w2 ⟨v2, rfl, hr2, hb2⟩
      obtain ⟨A5, c5, rfl, hd5⟩ := hr2.rd
      have HD5 := Lib.hid hd5; have HD2 := Lib.hid (HD.out.below hb2); have HB2 := Lib.hid (HB.out.trans (hb2.mono HB.out.size)); have HRow2 := Lib.hid (HRow.out.below hb2)
      clear hr2 hb2 hd5 HD HB HRow
      go_wp2_with fail
      refine (refCompare_any A5 A4 c5 c4 _ _ (turnW ws k) (turnW ws p) w2 HD5.out HD2.out rfl rfl (by rw [HTL.out]; exact hn) (by rw [HTL.out]; exact hn) (HTS.out k) (HTS.out p)).mono ?_
      rintro e w3 ⟨rfl, hb3⟩
      have HD3 := Lib.hid (HD2.out.below hb3); have HB3 := Lib.hid (HB2.out.trans (hb3.mono HB2.out.size)); have HRow3 := Lib.hid (HRow2.out.below hb3)
      clear hb3 HD2 HB2 HD5 HRow2
      by_cases hc : cmpW (turnW ws k) (turnW ws p) < 0
      · have HM := Lib.hid (min_next hmin.out hc)
        go_wp2_with fail
        refine (HT.out w3 HB3.out k hlt).mono ?_
        rintro e w4 ⟨v4, rfl, hr4, hb4⟩
        have HR4 := Lib.hid (hr4.base HB3.out.size); have HB4 := Lib.hid (HB3.out.trans (hb4.mono HB3.out.size))
        clear hr4 hb4
        go_wp2
        go_roundw
        case rel => exact ⟨k + 1, k, by omega, by omega, by go_num, by omega, HM, HR4.out, HB4.out⟩
        case measure => simp [intOf]; omega
      · have HM := Lib.hid (min_same hmin.out hc)
        have d1 : decide (cmpW (turnW ws k) (turnW ws p) < 0) = false := by rw [decide_eq_false_iff_not]; exact hc
        generalize cmpW (turnW ws k) (turnW ws p) = x at d1
        clear hc
        go_wp2
        go_roundw
        case rel => exact ⟨k + 1, p, by omega, by omega, by go_num, by omega, HM, HRow3.out, HB3.out⟩
        case measure => simp [intOf]; omega
    · obtain rfl : n = k := by omega
      have HMin := Lib.hid hmin.out
      clear hmin hlt
      go_wp2
      go_loopw [6, 7] (fun s6 s7 wt => RL2 wr n ws p s6 s7 wt) (fun _ s7 _ => n - (intOf s7).toNat)
      case atStart => exact ⟨0, Nat.zero_le _, rfl, .inl ⟨rfl, rfl⟩, Below.refl _ wr⟩
      case round =>
        obtain ⟨k, hk, rfl, hrow, hbt⟩ := hrel
        have HBt := Lib.hid hbt
        have HI := Lib.hid hrow
        have HBw := Lib.hid (HB.out.trans (hbt.mono HB.out.size))
        have HDt := Lib.hid (HD.out.below hbt); have HRt := Lib.hid (HRow.out.below hbt)
        clear hbt hrow
        by_cases hlt : k < n
        · have hpl := plT_len ws p k
          go_wp2_with fail
          refine (HT.out _ HBw.out k hlt).mono ?_
          rintro e w2 ⟨v2, rfl, hr2, hb2⟩
          obtain ⟨A5, c5, rfl, hd5⟩ := hr2.rd
          have HD5 := Lib.hid hd5; have HD2 := Lib.hid (HDt.out.below hb2); have HB2 := Lib.hid (HBt.out.trans (hb2.mono HBt.out.size)); have HI2 := Lib.hid (HI.out.below hb2)
          clear hr2 hb2 hd5 HDt HBt HI HRt HBw
          go_wp2_with fail
          refine (refCompare_any A5 A4 c5 c4 _ _ (turnW ws k) (turnW ws p) w2 HD5.out HD2.out rfl rfl (by rw [HTL.out]; exact hn) (by rw [HTL.out]; exact hn) (HTS.out k) (HTS.out p)).mono ?_
          rintro e w3 ⟨rfl, hb3⟩
          have HB3 := Lib.hid (HB2.out.trans (hb3.mono HB2.out.size)); have HI3 := Lib.hid (HI2.out.below hb3)
          clear hb3 HD2 HB2 HD5 HI2
          by_cases hc : turnW ws k = turnW ws p
          · have hz : cmpW (turnW ws k) (turnW ws p) = 0 := by rw [hc, cmpW_self]
            rw [hz]
            have HP := Lib.hid (plT_hit hc)
            generalize plT ws p k = Z at hpl HI3 HP
            have hba := Lib.hid (alloc_below w3 (.cells #[.int .i64 (k : Int)] 3))
            have hbz := HB3.out.size
            clear hz hc
            go_wp2_with (at_builtin; refine wpList_append_int rfl (.tmp 40) (.tmp 42) rfl (k : Int) w3.heap.size rfl rfl (HI3.out.below hba.out) (Own.new' (vs := [.int .i64 (k : Int)]) rfl) (by omega) (by simp; omega) ?_)
            intro g2 cap2 w4 hr4 hb4
            have HR4 := Lib.hid (show RowI _ w4 (.slice (some ⟨g2, 0, none⟩) (Z.length + 1) cap2) (plT ws p (k + 1)) by rw [HP.out]; exact hr4)
            have HB4 := Lib.hid ((HB3.out.alloc hbz (.cells #[.int .i64 (k : Int)] 3)).trans hb4)
            clear hr4 hb4
            go_wp2
            go_roundw
            case rel => exact ⟨k + 1, by omega, by go_num, HR4.out, HB4.out⟩
            case measure => simp [intOf]; omega
          · have hz : (cmpW (turnW ws k) (turnW ws p) == 0) = false := by rw [cmpW_beq]; simpa using hc
            have HP := Lib.hid (plT_miss hc)
            generalize cmpW (turnW ws k) (turnW ws p) = x at hz
            clear hc
            go_wp2
            go_roundw
            case rel => exact ⟨k + 1, by omega, by go_num, by rw [HP.out]; exact HI3.out, HB3.out⟩
            case measure => simp [intOf]; omega
        · obtain rfl : n = k := by omega
          obtain ⟨A6, c6, rfl, hd6⟩ := HI.out.rd
          have HD6 := Lib.hid hd6
          have HPl := Lib.hid (show plT ws p n = placesW ws p by unfold plT placesW; rw [HL.out])
          clear hd6
          go_wp2
          go_ret2
          rw [HPl.out] at HD6 ⊢
          exact ⟨A6, _, c6, _, p, rfl, by rw [← HL.out]; exact hp, by rw [← HL.out]; exact HMin.out, rfl, HD6.out, HRt.out, HBw.out⟩
end Go.Proofs.Ytmfeponanjgapaa
