/- Walks: fretworkref16.word, Compare, four, Bytes. -/
import Derived.Test.YtmfeponanjgapaaWu
namespace Go.Proofs.Ytmfeponanjgapaa
open Go.RowKit

theorem cb_step {k l : List UInt8} {i : Nat} {x y : UInt8} (hx : k[i]? = some x) (hy : l[i]? = some y) : Lib.compareBytes (k.drop i) (l.drop i) = if (x.toNat : Int) < y.toNat then -1 else if (y.toNat : Int) < x.toNat then 1 else Lib.compareBytes (k.drop (i + 1)) (l.drop (i + 1)) := by
  obtain ⟨h1, rfl⟩ := List.getElem?_eq_some_iff.1 hx
  obtain ⟨h2, rfl⟩ := List.getElem?_eq_some_iff.1 hy
  rw [List.drop_eq_getElem_cons h1, List.drop_eq_getElem_cons h2]
  conv => lhs; unfold Lib.compareBytes
  simp only [UInt8.lt_iff_toNat_lt, Int.ofNat_lt]
theorem cb_end {k l : List UInt8} {i : Nat} (h : k.length ≤ i ∨ l.length ≤ i) (hk : i ≤ k.length) (hl : i ≤ l.length) : Lib.compareBytes (k.drop i) (l.drop i) = if k.length < l.length then -1 else if l.length < k.length then 1 else 0 := by
  rcases Nat.lt_or_ge i k.length with h1 | h1
  · have h2 : l.length ≤ i := by omega
    rw [List.drop_eq_nil_of_le h2, List.drop_eq_getElem_cons h1, if_neg (by omega), if_pos (by omega)]
    rfl
  · rw [List.drop_eq_nil_of_le h1]
    rcases Nat.lt_or_ge i l.length with h2 | h2
    · rw [List.drop_eq_getElem_cons h2, if_pos (by omega)]
      rfl
    · rw [List.drop_eq_nil_of_le h2, if_neg (by omega), if_neg (by omega)]
      rfl
set_option maxRecDepth 100000 in
set_option maxHeartbeats 4000000 in
theorem word_any (A B : Option Addr) (n c m d : Nat) (k l : List UInt8) (w : World) (hn : n = k.length) (hm : m = l.length) (hr : Rd w A (cellsB k)) (hs : Rd w B (cellsB l)) (hb : n ≤ 1000) (hb' : m ≤ 1000) :
    Calls Try.prog 30 #[.slice A n c, .slice B m d] w fun e w' => e = .returned (.int .i64 (Lib.compareBytes k l)) ∧ Below w.heap.size w w' := by
  obtain ⟨b, off, h0, h1⟩ := hr.head
  obtain ⟨b', off', h0', h1'⟩ := hs.head
  rw [length_cellsB] at h0 h0'
  have H0 := Lib.hid h0; have H1 := Lib.hid h1; have K0 := Lib.hid h0'; have K1 := Lib.hid h1'
  have HN := Lib.hid hn; have HM := Lib.hid hm
  clear hr hs h0 h1 h0' h1' hn hm
  go_enter Try.func30, Try.ntmps30
  go_wp2
  go_loopw [5] (fun i wr => ∃ j : Nat, j ≤ n ∧ j ≤ m ∧ i = .int .i64 (j : Int) ∧ Hid (Lib.compareBytes k l = Lib.compareBytes (k.drop j) (l.drop j)) ∧ Hid (Below w.heap.size w wr)) (fun i _ => n - (intOf i).toNat)
  case atStart => exact ⟨0, Nat.zero_le _, Nat.zero_le _, rfl, Lib.hid rfl, Lib.hid (Below.refl _ w)⟩
  case round =>
    obtain ⟨j, hj, hjm, rfl, hS, hBw⟩ := hrel
    by_cases hlt : j < n
    · obtain ⟨hA, hb1⟩ := H0.out (by have := HN.out; omega)
      subst hA
      by_cases hltm : j < m
      · obtain ⟨hB, hb2⟩ := K0.out (by have := HM.out; omega)
        subst hB
        obtain ⟨x, hx⟩ : ∃ x, k[j]? = some x := ⟨_, List.getElem?_eq_getElem (by have := HN.out; omega)⟩
        obtain ⟨y, hy⟩ : ∃ x, l[j]? = some x := ⟨_, List.getElem?_eq_getElem (by have := HM.out; omega)⟩
        have hst := Lib.hid (hS.out.trans (cb_step hx hy))
        have c1 : wr.cell? ⟨b, off + j, none⟩ = some (.int .u8 (x.toNat : Int)) := ((below_cells hBw.out).1 _ _ hb1).trans (H1.out j _ (by rw [cellsB_at, hx]; rfl))
        have c2 : wr.cell? ⟨b', off' + j, none⟩ = some (.int .u8 (y.toNat : Int)) := ((below_cells hBw.out).1 _ _ hb2).trans (K1.out j _ (by rw [cellsB_at, hy]; rfl))
        clear hx hy hS
        generalize (x.toNat : Int) = X at hst c1
        generalize (y.toNat : Int) = Y at hst c2
        rcases Int.lt_trichotomy X Y with hc | hc | hc
        · have d1 : decide (X < Y) = true := by rw [decide_eq_true_eq]; exact hc
          have hS2 := Lib.hid (hst.out.trans (if_pos hc))
          clear hc
          go_wp2
          go_quiet (fail)
          go_wp2
          go_ret
          exact ⟨by rw [hS2.out]; rfl, below_drewN hBw.out _⟩
        · subst hc
          have d1 : decide (X < X) = false := by rw [decide_eq_false_iff_not]; omega
          have hS2 := Lib.hid (hst.out.trans ((if_neg (by omega)).trans (if_neg (by omega))))
          go_wp2
          go_quiet (fail)
          go_wp2
          go_quiet (fail)
          go_wp2
          go_roundw
          case rel => exact ⟨j + 1, by omega, by omega, by go_num, hS2, Lib.hid (below_drewN hBw.out _)⟩
          case measure => simp [intOf]; omega
        · have d1 : decide (X < Y) = false := by rw [decide_eq_false_iff_not]; omega
          have d2 : decide (Y < X) = true := by rw [decide_eq_true_eq]; exact hc
          have hS2 := Lib.hid (hst.out.trans ((if_neg (by omega)).trans (if_pos hc)))
          clear hc
          go_wp2
          go_quiet (fail)
          go_wp2
          go_quiet (fail)
          go_wp2
          go_ret
          exact ⟨by rw [hS2.out]; rfl, below_drewN (below_drewN hBw.out _) _⟩
      · have hS2 := Lib.hid (hS.out.trans (cb_end (i := j) (.inr (by have := HM.out; omega)) (by have := HN.out; omega) (by have := HM.out; omega)))
        have d1 : decide (n < m) = false := by rw [decide_eq_false_iff_not]; omega
        have d2 : decide (m < n) = true := by rw [decide_eq_true_eq]; omega
        go_wp2
        go_ret
        exact ⟨by rw [hS2.out, if_neg (by have := HM.out; have := HN.out; omega), if_pos (by have := HM.out; have := HN.out; omega)]; rfl, hBw.out⟩
    · obtain rfl : n = j := by omega
      have hS2 := Lib.hid (hS.out.trans (cb_end (i := n) (.inl (by have := HN.out; omega)) (by have := HN.out; omega) (by have := HM.out; omega)))
      by_cases h2 : n < m
      · go_wp2
        go_ret
        exact ⟨by rw [hS2.out, if_pos (by have := HM.out; have := HN.out; omega)]; rfl, hBw.out⟩
      · obtain rfl : n = m := by omega
        go_wp2
        go_ret
        exact ⟨by rw [hS2.out, if_neg (by have := HM.out; have := HN.out; omega), if_neg (by have := HM.out; have := HN.out; omega)]; rfl, hBw.out⟩
end Go.Proofs.Ytmfeponanjgapaa
