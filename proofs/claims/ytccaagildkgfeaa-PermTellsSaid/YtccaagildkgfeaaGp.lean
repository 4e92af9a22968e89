/- Walk: fretworkref02.Has. -/
import Derived.Test.YtccaagildkgfeaaGo
namespace Go.Proofs.Ytccaagildkgfeaa
open Go.RowKit

def mE (a b x0 x1 : Int) : Bool := (x0 == a && x1 == b) || (x0 == b && x1 == a)
theorem has_found {N : Int} {E : List (Int × Int)} {k : Nat} {a b x0 x1 : Int} (hx : E[k]? = some (x0, x1)) (hm : mE a b x0 x1 = true) : hasG N E a b = rightG N E := by
  unfold hasG
  cases hr : rightG N E with
  | false => rfl
  | true =>
    rw [Bool.true_and, List.contains_iff_mem]
    have hv := (rightG_iff.1 hr).valid _ (List.mem_of_getElem? hx)
    have : (min a b, max a b) = (x0, x1) := by
      unfold mE at hm
      rw [Bool.or_eq_true, Bool.and_eq_true, Bool.and_eq_true, beq_iff_eq, beq_iff_eq, beq_iff_eq, beq_iff_eq] at hm
      have h2 : x0 < x1 := hv.2.1
      rcases hm with ⟨rfl, rfl⟩ | ⟨rfl, rfl⟩
      · rw [Int.min_eq_left (by omega), Int.max_eq_right (by omega)]
      · rw [Int.min_eq_right (by omega), Int.max_eq_left (by omega)]
    rw [this]
    exact List.mem_of_getElem? hx
theorem has_not {N : Int} {E : List (Int × Int)} {a b : Int} (h : ∀ (t : Nat) x0 x1, t < E.length → E[t]? = some (x0, x1) → mE a b x0 x1 = false) : hasG N E a b = false := by
  unfold hasG
  cases hc : E.contains (min a b, max a b) with
  | false => rw [Bool.and_false]
  | true =>
    exfalso
    obtain ⟨t, ht⟩ := List.mem_iff_getElem?.1 (List.contains_iff_mem.1 hc)
    have := h t _ _ (List.getElem?_eq_some_iff.1 ht).1 ht
    unfold mE at this
    by_cases hab : a ≤ b
    · rw [Int.min_eq_left hab, Int.max_eq_right hab] at this
      simp at this
    · rw [Int.min_eq_right (by omega), Int.max_eq_left (by omega)] at this
      simp at this
set_option maxRecDepth 100000 in
set_option maxHeartbeats 8000000 in
theorem hasR_any (N : Int) (A : Option Addr) (n c : Nat) (E : List (Int × Int)) (a b : Int) (w : World) (h : ArgE w A n c E) :
    Calls Try.prog 40 #[.agg #[.int .i64 N, .slice A n c], .int .i64 a, .int .i64 b] w fun e w' => e = .returned (.bool (hasG N E a b)) ∧ Below w.heap.size w w' := by
  have HB0 := Lib.hid (alloc_below w (.cells #[.int .i64 N, .slice A n c] 34))
  have OG := Lib.hid (Own.new' (t := 34) (w := w) (vs := [.int .i64 N, .slice A n c]) rfl)
  have H := Lib.hid (h.keep HB0.out)
  have hle := h.le
  clear h
  have qO := OG.out.cell
  have zO := OG.out.lt
  go_enter Try.func40, Try.ntmps40
  go_wp2_with fail
  go_loopw [6, 7, 8] (fun _ i _ wr => ∃ k : Nat, k ≤ n ∧ i = .int .i64 (k : Int) ∧ Hid (∀ (t : Nat) x0 x1, t < k → E[t]? = some (x0, x1) → mE a b x0 x1 = false) ∧ Hid (Below (w.alloc (.cells #[.int .i64 N, .slice A n c] 34)).heap.size (w.alloc (.cells #[.int .i64 N, .slice A n c] 34)) wr)) (fun _ i _ _ => n - (intOf i).toNat)
  case atStart => exact ⟨0, Nat.zero_le _, rfl, Lib.hid (fun t _ _ ht => absurd ht (Nat.not_lt_zero _)), Lib.hid (Below.refl _ _)⟩
  case round =>
    obtain ⟨k, hk, rfl, HS, HB⟩ := hrel
    clear qO zO
    have hO := OG.out.below' HB.out
    have qO := hO.cell
    have zO := hO.lt
    have OG2 := Lib.hid hO
    clear hO
    by_cases hlt : k < n
    · obtain ⟨b1, off, rfl, hb1, hc⟩ := rd_edge H.out.rd (by have := H.out.len; omega)
      obtain ⟨⟨x0, x1⟩, hx⟩ : ∃ x, E[k]? = some x := ⟨_, List.getElem?_eq_getElem (by have := H.out.len; omega)⟩
      obtain ⟨q0, q1⟩ := hc wr HB.out k _ hx
      have hbw : b1 < wr.heap.size := Nat.lt_of_lt_of_le hb1 HB.out.size
      obtain ⟨m1, hm1⟩ : ∃ m, (x0 == a) = m := ⟨_, rfl⟩
      obtain ⟨m2, hm2⟩ : ∃ m, (x1 == b) = m := ⟨_, rfl⟩
      obtain ⟨m3, hm3⟩ : ∃ m, (x0 == b) = m := ⟨_, rfl⟩
      obtain ⟨m4, hm4⟩ : ∃ m, (x1 == a) = m := ⟨_, rfl⟩
      have hmE : mE a b x0 x1 = ((m1 && m2) || (m3 && m4)) := by unfold mE; rw [hm1, hm2, hm3, hm4]
      have HFOUND := Lib.hid (show ((m1 && m2) || (m3 && m4)) = true → hasG N E a b = rightG N E from fun h => has_found hx (hmE.trans h))
      have HNEXT := Lib.hid (show ((m1 && m2) || (m3 && m4)) = false → ∀ (t : Nat) y0 y1, t < k + 1 → E[t]? = some (y0, y1) → mE a b y0 y1 = false from fun h t y0 y1 ht hy => by
        by_cases e : t = k
        · subst e
          rw [hx] at hy
          injection hy with hy
          injection hy with h1 h2
          subst h1 h2
          exact hmE.trans h
        · exact HS.out t y0 y1 (by omega) hy)
      have AG := Lib.hid (fun V (hV : Below wr.heap.size wr V) => H.out.keep (below_chain HB.out hV))
      have HBa := Lib.hid (belA HB.out (.cells #[.int .i64 x0, .int .i64 x1] 57))
      have OG3 := (OG2.out.alloc (.cells #[.int .i64 x0, .int .i64 x1] 57))
      clear hc hx hmE HS
      cases m1 with
      | true =>
        cases m2 with
        | true =>
          cases m3 with
          | true =>
            cases m4 with
            | true =>
              have HF := Lib.hid (HFOUND.out rfl)
              have KR := Lib.hid (AG.out _ (belA (Below.refl _ _) (.cells #[.int .i64 x0, .int .i64 x1] 57)))
              go_wp2_with fail
              refine (rightR2_any N (some ⟨b1, off, none⟩) n c E _ KR.out).mono ?_
              rintro e w9 ⟨rfl, hb9⟩
              have HB9 := Lib.hid (below_chain HBa.out hb9)
              clear hb9
              go_wp2
              go_ret
              exact ⟨by rw [HF.out]; rfl, below_chain HB0.out HB9.out⟩
            | false =>
              have HF := Lib.hid (HFOUND.out rfl)
              have KR := Lib.hid (AG.out _ (belA (Below.refl _ _) (.cells #[.int .i64 x0, .int .i64 x1] 57)))
              go_wp2_with fail
              refine (rightR2_any N (some ⟨b1, off, none⟩) n c E _ KR.out).mono ?_
              rintro e w9 ⟨rfl, hb9⟩
              have HB9 := Lib.hid (below_chain HBa.out hb9)
              clear hb9
              go_wp2
              go_ret
              exact ⟨by rw [HF.out]; rfl, below_chain HB0.out HB9.out⟩
          | false =>
            cases m4 with
            | true =>
              have HF := Lib.hid (HFOUND.out rfl)
              have KR := Lib.hid (AG.out _ (belA (Below.refl _ _) (.cells #[.int .i64 x0, .int .i64 x1] 57)))
              go_wp2_with fail
              refine (rightR2_any N (some ⟨b1, off, none⟩) n c E _ KR.out).mono ?_
              rintro e w9 ⟨rfl, hb9⟩
              have HB9 := Lib.hid (below_chain HBa.out hb9)
              clear hb9
              go_wp2
              go_ret
              exact ⟨by rw [HF.out]; rfl, below_chain HB0.out HB9.out⟩
            | false =>
              have HF := Lib.hid (HFOUND.out rfl)
              have KR := Lib.hid (AG.out _ (belA (Below.refl _ _) (.cells #[.int .i64 x0, .int .i64 x1] 57)))
              go_wp2_with fail
              refine (rightR2_any N (some ⟨b1, off, none⟩) n c E _ KR.out).mono ?_
              rintro e w9 ⟨rfl, hb9⟩
              have HB9 := Lib.hid (below_chain HBa.out hb9)
              clear hb9
              go_wp2
              go_ret
              exact ⟨by rw [HF.out]; rfl, below_chain HB0.out HB9.out⟩
        | false =>
          cases m3 with
          | true =>
            cases m4 with
            | true =>
              have HF := Lib.hid (HFOUND.out rfl)
              have KR := Lib.hid (AG.out _ (belA (Below.refl _ _) (.cells #[.int .i64 x0, .int .i64 x1] 57)))
              go_wp2_with fail
              refine (rightR2_any N (some ⟨b1, off, none⟩) n c E _ KR.out).mono ?_
              rintro e w9 ⟨rfl, hb9⟩
              have HB9 := Lib.hid (below_chain HBa.out hb9)
              clear hb9
              go_wp2
              go_ret
              exact ⟨by rw [HF.out]; rfl, below_chain HB0.out HB9.out⟩
            | false =>
              have HN := Lib.hid (HNEXT.out rfl)
              go_wp2
              go_roundw
              case rel => exact ⟨k + 1, by omega, by go_num, HN, HBa⟩
              case measure => simp [intOf]; omega
          | false =>
            cases m4 with
            | true =>
              have HN := Lib.hid (HNEXT.out rfl)
              go_wp2
              go_roundw
              case rel => exact ⟨k + 1, by omega, by go_num, HN, HBa⟩
              case measure => simp [intOf]; omega
            | false =>
              have HN := Lib.hid (HNEXT.out rfl)
              go_wp2
              go_roundw
              case rel => exact ⟨k + 1, by omega, by go_num, HN, HBa⟩
              case measure => simp [intOf]; omega
      | false =>
        cases m2 with
        | true =>
          cases m3 with
          | true =>
            cases m4 with
            | true =>
              have HF := Lib.hid (HFOUND.out rfl)
              have KR := Lib.hid (AG.out _ (belA (Below.refl _ _) (.cells #[.int .i64 x0, .int .i64 x1] 57)))
              go_wp2_with fail
              refine (rightR2_any N (some ⟨b1, off, none⟩) n c E _ KR.out).mono ?_
              rintro e w9 ⟨rfl, hb9⟩
              have HB9 := Lib.hid (below_chain HBa.out hb9)
              clear hb9
              go_wp2
              go_ret
              exact ⟨by rw [HF.out]; rfl, below_chain HB0.out HB9.out⟩
            | false =>
              have HN := Lib.hid (HNEXT.out rfl)
              go_wp2
              go_roundw
              case rel => exact ⟨k + 1, by omega, by go_num, HN, HBa⟩
              case measure => simp [intOf]; omega
          | false =>
            cases m4 with
            | true =>
              have HN := Lib.hid (HNEXT.out rfl)
              go_wp2
              go_roundw
              case rel => exact ⟨k + 1, by omega, by go_num, HN, HBa⟩
              case measure => simp [intOf]; omega
            | false =>
              have HN := Lib.hid (HNEXT.out rfl)
              go_wp2
              go_roundw
              case rel => exact ⟨k + 1, by omega, by go_num, HN, HBa⟩
              case measure => simp [intOf]; omega
        | false =>
          cases m3 with
          | true =>
            cases m4 with
            | true =>
              have HF := Lib.hid (HFOUND.out rfl)
              have KR := Lib.hid (AG.out _ (belA (Below.refl _ _) (.cells #[.int .i64 x0, .int .i64 x1] 57)))
              go_wp2_with fail
              refine (rightR2_any N (some ⟨b1, off, none⟩) n c E _ KR.out).mono ?_
              rintro e w9 ⟨rfl, hb9⟩
              have HB9 := Lib.hid (below_chain HBa.out hb9)
              clear hb9
              go_wp2
              go_ret
              exact ⟨by rw [HF.out]; rfl, below_chain HB0.out HB9.out⟩
            | false =>
              have HN := Lib.hid (HNEXT.out rfl)
              go_wp2
              go_roundw
              case rel => exact ⟨k + 1, by omega, by go_num, HN, HBa⟩
              case measure => simp [intOf]; omega
          | false =>
            cases m4 with
            | true =>
              have HN := Lib.hid (HNEXT.out rfl)
              go_wp2
              go_roundw
              case rel => exact ⟨k + 1, by omega, by go_num, HN, HBa⟩
              case measure => simp [intOf]; omega
            | false =>
              have HN := Lib.hid (HNEXT.out rfl)
              go_wp2
              go_roundw
              case rel => exact ⟨k + 1, by omega, by go_num, HN, HBa⟩
              case measure => simp [intOf]; omega
    · obtain rfl : k = n := by omega
      have HF := Lib.hid (show hasG N E a b = false from has_not fun t x0 x1 ht hx => HS.out t x0 x1 (by have := H.out.len; omega) hx)
      go_wp2
      go_ret
      exact ⟨by rw [HF.out]; rfl, below_chain HB0.out HB.out⟩
end Go.Proofs.Ytccaagildkgfeaa
