/- Walks: fretworkref03.Compose, Invert. -/
import Derived.Test.YtccaagildkgfeaaJl
namespace Go.Proofs.Ytccaagildkgfeaa
open Go.RowKit

theorem take_map_range {f : Nat → Int} {n k : Nat} (h : k < n) : ((List.range n).map f).take k ++ [f k] = ((List.range n).map f).take (k + 1) := by
  rw [List.take_add_one, List.getElem?_map, List.getElem?_range h]
  rfl
theorem compP_take {p q : List Int} {k : Nat} (h : k < p.length) : (compP p q).take k ++ [((at0 q (at0 p k) : Nat) : Int)] = (compP p q).take (k + 1) := by
  rw [compP_mk]
  exact take_map_range (f := fun i => ((at0 q (at0 p i) : Nat) : Int)) h
set_option maxRecDepth 100000 in
set_option maxHeartbeats 4000000 in
theorem composeR_any (A B : Option Addr) (n m c d : Nat) (p q : List Int) (w : World) (h1 : ArgI w A n c p) (h2 : ArgI w B m d q) :
    Calls Try.prog 16 #[.slice A n c, .slice B m d] w (ErrI w (compO p q)) := by
  have H1 := Lib.hid h1; have H2 := Lib.hid h2
  have hn0 := h1.le; have hm0 := h2.le
  clear h1 h2
  have HP := Lib.hid (rightR_any A n c p w H1.out)
  have HQ := Lib.hid (fun V (hV : Below w.heap.size w V) => rightR_any B m d q V (H2.out.keep hV))
  obtain ⟨r, hr⟩ : ∃ r, rightP p = r := ⟨_, rfl⟩
  obtain ⟨s, hs⟩ : ∃ r, rightP q = r := ⟨_, rfl⟩
  rw [hr] at HP
  rw [hs] at HQ
  have RP := Lib.hid hr; have RQ := Lib.hid hs
  clear hr hs
  go_enter Try.func16, Try.ntmps16
  go_wp2_with fail
  refine HP.out.mono ?_
  rintro e w1 ⟨rfl, hb1⟩
  have HB1 := Lib.hid hb1
  clear hb1
  cases r with
  | false =>
    have HC := Lib.hid (show compO p q = none from if_neg (by rw [RP.out]; simp))
    go_wp2
    go_ret2
    exact ⟨.slice none 0 0, by rw [HC.out]; rfl, .inl ⟨by rw [HC.out]; rfl, rfl⟩, HB1.out⟩
  | true =>
    go_wp2_with fail
    refine (HQ.out w1 HB1.out).mono ?_
    rintro e w2 ⟨rfl, hb2⟩
    have HB2 := Lib.hid (below_chain HB1.out hb2)
    clear hb2
    cases s with
    | false =>
      have HC := Lib.hid (show compO p q = none from if_neg (by rw [RQ.out]; simp))
      go_wp2
      go_ret2
      exact ⟨.slice none 0 0, by rw [HC.out]; rfl, .inl ⟨by rw [HC.out]; rfl, rfl⟩, HB2.out⟩
    | true =>
      by_cases hnm : n = m
      · subst hnm
        have HC := Lib.hid (show compO p q = some (compP p q) from if_pos ⟨RP.out, RQ.out, by rw [← H1.out.len, ← H2.out.len]⟩)
        have hn : n ≤ 200 := by have := (right_true RP.out).1; have := H1.out.len; omega
        have H1' := Lib.hid (H1.out.keep HB2.out); have H2' := Lib.hid (H2.out.keep HB2.out)
        have k1 : ((n : Int) != (n : Int)) = false := by simp
        have HS0 := Lib.hid (show RowI w2.heap.size w2 (.slice none 0 0) ((compP p q).take 0) from .inl ⟨rfl, rfl⟩)
        go_wp2_with fail
        go_loopw [6, 7] (fun v i wr => ∃ k : Nat, k ≤ n ∧ i = .int .i64 (k : Int) ∧ Hid (RowI w2.heap.size wr v ((compP p q).take k)) ∧ Hid (Below w2.heap.size w2 wr)) (fun _ i _ => n - (intOf i).toNat)
        case atStart => exact ⟨0, Nat.zero_le _, rfl, HS0, Lib.hid (Below.refl _ _)⟩
        case round =>
          obtain ⟨k, hk, rfl, HV, HB⟩ := hrel
          by_cases hlt : k < n
          · obtain ⟨b, off, rfl, hb, hc⟩ := rd_int H1'.out.rd (by have := H1.out.len; omega)
            obtain ⟨b2, off2, rfl, hb2, hc2⟩ := rd_int H2'.out.rd (by have := H2.out.len; omega)
            have hkl : k < p.length := by have := H1.out.len; omega
            have e1 := at0_eq RP.out hkl
            have htn : at0 p k < n := by have := at0_lt RP.out hkl; have := H1.out.len; omega
            have e2 := at0_eq RQ.out (i := at0 p k) (by have := H2.out.len; omega)
            have hcx := hc wr HB.out k _ e1
            have hcy := hc2 wr HB.out (at0 p k) _ e2
            have HF := Lib.hid (compP_take (q := q) hkl)
            generalize at0 q (at0 p k) = y at hcy HF
            generalize at0 p k = t at hcx hcy htn
            clear hc hc2 e1 e2
            have HN := Lib.hid (Own.new' (w := wr) (t := 3) (g := wr.heap.size) (vs := cellsI [(y : Int)]) rfl)
            have HB1 := Lib.hid (bel_alloc HB.out (.cells #[.int .i64 (y : Int)] 3))
            have HV1 := Lib.hid (HV.out.below (alloc_below wr (.cells #[.int .i64 (y : Int)] 3)))
            go_wp2_with (at_builtin; refine wpList_append_ints rfl (.tmp 29) (.tmp 37) rfl (some ⟨wr.heap.size, 0, none⟩) 1 1 (k := [(y : Int)]) rfl rfl HV1.out rfl HN.out.rd (by rw [List.length_take]; omega) HB1.out.size ?_; intro v' w' hr hb; have HR' := Lib.hid hr; have HB' := Lib.hid (HB1.out.trans hb); clear hr hb)
            go_roundw
            case rel => exact ⟨k + 1, by omega, by go_num, by rw [← HF.out]; exact HR', HB'⟩
            case measure => simp [intOf]; omega
          · obtain rfl : n = k := by omega
            have HB3 := Lib.hid (below_chain HB2.out HB.out)
            go_wp2
            go_ret2
            refine ⟨_, by rw [HC.out]; rfl, ?_, HB3.out⟩
            rw [HC.out]
            have h := HV.out
            rw [List.take_of_length_le (by rw [length_compP, ← H1.out.len]; exact Nat.le_refl _)] at h
            exact h.base HB2.out.size
      · have HC := Lib.hid (show compO p q = none from if_neg (by rw [← H1.out.len, ← H2.out.len]; exact fun h => hnm h.2.2))
        have d1 : ((n : Int) != (m : Int)) = true := by rw [bne_iff_ne]; omega
        clear hnm
        go_wp2
        go_ret2
        exact ⟨.slice none 0 0, by rw [HC.out]; rfl, .inl ⟨by rw [HC.out]; rfl, rfl⟩, HB2.out⟩
theorem invP_take {p : List Int} {k : Nat} (h : k < p.length) : (invP p).take k ++ [((p.idxOf (k : Int) : Nat) : Int)] = (invP p).take (k + 1) := take_map_range (f := fun x => ((p.idxOf (x : Int) : Nat) : Int)) h
set_option maxRecDepth 100000 in
set_option maxHeartbeats 4000000 in
theorem invertR_any (A : Option Addr) (n c : Nat) (p : List Int) (w : World) (h1 : ArgI w A n c p) :
    Calls Try.prog 18 #[.slice A n c] w (ErrI w (invO p)) := by
  have H1 := Lib.hid h1
  have hn0 := h1.le
  clear h1
  have HP := Lib.hid (rightR_any A n c p w H1.out)
  obtain ⟨r, hr⟩ : ∃ r, rightP p = r := ⟨_, rfl⟩
  rw [hr] at HP
  have RP := Lib.hid hr
  clear hr
  go_enter Try.func18, Try.ntmps18
  go_wp2_with fail
  refine HP.out.mono ?_
  rintro e w2 ⟨rfl, hb1⟩
  have HB2 := Lib.hid hb1
  clear hb1
  cases r with
  | false =>
    have HC := Lib.hid (show invO p = none from if_neg (by rw [RP.out]; simp))
    go_wp2
    go_ret2
    exact ⟨.slice none 0 0, by rw [HC.out]; rfl, .inl ⟨by rw [HC.out]; rfl, rfl⟩, HB2.out⟩
  | true =>
    have HC := Lib.hid (show invO p = some (invP p) from if_pos RP.out)
    have hn : n ≤ 200 := by have := (right_true RP.out).1; have := H1.out.len; omega
    have H1' := Lib.hid (H1.out.keep HB2.out)
    have HS0 := Lib.hid (show RowI w2.heap.size w2 (.slice none 0 0) ((invP p).take 0) from .inl ⟨rfl, rfl⟩)
    go_wp2_with fail
    go_loopw [4, 5, 6] (fun v i _ wr => ∃ x : Nat, x ≤ n ∧ i = .int .i64 (x : Int) ∧ Hid (RowI w2.heap.size wr v ((invP p).take x)) ∧ Hid (Below w2.heap.size w2 wr)) (fun _ i _ _ => n - (intOf i).toNat)
    case atStart => exact ⟨0, Nat.zero_le _, rfl, HS0, Lib.hid (Below.refl _ _)⟩
    case round =>
      obtain ⟨x, hx, rfl, HV0, HB0⟩ := hrel
      by_cases hlt : x < n
      · obtain ⟨b, off, rfl, hb, hc⟩ := rd_int H1'.out.rd (by have := H1.out.len; omega)
        have HC1 := Lib.hid hc
        have hxl : x < p.length := by have := H1.out.len; omega
        obtain ⟨z, hz⟩ : ∃ z, p.idxOf (x : Int) = z := ⟨_, rfl⟩
        have hzl : z < n := by have := idx_lt RP.out hxl; have := H1.out.len; omega
        have HZ := Lib.hid (show p[z]? = some (x : Int) by have h := at0_eq RP.out (idx_lt RP.out hxl); rw [at0_idx RP.out hxl, hz] at h; exact h)
        have HND := Lib.hid (right_true RP.out).2.2
        have HF := Lib.hid (show (invP p).take x ++ [(z : Int)] = (invP p).take (x + 1) by rw [← hz]; exact invP_take hxl)
        have HLX := Lib.hid (show ((invP p).take x).length ≤ 200 by rw [List.length_take]; omega)
        clear hc hz
        go_wp2_with fail
        go_loopw [4, 6] (fun v i V => ∃ j : Nat, j ≤ n ∧ i = .int .i64 (j : Int) ∧ Hid (RowI w2.heap.size V v (if z < j then (invP p).take (x + 1) else (invP p).take x)) ∧ Hid (Below w2.heap.size w2 V)) (fun _ i _ => n - (intOf i).toNat)
        case atStart => exact ⟨0, Nat.zero_le _, rfl, Lib.hid (by rw [if_neg (by omega)]; exact HV0.out), HB0⟩
        case round =>
          obtain ⟨j, hj, rfl, HV, HB⟩ := hrel
          by_cases hjn : j < n
          · obtain ⟨y, hy⟩ : ∃ y, p[j]? = some y := ⟨_, List.getElem?_eq_getElem (by have := H1.out.len; omega)⟩
            have hcj := HC1.out wr HB.out j y hy
            by_cases hjz : j = z
            · subst hjz
              obtain rfl : y = (x : Int) := by have h := HZ.out; rw [hy] at h; injection h
              have HVj := Lib.hid (show RowI w2.heap.size wr _ ((invP p).take x) from by have h := HV.out; rw [if_neg (by omega)] at h; exact h)
              have HN := Lib.hid (Own.new' (w := wr) (t := 3) (g := wr.heap.size) (vs := cellsI [(j : Int)]) rfl)
              have HB1 := Lib.hid (bel_alloc HB.out (.cells #[.int .i64 (j : Int)] 3))
              have HV1 := Lib.hid (HVj.out.below (alloc_below wr (.cells #[.int .i64 (j : Int)] 3)))
              have hxx : ((x : Int) == (x : Int)) = true := by simp
              clear hy HV HVj
              go_wp2_with (at_builtin; refine wpList_append_ints rfl (.tmp 28) (.tmp 30) rfl (some ⟨wr.heap.size, 0, none⟩) 1 1 (k := [(j : Int)]) rfl rfl HV1.out rfl HN.out.rd (by have := HLX.out; omega) HB1.out.size ?_; intro v' w' hr hb; have HR' := Lib.hid hr; have HB' := Lib.hid (HB1.out.trans hb); clear hr hb)
              go_roundw
              case rel => exact ⟨j + 1, by omega, by go_num, Lib.hid (by rw [if_pos (Nat.lt_succ_self j), ← HF.out]; exact HR'.out), HB'⟩
              case measure => simp [intOf]; omega
            · have hyx : (y == (x : Int)) = false := by
                rw [beq_eq_false_iff_ne]
                rintro rfl
                have h := HZ.out
                rw [← hy] at h
                exact hjz ((List.getElem?_inj (by have := H1.out.len; omega) HND.out).1 h).symm
              have HV2 := Lib.hid (show RowI w2.heap.size wr _ (if z < j + 1 then (invP p).take (x + 1) else (invP p).take x) from by
                have h := HV.out
                by_cases hzj : z < j
                · rw [if_pos hzj] at h; rw [if_pos (by omega)]; exact h
                · rw [if_neg hzj] at h; rw [if_neg (by omega)]; exact h)
              clear hy hjz HV
              go_wp2
              go_roundw
              case rel => exact ⟨j + 1, by omega, by go_num, HV2, HB⟩
              case measure => simp [intOf]; omega
          · obtain rfl : j = n := by omega
            have HV2 := Lib.hid (show RowI w2.heap.size wr _ ((invP p).take (x + 1)) from by have h := HV.out; rw [if_pos hzl] at h; exact h)
            clear HV
            go_wp2
            go_roundw
            case rel => exact ⟨x + 1, by omega, by go_num, HV2, HB⟩
            case measure => simp [intOf]; omega
      · obtain rfl : n = x := by omega
        have HB3 := Lib.hid (below_chain HB2.out HB0.out)
        go_wp2
        go_ret2
        refine ⟨_, by rw [HC.out]; rfl, ?_, HB3.out⟩
        rw [HC.out]
        have h := HV0.out
        rw [List.take_of_length_le (by rw [length_invP, ← H1.out.len]; exact Nat.le_refl _)] at h
        exact h.base HB2.out.size
end Go.Proofs.Ytccaagildkgfeaa
