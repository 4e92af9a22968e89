/- Walks: fretworkref03.Right, Identity, Same. -/
import Derived.Test.YtccaagildkgfeaaJe
namespace Go.Proofs.Ytccaagildkgfeaa
open Go.RowKit

theorem good_zero (p : List Int) : GoodK p 0 := ⟨by simp, by simp⟩
theorem good_all {p : List Int} (h : GoodK p p.length) : rightP p = decide (p.length ≤ 200) := by
  unfold GoodK at h
  rw [List.take_length] at h
  unfold rightP
  rw [decide_eq_true h.1, decide_eq_true h.2, Bool.and_true, Bool.and_true]
def tblR9 (b : Nat) (off : Nat) (n : Nat) (c : Nat) (k : Nat) (j : Nat) (x : Int) (y : Int) (s : Bool) : List Pst := [Pst.val (.slice (some ⟨b, off, none⟩) n c), Pst.val (.int .i64 (j : Nat)), Pst.val (.pointer (some ⟨b, off + j, none⟩)), Pst.val (.int .i64 y), Pst.val (.slice (some ⟨b, off, none⟩) n c), Pst.val (.int .i64 (k : Nat)), Pst.val (.pointer (some ⟨b, off + k, none⟩)), Pst.val (.int .i64 x), Pst.val (.bool s)]
set_option maxRecDepth 100000 in
set_option maxHeartbeats 4000000 in
theorem rightR_any (A : Option Addr) (n c : Nat) (p : List Int) (w : World) (h : ArgI w A n c p) :
    Calls Try.prog 19 #[.slice A n c] w fun e w' => e = .returned (.bool (rightP p)) ∧ Below w.heap.size w w' := by
  have H := Lib.hid h
  have hn := h.le
  clear h
  go_enter Try.func19, Try.ntmps19
  go_wp2
  go_loopw [2, 3, 4] (fun _ i _ wr => ∃ k : Nat, k ≤ n ∧ i = .int .i64 (k : Int) ∧ Hid (GoodK p k) ∧ Hid (Below w.heap.size w wr)) (fun _ i _ _ => n - (intOf i).toNat)
  case atStart => exact ⟨0, Nat.zero_le _, rfl, Lib.hid (good_zero p), Lib.hid (Below.refl _ _)⟩
  case round =>
    obtain ⟨k, hk, rfl, HG, HB0⟩ := hrel
    by_cases hlt : k < n
    · obtain ⟨b, off, rfl, hb, hc⟩ := rd_int H.out.rd (by have := H.out.len; omega)
      obtain ⟨x, hx⟩ : ∃ x, p[k]? = some x := ⟨_, List.getElem?_eq_getElem (by have := H.out.len; omega)⟩
      have HX := Lib.hid hx
      have q0 := hc wr HB0.out k x hx
      have HC := Lib.hid hc
      by_cases h0 : x < 0
      · have HF := Lib.hid (out_bad hx (.inl h0))
        have d0 : decide (x < 0) = true := decide_eq_true h0
        clear hc hx
        go_wp2
        go_ret
        exact ⟨by rw [HF.out]; rfl, HB0.out⟩
      · have d0 : decide (x < 0) = false := decide_eq_false h0
        by_cases h1 : (n : Int) ≤ x
        · have HF := Lib.hid (out_bad hx (.inr (by rw [← H.out.len]; exact h1)))
          have d1 : decide ((n : Int) ≤ x) = true := decide_eq_true h1
          clear hc hx
          go_wp2
          go_ret
          exact ⟨by rw [HF.out]; rfl, HB0.out⟩
        · have d1 : decide ((n : Int) ≤ x) = false := decide_eq_false h1
          have HXB := Lib.hid (show 0 ≤ x ∧ x < n by omega)
          have HK := Lib.hid hlt
          have HN0 := Lib.hid (show (p.take 0).contains x = false by simp)
          clear hc hx h0 h1
          go_wp2_with fail
          go_loopw [2, 4] (fun _ i V => ∃ j : Nat, j ≤ k ∧ i = .int .i64 (j : Int) ∧ Hid ((p.take j).contains x = false) ∧ Hid (Below w.heap.size w V)) (fun _ i _ => k - (intOf i).toNat)
          case atStart => exact ⟨0, Nat.zero_le _, rfl, HN0, HB0⟩
          case round =>
            obtain ⟨j, hj, rfl, HN, HB⟩ := hrel
            by_cases hjk : j < k
            · obtain ⟨y, hy⟩ : ∃ y, p[j]? = some y := ⟨_, List.getElem?_eq_getElem (by have := H.out.len; omega)⟩
              have HY := Lib.hid hy
              have C1 := Lib.hid (fun V (hV : Below wr.heap.size wr V) => HC.out V (below_chain HB.out hV) j y hy)
              have C2 := Lib.hid (fun V (hV : Below wr.heap.size wr V) => HC.out V (below_chain HB.out hV) k x HX.out)
              obtain ⟨s, hs⟩ : ∃ s, (y == x) = s := ⟨_, rfl⟩
              have HS := Lib.hid hs
              have HJ := Lib.hid (show j < n by omega); have HJK := Lib.hid hjk
              clear hs hy
              go_wp2_with fail
              refine region_posts (by kernel_rfl) (tblR9 b off n c k j x y s) (by kernel_rfl) ?_ ?_
              · skip
                refine .yes rfl (fun a W Q hB hO hD => ?_) ?_
                · have e0 : a.tmps.getD 0 undef = .slice (some ⟨b, off, none⟩) n c := hO.slot 0 _ rfl rfl
                  clear hO hD
                  go_wp2
                  exact ⟨_, rfl, Below.refl _ _, rfl⟩
                refine .yes rfl (fun a W Q hB hO hD => ?_) ?_
                · have e4 : a.tmps.getD 4 undef = .int .i64 (j : Nat) := hO.slot 4 _ rfl rfl
                  clear hO hD
                  go_wp2
                  exact ⟨_, rfl, Below.refl _ _, rfl⟩
                refine .yes rfl (fun a W Q hB hO hD => ?_) ?_
                · have e30 : a.tmps.getD 30 undef = .slice (some ⟨b, off, none⟩) n c := hD 0 rfl
                  have e31 : a.tmps.getD 31 undef = .int .i64 (j : Nat) := hD 1 rfl
                  clear hO hD
                  have h1 := HJ.out
                  go_wp2
                  exact ⟨_, rfl, Below.refl _ _, rfl⟩
                refine .yes rfl (fun a W Q hB hO hD => ?_) ?_
                · have e32 : a.tmps.getD 32 undef = .pointer (some ⟨b, off + j, none⟩) := hD 2 rfl
                  clear hO hD
                  have hc := C1.out W hB
                  go_wp2
                  exact ⟨_, rfl, Below.refl _ _, rfl⟩
                refine .yes rfl (fun a W Q hB hO hD => ?_) ?_
                · have e0 : a.tmps.getD 0 undef = .slice (some ⟨b, off, none⟩) n c := hO.slot 0 _ rfl rfl
                  clear hO hD
                  go_wp2
                  exact ⟨_, rfl, Below.refl _ _, rfl⟩
                refine .yes rfl (fun a W Q hB hO hD => ?_) ?_
                · have e3 : a.tmps.getD 3 undef = .int .i64 (k : Nat) := hO.slot 3 _ rfl rfl
                  clear hO hD
                  go_wp2
                  exact ⟨_, rfl, Below.refl _ _, rfl⟩
                refine .yes rfl (fun a W Q hB hO hD => ?_) ?_
                · have e34 : a.tmps.getD 34 undef = .slice (some ⟨b, off, none⟩) n c := hD 4 rfl
                  have e35 : a.tmps.getD 35 undef = .int .i64 (k : Nat) := hD 5 rfl
                  clear hO hD
                  have h1 := HK.out
                  go_wp2
                  exact ⟨_, rfl, Below.refl _ _, rfl⟩
                refine .yes rfl (fun a W Q hB hO hD => ?_) ?_
                · have e36 : a.tmps.getD 36 undef = .pointer (some ⟨b, off + k, none⟩) := hD 6 rfl
                  clear hO hD
                  have hc := C2.out W hB
                  go_wp2
                  exact ⟨_, rfl, Below.refl _ _, rfl⟩
                refine .yes rfl (fun a W Q hB hO hD => ?_) ?_
                · have e33 : a.tmps.getD 33 undef = .int .i64 y := hD 3 rfl
                  have e37 : a.tmps.getD 37 undef = .int .i64 x := hD 7 rfl
                  clear hO hD
                  have hq := HS.out
                  go_wp2
                  exact ⟨_, rfl, Below.refl _ _, rfl⟩
                exact .nil
              · intro f V hBz hR
                have e8 : f 8 = .bool s := hR 8 (by decide)
                have HB2 := Lib.hid (below_chain HB.out hBz)
                clear hR hBz
                simp only [putAll, Nat.zero_add, Nat.reduceAdd, Act.put, List.setIfInBounds_toArray, List.set_cons_zero, List.set_cons_succ, e8]
                cases s with
                | true =>
                  have HF := Lib.hid (met_bad HX.out (show (p.take k).contains x = true from List.contains_iff_mem.2 (by
                    have h := HS.out
                    rw [beq_iff_eq] at h
                    subst h
                    exact List.mem_of_getElem? (i := j) (by rw [List.getElem?_take, if_pos HJK.out]; exact HY.out)))
                    )
                  go_wp2
                  go_ret
                  exact ⟨by rw [HF.out]; rfl, HB2.out⟩
                | false =>
                  have HF := Lib.hid (show (p.take (j + 1)).contains x = false from by
                    rw [List.take_add_one, HY.out]
                    have h := HS.out
                    rw [beq_eq_false_iff_ne] at h
                    have h2 := HN.out
                    rw [Bool.eq_false_iff] at h2 ⊢
                    intro hm
                    rcases List.mem_append.1 (List.contains_iff_mem.1 hm) with h3 | h3
                    · exact h2 (List.contains_iff_mem.2 h3)
                    · exact h (by simpa using h3 : x = y).symm)
                  go_wp2
                  go_roundw
                  case rel => exact ⟨j + 1, by omega, by go_num, HF, HB2⟩
                  case measure => simp [intOf]; omega
            · obtain rfl : j = k := by omega
              obtain ⟨t, rfl⟩ := Int.eq_ofNat_of_zero_le HXB.out.1
              have HG2 := Lib.hid (HG.out.step HX.out (by have := HXB.out.2; have := H.out.len; omega) HN.out)
              go_wp2
              go_roundw
              case rel => exact ⟨j + 1, by omega, by go_num, HG2, HB⟩
              case measure => simp [intOf]; omega
    · obtain rfl : k = n := by omega
      have HF := Lib.hid (show rightP p = decide (k ≤ 200) by have h := HG.out; rw [H.out.len] at h; rw [good_all h, H.out.len])
      go_wp2
      go_ret
      exact ⟨by rw [HF.out]; simp; omega, HB0.out⟩
set_option maxRecDepth 100000 in
set_option maxHeartbeats 4000000 in
theorem identityR_any (k : Int) (w : World) : Calls Try.prog 22 #[.int .i64 k] w (FreshI w (if 0 ≤ k ∧ k ≤ 200 then idP k.toNat else [])) := by
  have HS0 := Lib.hid (show RowI w.heap.size w (.slice none 0 0) [] from .inl ⟨rfl, rfl⟩)
  by_cases h2 : k ≤ 200
  · have d2 : decide (k ≤ 200) = true := decide_eq_true h2
    have HR := Lib.hid (show (if 0 ≤ k ∧ k ≤ 200 then idP k.toNat else []) = idP k.toNat by
      by_cases h0 : 0 ≤ k
      · rw [if_pos ⟨h0, h2⟩]
      · rw [if_neg (by omega), show k.toNat = 0 by omega]; rfl)
    rw [HR.out]
    go_enter Try.func22, Try.ntmps22
    go_wp2
    go_loopw [3, 4] (fun v i wr => ∃ j : Nat, j ≤ k.toNat ∧ i = .int .i64 (j : Int) ∧ Hid (RowI w.heap.size wr v (idP j)) ∧ Hid (Below w.heap.size w wr)) (fun _ i _ => k.toNat - (intOf i).toNat)
    case atStart => exact ⟨0, Nat.zero_le _, rfl, HS0, Lib.hid (Below.refl _ _)⟩
    case round =>
      obtain ⟨j, hj, rfl, HV, HB⟩ := hrel
      by_cases hlt : (j : Int) < k
      · have HN := Lib.hid (Own.new' (w := wr) (t := 3) (g := wr.heap.size) (vs := cellsI [(j : Int)]) rfl)
        have HST := Lib.hid (show idP j ++ [(j : Int)] = idP (j + 1) by unfold idP; rw [List.range_succ, List.map_append]; rfl)
        have HB1 := Lib.hid (bel_alloc HB.out (.cells #[.int .i64 (j : Int)] 3))
        have HV1 := Lib.hid (HV.out.below (alloc_below wr (.cells #[.int .i64 (j : Int)] 3)))
        go_wp2_with (at_builtin; refine wpList_append_ints rfl (.tmp 14) (.tmp 16) rfl (some ⟨wr.heap.size, 0, none⟩) 1 1 (k := [(j : Int)]) rfl rfl HV1.out rfl HN.out.rd (by rw [length_idP]; omega) HB1.out.size ?_; intro v' w' hr hb; have HR' := Lib.hid hr; have HB' := Lib.hid (HB1.out.trans hb); clear hr hb)
        go_roundw
        case rel => exact ⟨j + 1, by omega, by go_num, by rw [← HST.out]; exact HR', HB'⟩
        case measure => simp [intOf]; omega
      · have HE := Lib.hid (show j = k.toNat by omega)
        have d1 : decide ((j : Int) < k) = false := decide_eq_false hlt
        go_wp2
        go_ret
        exact ⟨_, rfl, by rw [← HE.out]; exact HV.out, HB.out⟩
  · have d2 : decide (k ≤ 200) = false := decide_eq_false h2
    have d1 : decide (0 < k) = true := decide_eq_true (by omega)
    rw [if_neg (by omega)]
    go_enter Try.func22, Try.ntmps22
    go_wp2
    refine wp_loop_rounds 1 ?_
    rw [rounds_succ]
    go_wp2
    go_ret
    exact ⟨_, rfl, HS0.out, Below.refl _ _⟩
end Go.Proofs.Ytccaagildkgfeaa
