/- Walk: fretworkref02.Bytes. -/
import Derived.Test.YtljihclpgpmfeaaDoorUp
import Derived.Test.YtljihclpgpmfeaaDoorKn
import Derived.Test.YtljihclpgpmfeaaDoorGw
import Derived.Test.YtljihclpgpmfeaaDoorUq
import Derived.Test.YtljihclpgpmfeaaDoorUa
namespace Go.Proofs.YtljihclpgpmfeaaDoor
set_option maxRecDepth 100000
open Go.RowKit

theorem knot_txt {f : Nat → Bool} {p m : Nat} (h : KnotAt f p m) : txtF f p ++ txtF (knotF m) (knotL m) = txtF f (p + knotL m) := by
  rw [txtF_append]
  refine txtF_congr fun i hi => ?_
  by_cases h1 : i < p
  · rw [if_pos h1]
  · rw [if_neg h1]
    obtain ⟨h2, h3⟩ := h
    have hl : knotL m = 2 * digits m - 1 := rfl
    unfold knotF putF
    by_cases h4 : i - p < digits m - 1
    · have := h2 (i - p) h4
      rw [show p + (i - p) = i by omega] at this
      rw [this, decide_eq_false (by omega)]
      rfl
    · have := h3 (i - p - (digits m - 1)) (by omega)
      rw [show p + (digits m - 1) + (i - p - (digits m - 1)) = i by omega] at this
      rw [this, decide_eq_true (by omega)]
      rfl
theorem knotL_le {m : Nat} (h : m ≤ 594) : knotL m ≤ 19 := by
  have := digits_le h
  unfold knotL
  omega
theorem knots_start {f : Nat → Bool} {L : Nat} {N : Int} {E : List (Int × Int)} (h : KnotsAt f 0 (N :: (E.length : Int) :: E.flatMap fun e => [e.1, e.2]) L) :
    ∃ p, txtF (knotF N.toNat) (knotL N.toNat) ++ txtF (knotF E.length) (knotL E.length) = txtF f p ∧ KnotsAt f p ((E.drop 0).flatMap fun e => [e.1, e.2]) L := by
  obtain ⟨_, h1, _, h2, h3⟩ := h
  refine ⟨_, ?_, h3⟩
  have e1 := knot_txt h1
  have e2 := knot_txt h2
  rw [← e2, ← e1, txtF_zero]
  rfl
theorem knots_edge {f : Nat → Bool} {p L k x0 x1 : Nat} {E : List (Int × Int)} (h : KnotsAt f p ((E.drop k).flatMap fun e => [e.1, e.2]) L) (hx : E[k]? = some ((x0 : Int), (x1 : Int))) :
    ∃ pa pb, txtF f p ++ txtF (knotF x0) (knotL x0) = txtF f pa ∧ txtF f pa ++ txtF (knotF x1) (knotL x1) = txtF f pb ∧ KnotsAt f pb ((E.drop (k + 1)).flatMap fun e => [e.1, e.2]) L := by
  obtain ⟨hl, he⟩ := List.getElem?_eq_some_iff.1 hx
  rw [List.drop_eq_getElem_cons hl, he, List.flatMap_cons] at h
  obtain ⟨_, h1, _, h2, h3⟩ := h
  exact ⟨_, _, knot_txt h1, knot_txt h2, h3⟩
def tblB3 (gb : Nat) (M : Nat) (A : Option Addr) (n : Nat) (c : Nat) (A0 : ByteArray) (A1 : ByteArray) (A2 : ByteArray) : List Pst := [Pst.val (.pointer (some ⟨gb, 0, none⟩)), Pst.val (.int .i64 (M : Nat)), Pst.val (.int .u64 (M : Nat)), Pst.val (.string A0), Pst.val (.pointer (some ⟨gb, 1, none⟩)), Pst.val (.slice A n c), Pst.val (.int .i64 (n : Nat)), Pst.val (.int .u64 (n : Nat)), Pst.val (.string A1), Pst.val (.string A2), Pst.val (.string A2)]
def tblB7 (S : ByteArray) (gb : Nat) (b : Nat) (off : Nat) (n : Nat) (c : Nat) (k : Nat) (x0 : Nat) (x1 : Nat) (A0 : ByteArray) (A1 : ByteArray) (B2 : ByteArray) (A3 : ByteArray) : List Pst := [Pst.val (.string S), Pst.val (.pointer (some ⟨gb, 1, none⟩)), Pst.val (.slice (some ⟨b, off, none⟩) n c), Pst.val (.int .i64 (k : Nat)), Pst.val (.pointer (some ⟨b, off + k * 2, none⟩)), Pst.val (.pointer (some ⟨b, off + k * 2, none⟩)), Pst.val (.int .i64 (x0 : Nat)), Pst.val (.int .u64 (x0 : Nat)), Pst.val (.string A0), Pst.val (.string A1), Pst.val (.pointer (some ⟨gb, 1, none⟩)), Pst.val (.slice (some ⟨b, off, none⟩) n c), Pst.val (.int .i64 (k : Nat)), Pst.val (.pointer (some ⟨b, off + k * 2, none⟩)), Pst.val (.pointer (some ⟨b, off + k * 2 + 1, none⟩)), Pst.val (.int .i64 (x1 : Nat)), Pst.val (.int .u64 (x1 : Nat)), Pst.val (.string B2), Pst.val (.string A3), Pst.val (.string A3)]
set_option maxRecDepth 100000 in
set_option maxHeartbeats 16000000 in
theorem bytesR_any (N : Int) (A : Option Addr) (n c : Nat) (E : List (Int × Int)) (w : World) (h : ArgE w A n c E) :
    Calls Tryd.prog 31 #[.agg #[.int .i64 N, .slice A n c]] w (BytesPost w (bytesO N E)) := by
  have HB0 := Lib.hid (alloc_below w (.cells #[.int .i64 N, .slice A n c] 26))
  have HA := Lib.hid (h.keep HB0.out)
  have G0 := Lib.hid (Own.new' (t := 26) (w := w) (vs := [.int .i64 N, .slice A n c]) rfl)
  have HL := Lib.hid h.len
  clear h
  have HR := Lib.hid (rightR2_any N A n c E _ HA.out)
  obtain ⟨r, hr⟩ : ∃ r, rightG N E = r := ⟨_, rfl⟩
  have RG := Lib.hid hr
  rw [hr] at HR
  clear hr
  go_enter Tryd.func31, Tryd.ntmps31
  go_wp2_with fail
  refine HR.out.mono ?_
  rintro e w1 ⟨rfl, hb⟩
  have OG := Lib.hid (G0.out.below' hb)
  have HA1 := Lib.hid (HA.out.keep hb)
  have HB1 := Lib.hid (HB0.out.trans (hb.mono HB0.out.size))
  clear hb HA G0 HB0 HR
  cases r with
  | false =>
    have HX := Lib.hid (show bytesO N E = none by unfold bytesO; rw [RG.out]; rfl)
    go_wp2
    go_ret2
    rw [HX.out]
    exact ⟨rfl, HB1.out⟩
  | true =>
    have HE := Lib.hid (rightG_iff.1 RG.out)
    have HX := Lib.hid (bytesO_right HE.out)
    have HOK := Lib.hid (nums_ok HE.out)
    have HRS := Lib.hid (knotsG_RS HE.out)
    have HKA := Lib.hid (knotsS_at HOK.out).1
    have HLL := Lib.hid (show (knotsS (numsG N E)).1 ≤ 40000 from by
      have h := knotsS_len (numsG_small RG.out) (numsG N E).length
      rw [List.take_of_length_le (Nat.le_refl _), numsG_len] at h
      have := HE.out.len
      omega)
    obtain ⟨s, hs⟩ : ∃ s, knotsS (numsG N E) = s := ⟨_, rfl⟩
    rw [hs] at HX HRS HKA HLL
    obtain ⟨L, f⟩ := s
    have HK := Lib.hid (show KnotsAt f 0 (N :: (E.length : Int) :: E.flatMap fun e => [e.1, e.2]) L from HKA.out)
    have HLL := Lib.hid (show L ≤ 40000 from HLL.out)
    clear hs HKA
    obtain ⟨M, rfl⟩ : ∃ M : Nat, N = (M : Int) := ⟨N.toNat, by have := HE.out.n0; omega⟩
    have hM : M ≤ 200 := by have := HE.out.n1; omega
    have hn5 : n ≤ 594 := by have := HE.out.len; have := HL.out; omega
    obtain ⟨p0, hp0, K0⟩ := knots_start HK.out
    rw [← HL.out] at hp0
    have CI0 := Lib.hid (fun V => tied_ref M _ V (by omega) rfl)
    have CI1 := Lib.hid (fun V => tied_ref n _ V (by omega) rfl)
    obtain ⟨A0, hA0⟩ : ∃ S, txtF (knotF M) (knotL M) = S := ⟨_, rfl⟩
    obtain ⟨A1, hA1⟩ : ∃ S, txtF (knotF n) (knotL n) = S := ⟨_, rfl⟩
    obtain ⟨A2, hA2⟩ : ∃ S, txtF f p0 = S := ⟨_, rfl⟩
    have z0 : A0.size = knotL M := by rw [← hA0]; exact txtF_size _ _
    have z1 : A1.size = knotL n := by rw [← hA1]; exact txtF_size _ _
    have la := knotL_le (m := M) (by omega)
    have lb := knotL_le (m := n) (by omega)
    have E1 := Lib.hid (show ¬ 9223372036854775807 < A0.size + A1.size ∧ A0 ++ A1 = A2 from ⟨by rw [z0, z1]; omega, by rw [← hA0, ← hA1, ← hA2]; exact hp0⟩)
    rw [hA0] at CI0
    rw [hA1] at CI1
    have HA2 := Lib.hid hA2
    have HK0 := Lib.hid K0
    have HM := Lib.hid (show IntKind.u64.wrap (M : Int) = (M : Int) from IntWalk.u64_in _ (by omega))
    have HN := Lib.hid (show IntKind.u64.wrap (n : Int) = (n : Int) from IntWalk.u64_in _ (by omega))
    have CE := Lib.hid (fun V (hV : Below w1.heap.size w1 V) => OG.out.below' hV)
    clear hA0 hA1 hA2 z0 z1 la lb hp0 K0 HK
    go_wp2_with fail
    refine region_postsS [] (fun _ V => Below w1.heap.size w1 V) (by kernel_rfl) (tblB3 w.heap.size M A n c A0 A1 A2) (by kernel_rfl) (by kernel_rfl) ?_ ?_ ?_ (below_drewN (Below.refl _ _) 1) ?_ ?_
    · intro j V V' h hb
      exact h.trans (hb.mono h.size)
    · exact fun j v V V' h => postsS_val (tbl := (tblB3 w.heap.size M A n c A0 A1 A2)) (by simp only [tblB3, List.mem_cons, List.not_mem_nil, or_false, forall_eq_or_imp, forall_eq, pureP_val, and_self]) j v V V' h
    · intro s hs
      simp at hs
    · skip
      refine .yes rfl rfl (fun a W Q k0 hR hM hO hD hN => ?_) ?_
      · have e1 : a.tmps.getD 1 undef = .pointer (some ⟨w.heap.size, 0, none⟩) := hO.slot 1 _ rfl rfl
        clear hO hD hN
        go_wp2
        exact ⟨_, rfl, Below.refl _ _, rfl⟩
      refine .yes rfl rfl (fun a W Q k0 hR hM hO hD hN => ?_) ?_
      · have e9 : a.tmps.getD 9 undef = .pointer (some ⟨w.heap.size, 0, none⟩) := hD 0 rfl
        clear hO hD hN
        have hO2 := CE.out W hR
        have q := hO2.cell
        have z := hO2.lt
        go_wp2
        exact ⟨_, rfl, Below.refl _ _, rfl⟩
      refine .yes rfl rfl (fun a W Q k0 hR hM hO hD hN => ?_) ?_
      · have e10 : a.tmps.getD 10 undef = .int .i64 (M : Nat) := hD 1 rfl
        clear hO hD hN
        have hcv := HM.out
        go_wp2
        exact ⟨_, rfl, Below.refl _ _, rfl⟩
      refine .yes rfl rfl (fun a W Q k0 hR hM hO hD hN => ?_) ?_
      · have e11 : a.tmps.getD 11 undef = .int .u64 (M : Nat) := hD 2 rfl
        clear hO hD hN
        have hca := CI0.out W
        go_wp2_with fail
        refine hca.mono ?_
        rintro e w' ⟨rfl, hbc⟩
        go_wp2
        exact ⟨_, rfl, hbc, rfl⟩
      refine .yes rfl rfl (fun a W Q k0 hR hM hO hD hN => ?_) ?_
      · have e1 : a.tmps.getD 1 undef = .pointer (some ⟨w.heap.size, 0, none⟩) := hO.slot 1 _ rfl rfl
        clear hO hD hN
        go_wp2
        exact ⟨_, rfl, Below.refl _ _, rfl⟩
      refine .yes rfl rfl (fun a W Q k0 hR hM hO hD hN => ?_) ?_
      · have e13 : a.tmps.getD 13 undef = .pointer (some ⟨w.heap.size, 1, none⟩) := hD 4 rfl
        clear hO hD hN
        have hO2 := CE.out W hR
        have q := hO2.cell
        have z := hO2.lt
        go_wp2
        exact ⟨_, rfl, Below.refl _ _, rfl⟩
      refine .yes rfl rfl (fun a W Q k0 hR hM hO hD hN => ?_) ?_
      · have e14 : a.tmps.getD 14 undef = .slice A n c := hD 5 rfl
        clear hO hD hN
        go_wp2
        exact ⟨_, rfl, Below.refl _ _, rfl⟩
      refine .yes rfl rfl (fun a W Q k0 hR hM hO hD hN => ?_) ?_
      · have e15 : a.tmps.getD 15 undef = .int .i64 (n : Nat) := hD 6 rfl
        clear hO hD hN
        have hcv := HN.out
        go_wp2
        exact ⟨_, rfl, Below.refl _ _, rfl⟩
      refine .yes rfl rfl (fun a W Q k0 hR hM hO hD hN => ?_) ?_
      · have e16 : a.tmps.getD 16 undef = .int .u64 (n : Nat) := hD 7 rfl
        clear hO hD hN
        have hca := CI1.out W
        go_wp2_with fail
        refine hca.mono ?_
        rintro e w' ⟨rfl, hbc⟩
        go_wp2
        exact ⟨_, rfl, hbc, rfl⟩
      refine .yes rfl rfl (fun a W Q k0 hR hM hO hD hN => ?_) ?_
      · have e12 : a.tmps.getD 12 undef = .string A0 := hD 3 rfl
        have e17 : a.tmps.getD 17 undef = .string A1 := hD 8 rfl
        clear hO hD hN
        have hl := E1.out.1
        have he := E1.out.2
        go_wp2
        exact ⟨_, rfl, Below.refl _ _, rfl⟩
      refine .yes rfl rfl (fun a W Q k0 hR hM hO hD hN => ?_) ?_
      · have e18 : a.tmps.getD 18 undef = .string A2 := hD 9 rfl
        clear hO hD hN
        go_wp2
        exact ⟨_, rfl, Below.refl _ _, rfl⟩
      exact .nil
    · intro f3 V hBz hRz
      have e4 : f3 10 = .string A2 := hRz 10 (by decide)
      have HBv := Lib.hid hBz
      have OGv := Lib.hid (OG.out.below' hBz)
      have HAv := Lib.hid (HA1.out.keep hBz)
      have HB2 := Lib.hid (below_chain HB1.out hBz)
      clear hRz hBz CE HA1 HB1 OG CI0 CI1 E1
      simp only [putAll, Nat.zero_add, Nat.reduceAdd, Act.put, List.setIfInBounds_toArray, List.set_cons_zero, List.set_cons_succ, e4]
      have qO := OGv.out.cell
      have zO := OGv.out.lt
      go_wp2
      go_loopw [4, 5] (fun s4 i wr => ∃ k p : Nat, k ≤ n ∧ i = .int .i64 (k : Int) ∧ (∃ S, s4 = .string S ∧ Hid (S = txtF f p)) ∧ Hid (KnotsAt f p ((E.drop k).flatMap fun e => [e.1, e.2]) L) ∧ Hid (Below V.heap.size V wr)) (fun _ i _ => n - (intOf i).toNat)
      case atStart => exact ⟨0, p0, Nat.zero_le _, rfl, ⟨_, rfl, Lib.hid HA2.out.symm⟩, HK0, Lib.hid (Below.refl _ _)⟩
      case round =>
        obtain ⟨k, p, hk, rfl, ⟨S, rfl, HS⟩, HK, HB⟩ := hrel
        clear qO zO
        have CE := Lib.hid (fun V' (hV : Below wr.heap.size wr V') => OGv.out.below' (below_chain HB.out hV))
        have hO := CE.out wr (Below.refl _ _)
        have qO := hO.cell
        have zO := hO.lt
        clear hO
        have HPL := Lib.hid (HK.out.le)
        by_cases hlt : k < n
        · obtain ⟨b, off, rfl, hb, hc⟩ := rd_edge HAv.out.rd (by have := HL.out; omega)
          obtain ⟨⟨y0, y1⟩, hx⟩ : ∃ x, E[k]? = some x := ⟨_, List.getElem?_eq_getElem (by have := HL.out; omega)⟩
          have hv := HE.out.valid _ (List.mem_of_getElem? hx)
          have v0 : 0 ≤ y0 := hv.1
          have v1 : y0 < y1 := hv.2.1
          have v2 : y1 < (M : Int) := hv.2.2
          obtain ⟨x0, rfl⟩ : ∃ x : Nat, y0 = (x : Int) := ⟨y0.toNat, by omega⟩
          obtain ⟨x1, rfl⟩ : ∃ x : Nat, y1 = (x : Int) := ⟨y1.toNat, by omega⟩
          have hx0 : x0 ≤ 200 := by omega
          have hx1 : x1 ≤ 200 := by omega
          clear hv v0 v1 v2
          have C1 := Lib.hid (fun V' (hV : Below wr.heap.size wr V') => (show V'.cell? ⟨b, off + k * 2, none⟩ = some (.int .i64 (x0 : Nat)) ∧ V'.cell? ⟨b, off + k * 2 + 1, none⟩ = some (.int .i64 (x1 : Nat)) from hc V' (below_chain HB.out hV) k _ hx))
          obtain ⟨pa, pb, ha, hb2, K2⟩ := knots_edge HK.out hx
          have HH := Lib.hid hlt
          have CI0 := Lib.hid (fun V => tied_ref x0 _ V (by omega) rfl)
          have CI1 := Lib.hid (fun V => tied_ref x1 _ V (by omega) rfl)
          obtain ⟨A0, hA0⟩ : ∃ S, txtF (knotF x0) (knotL x0) = S := ⟨_, rfl⟩
          obtain ⟨A1, hA1⟩ : ∃ S, txtF f pa = S := ⟨_, rfl⟩
          obtain ⟨B2, hA2⟩ : ∃ S, txtF (knotF x1) (knotL x1) = S := ⟨_, rfl⟩
          obtain ⟨A3, hA3⟩ : ∃ S, txtF f pb = S := ⟨_, rfl⟩
          have la := knotL_le (m := x0) (by omega)
          have lb := knotL_le (m := x1) (by omega)
          have hpb := KnotsAt.le K2
          have hll := HLL.out
          have hpl := HPL.out
          have z0 : A0.size = knotL x0 := by rw [← hA0]; exact txtF_size _ _
          have z1 : A1.size = pa := by rw [← hA1]; exact txtF_size _ _
          have z2 : B2.size = knotL x1 := by rw [← hA2]; exact txtF_size _ _
          have zS : S.size = p := by rw [HS.out]; exact txtF_size _ _
          have hpa : pa ≤ p + 200 := by
            have := congrArg ByteArray.size ha
            rw [ByteArray.size_append, txtF_size, txtF_size, txtF_size] at this
            omega
          have E1 := Lib.hid (show ¬ 9223372036854775807 < S.size + A0.size ∧ S ++ A0 = A1 from ⟨by rw [zS, z0]; omega, by rw [HS.out, ← hA0, ← hA1]; exact ha⟩)
          have E3 := Lib.hid (show ¬ 9223372036854775807 < A1.size + B2.size ∧ A1 ++ B2 = A3 from ⟨by rw [z1, z2]; omega, by rw [← hA1, ← hA2, ← hA3]; exact hb2⟩)
          rw [hA0] at CI0
          rw [hA2] at CI1
          have HA3 := Lib.hid hA3
          have HK2 := Lib.hid K2
          have H0 := Lib.hid (show IntKind.u64.wrap (x0 : Int) = (x0 : Int) from IntWalk.u64_in _ (by omega))
          have H1 := Lib.hid (show IntKind.u64.wrap (x1 : Int) = (x1 : Int) from IntWalk.u64_in _ (by omega))
          clear hA0 hA1 hA2 hA3 z0 z1 z2 zS la lb hpb hll hpl hpa K2 ha hb2 hc hx HS HK
          go_wp2_with fail
          refine region_postsS [] (fun _ V => Below wr.heap.size wr V) (by kernel_rfl) (tblB7 S w.heap.size b off n c k x0 x1 A0 A1 B2 A3) (by kernel_rfl) (by kernel_rfl) ?_ ?_ ?_ (below_drewN (Below.refl _ _) 1) ?_ ?_
          · intro j V V' h hb
            exact h.trans (hb.mono h.size)
          · exact fun j v V V' h => postsS_val (tbl := (tblB7 S w.heap.size b off n c k x0 x1 A0 A1 B2 A3)) (by simp only [tblB7, List.mem_cons, List.not_mem_nil, or_false, forall_eq_or_imp, forall_eq, pureP_val, and_self]) j v V V' h
          · intro s hs
            simp at hs
          · skip
            refine .yes rfl rfl (fun a W Q k0 hR hM hO hD hN => ?_) ?_
            · have e4 : a.tmps.getD 4 undef = .string S := (hN 19 4 _ rfl rfl rfl).trans rfl
              clear hO hD hN
              go_wp2
              exact ⟨_, rfl, Below.refl _ _, rfl⟩
            refine .yes rfl rfl (fun a W Q k0 hR hM hO hD hN => ?_) ?_
            · have e1 : a.tmps.getD 1 undef = .pointer (some ⟨w.heap.size, 0, none⟩) := hO.slot 1 _ rfl rfl
              clear hO hD hN
              go_wp2
              exact ⟨_, rfl, Below.refl _ _, rfl⟩
            refine .yes rfl rfl (fun a W Q k0 hR hM hO hD hN => ?_) ?_
            · have e27 : a.tmps.getD 27 undef = .pointer (some ⟨w.heap.size, 1, none⟩) := hD 1 rfl
              clear hO hD hN
              have hO2 := CE.out W hR
              have q := hO2.cell
              have z := hO2.lt
              go_wp2
              exact ⟨_, rfl, Below.refl _ _, rfl⟩
            refine .yes rfl rfl (fun a W Q k0 hR hM hO hD hN => ?_) ?_
            · have e5 : a.tmps.getD 5 undef = .int .i64 (k : Nat) := hO.slot 5 _ rfl rfl
              clear hO hD hN
              go_wp2
              exact ⟨_, rfl, Below.refl _ _, rfl⟩
            refine .yes rfl rfl (fun a W Q k0 hR hM hO hD hN => ?_) ?_
            · have e28 : a.tmps.getD 28 undef = .slice (some ⟨b, off, none⟩) n c := hD 2 rfl
              have e29 : a.tmps.getD 29 undef = .int .i64 (k : Nat) := hD 3 rfl
              clear hO hD hN
              have hh := HH.out
              go_wp2
              exact ⟨_, rfl, Below.refl _ _, rfl⟩
            refine .yes rfl rfl (fun a W Q k0 hR hM hO hD hN => ?_) ?_
            · have e30 : a.tmps.getD 30 undef = .pointer (some ⟨b, off + k * 2, none⟩) := hD 4 rfl
              clear hO hD hN
              go_wp2
              exact ⟨_, rfl, Below.refl _ _, rfl⟩
            refine .yes rfl rfl (fun a W Q k0 hR hM hO hD hN => ?_) ?_
            · have e31 : a.tmps.getD 31 undef = .pointer (some ⟨b, off + k * 2, none⟩) := hD 5 rfl
              clear hO hD hN
              have ⟨hc, hc2⟩ := C1.out W hR
              go_wp2
              exact ⟨_, rfl, Below.refl _ _, rfl⟩
            refine .yes rfl rfl (fun a W Q k0 hR hM hO hD hN => ?_) ?_
            · have e32 : a.tmps.getD 32 undef = .int .i64 (x0 : Nat) := hD 6 rfl
              clear hO hD hN
              have hcv := H0.out
              go_wp2
              exact ⟨_, rfl, Below.refl _ _, rfl⟩
            refine .yes rfl rfl (fun a W Q k0 hR hM hO hD hN => ?_) ?_
            · have e33 : a.tmps.getD 33 undef = .int .u64 (x0 : Nat) := hD 7 rfl
              clear hO hD hN
              have hca := CI0.out W
              go_wp2_with fail
              refine hca.mono ?_
              rintro e w' ⟨rfl, hbc⟩
              go_wp2
              exact ⟨_, rfl, hbc, rfl⟩
            refine .yes rfl rfl (fun a W Q k0 hR hM hO hD hN => ?_) ?_
            · have e26 : a.tmps.getD 26 undef = .string S := hD 0 rfl
              have e34 : a.tmps.getD 34 undef = .string A0 := hD 8 rfl
              clear hO hD hN
              have hl := E1.out.1
              have he := E1.out.2
              go_wp2
              exact ⟨_, rfl, Below.refl _ _, rfl⟩
            refine .yes rfl rfl (fun a W Q k0 hR hM hO hD hN => ?_) ?_
            · have e1 : a.tmps.getD 1 undef = .pointer (some ⟨w.heap.size, 0, none⟩) := hO.slot 1 _ rfl rfl
              clear hO hD hN
              go_wp2
              exact ⟨_, rfl, Below.refl _ _, rfl⟩
            refine .yes rfl rfl (fun a W Q k0 hR hM hO hD hN => ?_) ?_
            · have e36 : a.tmps.getD 36 undef = .pointer (some ⟨w.heap.size, 1, none⟩) := hD 10 rfl
              clear hO hD hN
              have hO2 := CE.out W hR
              have q := hO2.cell
              have z := hO2.lt
              go_wp2
              exact ⟨_, rfl, Below.refl _ _, rfl⟩
            refine .yes rfl rfl (fun a W Q k0 hR hM hO hD hN => ?_) ?_
            · have e5 : a.tmps.getD 5 undef = .int .i64 (k : Nat) := hO.slot 5 _ rfl rfl
              clear hO hD hN
              go_wp2
              exact ⟨_, rfl, Below.refl _ _, rfl⟩
            refine .yes rfl rfl (fun a W Q k0 hR hM hO hD hN => ?_) ?_
            · have e37 : a.tmps.getD 37 undef = .slice (some ⟨b, off, none⟩) n c := hD 11 rfl
              have e38 : a.tmps.getD 38 undef = .int .i64 (k : Nat) := hD 12 rfl
              clear hO hD hN
              have hh := HH.out
              go_wp2
              exact ⟨_, rfl, Below.refl _ _, rfl⟩
            refine .yes rfl rfl (fun a W Q k0 hR hM hO hD hN => ?_) ?_
            · have e39 : a.tmps.getD 39 undef = .pointer (some ⟨b, off + k * 2, none⟩) := hD 13 rfl
              clear hO hD hN
              go_wp2
              exact ⟨_, rfl, Below.refl _ _, rfl⟩
            refine .yes rfl rfl (fun a W Q k0 hR hM hO hD hN => ?_) ?_
            · have e40 : a.tmps.getD 40 undef = .pointer (some ⟨b, off + k * 2 + 1, none⟩) := hD 14 rfl
              clear hO hD hN
              have ⟨hc, hc2⟩ := C1.out W hR
              go_wp2
              exact ⟨_, rfl, Below.refl _ _, rfl⟩
            refine .yes rfl rfl (fun a W Q k0 hR hM hO hD hN => ?_) ?_
            · have e41 : a.tmps.getD 41 undef = .int .i64 (x1 : Nat) := hD 15 rfl
              clear hO hD hN
              have hcv := H1.out
              go_wp2
              exact ⟨_, rfl, Below.refl _ _, rfl⟩
            refine .yes rfl rfl (fun a W Q k0 hR hM hO hD hN => ?_) ?_
            · have e42 : a.tmps.getD 42 undef = .int .u64 (x1 : Nat) := hD 16 rfl
              clear hO hD hN
              have hca := CI1.out W
              go_wp2_with fail
              refine hca.mono ?_
              rintro e w' ⟨rfl, hbc⟩
              go_wp2
              exact ⟨_, rfl, hbc, rfl⟩
            refine .yes rfl rfl (fun a W Q k0 hR hM hO hD hN => ?_) ?_
            · have e35 : a.tmps.getD 35 undef = .string A1 := hD 9 rfl
              have e43 : a.tmps.getD 43 undef = .string B2 := hD 17 rfl
              clear hO hD hN
              have hl := E3.out.1
              have he := E3.out.2
              go_wp2
              exact ⟨_, rfl, Below.refl _ _, rfl⟩
            refine .yes rfl rfl (fun a W Q k0 hR hM hO hD hN => ?_) ?_
            · have e44 : a.tmps.getD 44 undef = .string A3 := hD 18 rfl
              clear hO hD hN
              go_wp2
              exact ⟨_, rfl, Below.refl _ _, rfl⟩
            exact .nil
          · intro f7 V7 hBz hRz
            have e4 : f7 19 = .string A3 := hRz 19 (by decide)
            have HBn := Lib.hid (below_chain HB.out hBz)
            clear hRz hBz
            simp only [putAll, Nat.zero_add, Nat.reduceAdd, Act.put, List.setIfInBounds_toArray, List.set_cons_zero, List.set_cons_succ, e4]
            go_wp2
            refine ⟨⟨k + 1, pb, by omega, by go_num, ⟨_, rfl, Lib.hid HA3.out.symm⟩, HK2, HBn⟩, ?_⟩
            simp [intOf]; omega
        · obtain rfl : k = n := by omega
          have hpL := HK.out
          rw [List.drop_eq_nil_of_le (by have := HL.out; omega)] at hpL
          obtain rfl : p = L := hpL
          obtain ⟨t1, t2⟩ := txt_pack HRS.out
          have zS : S.size = p := by rw [HS.out]; exact txtF_size _ _
          obtain ⟨X, hX⟩ : ∃ X, txtF (packF f p) (p + 1) = X := ⟨_, rfl⟩
          have e1 : S ++ ⟨#[49]⟩ = X := by rw [HS.out, ← hX]; exact t1
          have hll := HLL.out
          have l1 : ¬ 9223372036854775807 < S.size + 1 := by rw [zS]; omega
          have CB := Lib.hid (bytes_at (packF f p) (p + 1) (p / 8 + 1) X (cellsF (packF f p) (p / 8 + 1)) wr hX.symm (by omega) (by omega) (by rw [← t2]))
          have HBF := Lib.hid (below_chain HB2.out HB.out)
          have hs := HBF.out.size
          clear t1 t2 zS hX HS HK
          go_wp2_with fail
          refine CB.out.mono ?_
          rintro e w9 ⟨g, rfl, hg, ho, hb9⟩
          have HBE := Lib.hid (below_chain HBF.out hb9)
          have HO9 := Lib.hid ho
          clear ho hb9
          go_wp2
          go_ret2
          rw [HX.out]
          exact ⟨g, rfl, by omega, HO9.out, HBE.out⟩
end Go.Proofs.YtljihclpgpmfeaaDoor
