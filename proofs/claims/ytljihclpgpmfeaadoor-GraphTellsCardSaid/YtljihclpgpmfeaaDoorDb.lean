/- Walk: fretworkref02.Text. -/
import Derived.Test.YtljihclpgpmfeaaDoorDa
import Derived.Test.YtljihclpgpmfeaaDoorUp
import Derived.Test.YtljihclpgpmfeaaDoorShb
namespace Go.Proofs.YtljihclpgpmfeaaDoor
set_option maxRecDepth 100000
open Go.RowKit

def tblT3 (gb : Nat) (M : Nat) (A : Option Addr) (n : Nat) (c : Nat) (A0 : ByteArray) (A1 : ByteArray) (A2 : ByteArray) (A3 : ByteArray) (A4 : ByteArray) : List Pst := [Pst.val (.pointer (some ⟨gb, 0, none⟩)), Pst.val (.int .i64 (M : Nat)), Pst.val (.string A0), Pst.val (.string A1), Pst.val (.pointer (some ⟨gb, 1, none⟩)), Pst.val (.slice A n c), Pst.val (.int .i64 (n : Nat)), Pst.val (.string A2), Pst.val (.string A3), Pst.val (.string A4), Pst.val (.string A4)]
def tblT7 (S : ByteArray) (gb : Nat) (b : Nat) (off : Nat) (n : Nat) (c : Nat) (k : Nat) (x0 : Int) (x1 : Int) (A0 : ByteArray) (A1 : ByteArray) (A2 : ByteArray) (A3 : ByteArray) (A4 : ByteArray) (A5 : ByteArray) : List Pst := [Pst.val (.string S), Pst.val (.pointer (some ⟨gb, 1, none⟩)), Pst.val (.slice (some ⟨b, off, none⟩) n c), Pst.val (.int .i64 (k : Nat)), Pst.val (.pointer (some ⟨b, off + k * 2, none⟩)), Pst.val (.pointer (some ⟨b, off + k * 2, none⟩)), Pst.val (.int .i64 x0), Pst.val (.string A0), Pst.val (.string A1), Pst.val (.string A2), Pst.val (.pointer (some ⟨gb, 1, none⟩)), Pst.val (.slice (some ⟨b, off, none⟩) n c), Pst.val (.int .i64 (k : Nat)), Pst.val (.pointer (some ⟨b, off + k * 2, none⟩)), Pst.val (.pointer (some ⟨b, off + k * 2 + 1, none⟩)), Pst.val (.int .i64 x1), Pst.val (.string A3), Pst.val (.string A4), Pst.val (.string A5), Pst.val (.string A5)]
set_option maxRecDepth 100000 in
set_option maxHeartbeats 16000000 in
theorem textS_any (N : Int) (A : Option Addr) (n c : Nat) (E : List (Int × Int)) (w : World) (h : ArgE w A n c E) :
    Calls Tryd.prog 32 #[.agg #[.int .i64 N, .slice A n c]] w fun e w' => e = .returned (TextV (textO N E)) ∧ Below w.heap.size w w' := by
  have HB0 := Lib.hid (alloc_below w (.cells #[.int .i64 N, .slice A n c] 26))
  have HA := Lib.hid (h.keep HB0.out)
  have G0 := Lib.hid (Own.new' (t := 26) (w := w) (vs := [.int .i64 N, .slice A n c]) rfl)
  have HL := Lib.hid h.len
  clear h
  have HR := Lib.hid (rightR2_any N A n c E _ HA.out)
  obtain ⟨r, hr⟩ : ∃ r, rightG N E = r := ⟨_, rfl⟩
  have RG := Lib.hid hr
  rw [hr] at HR
  clear hr
  go_enter Tryd.func32, Tryd.ntmps32
  go_wp2_with fail
  refine HR.out.mono ?_
  rintro e w1 ⟨rfl, hb⟩
  have OG := Lib.hid (G0.out.below' hb)
  have HA1 := Lib.hid (HA.out.keep hb)
  have HB1 := Lib.hid (HB0.out.trans (hb.mono HB0.out.size))
  clear hb HA G0 HB0 HR
  cases r with
  | false =>
    have HX := Lib.hid (show textO N E = none by unfold textO; rw [RG.out]; rfl)
    go_wp2
    go_ret2
    exact ⟨by rw [HX.out]; rfl, HB1.out⟩
  | true =>
    have HX := Lib.hid (show textO N E = some (textG N E) by unfold textO; rw [RG.out]; rfl)
    have HE := Lib.hid (rightG_iff.1 RG.out)
    have HF := Lib.hid (right_few HE.out)
    obtain ⟨M, rfl⟩ : ∃ M : Nat, N = (M : Int) := ⟨N.toNat, by have := HE.out.n0; omega⟩
    have hM : M ≤ 200 := by have := HE.out.n1; omega
    have hn5 : n ≤ 594 := by have := HE.out.len; have := HL.out; omega
    have CI0 := Lib.hid (fun V => decR_any M V (by omega))
    have CI1 := Lib.hid (fun V => decR_any n V (by omega))
    obtain ⟨A0, hA0⟩ : ∃ S, strB (Lib.itoa (M : Int)) = S := ⟨_, rfl⟩
    obtain ⟨A1, hA1⟩ : ∃ S, strB (Lib.itoa (M : Int) ++ [32]) = S := ⟨_, rfl⟩
    obtain ⟨A2, hA2⟩ : ∃ S, strB (Lib.itoa (n : Int)) = S := ⟨_, rfl⟩
    obtain ⟨A3, hA3⟩ : ∃ S, strB ((Lib.itoa (M : Int) ++ [32]) ++ Lib.itoa (n : Int)) = S := ⟨_, rfl⟩
    obtain ⟨A4, hA4⟩ : ∃ S, strB (textK (M : Int) E 0) = S := ⟨_, rfl⟩
    have la := Lib.itoa_length_le (M : Int) (by omega) (by omega)
    have lb := Lib.itoa_length_le (n : Int) (by omega) (by omega)
    have z0 : A0.size = (Lib.itoa (M : Int)).length := by rw [← hA0]; exact strB_size _
    have z1 : A1.size = (Lib.itoa (M : Int)).length + 1 := by rw [← hA1, strB_size]; simp
    have z2 : A2.size = (Lib.itoa (n : Int)).length := by rw [← hA2]; exact strB_size _
    have z3 : A3.size = (Lib.itoa (M : Int)).length + 1 + (Lib.itoa (n : Int)).length := by rw [← hA3, strB_size]; simp only [List.length_append, List.length_cons, List.length_nil]
    have E1 := Lib.hid (show ¬ 9223372036854775807 < A0.size + 1 ∧ ¬ 9223372036854775807 < A0.size + (⟨#[32]⟩ : ByteArray).size ∧ A0 ++ ⟨#[32]⟩ = A1 from ⟨by rw [z0]; omega, by rw [z0]; show ¬ _ < _ + 1; omega, by rw [← hA0, ← hA1]; exact strB_app _ [32]⟩)
    have E3 := Lib.hid (show ¬ 9223372036854775807 < A1.size + A2.size ∧ True ∧ A1 ++ A2 = A3 from ⟨by rw [z1, z2]; omega, trivial, by rw [← hA1, ← hA2, ← hA3]; exact strB_app _ _⟩)
    have E4 := Lib.hid (show ¬ 9223372036854775807 < A3.size + 1 ∧ ¬ 9223372036854775807 < A3.size + (⟨#[10]⟩ : ByteArray).size ∧ A3 ++ ⟨#[10]⟩ = A4 from ⟨by rw [z3]; omega, by rw [z3]; show ¬ _ < _ + 1; omega, by
      rw [← hA3, ← hA4]
      refine (strB_app _ [10]).trans (congrArg strB ?_)
      unfold textK lineB
      rw [HL.out, List.take_zero]
      simp⟩)
    rw [hA0] at CI0
    rw [hA2] at CI1
    have HA4 := Lib.hid hA4
    have CE := Lib.hid (fun V (hV : Below w1.heap.size w1 V) => OG.out.below' hV)
    clear hA0 hA1 hA2 hA3 hA4 z0 z1 z2 z3 la lb
    go_wp2_with fail
    refine region_postsS [] (fun _ V => Below w1.heap.size w1 V) (by kernel_rfl) (tblT3 w.heap.size M A n c A0 A1 A2 A3 A4) (by kernel_rfl) (by kernel_rfl) ?_ ?_ ?_ (below_drewN (Below.refl _ _) 1) ?_ ?_
    · intro j V V' h hb
      exact h.trans (hb.mono h.size)
    · exact fun j v V V' h => postsS_val (tbl := (tblT3 w.heap.size M A n c A0 A1 A2 A3 A4)) (by simp only [tblT3, List.mem_cons, List.not_mem_nil, or_false, forall_eq_or_imp, forall_eq, pureP_val, and_self]) j v V V' h
    · intro s hs
      simp at hs
    · skip
      refine .yes rfl rfl (fun a W Q k hR hM hO hD hN => ?_) ?_
      · have e1 : a.tmps.getD 1 undef = .pointer (some ⟨w.heap.size, 0, none⟩) := hO.slot 1 _ rfl rfl
        clear hO hD hN
        go_wp2
        exact ⟨_, rfl, Below.refl _ _, rfl⟩
      refine .yes rfl rfl (fun a W Q k hR hM hO hD hN => ?_) ?_
      · have e9 : a.tmps.getD 9 undef = .pointer (some ⟨w.heap.size, 0, none⟩) := hD 0 rfl
        clear hO hD hN
        have hO2 := CE.out W hR
        have q := hO2.cell
        have z := hO2.lt
        go_wp2
        exact ⟨_, rfl, Below.refl _ _, rfl⟩
      refine .yes rfl rfl (fun a W Q k hR hM hO hD hN => ?_) ?_
      · have e10 : a.tmps.getD 10 undef = .int .i64 (M : Nat) := hD 1 rfl
        clear hO hD hN
        have hca := CI0.out W
        go_wp2_with fail
        refine hca.mono ?_
        rintro e w' ⟨rfl, rfl⟩
        go_wp2
        exact ⟨_, rfl, Below.refl _ _, rfl⟩
      refine .yes rfl rfl (fun a W Q k hR hM hO hD hN => ?_) ?_
      · have e11 : a.tmps.getD 11 undef = .string A0 := hD 2 rfl
        clear hO hD hN
        have hl := E1.out.1
        have hl2 := E1.out.2.1
        have he := E1.out.2.2
        go_wp2
        exact ⟨_, rfl, Below.refl _ _, rfl⟩
      refine .yes rfl rfl (fun a W Q k hR hM hO hD hN => ?_) ?_
      · have e1 : a.tmps.getD 1 undef = .pointer (some ⟨w.heap.size, 0, none⟩) := hO.slot 1 _ rfl rfl
        clear hO hD hN
        go_wp2
        exact ⟨_, rfl, Below.refl _ _, rfl⟩
      refine .yes rfl rfl (fun a W Q k hR hM hO hD hN => ?_) ?_
      · have e13 : a.tmps.getD 13 undef = .pointer (some ⟨w.heap.size, 1, none⟩) := hD 4 rfl
        clear hO hD hN
        have hO2 := CE.out W hR
        have q := hO2.cell
        have z := hO2.lt
        go_wp2
        exact ⟨_, rfl, Below.refl _ _, rfl⟩
      refine .yes rfl rfl (fun a W Q k hR hM hO hD hN => ?_) ?_
      · have e14 : a.tmps.getD 14 undef = .slice A n c := hD 5 rfl
        clear hO hD hN
        go_wp2
        exact ⟨_, rfl, Below.refl _ _, rfl⟩
      refine .yes rfl rfl (fun a W Q k hR hM hO hD hN => ?_) ?_
      · have e15 : a.tmps.getD 15 undef = .int .i64 (n : Nat) := hD 6 rfl
        clear hO hD hN
        have hca := CI1.out W
        go_wp2_with fail
        refine hca.mono ?_
        rintro e w' ⟨rfl, rfl⟩
        go_wp2
        exact ⟨_, rfl, Below.refl _ _, rfl⟩
      refine .yes rfl rfl (fun a W Q k hR hM hO hD hN => ?_) ?_
      · have e12 : a.tmps.getD 12 undef = .string A1 := hD 3 rfl
        have e16 : a.tmps.getD 16 undef = .string A2 := hD 7 rfl
        clear hO hD hN
        have hl := E3.out.1
        have hl2 := E3.out.2.1
        have he := E3.out.2.2
        go_wp2
        exact ⟨_, rfl, Below.refl _ _, rfl⟩
      refine .yes rfl rfl (fun a W Q k hR hM hO hD hN => ?_) ?_
      · have e17 : a.tmps.getD 17 undef = .string A3 := hD 8 rfl
        clear hO hD hN
        have hl := E4.out.1
        have hl2 := E4.out.2.1
        have he := E4.out.2.2
        go_wp2
        exact ⟨_, rfl, Below.refl _ _, rfl⟩
      refine .yes rfl rfl (fun a W Q k hR hM hO hD hN => ?_) ?_
      · have e18 : a.tmps.getD 18 undef = .string A4 := hD 9 rfl
        clear hO hD hN
        go_wp2
        exact ⟨_, rfl, Below.refl _ _, rfl⟩
      exact .nil
    · intro f V hBz hRz
      have e4 : f 10 = .string A4 := hRz 10 (by decide)
      have HBv := Lib.hid hBz
      have OGv := Lib.hid (OG.out.below' hBz)
      have HAv := Lib.hid (HA1.out.keep hBz)
      have HB2 := Lib.hid (below_chain HB1.out hBz)
      clear hRz hBz CE HA1 HB1 OG CI0 CI1 E1 E3 E4
      simp only [putAll, Nat.zero_add, Nat.reduceAdd, Act.put, List.setIfInBounds_toArray, List.set_cons_zero, List.set_cons_succ, e4]
      have qO := OGv.out.cell
      have zO := OGv.out.lt
      go_wp2
      go_loopw [4, 5] (fun s4 i wr => ∃ k : Nat, k ≤ n ∧ i = .int .i64 (k : Int) ∧ (∃ S, s4 = .string S ∧ Hid (S = strB (textK (M : Int) E k))) ∧ Hid (Below V.heap.size V wr)) (fun _ i _ => n - (intOf i).toNat)
      case atStart => exact ⟨0, Nat.zero_le _, rfl, ⟨_, rfl, Lib.hid HA4.out.symm⟩, Lib.hid (Below.refl _ _)⟩
      case round =>
        obtain ⟨k, hk, rfl, ⟨S, rfl, HS⟩, HB⟩ := hrel
        clear qO zO
        have CE := Lib.hid (fun V' (hV : Below wr.heap.size wr V') => OGv.out.below' (below_chain HB.out hV))
        have hO := CE.out wr (Below.refl _ _)
        have qO := hO.cell
        have zO := hO.lt
        clear hO
        by_cases hlt : k < n
        · obtain ⟨b, off, rfl, hb, hc⟩ := rd_edge HAv.out.rd (by have := HL.out; omega)
          obtain ⟨⟨y0, y1⟩, hx⟩ : ∃ x, E[k]? = some x := ⟨_, List.getElem?_eq_getElem (by have := HL.out; omega)⟩
          obtain ⟨v0, v1, v2, v3⟩ := HF.out _ (List.mem_of_getElem? hx)
          obtain ⟨x0, rfl⟩ : ∃ x : Nat, y0 = (x : Int) := ⟨y0.toNat, by have : 0 ≤ y0 := v0; omega⟩
          obtain ⟨x1, rfl⟩ : ∃ x : Nat, y1 = (x : Int) := ⟨y1.toNat, by have : 0 ≤ y1 := v2; omega⟩
          have v1 : (x0 : Int) < 1000000000 := v1
          have v3 : (x1 : Int) < 1000000000 := v3
          have hx0 : x0 < 1000000000 := by omega
          have hx1 : x1 < 1000000000 := by omega
          clear v0 v1 v2 v3
          have C1 := Lib.hid (fun V' (hV : Below wr.heap.size wr V') => (show V'.cell? ⟨b, off + k * 2, none⟩ = some (.int .i64 (x0 : Int)) ∧ V'.cell? ⟨b, off + k * 2 + 1, none⟩ = some (.int .i64 (x1 : Int)) from hc V' (below_chain HB.out hV) k _ hx))
          have HSTP := Lib.hid (textK_step (N := (M : Int)) hx)
          have HH := Lib.hid hlt
          have CI0 := Lib.hid (fun V => decR_any x0 V hx0)
          have CI1 := Lib.hid (fun V => decR_any x1 V hx1)
          have la := Lib.itoa_length_le (x0 : Int) (by omega) (by omega)
          have lb := Lib.itoa_length_le (x1 : Int) (by omega) (by omega)
          have lT := textS_len (M : Int) E k ⟨by omega, by omega⟩ HF.out (by rw [HL.out] at hn5; exact hn5)
          have lS : S.size = (textK (M : Int) E k).length := by rw [HS.out]; exact strB_size _
          obtain ⟨T0, hT0⟩ : ∃ t, textK (M : Int) E k = t := ⟨_, rfl⟩
          rw [hT0] at lT lS HS
          obtain ⟨A0, hA0⟩ : ∃ S, strB (Lib.itoa (x0 : Int)) = S := ⟨_, rfl⟩
          obtain ⟨A1, hA1⟩ : ∃ S, strB (T0 ++ Lib.itoa (x0 : Int)) = S := ⟨_, rfl⟩
          obtain ⟨A2, hA2⟩ : ∃ S, strB ((T0 ++ Lib.itoa (x0 : Int)) ++ [32]) = S := ⟨_, rfl⟩
          obtain ⟨A3, hA3⟩ : ∃ S, strB (Lib.itoa (x1 : Int)) = S := ⟨_, rfl⟩
          obtain ⟨A4, hA4⟩ : ∃ S, strB (((T0 ++ Lib.itoa (x0 : Int)) ++ [32]) ++ Lib.itoa (x1 : Int)) = S := ⟨_, rfl⟩
          obtain ⟨A5, hA5⟩ : ∃ S, strB (textK (M : Int) E (k + 1)) = S := ⟨_, rfl⟩
          have z0 : A0.size = (Lib.itoa (x0 : Int)).length := by rw [← hA0]; exact strB_size _
          have z1 : A1.size = T0.length + (Lib.itoa (x0 : Int)).length := by rw [← hA1, strB_size]; simp only [List.length_append]
          have z2 : A2.size = T0.length + (Lib.itoa (x0 : Int)).length + 1 := by rw [← hA2, strB_size]; simp only [List.length_append, List.length_cons, List.length_nil]
          have z3 : A3.size = (Lib.itoa (x1 : Int)).length := by rw [← hA3]; exact strB_size _
          have z4 : A4.size = T0.length + (Lib.itoa (x0 : Int)).length + 1 + (Lib.itoa (x1 : Int)).length := by rw [← hA4, strB_size]; simp only [List.length_append, List.length_cons, List.length_nil]
          have E1 := Lib.hid (show ¬ 9223372036854775807 < S.size + A0.size ∧ True ∧ S ++ A0 = A1 from ⟨by rw [lS, z0]; omega, trivial, by rw [HS.out, ← hA0, ← hA1]; exact strB_app _ _⟩)
          have E2 := Lib.hid (show ¬ 9223372036854775807 < A1.size + 1 ∧ ¬ 9223372036854775807 < A1.size + (⟨#[32]⟩ : ByteArray).size ∧ A1 ++ ⟨#[32]⟩ = A2 from ⟨by rw [z1]; omega, by rw [z1]; show ¬ _ < _ + 1; omega, by rw [← hA1, ← hA2]; exact strB_app _ [32]⟩)
          have E4 := Lib.hid (show ¬ 9223372036854775807 < A2.size + A3.size ∧ True ∧ A2 ++ A3 = A4 from ⟨by rw [z2, z3]; omega, trivial, by rw [← hA2, ← hA3, ← hA4]; exact strB_app _ _⟩)
          have E5 := Lib.hid (show ¬ 9223372036854775807 < A4.size + 1 ∧ ¬ 9223372036854775807 < A4.size + (⟨#[10]⟩ : ByteArray).size ∧ A4 ++ ⟨#[10]⟩ = A5 from ⟨by rw [z4]; omega, by rw [z4]; show ¬ _ < _ + 1; omega, by
            rw [← hA4, ← hA5, HSTP.out, hT0]
            refine (strB_app _ [10]).trans (congrArg strB ?_)
            unfold lineB
            simp⟩)
          rw [hA0] at CI0
          rw [hA3] at CI1
          have HA5 := Lib.hid hA5
          clear hA0 hA1 hA2 hA3 hA4 hA5 z0 z1 z2 z3 z4 la lb lT lS hc hx HSTP HS hT0
          go_wp2_with fail
          refine region_postsS [] (fun _ V => Below wr.heap.size wr V) (by kernel_rfl) (tblT7 S w.heap.size b off n c k x0 x1 A0 A1 A2 A3 A4 A5) (by kernel_rfl) (by kernel_rfl) ?_ ?_ ?_ (below_drewN (Below.refl _ _) 1) ?_ ?_
          · intro j V V' h hb
            exact h.trans (hb.mono h.size)
          · exact fun j v V V' h => postsS_val (tbl := (tblT7 S w.heap.size b off n c k x0 x1 A0 A1 A2 A3 A4 A5)) (by simp only [tblT7, List.mem_cons, List.not_mem_nil, or_false, forall_eq_or_imp, forall_eq, pureP_val, and_self]) j v V V' h
          · intro s hs
            simp at hs
          · skip
            refine .yes rfl rfl (fun a W Q k0 hR hM hO hD hN => ?_) ?_
            · have e4 : a.tmps.getD 4 undef = .string S := (hN 19 4 _ rfl rfl rfl).trans rfl
              clear hO hD hN
              go_wp2
              exact ⟨_, rfl, Below.refl _ _, rfl⟩
            refine .yes rfl rfl (fun a W Q k0 hR hM hO hD hN => ?_) ?_
            · have e1 : a.tmps.getD 1 undef = .pointer (some ⟨w.heap.size, 0, none⟩) := hO.slot 1 _ rfl rfl
              clear hO hD hN
              go_wp2
              exact ⟨_, rfl, Below.refl _ _, rfl⟩
            refine .yes rfl rfl (fun a W Q k0 hR hM hO hD hN => ?_) ?_
            · have e27 : a.tmps.getD 27 undef = .pointer (some ⟨w.heap.size, 1, none⟩) := hD 1 rfl
              clear hO hD hN
              have hO2 := CE.out W hR
              have q := hO2.cell
              have z := hO2.lt
              go_wp2
              exact ⟨_, rfl, Below.refl _ _, rfl⟩
            refine .yes rfl rfl (fun a W Q k0 hR hM hO hD hN => ?_) ?_
            · have e5 : a.tmps.getD 5 undef = .int .i64 (k : Nat) := hO.slot 5 _ rfl rfl
              clear hO hD hN
              go_wp2
              exact ⟨_, rfl, Below.refl _ _, rfl⟩
            refine .yes rfl rfl (fun a W Q k0 hR hM hO hD hN => ?_) ?_
            · have e28 : a.tmps.getD 28 undef = .slice (some ⟨b, off, none⟩) n c := hD 2 rfl
              have e29 : a.tmps.getD 29 undef = .int .i64 (k : Nat) := hD 3 rfl
              clear hO hD hN
              have hh := HH.out
              go_wp2
              exact ⟨_, rfl, Below.refl _ _, rfl⟩
            refine .yes rfl rfl (fun a W Q k0 hR hM hO hD hN => ?_) ?_
            · have e30 : a.tmps.getD 30 undef = .pointer (some ⟨b, off + k * 2, none⟩) := hD 4 rfl
              clear hO hD hN
              go_wp2
              exact ⟨_, rfl, Below.refl _ _, rfl⟩
            refine .yes rfl rfl (fun a W Q k0 hR hM hO hD hN => ?_) ?_
            · have e31 : a.tmps.getD 31 undef = .pointer (some ⟨b, off + k * 2, none⟩) := hD 5 rfl
              clear hO hD hN
              have ⟨hc, hc2⟩ := C1.out W hR
              go_wp2
              exact ⟨_, rfl, Below.refl _ _, rfl⟩
            refine .yes rfl rfl (fun a W Q k0 hR hM hO hD hN => ?_) ?_
            · have e32 : a.tmps.getD 32 undef = .int .i64 x0 := hD 6 rfl
              clear hO hD hN
              have hca := CI0.out W
              go_wp2_with fail
              refine hca.mono ?_
              rintro e w' ⟨rfl, rfl⟩
              go_wp2
              exact ⟨_, rfl, Below.refl _ _, rfl⟩
            refine .yes rfl rfl (fun a W Q k0 hR hM hO hD hN => ?_) ?_
            · have e26 : a.tmps.getD 26 undef = .string S := hD 0 rfl
              have e33 : a.tmps.getD 33 undef = .string A0 := hD 7 rfl
              clear hO hD hN
              have hl := E1.out.1
              have hl2 := E1.out.2.1
              have he := E1.out.2.2
              go_wp2
              exact ⟨_, rfl, Below.refl _ _, rfl⟩
            refine .yes rfl rfl (fun a W Q k0 hR hM hO hD hN => ?_) ?_
            · have e34 : a.tmps.getD 34 undef = .string A1 := hD 8 rfl
              clear hO hD hN
              have hl := E2.out.1
              have hl2 := E2.out.2.1
              have he := E2.out.2.2
              go_wp2
              exact ⟨_, rfl, Below.refl _ _, rfl⟩
            refine .yes rfl rfl (fun a W Q k0 hR hM hO hD hN => ?_) ?_
            · have e1 : a.tmps.getD 1 undef = .pointer (some ⟨w.heap.size, 0, none⟩) := hO.slot 1 _ rfl rfl
              clear hO hD hN
              go_wp2
              exact ⟨_, rfl, Below.refl _ _, rfl⟩
            refine .yes rfl rfl (fun a W Q k0 hR hM hO hD hN => ?_) ?_
            · have e36 : a.tmps.getD 36 undef = .pointer (some ⟨w.heap.size, 1, none⟩) := hD 10 rfl
              clear hO hD hN
              have hO2 := CE.out W hR
              have q := hO2.cell
              have z := hO2.lt
              go_wp2
              exact ⟨_, rfl, Below.refl _ _, rfl⟩
            refine .yes rfl rfl (fun a W Q k0 hR hM hO hD hN => ?_) ?_
            · have e5 : a.tmps.getD 5 undef = .int .i64 (k : Nat) := hO.slot 5 _ rfl rfl
              clear hO hD hN
              go_wp2
              exact ⟨_, rfl, Below.refl _ _, rfl⟩
            refine .yes rfl rfl (fun a W Q k0 hR hM hO hD hN => ?_) ?_
            · have e37 : a.tmps.getD 37 undef = .slice (some ⟨b, off, none⟩) n c := hD 11 rfl
              have e38 : a.tmps.getD 38 undef = .int .i64 (k : Nat) := hD 12 rfl
              clear hO hD hN
              have hh := HH.out
              go_wp2
              exact ⟨_, rfl, Below.refl _ _, rfl⟩
            refine .yes rfl rfl (fun a W Q k0 hR hM hO hD hN => ?_) ?_
            · have e39 : a.tmps.getD 39 undef = .pointer (some ⟨b, off + k * 2, none⟩) := hD 13 rfl
              clear hO hD hN
              go_wp2
              exact ⟨_, rfl, Below.refl _ _, rfl⟩
            refine .yes rfl rfl (fun a W Q k0 hR hM hO hD hN => ?_) ?_
            · have e40 : a.tmps.getD 40 undef = .pointer (some ⟨b, off + k * 2 + 1, none⟩) := hD 14 rfl
              clear hO hD hN
              have ⟨hc, hc2⟩ := C1.out W hR
              go_wp2
              exact ⟨_, rfl, Below.refl _ _, rfl⟩
            refine .yes rfl rfl (fun a W Q k0 hR hM hO hD hN => ?_) ?_
            · have e41 : a.tmps.getD 41 undef = .int .i64 x1 := hD 15 rfl
              clear hO hD hN
              have hca := CI1.out W
              go_wp2_with fail
              refine hca.mono ?_
              rintro e w' ⟨rfl, rfl⟩
              go_wp2
              exact ⟨_, rfl, Below.refl _ _, rfl⟩
            refine .yes rfl rfl (fun a W Q k0 hR hM hO hD hN => ?_) ?_
            · have e35 : a.tmps.getD 35 undef = .string A2 := hD 9 rfl
              have e42 : a.tmps.getD 42 undef = .string A3 := hD 16 rfl
              clear hO hD hN
              have hl := E4.out.1
              have hl2 := E4.out.2.1
              have he := E4.out.2.2
              go_wp2
              exact ⟨_, rfl, Below.refl _ _, rfl⟩
            refine .yes rfl rfl (fun a W Q k0 hR hM hO hD hN => ?_) ?_
            · have e43 : a.tmps.getD 43 undef = .string A4 := hD 17 rfl
              clear hO hD hN
              have hl := E5.out.1
              have hl2 := E5.out.2.1
              have he := E5.out.2.2
              go_wp2
              exact ⟨_, rfl, Below.refl _ _, rfl⟩
            refine .yes rfl rfl (fun a W Q k0 hR hM hO hD hN => ?_) ?_
            · have e44 : a.tmps.getD 44 undef = .string A5 := hD 18 rfl
              clear hO hD hN
              go_wp2
              exact ⟨_, rfl, Below.refl _ _, rfl⟩
            exact .nil
          · intro f V7 hBz hRz
            have e4 : f 19 = .string A5 := hRz 19 (by decide)
            have HBn := Lib.hid (below_chain HB.out hBz)
            clear hRz hBz
            simp only [putAll, Nat.zero_add, Nat.reduceAdd, Act.put, List.setIfInBounds_toArray, List.set_cons_zero, List.set_cons_succ, e4]
            go_wp2
            refine ⟨⟨k + 1, by omega, by go_num, ⟨_, rfl, Lib.hid HA5.out.symm⟩, HBn⟩, ?_⟩
            simp [intOf]; omega
        · obtain rfl : k = n := by omega
          have HFIN := Lib.hid (show S = strB (textG (M : Int) E) from by rw [HS.out, textK_all HL.out])
          have HBF := Lib.hid (below_chain HB2.out HB.out)
          go_wp2
          go_ret2
          exact ⟨by rw [HX.out, HFIN.out]; rfl, HBF.out⟩
end Go.Proofs.YtljihclpgpmfeaaDoor
