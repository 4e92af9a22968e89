/- Walk: fretworklaw16.RingBytes. -/
import Derived.Test.YtmfeponanjgapaaWq2
namespace Go.Proofs.Ytmfeponanjgapaa
open Go.RowKit

def tblRB (A0 A1 : Option Addr) (n0 c0 n1 c1 : Nat) (k x : Int) (s : Bool) (us vs : List (List UInt8)) (S0 S1 : ByteArray) : List Pst := [Pst.val (.slice A0 n0 c0), Pst.bts (bytesW us), Pst.val (.string S0), Pst.val (.slice A1 n1 c1), Pst.bts (bytesW vs), Pst.val (.string S1), Pst.val (.bool s), Pst.val (.bool s), Pst.val (.bool true), Pst.val (.bool true), Pst.val (.int .i64 x), Pst.val (.bool s), Pst.val (.bool s), Pst.val (.bool true), Pst.val (.bool true), Pst.val (.bool true), Pst.val (.int .i64 x), Pst.val (.int .i64 (-x)), Pst.val (.int .i64 x), Pst.val (.bool true), Pst.val (.bool true), Pst.val (.bool true), Pst.val (.slice A0 n0 c0), Pst.val (.int .i16 k), Pst.val (.int .i64 k), Pst.wds (turnW us (turnK us.length k)), Pst.val (.int .i16 k), Pst.val (.int .i64 k), Pst.val (.int .i64 (-k)), Pst.wds (us), Pst.val (.slice A0 n0 c0), Pst.val (.bool true), Pst.val (.bool true), Pst.val (.bool true), Pst.val (.slice A0 n0 c0), Pst.wds (us.reverse), Pst.wds (us), Pst.val (.slice A0 n0 c0), Pst.val (.bool true), Pst.val (.bool true), Pst.val (.bool true), Pst.val (.bool true), Pst.val (.bool true), Pst.val (.bool true)]
set_option maxRecDepth 100000 in
set_option maxHeartbeats 8000000 in
theorem ringBytes_true (A0 A1 : Option Addr) (n0 n1 c0 c1 : Nat) (k : Int) (us vs : List (List UInt8)) (w : World) (h0 : ArgW w A0 n0 c0 us) (h1 : ArgW w A1 n1 c1 vs) (hk0 : -32768 ≤ k) (hk1 : k ≤ 32767) :
    Calls Try.prog 6 #[.slice A0 n0 c0, .slice A1 n1 c1, .int .i16 k] w fun e w' => e = .returned (.bool true) ∧ Below w.heap.size w w' := by
  have H0 := Lib.hid h0; have H1 := Lib.hid h1
  have HG0 := Lib.hid (great_any A0 c0 n0 us w h0.rd h0.len h0.le)
  have HG1 := Lib.hid (great_any A1 c1 n1 vs w h1.rd h1.len h1.le)
  clear h0 h1
  obtain ⟨s, hs⟩ : ∃ s, (us == vs) = s := ⟨_, rfl⟩
  obtain ⟨x, hx⟩ : ∃ x, cmpW us vs = x := ⟨_, rfl⟩
  have sh := Lib.hid hs; have xh := Lib.hid hx
  have hx0 : -1 ≤ x := by rw [← hx]; exact (cmpW_bd _ _).1
  have hx1 : x ≤ 1 := by rw [← hx]; exact (cmpW_bd _ _).2
  clear hs hx
  obtain ⟨g0, hg0⟩ : ∃ g, greatW us = g := ⟨_, rfl⟩
  obtain ⟨g1, hg1⟩ : ∃ g, greatW vs = g := ⟨_, rfl⟩
  rw [hg0] at HG0
  rw [hg1] at HG1
  have g0h := Lib.hid hg0; have g1h := Lib.hid hg1
  clear hg0 hg1
  go_enter Try.func6, Try.ntmps6
  go_wp2_with fail
  refine HG0.out.mono ?_
  rintro e _ ⟨rfl, rfl⟩
  cases g0 with
  | true =>
    go_wp2_with fail
    refine (awake_true _).mono ?_
    rintro e w1 ⟨rfl, hb⟩
    go_wp2
    go_ret
    exact ⟨rfl, hb⟩
  | false =>
    go_wp2_with fail
    refine HG1.out.mono ?_
    rintro e _ ⟨rfl, rfl⟩
    cases g1 with
    | true =>
      go_wp2_with fail
      refine (awake_true _).mono ?_
      rintro e w1 ⟨rfl, hb⟩
      go_wp2
      go_ret
      exact ⟨rfl, hb⟩
    | false =>
      obtain ⟨S0, hS0⟩ : ∃ S0, strB (bytesW us) = S0 := ⟨_, rfl⟩
      obtain ⟨S1, hS1⟩ : ∃ S1, strB (bytesW vs) = S1 := ⟨_, rfl⟩
      have G0 := Lib.hid (greatW_false g0h.out); have G1 := Lib.hid (greatW_false g1h.out)
      have SQ := Lib.hid (show (S0.toList == S1.toList) = s by rw [← hS0, ← hS1, str_bytes G0.out.1 G1.out.1 G0.out.2 G1.out.2]; exact sh.out)
      have XQ := Lib.hid (show (x == 0) = s by rw [← xh.out, cmpW_beq]; exact sh.out)
      have S0h := Lib.hid hS0; have S1h := Lib.hid hS1
      clear hS0 hS1
      go_wp2_with fail
      refine (same_any A0 A1 c0 c1 n0 n1 us vs w H0.out.rd H1.out.rd H0.out.len H1.out.len H0.out.le).mono ?_
      rintro e w1 ⟨rfl, hb1⟩
      rw [sh.out]
      have HB := Lib.hid hb1
      have H0' := Lib.hid (H0.out.keep hb1); have H1' := Lib.hid (H1.out.keep hb1)
      clear hb1 H0 H1
      have H0 := H0'; clear H0'
      have H1 := H1'; clear H1'
      go_wp2_with fail
      refine (compare_any A0 A1 c0 c1 n0 n1 us vs w1 H0.out.rd H1.out.rd H0.out.len H1.out.len H0.out.le).mono ?_
      rintro e _ ⟨rfl, rfl⟩
      rw [xh.out]
      go_wp2_with fail
      refine (compare_any A1 A0 c1 c0 n1 n0 vs us w1 H1.out.rd H0.out.rd H1.out.len H0.out.len H1.out.le).mono ?_
      rintro e _ ⟨rfl, rfl⟩
      rw [cmpW_neg us vs, xh.out]
      go_wp2_with fail
      refine region_last (by kernel_rfl) (tblRB A0 A1 n0 c0 n1 c1 k x s us vs S0 S1) (by kernel_rfl) ?_ ?_
      · skip
        refine .yes rfl (fun a W Q hB hO hD => ?_) ?_
        · have e0 : a.tmps.getD 0 undef = .slice A0 n0 c0 := hO.slot 0 _ rfl rfl
          clear hO hD
          go_wp2
          exact ⟨_, rfl, Below.refl _ _, rfl⟩
        refine .yes rfl (fun a W Q hB hO hD => ?_) ?_
        · have e26 : a.tmps.getD 26 undef = .slice A0 n0 c0 := hD 0 rfl
          clear hO hD
          have HR := Lib.hid (H0.out.rd.below hB)
          go_wp2_with fail
          refine (bytes_any A0 c0 n0 us W HR.out H0.out.len (by have := G0.out.1; have := H0.out.len; omega) (G0.out.2)).mono ?_
          rintro e W1 ⟨v, rfl, hr, hb⟩
          have HR2 := Lib.hid hr
          clear hr
          go_wp2
          exact ⟨_, rfl, hb, HR2.out.rd⟩
        refine .yes rfl (fun a W Q hB hO hD => ?_) ?_
        · obtain ⟨A27, c27, e27, h27⟩ : ∃ A c, (a.tmps.getD 27 undef) = .slice A (bytesW us).length c ∧ Rd W A (cellsB (bytesW us)) := hD 1 rfl
          clear hO hD
          have cv : (convert 36 9 (.slice A27 (bytesW us).length c27)).run Try.prog W = .ok (.string S0) W := by rw [← S0h.out]; exact conv_word A27 _ c27 (bytesW us) W rfl h27
          go_wp2
          exact ⟨_, rfl, Below.refl _ _, rfl⟩
        refine .yes rfl (fun a W Q hB hO hD => ?_) ?_
        · have e1 : a.tmps.getD 1 undef = .slice A1 n1 c1 := hO.slot 1 _ rfl rfl
          clear hO hD
          go_wp2
          exact ⟨_, rfl, Below.refl _ _, rfl⟩
        refine .yes rfl (fun a W Q hB hO hD => ?_) ?_
        · have e29 : a.tmps.getD 29 undef = .slice A1 n1 c1 := hD 3 rfl
          clear hO hD
          have HR := Lib.hid (H1.out.rd.below hB)
          go_wp2_with fail
          refine (bytes_any A1 c1 n1 vs W HR.out H1.out.len (by have := G1.out.1; have := H1.out.len; omega) (G1.out.2)).mono ?_
          rintro e W1 ⟨v, rfl, hr, hb⟩
          have HR2 := Lib.hid hr
          clear hr
          go_wp2
          exact ⟨_, rfl, hb, HR2.out.rd⟩
        refine .yes rfl (fun a W Q hB hO hD => ?_) ?_
        · obtain ⟨A30, c30, e30, h30⟩ : ∃ A c, (a.tmps.getD 30 undef) = .slice A (bytesW vs).length c ∧ Rd W A (cellsB (bytesW vs)) := hD 4 rfl
          clear hO hD
          have cv : (convert 36 9 (.slice A30 (bytesW vs).length c30)).run Try.prog W = .ok (.string S1) W := by rw [← S1h.out]; exact conv_word A30 _ c30 (bytesW vs) W rfl h30
          go_wp2
          exact ⟨_, rfl, Below.refl _ _, rfl⟩
        refine .yes rfl (fun a W Q hB hO hD => ?_) ?_
        · have e28 : a.tmps.getD 28 undef = .string S0 := hD 2 rfl
          have e31 : a.tmps.getD 31 undef = .string S1 := hD 5 rfl
          clear hO hD
          have hq := SQ.out
          go_wp2
          exact ⟨_, rfl, Below.refl _ _, rfl⟩
        refine .yes rfl (fun a W Q hB hO hD => ?_) ?_
        · have e7 : a.tmps.getD 7 undef = .bool s := hO.slot 7 _ rfl rfl
          clear hO hD
          go_wp2
          exact ⟨_, rfl, Below.refl _ _, rfl⟩
        refine .yes rfl (fun a W Q hB hO hD => ?_) ?_
        · have e32 : a.tmps.getD 32 undef = .bool s := hD 6 rfl
          have e33 : a.tmps.getD 33 undef = .bool s := hD 7 rfl
          clear hO hD
          go_wp2
          exact ⟨_, rfl, Below.refl _ _, rfl⟩
        refine .yes rfl (fun a W Q hB hO hD => ?_) ?_
        · have e34 : a.tmps.getD 34 undef = .bool true := hD 8 rfl
          clear hO hD
          go_wp2
          exact ⟨_, rfl, Below.refl _ _, rfl⟩
        refine .yes rfl (fun a W Q hB hO hD => ?_) ?_
        · have e8 : a.tmps.getD 8 undef = .int .i64 x := hO.slot 8 _ rfl rfl
          clear hO hD
          go_wp2
          exact ⟨_, rfl, Below.refl _ _, rfl⟩
        refine .yes rfl (fun a W Q hB hO hD => ?_) ?_
        · have e36 : a.tmps.getD 36 undef = .int .i64 x := hD 10 rfl
          clear hO hD
          have hq := XQ.out
          go_wp2
          exact ⟨_, rfl, Below.refl _ _, rfl⟩
        refine .yes rfl (fun a W Q hB hO hD => ?_) ?_
        · have e7 : a.tmps.getD 7 undef = .bool s := hO.slot 7 _ rfl rfl
          clear hO hD
          go_wp2
          exact ⟨_, rfl, Below.refl _ _, rfl⟩
        refine .yes rfl (fun a W Q hB hO hD => ?_) ?_
        · have e37 : a.tmps.getD 37 undef = .bool s := hD 11 rfl
          have e38 : a.tmps.getD 38 undef = .bool s := hD 12 rfl
          clear hO hD
          go_wp2
          exact ⟨_, rfl, Below.refl _ _, rfl⟩
        refine .yes rfl (fun a W Q hB hO hD => ?_) ?_
        · have e35 : a.tmps.getD 35 undef = .bool true := hD 9 rfl
          have e39 : a.tmps.getD 39 undef = .bool true := hD 13 rfl
          clear hO hD
          go_wp2
          exact ⟨_, rfl, Below.refl _ _, rfl⟩
        refine .yes rfl (fun a W Q hB hO hD => ?_) ?_
        · have e40 : a.tmps.getD 40 undef = .bool true := hD 14 rfl
          clear hO hD
          go_wp2
          exact ⟨_, rfl, Below.refl _ _, rfl⟩
        refine .yes rfl (fun a W Q hB hO hD => ?_) ?_
        · have e8 : a.tmps.getD 8 undef = .int .i64 x := hO.slot 8 _ rfl rfl
          clear hO hD
          go_wp2
          exact ⟨_, rfl, Below.refl _ _, rfl⟩
        refine .yes rfl (fun a W Q hB hO hD => ?_) ?_
        · have e9 : a.tmps.getD 9 undef = .int .i64 (-x) := hO.slot 9 _ rfl rfl
          clear hO hD
          go_wp2
          exact ⟨_, rfl, Below.refl _ _, rfl⟩
        refine .yes rfl (fun a W Q hB hO hD => ?_) ?_
        · have e43 : a.tmps.getD 43 undef = .int .i64 (-x) := hD 17 rfl
          clear hO hD
          go_wp2
          exact ⟨_, rfl, Below.refl _ _, rfl⟩
        refine .yes rfl (fun a W Q hB hO hD => ?_) ?_
        · have e42 : a.tmps.getD 42 undef = .int .i64 x := hD 16 rfl
          have e44 : a.tmps.getD 44 undef = .int .i64 x := hD 18 rfl
          clear hO hD
          go_wp2
          exact ⟨_, rfl, Below.refl _ _, rfl⟩
        refine .yes rfl (fun a W Q hB hO hD => ?_) ?_
        · have e41 : a.tmps.getD 41 undef = .bool true := hD 15 rfl
          have e45 : a.tmps.getD 45 undef = .bool true := hD 19 rfl
          clear hO hD
          go_wp2
          exact ⟨_, rfl, Below.refl _ _, rfl⟩
        refine .yes rfl (fun a W Q hB hO hD => ?_) ?_
        · have e46 : a.tmps.getD 46 undef = .bool true := hD 20 rfl
          clear hO hD
          go_wp2
          exact ⟨_, rfl, Below.refl _ _, rfl⟩
        refine .yes rfl (fun a W Q hB hO hD => ?_) ?_
        · have e0 : a.tmps.getD 0 undef = .slice A0 n0 c0 := hO.slot 0 _ rfl rfl
          clear hO hD
          go_wp2
          exact ⟨_, rfl, Below.refl _ _, rfl⟩
        refine .yes rfl (fun a W Q hB hO hD => ?_) ?_
        · have e2 : a.tmps.getD 2 undef = .int .i16 k := hO.slot 2 _ rfl rfl
          clear hO hD
          go_wp2
          exact ⟨_, rfl, Below.refl _ _, rfl⟩
        refine .yes rfl (fun a W Q hB hO hD => ?_) ?_
        · have e49 : a.tmps.getD 49 undef = .int .i16 k := hD 23 rfl
          clear hO hD
          go_wp2
          exact ⟨_, rfl, Below.refl _ _, rfl⟩
        refine .yes rfl (fun a W Q hB hO hD => ?_) ?_
        · have e48 : a.tmps.getD 48 undef = .slice A0 n0 c0 := hD 22 rfl
          have e50 : a.tmps.getD 50 undef = .int .i64 k := hD 24 rfl
          clear hO hD
          have HR := Lib.hid (H0.out.rd.below hB)
          go_wp2_with fail
          refine (turn_any A0 c0 n0 k us W HR.out H0.out.len (by have := G0.out.1; have := H0.out.len; omega) H0.out.cap (fun l hl => by have := G0.out.2 l hl; omega)).mono ?_
          rintro e W1 ⟨v, rfl, hr, hb⟩
          have HR2 := Lib.hid (show RowW W.heap.size W1 v (turnW us (turnK us.length k)) by rw [← H0.out.len]; exact hr)
          clear hr
          go_wp2
          exact ⟨_, rfl, hb, HR2.out.rdc⟩
        refine .yes rfl (fun a W Q hB hO hD => ?_) ?_
        · have e2 : a.tmps.getD 2 undef = .int .i16 k := hO.slot 2 _ rfl rfl
          clear hO hD
          go_wp2
          exact ⟨_, rfl, Below.refl _ _, rfl⟩
        refine .yes rfl (fun a W Q hB hO hD => ?_) ?_
        · have e52 : a.tmps.getD 52 undef = .int .i16 k := hD 26 rfl
          clear hO hD
          go_wp2
          exact ⟨_, rfl, Below.refl _ _, rfl⟩
        refine .yes rfl (fun a W Q hB hO hD => ?_) ?_
        · have e53 : a.tmps.getD 53 undef = .int .i64 k := hD 27 rfl
          clear hO hD
          go_wp2
          exact ⟨_, rfl, Below.refl _ _, rfl⟩
        refine .yes rfl (fun a W Q hB hO hD => ?_) ?_
        · obtain ⟨A51, c51, e51, z51, h51⟩ : ∃ A c, (a.tmps.getD 51 undef) = .slice A (turnW us (turnK us.length k)).length c ∧ (turnW us (turnK us.length k)).length ≤ c ∧ RdW W A (turnW us (turnK us.length k)) := hD 25 rfl
          have e54 : a.tmps.getD 54 undef = .int .i64 (-k) := hD 28 rfl
          clear hO hD
          have HR := Lib.hid h51; have HZ := Lib.hid z51
          clear h51 z51
          go_wp2_with fail
          refine (turn_any A51 c51 _ (-k) (turnW us (turnK us.length k)) W HR.out rfl (by have := G0.out.1; have := H0.out.len; rw [length_turnW]; omega) HZ.out (turn_sizes (fun l hl => by have := G0.out.2 l hl; omega))).mono ?_
          rintro e W1 ⟨v, rfl, hr, hb⟩
          have HR2 := Lib.hid (show RowW W.heap.size W1 v us by have h := turn_back us k; rw [length_turnW] at hr; rw [h] at hr; exact hr)
          clear hr
          go_wp2
          exact ⟨_, rfl, hb, HR2.out.rdc⟩
        refine .yes rfl (fun a W Q hB hO hD => ?_) ?_
        · have e0 : a.tmps.getD 0 undef = .slice A0 n0 c0 := hO.slot 0 _ rfl rfl
          clear hO hD
          go_wp2
          exact ⟨_, rfl, Below.refl _ _, rfl⟩
        refine .yes rfl (fun a W Q hB hO hD => ?_) ?_
        · obtain ⟨A55, c55, e55, z55, h55⟩ : ∃ A c, (a.tmps.getD 55 undef) = .slice A (us).length c ∧ (us).length ≤ c ∧ RdW W A (us) := hD 29 rfl
          have e56 : a.tmps.getD 56 undef = .slice A0 n0 c0 := hD 30 rfl
          clear hO hD
          have HR := Lib.hid h55; have HR0 := Lib.hid (H0.out.rd.below hB)
          clear h55 z55
          go_wp2_with fail
          refine (same_any A55 A0 c55 c0 _ n0 us us W HR.out HR0.out rfl H0.out.len (by have := H0.out.len; have := H0.out.le; omega)).mono ?_
          rintro e W1 ⟨rfl, hb⟩
          rw [beq_self_eq_true]
          go_wp2
          exact ⟨_, rfl, hb, rfl⟩
        refine .yes rfl (fun a W Q hB hO hD => ?_) ?_
        · have e47 : a.tmps.getD 47 undef = .bool true := hD 21 rfl
          have e57 : a.tmps.getD 57 undef = .bool true := hD 31 rfl
          clear hO hD
          go_wp2
          exact ⟨_, rfl, Below.refl _ _, rfl⟩
        refine .yes rfl (fun a W Q hB hO hD => ?_) ?_
        · have e58 : a.tmps.getD 58 undef = .bool true := hD 32 rfl
          clear hO hD
          go_wp2
          exact ⟨_, rfl, Below.refl _ _, rfl⟩
        refine .yes rfl (fun a W Q hB hO hD => ?_) ?_
        · have e0 : a.tmps.getD 0 undef = .slice A0 n0 c0 := hO.slot 0 _ rfl rfl
          clear hO hD
          go_wp2
          exact ⟨_, rfl, Below.refl _ _, rfl⟩
        refine .yes rfl (fun a W Q hB hO hD => ?_) ?_
        · have e60 : a.tmps.getD 60 undef = .slice A0 n0 c0 := hD 34 rfl
          clear hO hD
          have HR := Lib.hid (H0.out.rd.below hB)
          go_wp2_with fail
          refine (flip_any A0 c0 n0 us W HR.out H0.out.len (by have := G0.out.1; have := H0.out.len; omega) (fun l hl => by have := G0.out.2 l hl; omega)).mono ?_
          rintro e W1 ⟨v, rfl, hr, hb⟩
          have HR2 := Lib.hid hr
          clear hr
          go_wp2
          exact ⟨_, rfl, hb, HR2.out.rdc⟩
        refine .yes rfl (fun a W Q hB hO hD => ?_) ?_
        · obtain ⟨A61, c61, e61, z61, h61⟩ : ∃ A c, (a.tmps.getD 61 undef) = .slice A (us.reverse).length c ∧ (us.reverse).length ≤ c ∧ RdW W A (us.reverse) := hD 35 rfl
          clear hO hD
          have HR := Lib.hid h61; have HZ := Lib.hid z61
          clear h61 z61
          go_wp2_with fail
          refine (flip_any A61 c61 _ us.reverse W HR.out (by simp) (by have := G0.out.1; have := H0.out.len; simp; omega) (fun l hl => by have := G0.out.2 l (List.mem_reverse.1 hl); omega)).mono ?_
          rintro e W1 ⟨v, rfl, hr, hb⟩
          have HR2 := Lib.hid (show RowW W.heap.size W1 v us by rw [List.reverse_reverse] at hr; exact hr)
          clear hr
          go_wp2
          exact ⟨_, rfl, hb, HR2.out.rdc⟩
        refine .yes rfl (fun a W Q hB hO hD => ?_) ?_
        · have e0 : a.tmps.getD 0 undef = .slice A0 n0 c0 := hO.slot 0 _ rfl rfl
          clear hO hD
          go_wp2
          exact ⟨_, rfl, Below.refl _ _, rfl⟩
        refine .yes rfl (fun a W Q hB hO hD => ?_) ?_
        · obtain ⟨A62, c62, e62, z62, h62⟩ : ∃ A c, (a.tmps.getD 62 undef) = .slice A (us).length c ∧ (us).length ≤ c ∧ RdW W A (us) := hD 36 rfl
          have e63 : a.tmps.getD 63 undef = .slice A0 n0 c0 := hD 37 rfl
          clear hO hD
          have HR := Lib.hid h62; have HR0 := Lib.hid (H0.out.rd.below hB)
          clear h62 z62
          go_wp2_with fail
          refine (same_any A62 A0 c62 c0 _ n0 us us W HR.out HR0.out rfl H0.out.len (by have := H0.out.len; have := H0.out.le; omega)).mono ?_
          rintro e W1 ⟨rfl, hb⟩
          rw [beq_self_eq_true]
          go_wp2
          exact ⟨_, rfl, hb, rfl⟩
        refine .yes rfl (fun a W Q hB hO hD => ?_) ?_
        · have e59 : a.tmps.getD 59 undef = .bool true := hD 33 rfl
          have e64 : a.tmps.getD 64 undef = .bool true := hD 38 rfl
          clear hO hD
          go_wp2
          exact ⟨_, rfl, Below.refl _ _, rfl⟩
        refine .yes rfl (fun a W Q hB hO hD => ?_) ?_
        · have e65 : a.tmps.getD 65 undef = .bool true := hD 39 rfl
          clear hO hD
          go_wp2
          exact ⟨_, rfl, Below.refl _ _, rfl⟩
        refine .yes rfl (fun a W Q hB hO hD => ?_) ?_
        · clear hO hD
          go_wp2_with fail
          refine (awake_true W).mono ?_
          rintro e W1 ⟨rfl, hb⟩
          go_wp2
          exact ⟨_, rfl, hb, rfl⟩
        refine .yes rfl (fun a W Q hB hO hD => ?_) ?_
        · have e66 : a.tmps.getD 66 undef = .bool true := hD 40 rfl
          have e67 : a.tmps.getD 67 undef = .bool true := hD 41 rfl
          clear hO hD
          go_wp2
          exact ⟨_, rfl, Below.refl _ _, rfl⟩
        refine .yes rfl (fun a W Q hB hO hD => ?_) ?_
        · have e68 : a.tmps.getD 68 undef = .bool true := hD 42 rfl
          clear hO hD
          go_wp2
          exact ⟨_, rfl, Below.refl _ _, rfl⟩
        exact .nil
      · intro T W hB hO hR
        have hl : T.getD 6 undef = .bool true := hR 43 (by decide)
        clear hR hO
        have HB2 := Lib.hid (HB.out.trans (hB.mono HB.out.size))
        clear hB
        go_wp2
        go_ret
        exact ⟨congrArg Ending.returned hl, HB2.out⟩
end Go.Proofs.Ytmfeponanjgapaa
