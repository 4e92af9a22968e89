/- Walk: fretworklaw16.RingTells. -/
import Derived.Test.YtmfeponanjgapaaWz
import Derived.Test.YtmfeponanjgapaaWs
namespace Go.Proofs.Ytmfeponanjgapaa
open Go.RowKit

def tblRT (A0 : Option Addr) (A1 : Option Addr) (n0 : Nat) (c0 : Nat) (n1 : Nat) (c1 : Nat) (k : Int) (x : Int) (us : List (List UInt8)) (S0 : ByteArray) (A2 : Option Addr) (A3 : Option Addr) (A4 : Option Addr) (A5 : Option Addr) (m : Nat) (q : Nat) (c2 : Nat) (c3 : Nat) (c4 : Nat) (c5 : Nat) : List Pst := [Pst.val (.slice A0 n0 c0), Pst.val (.int .i64 k), Pst.wds (turnW us (turnK n0 k)), Pst.val (.slice A0 n0 c0), Pst.val (.int .i64 k), Pst.wds (turnW us (turnK n0 k)), Pst.val (.bool true), Pst.val (.bool true), Pst.val (.slice A0 n0 c0), Pst.wds (us.reverse), Pst.val (.slice A0 n0 c0), Pst.wds (us.reverse), Pst.val (.bool true), Pst.val (.bool true), Pst.val (.bool true), Pst.val (.slice A0 n0 c0), Pst.val (.slice A1 n1 c1), Pst.val (.int .i64 x), Pst.val (.slice A0 n0 c0), Pst.val (.slice A1 n1 c1), Pst.val (.int .i64 x), Pst.val (.bool true), Pst.val (.bool true), Pst.val (.bool true), Pst.val (.slice A2 m c2), Pst.val (.slice A4 m c4), Pst.val (.bool true), Pst.val (.bool true), Pst.val (.bool true), Pst.val (.slice A3 q c3), Pst.val (.slice A5 q c5), Pst.val (.bool true), Pst.val (.bool true), Pst.val (.bool true), Pst.val (.slice A0 n0 c0), Pst.bts (bytesW us), Pst.val (.string S0), Pst.val (.slice A0 n0 c0), Pst.bts (bytesW us), Pst.val (.string S0), Pst.val (.bool true), Pst.val (.bool true), Pst.val (.bool true), Pst.val (.bool true), Pst.val (.bool true), Pst.val (.bool true)]
/-- What both tell of the least turns is the same. -/
theorem least_pair {ws : List (List UInt8)} {p q : Nat} (hp : p < ws.length) (hq : q < ws.length) (hmp : ∀ x, x < ws.length → 0 ≤ cmpW (turnW ws x) (turnW ws p)) (hmq : ∀ x, x < ws.length → 0 ≤ cmpW (turnW ws x) (turnW ws q)) : turnW ws q = turnW ws p ∧ placesW ws q = placesW ws p :=
  have e := least_at hmq hmp hq hp
  ⟨e, places_of e⟩
theorem placesW_len (ws : List (List UInt8)) (p : Nat) : (placesW ws p).length ≤ ws.length := by
  unfold placesW
  rw [List.length_map]
  have := List.length_filter_le (fun k => turnW ws k == turnW ws p) (List.range ws.length)
  rwa [List.length_range] at this
/-- Both circles told, whatever the length. -/
theorem least_calls (A0 : Option Addr) (n0 c0 : Nat) (us : List (List UInt8)) (w : World) (h0 : ArgW w A0 n0 c0 us) (hn : n0 ≤ 60) (hs : ∀ l ∈ us, l.length ≤ 1000) :
    Calls Try.prog 9 #[.slice A0 n0 c0] w fun e w1 => ∃ A2 m c2 A3 q c3 pl bs, e = .returned (.tuple #[.slice A2 m c2, .slice A3 q c3]) ∧ m ≤ 1000 ∧ q ≤ 1000 ∧ m = pl.length ∧ q = bs.length ∧ Rd w1 A2 (cellsI pl) ∧ RdW w1 A3 bs ∧ Below w.heap.size w w1 ∧
      ∀ w2, Below w.heap.size w w2 → Calls Try.prog 13 #[.slice A0 n0 c0] w2 fun e w3 => ∃ A4 c4 A5 c5, e = .returned (.tuple #[.slice A4 m c4, .slice A5 q c5]) ∧ Rd w3 A4 (cellsI pl) ∧ RdW w3 A5 bs ∧ Below w2.heap.size w2 w3 := by
  rcases Nat.eq_zero_or_pos n0 with hz | hz
  · subst hz
    refine (least_zero A0 c0 w).mono ?_
    rintro e w1 ⟨rfl, hb⟩
    refine ⟨none, 0, 0, none, 0, 0, [], [], rfl, by omega, by omega, rfl, rfl, Rd.nil, ⟨[], rfl, Rd.nil, fun i v l hv => by simp at hv⟩, hb, fun w2 _ => ?_⟩
    refine (refLeast_zero A0 c0 w2).mono ?_
    rintro e w3 ⟨rfl, rfl⟩
    exact ⟨none, 0, none, 0, rfl, Rd.nil, ⟨[], rfl, Rd.nil, fun i v l hv => by simp at hv⟩, Below.refl _ _⟩
  · refine (least_any A0 n0 c0 us w h0.rd h0.len hz (by omega) h0.cap hs).mono ?_
    rintro e w1 ⟨A2, m, c2, v, p, rfl, hp, hmp, hm, hi, hr, hb⟩
    obtain ⟨A3, c3, rfl, hd⟩ := hr.rd
    have hpl := placesW_len us p
    have hl := h0.len
    refine ⟨A2, m, c2, A3, _, c3, placesW us p, turnW us p, rfl, by omega, by rw [length_turnW]; omega, hm, rfl, hi, hd, hb, fun w2 hw2 => ?_⟩
    refine (refLeast_any A0 c0 n0 us w2 (h0.rd.below hw2) hl hz (by omega) hs).mono ?_
    rintro e w3 ⟨A4, m', c4, v', p', rfl, hp', hmp', hm', hi', hr', hb'⟩
    obtain ⟨A5, c5, rfl, hd'⟩ := hr'.rd
    obtain ⟨e1, e2⟩ := least_pair hp hp' hmp hmp'
    rw [e2] at hm' hi'
    rw [e1] at hd' ⊢
    have : m' = m := by rw [hm, hm']
    subst this
    exact ⟨A4, c4, A5, c5, rfl, hi', hd', hb'⟩
set_option maxRecDepth 100000 in
set_option maxHeartbeats 8000000 in
theorem ringTells_true (A0 A1 : Option Addr) (n0 n1 c0 c1 : Nat) (k : Int) (us vs : List (List UInt8)) (w : World) (h0 : ArgW w A0 n0 c0 us) (h1 : ArgW w A1 n1 c1 vs) :
    Calls Try.prog 5 #[.slice A0 n0 c0, .slice A1 n1 c1, .int .i64 k] w fun e w' => e = .returned (.bool true) ∧ Below w.heap.size w w' := by
  have H0 := Lib.hid h0; have H1 := Lib.hid h1
  have HG0 := Lib.hid (great_any A0 c0 n0 us w h0.rd h0.len h0.le)
  have HG1 := Lib.hid (great_any A1 c1 n1 vs w h1.rd h1.len h1.le)
  clear h0 h1
  obtain ⟨x, hx⟩ : ∃ x, cmpW us vs = x := ⟨_, rfl⟩
  have xh := Lib.hid hx
  clear hx
  obtain ⟨g0, hg0⟩ : ∃ g, greatW us = g := ⟨_, rfl⟩
  obtain ⟨g1, hg1⟩ : ∃ g, greatW vs = g := ⟨_, rfl⟩
  rw [hg0] at HG0
  rw [hg1] at HG1
  have g0h := Lib.hid hg0; have g1h := Lib.hid hg1
  clear hg0 hg1
  go_enter Try.func5, Try.ntmps5
  go_wp2_with fail
  refine HG0.out.mono ?_
  rintro e _ ⟨rfl, rfl⟩
  cases g0 with
  | true =>
    go_wp2_with fail
    refine (awake_true _).mono ?_
    rintro e w1 ⟨rfl, hb⟩
    go_wp2
    go_ret
    exact ⟨rfl, hb⟩
  | false =>
    go_wp2_with fail
    refine HG1.out.mono ?_
    rintro e _ ⟨rfl, rfl⟩
    cases g1 with
    | true =>
      go_wp2_with fail
      refine (awake_true _).mono ?_
      rintro e w1 ⟨rfl, hb⟩
      go_wp2
      go_ret
      exact ⟨rfl, hb⟩
    | false =>
      have G0 := Lib.hid (greatW_false g0h.out); have G1 := Lib.hid (greatW_false g1h.out)
      have hn0 : n0 ≤ 60 := by have := G0.out.1; have := H0.out.len; omega
      have hn1 : n1 ≤ 60 := by have := G1.out.1; have := H1.out.len; omega
      have SZ := Lib.hid (show ∀ l ∈ us, l.length ≤ 1000 from fun l hl => by have := G0.out.2 l hl; omega)
      have SZ1 := Lib.hid (show ∀ l ∈ vs, l.length ≤ 1000 from fun l hl => by have := G1.out.2 l hl; omega)
      obtain ⟨S0, hS0⟩ : ∃ S0, strB (bytesW us) = S0 := ⟨_, rfl⟩
      have S0h := Lib.hid hS0
      clear hS0
      go_wp2_with fail
      refine (least_calls A0 n0 c0 us w H0.out hn0 SZ.out).mono ?_
      rintro e w1 ⟨A2, m, c2, A3, q, c3, pl, bs, rfl, hm, hq, hpl, hbs, hi, hd, hb, href⟩
      have I2' := Lib.hid hi; have D3' := Lib.hid hd; have HB' := Lib.hid hb; have HF := Lib.hid (href w1 hb); have PL := Lib.hid hpl; have BL := Lib.hid hbs
      clear hi hd hb href hpl hbs
      go_wp2_with fail
      refine HF.out.mono ?_
      rintro e w2 ⟨A4, c4, A5, c5, rfl, hi, hd, hb⟩
      have I2 := Lib.hid (I2'.out.below hb); have D3 := Lib.hid (D3'.out.below hb); have I4 := Lib.hid hi; have D5 := Lib.hid hd; have HB := Lib.hid (HB'.out.trans (hb.mono HB'.out.size))
      have H0' := Lib.hid (H0.out.keep HB.out); have H1' := Lib.hid (H1.out.keep HB.out)
      clear hi hd hb I2' D3' HB' HF H0 H1
      have H0 := H0'; clear H0'
      have H1 := H1'; clear H1'
      go_wp2_with fail
      refine region_last (by kernel_rfl) (tblRT A0 A1 n0 c0 n1 c1 k x us S0 A2 A3 A4 A5 m q c2 c3 c4 c5) (by kernel_rfl) ?_ ?_
      · skip
        refine .yes rfl (fun a W Q hB hO hD => ?_) ?_
        · have e0 : a.tmps.getD 0 undef = .slice A0 n0 c0 := hO.slot 0 _ rfl rfl
          clear hO hD
          go_wp2
          exact ⟨_, rfl, Below.refl _ _, rfl⟩
        refine .yes rfl (fun a W Q hB hO hD => ?_) ?_
        · have e2 : a.tmps.getD 2 undef = .int .i64 k := hO.slot 2 _ rfl rfl
          clear hO hD
          go_wp2
          exact ⟨_, rfl, Below.refl _ _, rfl⟩
        refine .yes rfl (fun a W Q hB hO hD => ?_) ?_
        · have e28 : a.tmps.getD 28 undef = .slice A0 n0 c0 := hD 0 rfl
          have e29 : a.tmps.getD 29 undef = .int .i64 k := hD 1 rfl
          clear hO hD
          have HR := Lib.hid (H0.out.rd.below hB)
          go_wp2_with fail
          refine (turn_any A0 c0 n0 k us W HR.out H0.out.len (by omega) H0.out.cap SZ.out).mono ?_
          rintro e W1 ⟨v, rfl, hr, hb⟩
          have HR2 := Lib.hid hr
          clear hr
          go_wp2
          exact ⟨_, rfl, hb, HR2.out.rdc⟩
        refine .yes rfl (fun a W Q hB hO hD => ?_) ?_
        · have e0 : a.tmps.getD 0 undef = .slice A0 n0 c0 := hO.slot 0 _ rfl rfl
          clear hO hD
          go_wp2
          exact ⟨_, rfl, Below.refl _ _, rfl⟩
        refine .yes rfl (fun a W Q hB hO hD => ?_) ?_
        · have e2 : a.tmps.getD 2 undef = .int .i64 k := hO.slot 2 _ rfl rfl
          clear hO hD
          go_wp2
          exact ⟨_, rfl, Below.refl _ _, rfl⟩
        refine .yes rfl (fun a W Q hB hO hD => ?_) ?_
        · have e31 : a.tmps.getD 31 undef = .slice A0 n0 c0 := hD 3 rfl
          have e32 : a.tmps.getD 32 undef = .int .i64 k := hD 4 rfl
          clear hO hD
          have HR := Lib.hid (H0.out.rd.below hB)
          go_wp2_with fail
          refine (refTurn_any A0 c0 n0 k us W HR.out H0.out.len (by omega) SZ.out).mono ?_
          rintro e W1 ⟨v, rfl, hr, hb⟩
          have HR2 := Lib.hid hr
          clear hr
          go_wp2
          exact ⟨_, rfl, hb, HR2.out.rdc⟩
        refine .yes rfl (fun a W Q hB hO hD => ?_) ?_
        · obtain ⟨A30, c30, e30, z30, h30⟩ : ∃ A c, (a.tmps.getD 30 undef) = .slice A (turnW us (turnK n0 k)).length c ∧ (turnW us (turnK n0 k)).length ≤ c ∧ RdW W A (turnW us (turnK n0 k)) := hD 2 rfl
          obtain ⟨A33, c33, e33, z33, h33⟩ : ∃ A c, (a.tmps.getD 33 undef) = .slice A (turnW us (turnK n0 k)).length c ∧ (turnW us (turnK n0 k)).length ≤ c ∧ RdW W A (turnW us (turnK n0 k)) := hD 5 rfl
          clear hO hD
          have HR := Lib.hid h30; have HR0 := Lib.hid h33
          clear h30 z30 h33 z33
          go_wp2_with fail
          refine (same_any A30 A33 c30 c33 _ _ (turnW us (turnK n0 k)) (turnW us (turnK n0 k)) W HR.out HR0.out (by simp) (by simp) (by have := H0.out.len; simp only [length_turnW]; omega)).mono ?_
          rintro e W1 ⟨rfl, hb⟩
          rw [beq_self_eq_true]
          go_wp2
          exact ⟨_, rfl, hb, rfl⟩
        refine .yes rfl (fun a W Q hB hO hD => ?_) ?_
        · have e34 : a.tmps.getD 34 undef = .bool true := hD 6 rfl
          clear hO hD
          go_wp2
          exact ⟨_, rfl, Below.refl _ _, rfl⟩
        refine .yes rfl (fun a W Q hB hO hD => ?_) ?_
        · have e0 : a.tmps.getD 0 undef = .slice A0 n0 c0 := hO.slot 0 _ rfl rfl
          clear hO hD
          go_wp2
          exact ⟨_, rfl, Below.refl _ _, rfl⟩
        refine .yes rfl (fun a W Q hB hO hD => ?_) ?_
        · have e36 : a.tmps.getD 36 undef = .slice A0 n0 c0 := hD 8 rfl
          clear hO hD
          have HR := Lib.hid (H0.out.rd.below hB)
          go_wp2_with fail
          refine (flip_any A0 c0 n0 us W HR.out H0.out.len (by omega) SZ.out).mono ?_
          rintro e W1 ⟨v, rfl, hr, hb⟩
          have HR2 := Lib.hid hr
          clear hr
          go_wp2
          exact ⟨_, rfl, hb, HR2.out.rdc⟩
        refine .yes rfl (fun a W Q hB hO hD => ?_) ?_
        · have e0 : a.tmps.getD 0 undef = .slice A0 n0 c0 := hO.slot 0 _ rfl rfl
          clear hO hD
          go_wp2
          exact ⟨_, rfl, Below.refl _ _, rfl⟩
        refine .yes rfl (fun a W Q hB hO hD => ?_) ?_
        · have e38 : a.tmps.getD 38 undef = .slice A0 n0 c0 := hD 10 rfl
          clear hO hD
          have HR := Lib.hid (H0.out.rd.below hB)
          go_wp2_with fail
          refine (refFlip_any A0 c0 n0 us W HR.out H0.out.len (by omega) SZ.out).mono ?_
          rintro e W1 ⟨v, rfl, hr, hb⟩
          have HR2 := Lib.hid hr
          clear hr
          go_wp2
          exact ⟨_, rfl, hb, HR2.out.rdc⟩
        refine .yes rfl (fun a W Q hB hO hD => ?_) ?_
        · obtain ⟨A37, c37, e37, z37, h37⟩ : ∃ A c, (a.tmps.getD 37 undef) = .slice A (us.reverse).length c ∧ (us.reverse).length ≤ c ∧ RdW W A (us.reverse) := hD 9 rfl
          obtain ⟨A39, c39, e39, z39, h39⟩ : ∃ A c, (a.tmps.getD 39 undef) = .slice A (us.reverse).length c ∧ (us.reverse).length ≤ c ∧ RdW W A (us.reverse) := hD 11 rfl
          clear hO hD
          have HR := Lib.hid h37; have HR0 := Lib.hid h39
          clear h37 z37 h39 z39
          go_wp2_with fail
          refine (same_any A37 A39 c37 c39 _ _ (us.reverse) (us.reverse) W HR.out HR0.out (by simp) (by simp) (by have := H0.out.len; omega)).mono ?_
          rintro e W1 ⟨rfl, hb⟩
          rw [beq_self_eq_true]
          go_wp2
          exact ⟨_, rfl, hb, rfl⟩
        refine .yes rfl (fun a W Q hB hO hD => ?_) ?_
        · have e35 : a.tmps.getD 35 undef = .bool true := hD 7 rfl
          have e40 : a.tmps.getD 40 undef = .bool true := hD 12 rfl
          clear hO hD
          go_wp2
          exact ⟨_, rfl, Below.refl _ _, rfl⟩
        refine .yes rfl (fun a W Q hB hO hD => ?_) ?_
        · have e41 : a.tmps.getD 41 undef = .bool true := hD 13 rfl
          clear hO hD
          go_wp2
          exact ⟨_, rfl, Below.refl _ _, rfl⟩
        refine .yes rfl (fun a W Q hB hO hD => ?_) ?_
        · have e0 : a.tmps.getD 0 undef = .slice A0 n0 c0 := hO.slot 0 _ rfl rfl
          clear hO hD
          go_wp2
          exact ⟨_, rfl, Below.refl _ _, rfl⟩
        refine .yes rfl (fun a W Q hB hO hD => ?_) ?_
        · have e1 : a.tmps.getD 1 undef = .slice A1 n1 c1 := hO.slot 1 _ rfl rfl
          clear hO hD
          go_wp2
          exact ⟨_, rfl, Below.refl _ _, rfl⟩
        refine .yes rfl (fun a W Q hB hO hD => ?_) ?_
        · have e43 : a.tmps.getD 43 undef = .slice A0 n0 c0 := hD 15 rfl
          have e44 : a.tmps.getD 44 undef = .slice A1 n1 c1 := hD 16 rfl
          clear hO hD
          have HR := Lib.hid (H0.out.rd.below hB)
          have HR1 := Lib.hid (H1.out.rd.below hB)
          go_wp2_with fail
          refine (compare_any A0 A1 c0 c1 n0 n1 us vs W HR.out HR1.out H0.out.len H1.out.len (by omega)).mono ?_
          rintro e W1 ⟨rfl, rfl⟩
          rw [xh.out]
          go_wp2
          exact ⟨_, rfl, Below.refl _ _, rfl⟩
        refine .yes rfl (fun a W Q hB hO hD => ?_) ?_
        · have e0 : a.tmps.getD 0 undef = .slice A0 n0 c0 := hO.slot 0 _ rfl rfl
          clear hO hD
          go_wp2
          exact ⟨_, rfl, Below.refl _ _, rfl⟩
        refine .yes rfl (fun a W Q hB hO hD => ?_) ?_
        · have e1 : a.tmps.getD 1 undef = .slice A1 n1 c1 := hO.slot 1 _ rfl rfl
          clear hO hD
          go_wp2
          exact ⟨_, rfl, Below.refl _ _, rfl⟩
        refine .yes rfl (fun a W Q hB hO hD => ?_) ?_
        · have e46 : a.tmps.getD 46 undef = .slice A0 n0 c0 := hD 18 rfl
          have e47 : a.tmps.getD 47 undef = .slice A1 n1 c1 := hD 19 rfl
          clear hO hD
          have HR := Lib.hid (H0.out.rd.below hB)
          have HR1 := Lib.hid (H1.out.rd.below hB)
          go_wp2_with fail
          refine (refCompare_any A0 A1 c0 c1 n0 n1 us vs W HR.out HR1.out H0.out.len H1.out.len (by omega) (by omega) SZ.out SZ1.out).mono ?_
          rintro e W1 ⟨rfl, hb⟩
          rw [xh.out]
          go_wp2
          exact ⟨_, rfl, hb, rfl⟩
        refine .yes rfl (fun a W Q hB hO hD => ?_) ?_
        · have e45 : a.tmps.getD 45 undef = .int .i64 x := hD 17 rfl
          have e48 : a.tmps.getD 48 undef = .int .i64 x := hD 20 rfl
          clear hO hD
          have hx : (x == x) = true := by simp
          go_wp2
          exact ⟨_, rfl, Below.refl _ _, rfl⟩
        refine .yes rfl (fun a W Q hB hO hD => ?_) ?_
        · have e42 : a.tmps.getD 42 undef = .bool true := hD 14 rfl
          have e49 : a.tmps.getD 49 undef = .bool true := hD 21 rfl
          clear hO hD
          go_wp2
          exact ⟨_, rfl, Below.refl _ _, rfl⟩
        refine .yes rfl (fun a W Q hB hO hD => ?_) ?_
        · have e50 : a.tmps.getD 50 undef = .bool true := hD 22 rfl
          clear hO hD
          go_wp2
          exact ⟨_, rfl, Below.refl _ _, rfl⟩
        refine .yes rfl (fun a W Q hB hO hD => ?_) ?_
        · have e7 : a.tmps.getD 7 undef = .slice A2 m c2 := hO.slot 7 _ rfl rfl
          clear hO hD
          go_wp2
          exact ⟨_, rfl, Below.refl _ _, rfl⟩
        refine .yes rfl (fun a W Q hB hO hD => ?_) ?_
        · have e9 : a.tmps.getD 9 undef = .slice A4 m c4 := hO.slot 9 _ rfl rfl
          clear hO hD
          go_wp2
          exact ⟨_, rfl, Below.refl _ _, rfl⟩
        refine .yes rfl (fun a W Q hB hO hD => ?_) ?_
        · have e52 : a.tmps.getD 52 undef = .slice A2 m c2 := hD 24 rfl
          have e53 : a.tmps.getD 53 undef = .slice A4 m c4 := hD 25 rfl
          clear hO hD
          have HI := Lib.hid (I2.out.below hB); have HJ := Lib.hid (I4.out.below hB)
          go_wp2_with fail
          refine (sameInts_any A2 A4 c2 c4 m m pl pl W HI.out HJ.out PL.out PL.out (by omega)).mono ?_
          rintro e W1 ⟨rfl, hb⟩
          rw [beq_self_eq_true]
          go_wp2
          exact ⟨_, rfl, hb, rfl⟩
        refine .yes rfl (fun a W Q hB hO hD => ?_) ?_
        · have e51 : a.tmps.getD 51 undef = .bool true := hD 23 rfl
          have e54 : a.tmps.getD 54 undef = .bool true := hD 26 rfl
          clear hO hD
          go_wp2
          exact ⟨_, rfl, Below.refl _ _, rfl⟩
        refine .yes rfl (fun a W Q hB hO hD => ?_) ?_
        · have e55 : a.tmps.getD 55 undef = .bool true := hD 27 rfl
          clear hO hD
          go_wp2
          exact ⟨_, rfl, Below.refl _ _, rfl⟩
        refine .yes rfl (fun a W Q hB hO hD => ?_) ?_
        · have e8 : a.tmps.getD 8 undef = .slice A3 q c3 := hO.slot 8 _ rfl rfl
          clear hO hD
          go_wp2
          exact ⟨_, rfl, Below.refl _ _, rfl⟩
        refine .yes rfl (fun a W Q hB hO hD => ?_) ?_
        · have e10 : a.tmps.getD 10 undef = .slice A5 q c5 := hO.slot 10 _ rfl rfl
          clear hO hD
          go_wp2
          exact ⟨_, rfl, Below.refl _ _, rfl⟩
        refine .yes rfl (fun a W Q hB hO hD => ?_) ?_
        · have e57 : a.tmps.getD 57 undef = .slice A3 q c3 := hD 29 rfl
          have e58 : a.tmps.getD 58 undef = .slice A5 q c5 := hD 30 rfl
          clear hO hD
          have HI := Lib.hid (D3.out.below hB); have HJ := Lib.hid (D5.out.below hB)
          go_wp2_with fail
          refine (same_any A3 A5 c3 c5 q q bs bs W HI.out HJ.out BL.out BL.out (by omega)).mono ?_
          rintro e W1 ⟨rfl, hb⟩
          rw [beq_self_eq_true]
          go_wp2
          exact ⟨_, rfl, hb, rfl⟩
        refine .yes rfl (fun a W Q hB hO hD => ?_) ?_
        · have e56 : a.tmps.getD 56 undef = .bool true := hD 28 rfl
          have e59 : a.tmps.getD 59 undef = .bool true := hD 31 rfl
          clear hO hD
          go_wp2
          exact ⟨_, rfl, Below.refl _ _, rfl⟩
        refine .yes rfl (fun a W Q hB hO hD => ?_) ?_
        · have e60 : a.tmps.getD 60 undef = .bool true := hD 32 rfl
          clear hO hD
          go_wp2
          exact ⟨_, rfl, Below.refl _ _, rfl⟩
        refine .yes rfl (fun a W Q hB hO hD => ?_) ?_
        · have e0 : a.tmps.getD 0 undef = .slice A0 n0 c0 := hO.slot 0 _ rfl rfl
          clear hO hD
          go_wp2
          exact ⟨_, rfl, Below.refl _ _, rfl⟩
        refine .yes rfl (fun a W Q hB hO hD => ?_) ?_
        · have e62 : a.tmps.getD 62 undef = .slice A0 n0 c0 := hD 34 rfl
          clear hO hD
          have HR := Lib.hid (H0.out.rd.below hB)
          go_wp2_with fail
          refine (bytes_any A0 c0 n0 us W HR.out H0.out.len (by omega) (G0.out.2)).mono ?_
          rintro e W1 ⟨v, rfl, hr, hb⟩
          have HR2 := Lib.hid hr
          clear hr
          go_wp2
          exact ⟨_, rfl, hb, HR2.out.rd⟩
        refine .yes rfl (fun a W Q hB hO hD => ?_) ?_
        · obtain ⟨A63, c63, e63, h63⟩ : ∃ A c, (a.tmps.getD 63 undef) = .slice A (bytesW us).length c ∧ Rd W A (cellsB (bytesW us)) := hD 35 rfl
          clear hO hD
          have cv : (convert 36 9 (.slice A63 (bytesW us).length c63)).run Try.prog W = .ok (.string S0) W := by rw [← S0h.out]; exact conv_word A63 _ c63 (bytesW us) W rfl h63
          go_wp2
          exact ⟨_, rfl, Below.refl _ _, rfl⟩
        refine .yes rfl (fun a W Q hB hO hD => ?_) ?_
        · have e0 : a.tmps.getD 0 undef = .slice A0 n0 c0 := hO.slot 0 _ rfl rfl
          clear hO hD
          go_wp2
          exact ⟨_, rfl, Below.refl _ _, rfl⟩
        refine .yes rfl (fun a W Q hB hO hD => ?_) ?_
        · have e65 : a.tmps.getD 65 undef = .slice A0 n0 c0 := hD 37 rfl
          clear hO hD
          have HR := Lib.hid (H0.out.rd.below hB)
          go_wp2_with fail
          refine (refBytes_any A0 c0 n0 us W HR.out H0.out.len (by omega) (G0.out.2)).mono ?_
          rintro e W1 ⟨v, rfl, hr, hb⟩
          have HR2 := Lib.hid hr
          clear hr
          go_wp2
          exact ⟨_, rfl, hb, HR2.out.rd⟩
        refine .yes rfl (fun a W Q hB hO hD => ?_) ?_
        · obtain ⟨A66, c66, e66, h66⟩ : ∃ A c, (a.tmps.getD 66 undef) = .slice A (bytesW us).length c ∧ Rd W A (cellsB (bytesW us)) := hD 38 rfl
          clear hO hD
          have cv : (convert 36 9 (.slice A66 (bytesW us).length c66)).run Try.prog W = .ok (.string S0) W := by rw [← S0h.out]; exact conv_word A66 _ c66 (bytesW us) W rfl h66
          go_wp2
          exact ⟨_, rfl, Below.refl _ _, rfl⟩
        refine .yes rfl (fun a W Q hB hO hD => ?_) ?_
        · have e64 : a.tmps.getD 64 undef = .string S0 := hD 36 rfl
          have e67 : a.tmps.getD 67 undef = .string S0 := hD 39 rfl
          clear hO hD
          have hx : (S0.toList == S0.toList) = true := by simp
          go_wp2
          exact ⟨_, rfl, Below.refl _ _, rfl⟩
        refine .yes rfl (fun a W Q hB hO hD => ?_) ?_
        · have e61 : a.tmps.getD 61 undef = .bool true := hD 33 rfl
          have e68 : a.tmps.getD 68 undef = .bool true := hD 40 rfl
          clear hO hD
          go_wp2
          exact ⟨_, rfl, Below.refl _ _, rfl⟩
        refine .yes rfl (fun a W Q hB hO hD => ?_) ?_
        · have e69 : a.tmps.getD 69 undef = .bool true := hD 41 rfl
          clear hO hD
          go_wp2
          exact ⟨_, rfl, Below.refl _ _, rfl⟩
        refine .yes rfl (fun a W Q hB hO hD => ?_) ?_
        · clear hO hD
          go_wp2_with fail
          refine (awake_true W).mono ?_
          rintro e W1 ⟨rfl, hb⟩
          go_wp2
          exact ⟨_, rfl, hb, rfl⟩
        refine .yes rfl (fun a W Q hB hO hD => ?_) ?_
        · have e70 : a.tmps.getD 70 undef = .bool true := hD 42 rfl
          have e71 : a.tmps.getD 71 undef = .bool true := hD 43 rfl
          clear hO hD
          go_wp2
          exact ⟨_, rfl, Below.refl _ _, rfl⟩
        refine .yes rfl (fun a W Q hB hO hD => ?_) ?_
        · have e72 : a.tmps.getD 72 undef = .bool true := hD 44 rfl
          clear hO hD
          go_wp2
          exact ⟨_, rfl, Below.refl _ _, rfl⟩
        exact .nil
      · intro T W hB hO hR
        have hl : T.getD 6 undef = .bool true := hR 45 (by decide)
        clear hR hO
        have HB2 := Lib.hid (HB.out.trans (hB.mono HB.out.size))
        clear hB
        go_wp2
        go_ret
        exact ⟨congrArg Ending.returned hl, HB2.out⟩
end Go.Proofs.Ytmfeponanjgapaa
