/- Walk: fretworklaw16.RingLeast. -/
import Derived.Test.YtmfeponanjgapaaWq2
import Derived.Test.YtmfeponanjgapaaSet
namespace Go.Proofs.Ytmfeponanjgapaa
open Go.RowKit

set_option maxRecDepth 100000 in
theorem least_zero (A : Option Addr) (c : Nat) (w : World) : Calls Try.prog 9 #[.slice A 0 c] w fun e w' => e = .returned (.tuple #[.slice none 0 0, .slice none 0 0]) ∧ Below w.heap.size w w' := by
  go_enter Try.func9, Try.ntmps9
  go_wp2
  go_ret2
  exact ⟨rfl, (Below.refl _ w).alloc (Nat.le_refl _) _⟩
/-- Where the least turns stand, as the second loop asks. -/
theorem place_or {ws : List (List UInt8)} {p j : Nat} (hj : j < ws.length) (hm : 0 ≤ cmpW (turnW ws j) (turnW ws p)) : (cmpW (turnW ws j) (turnW ws p) = 0 ∧ bitI ((placesW ws p).contains (j : Int)) = 1) ∨ (0 < cmpW (turnW ws j) (turnW ws p) ∧ bitI ((placesW ws p).contains (j : Int)) = 0) := by
  have key : (placesW ws p).contains (j : Int) = (turnW ws j == turnW ws p) := by
    rw [Bool.eq_iff_iff, List.contains_iff_mem]
    unfold placesW
    rw [List.mem_map]
    constructor
    · rintro ⟨x, hx, e⟩
      obtain rfl : x = j := by have e : ((x : Nat) : Int) = (j : Int) := e; omega
      exact (List.mem_filter.1 hx).2
    · intro h
      exact ⟨j, List.mem_filter.2 ⟨List.mem_range.2 hj, h⟩, rfl⟩
  rw [key]
  by_cases h : turnW ws j = turnW ws p
  · left
    rw [h]
    exact ⟨cmpW_self _, by simp [bitI]⟩
  · right
    have h0 : cmpW (turnW ws j) (turnW ws p) ≠ 0 := fun e => h (cmpW_zero e)
    exact ⟨by omega, by simp [bitI, h]⟩
theorem turnK_nat {n j : Nat} (h : j < n) : turnK n (j : Int) = j := by
  unfold turnK
  have : ((j : Int) % (n : Int)) = (j : Int) := Int.emod_eq_of_lt (by omega) (by omega)
  rw [this]; rfl
theorem plc_at {ws : List (List UInt8)} {p m st j : Nat} (h : Plc ws p m st) (hj : j < m) (ha : m * st ≤ 60) : ∃ z : Int, (placesW ws p)[j]? = some z ∧ 0 ≤ z ∧ z ≤ 1000 := by
  have h1 := Nat.mul_le_mul_right st (Nat.le_of_lt hj)
  have h2 := Nat.mod_lt p h.spos
  have h3 := Nat.le_mul_of_pos_left st h.pos
  have h4 := h.at' j hj
  generalize p % st = a at h2 h4
  generalize j * st = b at h1 h4
  exact ⟨_, h4, by omega, by omega⟩
theorem plc_gap {ws : List (List UInt8)} {p m st j : Nat} (h : Plc ws p m st) (hj : j < m) (h0 : 0 < j) (ha : m * st ≤ 60) :
    ∃ z0 z1 : Int, (placesW ws p)[j - 1]? = some z0 ∧ (placesW ws p)[j]? = some z1 ∧ 0 ≤ z0 ∧ z0 ≤ 1000 ∧ 0 ≤ z1 ∧ z1 ≤ 1000 ∧ (z1 - z0 != (st : Int)) = false := by
  obtain ⟨z0, e0, l0, u0⟩ := plc_at h (show j - 1 < m by omega) ha
  obtain ⟨z1, e1, l1, u1⟩ := plc_at h hj ha
  refine ⟨z0, z1, e0, e1, l0, u0, l1, u1, ?_⟩
  have h3 := h.at' (j - 1) (by omega)
  have h4 := h.at' j hj
  rw [e0] at h3
  rw [e1] at h4
  injection h3 with h3
  injection h4 with h4
  obtain ⟨i, rfl⟩ : ∃ i, j = i + 1 := ⟨j - 1, by omega⟩
  rw [Nat.succ_mul] at h4
  rw [Nat.add_sub_cancel] at h3
  generalize p % st = a at h3 h4
  generalize i * st = b at h3 h4
  rw [bne_eq_false_iff_eq]
  omega
def tblL0 (j : Nat) : List Pst := [Pst.val (.int .i64 (j : Nat)), Pst.val (.bool false), Pst.val (.bool false), Pst.none, Pst.none, Pst.none, Pst.none, Pst.none, Pst.none, Pst.none, Pst.none, Pst.none, Pst.none, Pst.none, Pst.none, Pst.none, Pst.val (.bool false)]
def tblL1 (A0 : Option Addr) (n0 : Nat) (c0 : Nat) (b : Nat) (off : Nat) (n5 : Nat) (c2 : Nat) (j : Nat) (st : Nat) (z0 : Int) (z1 : Int) : List Pst := [Pst.val (.int .i64 (j : Nat)), Pst.val (.bool true), Pst.val (.bool true), Pst.val (.int .i64 z1), Pst.val (.slice (some ⟨b, off, none⟩) n5 c2), Pst.val (.int .i64 (j : Nat)), Pst.val (.int .i64 ((j : Int) - 1)), Pst.val (.pointer (some ⟨b, off + (j - 1), none⟩)), Pst.val (.int .i64 z0), Pst.val (.int .i64 (z1 - z0)), Pst.val (.slice A0 n0 c0), Pst.val (.int .i64 (n0 : Nat)), Pst.val (.slice (some ⟨b, off, none⟩) n5 c2), Pst.val (.int .i64 (n5 : Nat)), Pst.val (.int .i64 (st : Nat)), Pst.val (.bool false), Pst.val (.bool false)]
def LsR (W : World) (B m : Nat) (S : List Int) (s70 : Value) (wr : World) : Prop := ∃ j : Nat, j ≤ m ∧ s70 = .int .i64 (j : Int) ∧ MapI wr B j (S.take j) ∧ Below W.heap.size W wr
def LsT (W : World) (n : Nat) (s97 : Value) (wr : World) : Prop := ∃ j : Nat, j ≤ n ∧ s97 = .int .i64 (j : Int) ∧ Below W.heap.size W wr
set_option maxRecDepth 100000 in
set_option maxHeartbeats 8000000 in
theorem ringLeast_true (A0 : Option Addr) (n0 c0 : Nat) (k : Int) (ws : List (List UInt8)) (w : World) (h0 : ArgW w A0 n0 c0 ws) :
    Calls Try.prog 3 #[.slice A0 n0 c0, .int .i64 k] w fun e w' => e = .returned (.bool true) ∧ Below w.heap.size w w' := by
  have hmm := @run_makeMap Try.prog
  have H0 := Lib.hid h0
  have HG0 := Lib.hid (great_any A0 c0 n0 ws w h0.rd h0.len h0.le)
  clear h0
  obtain ⟨g0, hg0⟩ : ∃ g, greatW ws = g := ⟨_, rfl⟩
  rw [hg0] at HG0
  have g0h := Lib.hid hg0
  clear hg0
  go_enter Try.func3, Try.ntmps3
  go_wp2_with fail
  refine HG0.out.mono ?_
  rintro e _ ⟨rfl, rfl⟩
  cases g0 with
  | true =>
    go_wp2_with fail
    refine (awake_true _).mono ?_
    rintro e w1 ⟨rfl, hb⟩
    go_wp2
    go_ret
    exact ⟨rfl, hb⟩
  | false =>
    have G0 := Lib.hid (greatW_false g0h.out)
    rcases Nat.eq_zero_or_pos n0 with hz | hz
    · subst hz
      go_wp2_with fail
      refine (least_zero A0 c0 w).mono ?_
      rintro e w1 ⟨rfl, hb1⟩
      have HB := Lib.hid hb1
      clear hb1
      go_wp2_with fail
      refine (awake_true _).mono ?_
      rintro e w2 ⟨rfl, hb⟩
      go_wp2
      go_ret
      exact ⟨rfl, HB.out.trans (hb.mono HB.out.size)⟩
    · have hn1 : n0 ≤ 60 := by have := G0.out.1; have := H0.out.len; omega
      have SZ := Lib.hid (show ∀ l ∈ ws, l.length ≤ 1000 from fun l hl => by have := G0.out.2 l hl; omega)
      go_wp2_with fail
      refine (least_any A0 n0 c0 ws w H0.out.rd H0.out.len hz (by omega) H0.out.cap SZ.out).mono ?_
      rintro e w1 ⟨A2, n2, c2, v2, p, rfl, hp, hm, hn2, hi2, hr2, hb1⟩
      obtain ⟨A3, c3, rfl, hc3, hd3⟩ := hr2.rdc
      have H1 := Lib.hid (H0.out.keep hb1)
      have HP := Lib.hid hp; have HM := Lib.hid hm; have HN2 := Lib.hid hn2; have HI := Lib.hid hi2; have HD := Lib.hid hd3; have HB := Lib.hid hb1
      clear hp hm hn2 hi2 hr2 hb1 hc3 hd3 H0
      have hz0 : ((n0 : Int) == 0) = false := by rw [beq_eq_false_iff_ne]; omega
      go_wp2_with fail
      refine (turn_any A0 c0 n0 k ws w1 H1.out.rd H1.out.len (by omega) H1.out.cap SZ.out).mono ?_
      rintro e w2 ⟨v4, rfl, hr4, hb2⟩
      obtain ⟨A4, c4, rfl, hc4, hd4⟩ := hr4.rdc
      have hkl := turnK_lt hz k
      have TK := Lib.hid (show turnK n0 k < ws.length by rw [← H1.out.len]; exact hkl)
      have H2 := Lib.hid (H1.out.keep hb2)
      have HI2 := Lib.hid (HI.out.below hb2); have HD2 := Lib.hid (HD.out.below hb2); have HB2 := Lib.hid (HB.out.trans (hb2.mono HB.out.size))
      have HC4 := Lib.hid hc4; have HD4 := Lib.hid hd4
      clear hr4 hb2 hc4 hd4 hkl H1 HI HD HB
      generalize hkk : turnK n0 k = kk at TK HC4 HD4
      have HKK := Lib.hid hkk
      clear hkk
      go_wp2_with fail
      refine (least_any A4 _ c4 (turnW ws kk) w2 HD4.out rfl (by rw [length_turnW]; have := H2.out.len; omega) (by rw [length_turnW]; have := H2.out.len; omega) HC4.out (turn_sizes SZ.out)).mono ?_
      rintro e w3 ⟨A5, n5, c5, v6, q, rfl, hq, hm2, hn5, hi5, hr6, hb3⟩
      obtain ⟨A6, c6, rfl, hc6, hd6⟩ := hr6.rdc
      obtain ⟨hsame, m, st, hplc, hlen⟩ := least_two TK.out HP.out (by rw [length_turnW] at hq; exact hq) HM.out (by rw [length_turnW] at hm2; exact hm2)
      rw [hlen] at hn5
      rw [hsame] at hd6 ⊢
      have hn2 := HN2.out
      rw [hplc.len] at hn2
      subst hn2 hn5
      have H3 := Lib.hid (H2.out.keep hb3)
      have HI3 := Lib.hid (HI2.out.below hb3); have HD3 := Lib.hid (HD2.out.below hb3); have HB3 := Lib.hid (HB2.out.trans (hb3.mono HB2.out.size))
      have HD6 := Lib.hid hd6; have HPL := Lib.hid hplc
      have hm0 : 0 < n5 := hplc.pos
      have hst : 0 < st := hplc.spos
      have hall : n5 * st = n0 := by rw [hplc.all]; exact H3.out.len.symm
      clear hq hm2 hi5 hr6 hb3 hc6 hd6 hsame hlen hplc H2 HI2 HD2 HB2 HD4 HC4 HN2
      go_wp2_with fail
      refine (same_any A3 A6 c3 c6 _ _ (turnW ws p) (turnW ws p) w3 HD3.out HD6.out rfl rfl (by rw [length_turnW]; have := H3.out.len; omega)).mono ?_
      rintro e w4 ⟨rfl, hb4⟩
      rw [beq_self_eq_true]
      have H4 := Lib.hid (H3.out.keep hb4)
      have HI4 := Lib.hid (HI3.out.below hb4); have HD4 := Lib.hid (HD3.out.below hb4); have HB4 := Lib.hid (HB3.out.trans (hb4.mono HB3.out.size))
      clear hb4 H3 HI3 HD3 HB3 HD6
      obtain ⟨b, off, hA, hC⟩ := HI4.out.head
      obtain ⟨hA2, hbl⟩ := hA (by rw [length_cellsI, HPL.out.len]; exact hm0)
      subst hA2
      clear hA
      clear HI4
      have HC := Lib.hid (fun (V : World) (hV : Below w4.heap.size w4 V) (i : Nat) (y : Int) (hy : (placesW ws p)[i]? = some y) => (show V.cell? ⟨b, off + i, none⟩ = some (.int .i64 y) from ((below_cells hV).1 _ _ hbl).trans (hC i _ (cellsI_at hy))))
      clear hC
      have hmod : (n0 : Int) % (n5 : Int) = 0 := by rw [← hall]; simp
      have hm1 : ((n5 : Int) == 0) = false := by rw [beq_eq_false_iff_ne]; omega
      have hdv : (n0 : Int) / (n5 : Int) = (st : Int) := by rw [← hall, Int.natCast_mul]; exact Int.mul_ediv_cancel_left _ (by omega)
      have hn5 : n5 ≤ 60 := Nat.le_trans (Nat.le_mul_of_pos_right n5 hst) (by omega)
      have HST := Lib.hid (show st ≤ 60 from Nat.le_trans (Nat.le_mul_of_pos_left st hm0) (by omega))
      have HALL := Lib.hid hall
      clear hall
      go_wp2_with fail
      clear hmod
      go_loopw [10, 11, 70] (fun _ _ i wr => LsR w4 w4.heap.size n5 (placesW ws p) i wr) (fun _ _ i _ => n5 - (intOf i).toNat)
      case atStart => exact ⟨0, Nat.zero_le _, rfl, MapI.made w4, (Below.refl _ w4).alloc (Nat.le_refl _) _⟩
      case round =>
        obtain ⟨j, hj, rfl, hM, hBw⟩ := hrel
        have HBw := Lib.hid hBw
        clear hBw
        by_cases hlt : j < n5
        · have hge := HALL.out
          rcases Nat.eq_zero_or_pos j with h0 | h0
          · have hd : decide (0 < j) = false := by rw [decide_eq_false_iff_not]; omega
            obtain ⟨z1, hat, hz2, hz3⟩ := plc_at HPL.out hlt (by rw [hge]; exact hn1)
            have hwf : (Lit.int .i64 z1).wf = true := WalkArith.wf_i64 (by omega)
            have hc := HC.out wr HBw.out j _ hat
            have HT := Lib.hid (show (placesW ws p).take (j + 1) = (placesW ws p).take j ++ [z1] by rw [List.take_add_one, hat]; rfl)
            clear hat h0 hge
            go_wp2_with (at_mapUpdate; refine wpList_put_one Try.underlying30 rfl _ _ _ rfl rfl hM (by omega) _ rfl rfl hwf ?_; intro w5 hM5 hg5)
            have HB5 := Lib.hid (HBw.out.trans (grown_below hg5 (Nat.le_refl _) HBw.out.size))
            clear hc
            refine region_posts (by kernel_rfl) (tblL0 j) (by kernel_rfl) ?_ ?_
            · skip
              refine .yes rfl (fun a W Q hB hO hD => ?_) ?_
              · have e10 : a.tmps.getD 10 undef = .int .i64 (j : Nat) := hO.slot 10 _ rfl rfl
                clear hO hD
                go_wp2
                exact ⟨_, rfl, Below.refl _ _, rfl⟩
              refine .yes rfl (fun a W Q hB hO hD => ?_) ?_
              · have e77 : a.tmps.getD 77 undef = .int .i64 (j : Nat) := hD 0 rfl
                clear hO hD
                go_wp2
                exact ⟨_, rfl, Below.refl _ _, rfl⟩
              refine .yes rfl (fun a W Q hB hO hD => ?_) ?_
              · have e78 : a.tmps.getD 78 undef = .bool false := hD 1 rfl
                clear hO hD
                go_wp2
                exact ⟨_, rfl, Below.refl _ _, rfl⟩
              refine .no rfl (fun W => trivial) ?_
              refine .no rfl (fun W => trivial) ?_
              refine .no rfl (fun W => trivial) ?_
              refine .no rfl (fun W => trivial) ?_
              refine .no rfl (fun W => trivial) ?_
              refine .no rfl (fun W => trivial) ?_
              refine .no rfl (fun W => trivial) ?_
              refine .no rfl (fun W => trivial) ?_
              refine .no rfl (fun W => trivial) ?_
              refine .no rfl (fun W => trivial) ?_
              refine .no rfl (fun W => trivial) ?_
              refine .no rfl (fun W => trivial) ?_
              refine .no rfl (fun W => trivial) ?_
              refine .yes rfl (fun a W Q hB hO hD => ?_) ?_
              · have e79 : a.tmps.getD 79 undef = .bool false := hD 2 rfl
                clear hO hD
                go_wp2
                exact ⟨_, rfl, Below.refl _ _, rfl⟩
              exact .nil
            · intro f V hBz hR
              have e93 : f 16 = .bool false := hR 16 (by decide)
              clear hR
              simp only [putAll, Nat.zero_add, Nat.reduceAdd, Act.put, List.setIfInBounds_toArray, List.set_cons_zero, List.set_cons_succ, e93]
              go_wp2
              go_roundw
              case rel => exact ⟨j + 1, by omega, by go_num, by rw [HT.out]; exact hM5.below hBz, HB5.out.trans (hBz.mono HB5.out.size)⟩
              case measure => simp [intOf]; omega
          · have hd : decide ((0 : Int) < (j : Int)) = true := by rw [decide_eq_true_eq]; omega
            obtain ⟨z0, z1, hat0, hat, hz0, hz1, hz2, hz3, hq⟩ := plc_gap HPL.out hlt h0 (by rw [hge]; exact hn1)
            have hwf : (Lit.int .i64 z1).wf = true := WalkArith.wf_i64 (by omega)
            have hc := HC.out wr HBw.out j _ hat
            have HT := Lib.hid (show (placesW ws p).take (j + 1) = (placesW ws p).take j ++ [z1] by rw [List.take_add_one, hat]; rfl)
            clear hat hge
            have H0' := Lib.hid hat0; have HQ := Lib.hid hq; have HD := Lib.hid hd
            clear hat0 hq hd
            go_wp2_with (at_mapUpdate; refine wpList_put_one Try.underlying30 rfl _ _ _ rfl rfl hM (by omega) _ rfl rfl hwf ?_; intro w5 hM5 hg5)
            have HB5 := Lib.hid (HBw.out.trans (grown_below hg5 (Nat.le_refl _) HBw.out.size))
            clear hc
            refine region_posts (by kernel_rfl) (tblL1 A0 n0 c0 b off n5 c2 j st z0 z1) (by kernel_rfl) ?_ ?_
            · skip
              refine .yes rfl (fun a W Q hB hO hD => ?_) ?_
              · have e10 : a.tmps.getD 10 undef = .int .i64 (j : Nat) := hO.slot 10 _ rfl rfl
                clear hO hD
                go_wp2
                exact ⟨_, rfl, Below.refl _ _, rfl⟩
              refine .yes rfl (fun a W Q hB hO hD => ?_) ?_
              · have e77 : a.tmps.getD 77 undef = .int .i64 (j : Nat) := hD 0 rfl
                clear hO hD
                have hd := HD.out
                go_wp2
                exact ⟨_, rfl, Below.refl _ _, rfl⟩
              refine .yes rfl (fun a W Q hB hO hD => ?_) ?_
              · have e78 : a.tmps.getD 78 undef = .bool true := hD 1 rfl
                clear hO hD
                go_wp2
                exact ⟨_, rfl, Below.refl _ _, rfl⟩
              refine .yes rfl (fun a W Q hB hO hD => ?_) ?_
              · have e11 : a.tmps.getD 11 undef = .int .i64 z1 := hO.slot 11 _ rfl rfl
                clear hO hD
                go_wp2
                exact ⟨_, rfl, Below.refl _ _, rfl⟩
              refine .yes rfl (fun a W Q hB hO hD => ?_) ?_
              · have e5 : a.tmps.getD 5 undef = .slice (some ⟨b, off, none⟩) n5 c2 := hO.slot 5 _ rfl rfl
                clear hO hD
                go_wp2
                exact ⟨_, rfl, Below.refl _ _, rfl⟩
              refine .yes rfl (fun a W Q hB hO hD => ?_) ?_
              · have e10 : a.tmps.getD 10 undef = .int .i64 (j : Nat) := hO.slot 10 _ rfl rfl
                clear hO hD
                go_wp2
                exact ⟨_, rfl, Below.refl _ _, rfl⟩
              refine .yes rfl (fun a W Q hB hO hD => ?_) ?_
              · have e82 : a.tmps.getD 82 undef = .int .i64 (j : Nat) := hD 5 rfl
                clear hO hD
                go_wp2
                exact ⟨_, rfl, Below.refl _ _, rfl⟩
              refine .yes rfl (fun a W Q hB hO hD => ?_) ?_
              · have e81 : a.tmps.getD 81 undef = .slice (some ⟨b, off, none⟩) n5 c2 := hD 4 rfl
                have e83 : a.tmps.getD 83 undef = .int .i64 ((j : Int) - 1) := hD 6 rfl
                clear hO hD
                have cw2 : ((j : Int) - 1).toNat = j - 1 := by omega
                go_wp2
                exact ⟨_, rfl, Below.refl _ _, rfl⟩
              refine .yes rfl (fun a W Q hB hO hD => ?_) ?_
              · have e84 : a.tmps.getD 84 undef = .pointer (some ⟨b, off + (j - 1), none⟩) := hD 7 rfl
                clear hO hD
                have hc5 : W.cell? ⟨b, off + (j - 1), none⟩ = some (.int .i64 z0) := HC.out W (HB5.out.trans (hB.mono HB5.out.size)) _ _ H0'.out
                go_wp2
                exact ⟨_, rfl, Below.refl _ _, rfl⟩
              refine .yes rfl (fun a W Q hB hO hD => ?_) ?_
              · have e80 : a.tmps.getD 80 undef = .int .i64 z1 := hD 3 rfl
                have e85 : a.tmps.getD 85 undef = .int .i64 z0 := hD 8 rfl
                clear hO hD
                go_wp2
                exact ⟨_, rfl, Below.refl _ _, rfl⟩
              refine .yes rfl (fun a W Q hB hO hD => ?_) ?_
              · have e0 : a.tmps.getD 0 undef = .slice A0 n0 c0 := hO.slot 0 _ rfl rfl
                clear hO hD
                go_wp2
                exact ⟨_, rfl, Below.refl _ _, rfl⟩
              refine .yes rfl (fun a W Q hB hO hD => ?_) ?_
              · have e87 : a.tmps.getD 87 undef = .slice A0 n0 c0 := hD 10 rfl
                clear hO hD
                go_wp2
                exact ⟨_, rfl, Below.refl _ _, rfl⟩
              refine .yes rfl (fun a W Q hB hO hD => ?_) ?_
              · have e5 : a.tmps.getD 5 undef = .slice (some ⟨b, off, none⟩) n5 c2 := hO.slot 5 _ rfl rfl
                clear hO hD
                go_wp2
                exact ⟨_, rfl, Below.refl _ _, rfl⟩
              refine .yes rfl (fun a W Q hB hO hD => ?_) ?_
              · have e89 : a.tmps.getD 89 undef = .slice (some ⟨b, off, none⟩) n5 c2 := hD 12 rfl
                clear hO hD
                go_wp2
                exact ⟨_, rfl, Below.refl _ _, rfl⟩
              refine .yes rfl (fun a W Q hB hO hD => ?_) ?_
              · have e88 : a.tmps.getD 88 undef = .int .i64 (n0 : Nat) := hD 11 rfl
                have e90 : a.tmps.getD 90 undef = .int .i64 (n5 : Nat) := hD 13 rfl
                clear hO hD
                have hst := HST.out
                go_wp2
                exact ⟨_, rfl, Below.refl _ _, rfl⟩
              refine .yes rfl (fun a W Q hB hO hD => ?_) ?_
              · have e86 : a.tmps.getD 86 undef = .int .i64 (z1 - z0) := hD 9 rfl
                have e91 : a.tmps.getD 91 undef = .int .i64 (st : Nat) := hD 14 rfl
                clear hO hD
                have hq := HQ.out
                go_wp2
                exact ⟨_, rfl, Below.refl _ _, rfl⟩
              refine .yes rfl (fun a W Q hB hO hD => ?_) ?_
              · have e79 : a.tmps.getD 79 undef = .bool true := hD 2 rfl
                have e92 : a.tmps.getD 92 undef = .bool false := hD 15 rfl
                clear hO hD
                go_wp2
                exact ⟨_, rfl, Below.refl _ _, rfl⟩
              exact .nil
            · intro f V hBz hR
              have e93 : f 16 = .bool false := hR 16 (by decide)
              clear hR
              simp only [putAll, Nat.zero_add, Nat.reduceAdd, Act.put, List.setIfInBounds_toArray, List.set_cons_zero, List.set_cons_succ, e93]
              go_wp2
              go_roundw
              case rel => exact ⟨j + 1, by omega, by go_num, by rw [HT.out]; exact hM5.below hBz, HB5.out.trans (hBz.mono HB5.out.size)⟩
              case measure => simp [intOf]; omega
        · obtain rfl : n5 = j := by omega
          rw [List.take_of_length_le (by rw [HPL.out.len]; omega)] at hM
          have HM5 := Lib.hid hM
          have H5 := Lib.hid (H4.out.keep HBw.out); have HD5 := Lib.hid (HD4.out.below HBw.out); have HB5 := Lib.hid (HB4.out.trans (HBw.out.mono HB4.out.size))
          clear hM HBw H4 HD4 HB4 HC hlt
          go_wp2_with fail
          go_loopw [12, 13, 97] (fun _ _ i wt => LsT wr n0 i wt) (fun _ _ i _ => n0 - (intOf i).toNat)
          case atStart => exact ⟨0, Nat.zero_le _, rfl, Below.refl _ wr⟩
          case round =>
            obtain ⟨t, ht, rfl, hBt⟩ := hrel
            have HBt := Lib.hid hBt
            clear hBt
            by_cases hlt : t < n0
            · have hx := place_or (ws := ws) (p := p) (j := t) (by have := H5.out.len; omega) (HM.out t (by have := H5.out.len; omega))
              have HR := Lib.hid (H5.out.keep HBt.out)
              have HX := Lib.hid hx
              clear hx
              go_wp2_with fail
              refine (turn_any A0 c0 n0 (t : Int) ws _ HR.out.rd HR.out.len (by omega) HR.out.cap SZ.out).mono ?_
              rintro e w6 ⟨v7, rfl, hr7, hb7⟩
              rw [turnK_nat hlt] at hr7
              obtain ⟨A7, c7, rfl, hc7, hd7⟩ := hr7.rdc
              have HD7 := Lib.hid hd7; have HB7 := Lib.hid (HBt.out.trans (hb7.mono HBt.out.size))
              clear hr7 hc7 hd7 hb7 HBt HR
              have HK := Lib.hid (HD5.out.below HB7.out)
              go_wp2_with fail
              refine (compare_any A7 A3 c7 c3 _ _ (turnW ws t) (turnW ws p) w6 HD7.out HK.out rfl rfl (by rw [length_turnW]; have := H5.out.len; omega)).mono ?_
              rintro e _ ⟨rfl, rfl⟩
              have hM6 := HM5.out.below HB7.out
              have hlook := hM6.look Try.underlying30 (t : Int) (WalkArith.wf_i64 (by omega))
              have HM6 := Lib.hid hM6
              clear hM6
              rcases HX.out with ⟨h1, h2⟩ | ⟨h1, h2⟩
              · rw [h2] at hlook
                rw [h1]
                clear h1 h2
                go_wp2
                go_roundw
                case rel => exact ⟨t + 1, by omega, by go_num, HB7.out⟩
                case measure => simp [intOf]; omega
              · rw [h2] at hlook
                generalize cmpW (turnW ws t) (turnW ws p) = x at h1
                have hx1 : (x == 0) = false := by rw [beq_eq_false_iff_ne]; omega
                have hx2 : decide (x < 0) = false := by rw [decide_eq_false_iff_not]; omega
                clear h2 h1
                go_wp2
                go_roundw
                case rel => exact ⟨t + 1, by omega, by go_num, HB7.out⟩
                case measure => simp [intOf]; omega
            · go_wp2_with fail
              refine (awake_true _).mono ?_
              rintro e w6 ⟨rfl, hb⟩
              go_wp2
              go_ret
              exact ⟨rfl, HB5.out.trans ((HBt.out.trans (hb.mono HBt.out.size)).mono HB5.out.size)⟩
end Go.Proofs.Ytmfeponanjgapaa
