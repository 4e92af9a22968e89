/- Walk: fretworklaw03.PermCycles. -/
import Derived.Test.YtccaagildkgfeaaJe
import Derived.Test.YtccaagildkgfeaaPf
namespace Go.Proofs.Ytccaagildkgfeaa
open Go.RowKit

def tblPC (bc : Nat) (offc : Nat) (Lx : Nat) (kc : Nat) (bp : Nat) (offp : Nat) (n : Nat) (c : Nat) (mb : Nat) (t : Nat) (x : Nat) (j : Nat) (u : Nat) (mm : Nat) : List Pst := [Pst.val (.int .i64 (t : Nat)), Pst.val (.slice (some ⟨bc, offc, none⟩) Lx kc), Pst.val (.pointer (some ⟨bc, offc, none⟩)), Pst.val (.int .i64 (x : Nat)), Pst.val (.bool false), Pst.val (.bool false), Pst.val (.int .i64 (t : Nat)), Pst.val (.slice (some ⟨bp, offp, none⟩) n c), Pst.val (.int .i64 (n : Nat)), Pst.val (.bool false), Pst.val (.bool false), Pst.val (.bool false), Pst.val (.map (some mb)), Pst.val (.int .i64 (t : Nat)), Pst.val (.int .i64 0), Pst.val (.bool false), Pst.val (.bool false), Pst.val (.bool false), Pst.val (.slice (some ⟨bp, offp, none⟩) n c), Pst.val (.int .i64 (t : Nat)), Pst.val (.pointer (some ⟨bp, offp + t, none⟩)), Pst.val (.int .i64 (u : Nat)), Pst.val (.slice (some ⟨bc, offc, none⟩) Lx kc), Pst.val (.int .i64 (j : Nat)), Pst.val (.int .i64 ((j : Int) + 1)), Pst.val (.slice (some ⟨bc, offc, none⟩) Lx kc), Pst.val (.int .i64 (Lx : Nat)), Pst.val (.int .i64 (mm : Nat)), Pst.val (.pointer (some ⟨bc, offc + mm, none⟩)), Pst.val (.int .i64 (u : Nat)), Pst.val (.bool false), Pst.val (.bool false)]
set_option maxRecDepth 100000 in
set_option maxHeartbeats 8000000 in
theorem permCycles_true (A : Option Addr) (n c : Nat) (p : List Int) (w : World) (hp : ArgI w A n c p) :
    Calls Try.prog 3 #[.slice A n c] w fun e w' => e = .returned (.bool true) ∧ Below w.heap.size w w' := by
  have HP := Lib.hid hp
  have hn0 := hp.le
  clear hp
  go_enter Try.func3, Try.ntmps3
  have hb := Lib.hid (Below.refl w.heap.size w)
  go_wp2_with fail
  refine (right_any A n c p _ HP.out).mono ?_
  rintro e w1 ⟨rfl, hbk⟩
  have HP' := Lib.hid (HP.out.keep hbk)
  have hb' := Lib.hid (below_chain hb.out hbk)
  clear hb hbk HP
  have hb := hb'; clear hb'
  have HP := HP'; clear HP'
  cases hr : rightP p with
  | false =>
    have k2 := Lib.hid hr; clear hr
    go_wp2_with fail
    refine (awakeP_true _).mono ?_
    rintro e w2 ⟨rfl, hbk⟩
    have hb' := Lib.hid (below_chain hb.out hbk)
    go_wp2
    go_ret
    exact ⟨rfl, hb'.out⟩
  | true =>
    have Rp := Lib.hid hr; clear hr
    have L1 := Lib.hid HP.out.len
    have hn2 : n ≤ 200 := by have := right_le Rp.out; have := L1.out; omega
    obtain ⟨N, hN⟩ : ∃ N, ordK p p.length = N := ⟨_, rfl⟩
    have hNb := ordK_bound Rp.out (Nat.le_refl _)
    rw [hN] at hNb
    have HNN := Lib.hid hN
    clear hN
    obtain ⟨hN0, hN9⟩ := hNb
    have hN1 : decide ((N : Int) < 1) = false := by rw [decide_eq_false_iff_not]; omega
    obtain ⟨cs, hcs⟩ : ∃ cs, cycs p p.length = cs := ⟨_, rfl⟩
    obtain ⟨K, hKK⟩ : ∃ K, cs.length = K := ⟨_, rfl⟩
    have HCS := Lib.hid hcs; have HKK := Lib.hid hKK
    have hK : K ≤ n := by have := cycs_le (p := p); rw [hcs, hKK] at this; have := L1.out; omega
    clear hcs hKK
    go_wp2_with fail
    refine (cyclesP_any A n c p _ HP.out).mono ?_
    intro e w2 he
    rw [show cycO p = some cs from by unfold cycO; rw [if_pos Rp.out, HCS.out]] at he
    obtain ⟨g2, c2, rfl, hr2, ha2, hbk⟩ := he.some (by rw [HKK.out]; omega) (fun c hc => by rw [← HCS.out] at hc; obtain ⟨x, hx, rfl⟩ := List.mem_map.1 hc; rw [length_cyc]; have h := (ord1_spec Rp.out (List.mem_range.1 (List.mem_filter.1 hx).1)).2.1; have := L1.out; omega)
    clear hr2
    rw [HKK.out] at ha2 ⊢
    have HP' := Lib.hid (HP.out.keep hbk)
    have hb' := Lib.hid (below_chain hb.out hbk)
    clear hb hbk HP
    have hb := hb'; clear hb'
    have HP := HP'; clear HP'
    have h2 := Lib.hid ha2; clear ha2
    go_wp2_with fail
    refine (order_any A n c p _ HP.out).mono ?_
    intro e w3 he
    rw [show ordO p = some N from by unfold ordO; rw [if_pos Rp.out, HNN.out]] at he
    obtain ⟨rfl, hbk⟩ := he
    have HP' := Lib.hid (HP.out.keep hbk)
    have h2' := Lib.hid (h2.out.keep hbk)
    have hb' := Lib.hid (below_chain hb.out hbk)
    clear hb hbk HP h2
    have hb := hb'; clear hb'
    have HP := HP'; clear HP'
    have h2 := h2'; clear h2'
    have HM0 := Lib.hid (MapI.made w3)
    have HBm := Lib.hid (alloc_below w3 (.map #[] 0))
    have hmm := @run_makeMap Try.prog
    go_wp2_with fail
    go_loopw [2, 8, 9, 11, 12, 13, 14, 40] (fun _ s8 s9 _ _ _ _ i wr => ∃ (a v : Nat) (y : Int), a ≤ K ∧ i = .int .i64 (a : Int) ∧ s8 = .int .i64 y ∧ s9 = .int .i64 (v : Int) ∧ Hid (∀ x, leastB p x = true → a ≤ (cycs p x).length → y < (x : Int)) ∧ Hid (v = lcmL ((cs.take a).map List.length)) ∧ Hid (MapI wr w3.heap.size (cs.take a).flatten.length (cs.take a).flatten) ∧ Hid (Below w3.heap.size w3 wr)) (fun _ _ _ _ _ _ _ i _ => K - (intOf i).toNat)
    case atStart => exact ⟨0, 1, -1, Nat.zero_le _, rfl, rfl, rfl, Lib.hid (fun x _ _ => by omega), Lib.hid rfl, HM0, HBm⟩
    case round =>
      obtain ⟨a, v, y, ha, rfl, rfl, rfl, HY, HV, HM, HB⟩ := hrel
      by_cases hlt : a < K
      · obtain ⟨x, hxl, hxb, hxa, hxt, hxt2⟩ := cycs_nth p.length a (by rw [HCS.out, HKK.out]; exact hlt)
        rw [HCS.out] at hxa hxt hxt2
        have hxy : y < (x : Int) := HY.out x hxb (by rw [← hxt, List.length_take, HKK.out]; omega)
        have hxy2 : decide ((x : Int) ≤ y) = false := by rw [decide_eq_false_iff_not]; omega
        obtain ⟨b1, off1, e1, hb1, hrow0⟩ := h2.out.at (by omega)
        injection e1 with e1
        injection e1 with e1 e2
        subst e1 e2
        obtain ⟨C, kc, hrow⟩ := hrow0 a _ hxa
        clear hrow0
        obtain ⟨wo, hwo⟩ : ∃ V, V = wr := ⟨_, rfl⟩
        subst hwo
        obtain ⟨q0, _⟩ := hrow wo HB.out
        obtain ⟨_, q1⟩ := hrow w3 (Below.refl _ _)
        have hL := ord1_spec Rp.out hxl
        have hL0 := ord1_pos p x
        rw [length_cyc] at q0 q1
        rw [Nat.zero_add] at q0
        obtain ⟨bc, offc, rfl, hbc, hcc⟩ := rd_int q1.rd (by rw [length_cyc]; exact hL0)
        have q2 := hcc wo HB.out 0 _ (cyc_at hL0)
        have HCC := Lib.hid hcc
        have hbw : g2 < wo.heap.size := Nat.lt_of_lt_of_le hb1 HB.out.size
        have HXT := Lib.hid hxt; have HXT2 := Lib.hid hxt2; have HXB := Lib.hid hxb
        have hLn : ord1 p x ≤ 200 := by have := hL.2.1; have := L1.out; omega
        have HXL := Lib.hid hxl
        have HS0 := Lib.hid (show MapI wo w3.heap.size ((cycs p x).flatten.length + 0) ((cycs p x).flatten ++ (cyc p x).take 0) from by rw [← HXT.out, List.take_zero, List.append_nil]; exact HM.out)
        obtain ⟨Lx, hLx⟩ : ∃ L, ord1 p x = L := ⟨_, rfl⟩
        have HLx := Lib.hid hLx
        rw [hLx] at q0 q1 hL0 hLn
        have hLz : ((Lx : Int) == 0) = false := by rw [beq_eq_false_iff_ne]; omega
        have HFL := Lib.hid (show (cycs p x).flatten.length ≤ 200 from by have h := flat_le Rp.out (j := x) (by omega); rw [List.length_flatten]; exact Nat.le_trans h (right_le Rp.out))
        have q2' : wo.cell? ⟨bc, offc, none⟩ = some (.int .i64 (x : Int)) := q2
        clear hcc hxa hxt hxt2 hxb hxl hL hLx hrow q1 hxy q2 HM HY
        go_wp2_with fail
        go_loopw [2, 12, 13, 59] (fun _ _ _ i V => ∃ j : Nat, j ≤ Lx ∧ i = .int .i64 (j : Int) ∧ Hid (MapI V w3.heap.size ((cycs p x).flatten.length + j) ((cycs p x).flatten ++ (cyc p x).take j)) ∧ Hid (Below w3.heap.size w3 V)) (fun _ _ _ i _ => Lx - (intOf i).toNat)
        case atStart => exact ⟨0, Nat.zero_le _, rfl, HS0, HB⟩
        case round =>
          obtain ⟨j, hj, rfl, hM, hB2⟩ := hrel
          have HB2 := Lib.hid hB2.out
          by_cases hlj : j < Lx
          · obtain ⟨t, ht⟩ : ∃ t, it p j x = t := ⟨_, rfl⟩
            have hty := it_lt Rp.out HXL.out j
            rw [ht] at hty
            have HTL := Lib.hid hty
            have htn : t < n := by have := L1.out; omega
            have htx : x ≤ t := by rw [← ht]; exact (least_iff Rp.out HXL.out).1 HXB.out j
            have hcj := HCC.out wr HB2.out j _ (cyc_at (by rw [HLx.out]; exact hlj))
            rw [ht] at hcj
            have hnm := met_way Rp.out HXL.out HXB.out (show j < ord1 p x by rw [HLx.out]; exact hlj)
            rw [ht] at hnm
            have hlook := hM.out.look Try.underlying31 (t : Int) (WalkArith.wf_i64 (by omega))
            rw [hnm] at hlook
            have hp2 := rd_int HP.out.rd (by omega)
            obtain ⟨bp, offp, rfl, hbp, hcp⟩ := hp2
            have CP := Lib.hid (fun V (hV : Below wr.heap.size wr V) => hcp V (HB2.out.trans (hV.mono HB2.out.size)) t _ (at0_eq Rp.out HTL.out))
            have CX := Lib.hid (fun V (hV : Below wr.heap.size wr V) => HCC.out V (HB2.out.trans (hV.mono HB2.out.size)) 0 _ (cyc_at (ord1_pos p x)))
            have hmod : it p ((j + 1) % Lx) x = at0 p t := by rw [← HLx.out, ← it_mod Rp.out HXL.out, ← ht]; rfl
            obtain ⟨mm, hmm2⟩ : ∃ m, (j + 1) % Lx = m := ⟨_, rfl⟩
            have hml : mm < Lx := by rw [← hmm2]; exact Nat.mod_lt _ hL0
            have CM := Lib.hid (fun V (hV : Below wr.heap.size wr V) => HCC.out V (HB2.out.trans (hV.mono HB2.out.size)) mm _ (cyc_at (by rw [HLx.out]; exact hml)))
            have HMM := Lib.hid (show ((j : Int) + 1).tmod (Lx : Int) = (mm : Int) by rw [← hmm2, Int.tmod_eq_emod_of_nonneg (by omega)]; simp)
            rw [hmm2] at hmod
            rw [hmod] at CM
            obtain ⟨u, hu⟩ : ∃ u, at0 p t = u := ⟨_, rfl⟩
            rw [hu] at CM CP
            have HLK := Lib.hid (fun V (hV : Below wr.heap.size wr V) => (hM.out.below hV).look Try.underlying31 (t : Int) (WalkArith.wf_i64 (by omega)))
            rw [hnm] at HLK
            have HD1 := Lib.hid (show decide (t < x) = false by rw [decide_eq_false_iff_not]; omega)
            have HD2 := Lib.hid (show decide (n ≤ t) = false by rw [decide_eq_false_iff_not]; omega)
            have HLZ := Lib.hid hLz
            have HTX := Lib.hid (show (cycs p x).flatten ++ (cyc p x).take j ++ [(t : Int)] = (cycs p x).flatten ++ (cyc p x).take (j + 1) by rw [List.append_assoc, List.take_add_one, cyc_at (by rw [HLx.out]; exact hlj), ht]; rfl)
            have hwf : (Lit.int .i64 (t : Int)).wf = true := WalkArith.wf_i64 (by omega)
            clear hcp hnm ht hmm2 hmod hu
            go_wp2
            refine region_posts (by kernel_rfl) (tblPC bc offc Lx kc bp offp n c w3.heap.size t x j u mm) (by kernel_rfl) ?_ ?_
            · skip
              refine .yes rfl (fun a W Q hB hO hD => ?_) ?_
              · have e13 : a.tmps.getD 13 undef = .int .i64 (t : Nat) := hO.slot 13 _ rfl rfl
                clear hO hD
                go_wp2
                exact ⟨_, rfl, Below.refl _ _, rfl⟩
              refine .yes rfl (fun a W Q hB hO hD => ?_) ?_
              · have e11 : a.tmps.getD 11 undef = .slice (some ⟨bc, offc, none⟩) Lx kc := hO.slot 11 _ rfl rfl
                clear hO hD
                go_wp2
                exact ⟨_, rfl, Below.refl _ _, rfl⟩
              refine .yes rfl (fun a W Q hB hO hD => ?_) ?_
              · have e65 : a.tmps.getD 65 undef = .slice (some ⟨bc, offc, none⟩) Lx kc := hD 1 rfl
                clear hO hD
                go_wp2
                exact ⟨_, rfl, Below.refl _ _, rfl⟩
              refine .yes rfl (fun a W Q hB hO hD => ?_) ?_
              · have e66 : a.tmps.getD 66 undef = .pointer (some ⟨bc, offc, none⟩) := hD 2 rfl
                clear hO hD
                have hc : W.cell? ⟨bc, offc, none⟩ = some (.int .i64 (x : Int)) := CX.out W hB
                go_wp2
                exact ⟨_, rfl, Below.refl _ _, rfl⟩
              refine .yes rfl (fun a W Q hB hO hD => ?_) ?_
              · have e64 : a.tmps.getD 64 undef = .int .i64 (t : Nat) := hD 0 rfl
                have e67 : a.tmps.getD 67 undef = .int .i64 (x : Nat) := hD 3 rfl
                clear hO hD
                have hd := HD1.out
                go_wp2
                exact ⟨_, rfl, Below.refl _ _, rfl⟩
              refine .yes rfl (fun a W Q hB hO hD => ?_) ?_
              · have e68 : a.tmps.getD 68 undef = .bool false := hD 4 rfl
                clear hO hD
                go_wp2
                exact ⟨_, rfl, Below.refl _ _, rfl⟩
              refine .yes rfl (fun a W Q hB hO hD => ?_) ?_
              · have e13 : a.tmps.getD 13 undef = .int .i64 (t : Nat) := hO.slot 13 _ rfl rfl
                clear hO hD
                go_wp2
                exact ⟨_, rfl, Below.refl _ _, rfl⟩
              refine .yes rfl (fun a W Q hB hO hD => ?_) ?_
              · have e0 : a.tmps.getD 0 undef = .slice (some ⟨bp, offp, none⟩) n c := hO.slot 0 _ rfl rfl
                clear hO hD
                go_wp2
                exact ⟨_, rfl, Below.refl _ _, rfl⟩
              refine .yes rfl (fun a W Q hB hO hD => ?_) ?_
              · have e71 : a.tmps.getD 71 undef = .slice (some ⟨bp, offp, none⟩) n c := hD 7 rfl
                clear hO hD
                go_wp2
                exact ⟨_, rfl, Below.refl _ _, rfl⟩
              refine .yes rfl (fun a W Q hB hO hD => ?_) ?_
              · have e70 : a.tmps.getD 70 undef = .int .i64 (t : Nat) := hD 6 rfl
                have e72 : a.tmps.getD 72 undef = .int .i64 (n : Nat) := hD 8 rfl
                clear hO hD
                have hd := HD2.out
                go_wp2
                exact ⟨_, rfl, Below.refl _ _, rfl⟩
              refine .yes rfl (fun a W Q hB hO hD => ?_) ?_
              · have e69 : a.tmps.getD 69 undef = .bool false := hD 5 rfl
                have e73 : a.tmps.getD 73 undef = .bool false := hD 9 rfl
                clear hO hD
                go_wp2
                exact ⟨_, rfl, Below.refl _ _, rfl⟩
              refine .yes rfl (fun a W Q hB hO hD => ?_) ?_
              · have e74 : a.tmps.getD 74 undef = .bool false := hD 10 rfl
                clear hO hD
                go_wp2
                exact ⟨_, rfl, Below.refl _ _, rfl⟩
              refine .yes rfl (fun a W Q hB hO hD => ?_) ?_
              · have e7 : a.tmps.getD 7 undef = .map (some w3.heap.size) := hO.slot 7 _ rfl rfl
                clear hO hD
                go_wp2
                exact ⟨_, rfl, Below.refl _ _, rfl⟩
              refine .yes rfl (fun a W Q hB hO hD => ?_) ?_
              · have e13 : a.tmps.getD 13 undef = .int .i64 (t : Nat) := hO.slot 13 _ rfl rfl
                clear hO hD
                go_wp2
                exact ⟨_, rfl, Below.refl _ _, rfl⟩
              refine .yes rfl (fun a W Q hB hO hD => ?_) ?_
              · have e76 : a.tmps.getD 76 undef = .map (some w3.heap.size) := hD 12 rfl
                have e77 : a.tmps.getD 77 undef = .int .i64 (t : Nat) := hD 13 rfl
                clear hO hD
                have hlk := HLK.out W hB
                go_wp2
                exact ⟨_, rfl, Below.refl _ _, rfl⟩
              refine .yes rfl (fun a W Q hB hO hD => ?_) ?_
              · have e78 : a.tmps.getD 78 undef = .int .i64 0 := hD 14 rfl
                clear hO hD
                go_wp2
                exact ⟨_, rfl, Below.refl _ _, rfl⟩
              refine .yes rfl (fun a W Q hB hO hD => ?_) ?_
              · have e75 : a.tmps.getD 75 undef = .bool false := hD 11 rfl
                have e79 : a.tmps.getD 79 undef = .bool false := hD 15 rfl
                clear hO hD
                go_wp2
                exact ⟨_, rfl, Below.refl _ _, rfl⟩
              refine .yes rfl (fun a W Q hB hO hD => ?_) ?_
              · have e80 : a.tmps.getD 80 undef = .bool false := hD 16 rfl
                clear hO hD
                go_wp2
                exact ⟨_, rfl, Below.refl _ _, rfl⟩
              refine .yes rfl (fun a W Q hB hO hD => ?_) ?_
              · have e0 : a.tmps.getD 0 undef = .slice (some ⟨bp, offp, none⟩) n c := hO.slot 0 _ rfl rfl
                clear hO hD
                go_wp2
                exact ⟨_, rfl, Below.refl _ _, rfl⟩
              refine .yes rfl (fun a W Q hB hO hD => ?_) ?_
              · have e13 : a.tmps.getD 13 undef = .int .i64 (t : Nat) := hO.slot 13 _ rfl rfl
                clear hO hD
                go_wp2
                exact ⟨_, rfl, Below.refl _ _, rfl⟩
              refine .yes rfl (fun a W Q hB hO hD => ?_) ?_
              · have e82 : a.tmps.getD 82 undef = .slice (some ⟨bp, offp, none⟩) n c := hD 18 rfl
                have e83 : a.tmps.getD 83 undef = .int .i64 (t : Nat) := hD 19 rfl
                clear hO hD
                go_wp2
                exact ⟨_, rfl, Below.refl _ _, rfl⟩
              refine .yes rfl (fun a W Q hB hO hD => ?_) ?_
              · have e84 : a.tmps.getD 84 undef = .pointer (some ⟨bp, offp + t, none⟩) := hD 20 rfl
                clear hO hD
                have hc := CP.out W hB
                go_wp2
                exact ⟨_, rfl, Below.refl _ _, rfl⟩
              refine .yes rfl (fun a W Q hB hO hD => ?_) ?_
              · have e11 : a.tmps.getD 11 undef = .slice (some ⟨bc, offc, none⟩) Lx kc := hO.slot 11 _ rfl rfl
                clear hO hD
                go_wp2
                exact ⟨_, rfl, Below.refl _ _, rfl⟩
              refine .yes rfl (fun a W Q hB hO hD => ?_) ?_
              · have e12 : a.tmps.getD 12 undef = .int .i64 (j : Nat) := hO.slot 12 _ rfl rfl
                clear hO hD
                go_wp2
                exact ⟨_, rfl, Below.refl _ _, rfl⟩
              refine .yes rfl (fun a W Q hB hO hD => ?_) ?_
              · have e87 : a.tmps.getD 87 undef = .int .i64 (j : Nat) := hD 23 rfl
                clear hO hD
                go_wp2
                exact ⟨_, rfl, Below.refl _ _, rfl⟩
              refine .yes rfl (fun a W Q hB hO hD => ?_) ?_
              · have e11 : a.tmps.getD 11 undef = .slice (some ⟨bc, offc, none⟩) Lx kc := hO.slot 11 _ rfl rfl
                clear hO hD
                go_wp2
                exact ⟨_, rfl, Below.refl _ _, rfl⟩
              refine .yes rfl (fun a W Q hB hO hD => ?_) ?_
              · have e89 : a.tmps.getD 89 undef = .slice (some ⟨bc, offc, none⟩) Lx kc := hD 25 rfl
                clear hO hD
                go_wp2
                exact ⟨_, rfl, Below.refl _ _, rfl⟩
              refine .yes rfl (fun a W Q hB hO hD => ?_) ?_
              · have e88 : a.tmps.getD 88 undef = .int .i64 ((j : Int) + 1) := hD 24 rfl
                have e90 : a.tmps.getD 90 undef = .int .i64 (Lx : Nat) := hD 26 rfl
                clear hO hD
                have hz := HLZ.out
                have hmd := HMM.out
                go_wp2
                exact ⟨_, rfl, Below.refl _ _, rfl⟩
              refine .yes rfl (fun a W Q hB hO hD => ?_) ?_
              · have e86 : a.tmps.getD 86 undef = .slice (some ⟨bc, offc, none⟩) Lx kc := hD 22 rfl
                have e91 : a.tmps.getD 91 undef = .int .i64 (mm : Nat) := hD 27 rfl
                clear hO hD
                go_wp2
                exact ⟨_, rfl, Below.refl _ _, rfl⟩
              refine .yes rfl (fun a W Q hB hO hD => ?_) ?_
              · have e92 : a.tmps.getD 92 undef = .pointer (some ⟨bc, offc + mm, none⟩) := hD 28 rfl
                clear hO hD
                have hc := CM.out W hB
                go_wp2
                exact ⟨_, rfl, Below.refl _ _, rfl⟩
              refine .yes rfl (fun a W Q hB hO hD => ?_) ?_
              · have e85 : a.tmps.getD 85 undef = .int .i64 (u : Nat) := hD 21 rfl
                have e93 : a.tmps.getD 93 undef = .int .i64 (u : Nat) := hD 29 rfl
                clear hO hD
                go_wp2
                exact ⟨_, rfl, Below.refl _ _, rfl⟩
              refine .yes rfl (fun a W Q hB hO hD => ?_) ?_
              · have e81 : a.tmps.getD 81 undef = .bool false := hD 17 rfl
                have e94 : a.tmps.getD 94 undef = .bool false := hD 30 rfl
                clear hO hD
                go_wp2
                exact ⟨_, rfl, Below.refl _ _, rfl⟩
              exact .nil
            · intro f V hBz hR
              have e95 : f 31 = .bool false := hR 31 (by decide)
              have HM2 := Lib.hid (hM.out.below hBz)
              have HB3 := Lib.hid (HB2.out.trans (hBz.mono HB2.out.size))
              clear hR hBz
              simp only [putAll, Nat.zero_add, Nat.reduceAdd, Act.put, List.setIfInBounds_toArray, List.set_cons_zero, List.set_cons_succ, e95]
              go_wp2_with (at_mapUpdate; refine wpList_put_one Try.underlying31 rfl _ _ _ rfl rfl HM2.out (by have := HFL.out; omega) _ rfl rfl hwf ?_; intro w5 hM5 hg5)
              refine ⟨⟨j + 1, by omega, by go_num, Lib.hid (by rw [← HTX.out]; exact hM5), Lib.hid (HB3.out.trans (grown_below hg5 (Nat.le_refl _) HB3.out.size))⟩, ?_⟩
              simp [intOf]; omega
          · obtain rfl : j = Lx := by omega
            rw [show (cyc p x).take j = cyc p x from List.take_of_length_le (by rw [length_cyc, HLx.out]; exact Nat.le_refl _), ← flat_step_yes HXB.out] at hM
            have HM3 := Lib.hid (show MapI wr w3.heap.size (cs.take (a + 1)).flatten.length (cs.take (a + 1)).flatten from by
              rw [HXT2.out]
              have h := hM.out
              have e : (cycs p x).flatten.length + j = (cycs p (x + 1)).flatten.length := by rw [flat_step_yes HXB.out, List.length_append, length_cyc, HLx.out]
              rw [e] at h
              exact h)
            clear hM
            have HV2 := Lib.hid (show v = ordK p x from by rw [HV.out, HXT.out]; rfl)
            have HOS := Lib.hid (show ordK p (x + 1) = Nat.lcm v j from by rw [ordK_yes HXB.out, ← HV2.out, HLx.out])
            have hob := ordK_bound Rp.out (show x + 1 ≤ p.length from HXL.out)
            have hob0 := ordK_bound Rp.out (show x ≤ p.length from by have := HXL.out; omega)
            rw [HOS.out] at hob
            rw [← HV2.out] at hob0
            have hM9 := hob.2
            have hv9 := hob0.1
            have HLE := Lib.hid (show v ≤ Nat.lcm v j from Nat.le_of_dvd hob.1 (Nat.dvd_lcm_left v j))
            clear hob hob0 hlj
            obtain ⟨M, hM0⟩ : ∃ M, Nat.lcm v j = M := ⟨_, rfl⟩
            rw [hM0] at HLE HOS hM9
            have HM9 := Lib.hid hM0
            clear hM0
            obtain ⟨wi, hwi⟩ : ∃ V, V = wr := ⟨_, rfl⟩
            subst hwi
            go_wp2_with fail
            go_loopw [9] (fun s9 V => ∃ u : Nat, s9 = .int .i64 (u : Int) ∧ Hid (v ∣ u) ∧ Hid (0 < u ∧ u ≤ M) ∧ Hid (V = wi)) (fun s9 _ => M - (intOf s9).toNat)
            case atStart => exact ⟨v, rfl, Lib.hid (Nat.dvd_refl _), Lib.hid ⟨hv9, HLE.out⟩, Lib.hid rfl⟩
            case round =>
              obtain ⟨u, rfl, HU, HU2, HW⟩ := hrel
              have hw := HW.out
              subst hw
              have hu0 := HU2.out.1
              have hu1 := HU2.out.2
              have hmd : (u : Int) % (j : Int) = ((u % j : Nat) : Int) := by simp
              by_cases hdv : u % j = 0
              · have hz1 : ((u : Int) % (j : Int) != 0) = false := by rw [hmd, hdv]; simp
                have HUE := Lib.hid (show u = M from by rw [← HM9.out]; exact lcm_end HU.out hu0 (by rw [HM9.out]; exact hu1) (Nat.dvd_of_mod_eq_zero hdv))
                have HY2 := Lib.hid (show ∀ z, leastB p z = true → a + 1 ≤ (cycs p z).length → (x : Int) < (z : Int) from fun z _ hz => by
                  refine Classical.byContradiction fun hn => ?_
                  have h1 := cycs_mono (p := p) (show z ≤ x by omega)
                  rw [← HXT.out, List.length_take, HKK.out] at h1
                  omega)
                have HV3 := Lib.hid (show u = lcmL ((cs.take (a + 1)).map List.length) from by rw [HXT2.out, HUE.out, ← HOS.out]; rfl)
                clear hmd hdv
                go_wp2
                refine ⟨⟨a + 1, u, (x : Int), by omega, by go_num, rfl, rfl, HY2, HV3, HM3, HB2⟩, ?_⟩
                simp [intOf]; omega
              · have hz1 : ((u : Int) % (j : Int) != 0) = true := by rw [hmd, bne_iff_ne]; omega
                have hst := lcm_step hv9 HU.out (L := j) (by rw [HM9.out]; exact hu1) (fun h => hdv (Nat.mod_eq_zero_of_dvd h))
                rw [HM9.out] at hst
                have HST := Lib.hid hst
                have hs1 : u + v ≤ M := hst.2
                clear hmd hdv hst
                go_wp2
                refine ⟨⟨u + v, by simp, Lib.hid HST.out.1, Lib.hid ⟨by omega, HST.out.2⟩, Lib.hid trivial⟩, ?_⟩
                simp [intOf]; omega
      · obtain rfl : a = K := by omega
        rw [show cs.take a = cs from List.take_of_length_le (by rw [HKK.out]; exact Nat.le_refl _)] at HM HV
        have HVN := Lib.hid (show v = N from by rw [HV.out, ← HNN.out, ← HCS.out]; rfl)
        have hlen := fun ty => HM.out.len Try.underlying31 (by rw [← HCS.out]; exact nodup_flat Rp.out _ (Nat.le_refl _)) ty
        rw [← HCS.out, flat_all Rp.out, ← L1.out] at hlen
        have hv := HVN.out
        subst hv
        have hbf := Lib.hid (below_chain hb.out HB.out)
        clear HY HV HM
        go_wp2_with fail
        refine (awakeP_true _).mono ?_
        rintro e w5 ⟨rfl, hbk⟩
        have hb5 := Lib.hid (below_chain hbf.out hbk)
        go_wp2
        go_ret
        exact ⟨rfl, hb5.out⟩
end Go.Proofs.Ytccaagildkgfeaa
