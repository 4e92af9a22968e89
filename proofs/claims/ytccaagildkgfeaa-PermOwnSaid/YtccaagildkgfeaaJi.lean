/- Walk: fretworklaw03.PermOwn. -/
import Derived.Test.YtccaagildkgfeaaJe
import Derived.Test.YtccaagildkgfeaaPf
import Derived.Test.YtccaagildkgfeaaJk
namespace Go.Proofs.Ytccaagildkgfeaa
open Go.RowKit

set_option maxRecDepth 100000 in
set_option maxHeartbeats 8000000 in
theorem permOwn_true (A : Option Addr) (n c : Nat) (p : List Int) (w : World) (hp : ArgI w A n c p) :
    Calls Try.prog 7 #[.slice A n c] w fun e w' => e = .returned (.bool true) ∧ Below w.heap.size w w' := by
  have HP := Lib.hid hp; have HP0 := Lib.hid hp
  have hn0 := hp.le
  clear hp
  go_enter Try.func7, Try.ntmps7
  have hb := Lib.hid (Below.refl w.heap.size w)
  go_wp2_with fail
  refine (right_any A n c p _ HP.out).mono ?_
  rintro e w1 ⟨rfl, hbk⟩
  have S1 := hbk.size
  have HP' := Lib.hid (HP.out.keep hbk)
  have hb' := Lib.hid (below_chain hb.out hbk)
  clear hb hbk HP
  have hb := hb'; clear hb'
  have HP := HP'; clear HP'
  cases hr : rightP p with
  | false =>
    have k2 := Lib.hid hr; clear hr
    go_wp2_with fail
    refine (awakeP_true _).mono ?_
    rintro e w2 ⟨rfl, hbk⟩
    have hb' := Lib.hid (below_chain hb.out hbk)
    go_wp2
    go_ret
    exact ⟨rfl, hb'.out⟩
  | true =>
    have Rp := Lib.hid hr; clear hr
    have L1 := Lib.hid HP.out.len
    have hn2 : n ≤ 200 := by have := right_le Rp.out; have := L1.out; omega
    have hn1 : n ≤ 100000 := by omega
    have LP := Lib.hid (show p.length = n from L1.out.symm)
    have Ri := Lib.hid (right_idP hn2)
    have HID := Lib.hid (show (if (0 : Int) ≤ (n : Int) ∧ (n : Int) ≤ 200 then idP (n : Int).toNat else []) = idP n from if_pos ⟨by omega, by omega⟩)
    obtain ⟨cs, hcs⟩ : ∃ cs, cycs p p.length = cs := ⟨_, rfl⟩
    obtain ⟨K, hKK⟩ : ∃ K, cs.length = K := ⟨_, rfl⟩
    have HCS := Lib.hid hcs; have HKK := Lib.hid hKK
    have hK : K ≤ n := by have := cycs_le (p := p); rw [hcs, hKK] at this; have := L1.out; omega
    clear hcs hKK
    go_wp2_with fail
    refine (copyInts_any A n c p _ HP.out hn1).mono ?_
    intro e w2 he
    obtain ⟨A3, c3, rfl, hr3, ha3, hbk⟩ := he.atR LP.out hn1
    have S2 := hbk.size
    have D3 := Lib.hid hr3.bd
    have HP' := Lib.hid (HP.out.keep hbk)
    have hb' := Lib.hid (below_chain hb.out hbk)
    clear hb hbk HP
    have hb := hb'; clear hb'
    have HP := HP'; clear HP'
    have R3 := Lib.hid hr3; clear hr3
    have h3 := Lib.hid ha3; clear ha3
    go_wp2_with fail
    refine (identity_any n _).mono ?_
    intro e w3 he
    rw [HID.out] at he
    obtain ⟨A1, c1, rfl, hr1, ha1, hbk⟩ := he.atR (length_idP n) hn1
    have S3 := hbk.size
    have D1 := Lib.hid hr1.bd
    have HP' := Lib.hid (HP.out.keep hbk)
    have R3' := Lib.hid (R3.out.below hbk)
    have h3' := Lib.hid (h3.out.keep hbk)
    have hb' := Lib.hid (below_chain hb.out hbk)
    clear hb hbk HP R3 h3
    have hb := hb'; clear hb'
    have HP := HP'; clear HP'
    have R3 := R3'; clear R3'
    have h3 := h3'; clear h3'
    have R1 := Lib.hid hr1; clear hr1
    have h1 := Lib.hid ha1; clear ha1
    go_wp2_with fail
    refine (compose_any A3 A1 n n c3 c1 p (idP n) _ h3.out h1.out).mono ?_
    intro e w4 he
    obtain ⟨A4, c4, rfl, hr4, ha4, hbk⟩ := he.atR (l := p) (by rw [compO_some Rp.out Ri.out (by rw [LP.out, length_idP]), ← LP.out, comp_id Rp.out]) LP.out hn1
    have S4 := hbk.size
    have D4 := Lib.hid hr4.bd
    have HP' := Lib.hid (HP.out.keep hbk)
    have R3' := Lib.hid (R3.out.below hbk)
    have h3' := Lib.hid (h3.out.keep hbk)
    have R1' := Lib.hid (R1.out.below hbk)
    have h1' := Lib.hid (h1.out.keep hbk)
    have hb' := Lib.hid (below_chain hb.out hbk)
    clear hb hbk HP R3 h3 R1 h1
    have hb := hb'; clear hb'
    have HP := HP'; clear HP'
    have R3 := R3'; clear R3'
    have h3 := h3'; clear h3'
    have R1 := R1'; clear R1'
    have h1 := h1'; clear h1'
    have R4 := Lib.hid hr4; clear hr4
    have h4 := Lib.hid ha4; clear ha4
    go_wp2_with fail
    refine (invert_any A3 n c3 p _ h3.out).mono ?_
    intro e w5 he
    obtain ⟨A6, c6, rfl, hr6, ha6, hbk⟩ := he.atR (invO_some Rp.out) (by rw [length_invP]; exact LP.out) hn1
    have S5 := hbk.size
    have D6 := Lib.hid hr6.bd
    have HP' := Lib.hid (HP.out.keep hbk)
    have R3' := Lib.hid (R3.out.below hbk)
    have h3' := Lib.hid (h3.out.keep hbk)
    have R1' := Lib.hid (R1.out.below hbk)
    have h1' := Lib.hid (h1.out.keep hbk)
    have R4' := Lib.hid (R4.out.below hbk)
    have h4' := Lib.hid (h4.out.keep hbk)
    have hb' := Lib.hid (below_chain hb.out hbk)
    clear hb hbk HP R3 h3 R1 h1 R4 h4
    have hb := hb'; clear hb'
    have HP := HP'; clear HP'
    have R3 := R3'; clear R3'
    have h3 := h3'; clear h3'
    have R1 := R1'; clear R1'
    have h1 := h1'; clear h1'
    have R4 := R4'; clear R4'
    have h4 := h4'; clear h4'
    have R6 := Lib.hid hr6; clear hr6
    have h6 := Lib.hid ha6; clear ha6
    go_wp2_with fail
    refine (power_any A3 n c3 1 p _ h3.out).mono ?_
    intro e w6 he
    obtain ⟨A8, c8, rfl, hr8, ha8, hbk⟩ := he.atR (l := p) (by rw [powO_some Rp.out, pow_one Rp.out]) LP.out hn1
    have S6 := hbk.size
    have D8 := Lib.hid hr8.bd
    have HP' := Lib.hid (HP.out.keep hbk)
    have R3' := Lib.hid (R3.out.below hbk)
    have h3' := Lib.hid (h3.out.keep hbk)
    have R1' := Lib.hid (R1.out.below hbk)
    have h1' := Lib.hid (h1.out.keep hbk)
    have R4' := Lib.hid (R4.out.below hbk)
    have h4' := Lib.hid (h4.out.keep hbk)
    have R6' := Lib.hid (R6.out.below hbk)
    have h6' := Lib.hid (h6.out.keep hbk)
    have hb' := Lib.hid (below_chain hb.out hbk)
    clear hb hbk HP R3 h3 R1 h1 R4 h4 R6 h6
    have hb := hb'; clear hb'
    have HP := HP'; clear HP'
    have R3 := R3'; clear R3'
    have h3 := h3'; clear h3'
    have R1 := R1'; clear R1'
    have h1 := h1'; clear h1'
    have R4 := R4'; clear R4'
    have h4 := h4'; clear h4'
    have R6 := R6'; clear R6'
    have h6 := h6'; clear h6'
    have R8 := Lib.hid hr8; clear hr8
    have h8 := Lib.hid ha8; clear ha8
    go_wp2_with fail
    refine (cyclesP_any A3 n c3 p _ h3.out).mono ?_
    intro e w7 he
    rw [show cycO p = some cs from by unfold cycO; rw [if_pos Rp.out, HCS.out]] at he
    obtain ⟨g2, c2, rfl, hr2, ha2, hbk⟩ := he.some (by rw [HKK.out]; omega) (fun c hc => by rw [← HCS.out] at hc; obtain ⟨x, hx, rfl⟩ := List.mem_map.1 hc; rw [length_cyc]; have h := (ord1_spec Rp.out (List.mem_range.1 (List.mem_filter.1 hx).1)).2.1; have := LP.out; omega)
    clear ha2
    rw [HKK.out] at hr2 ⊢
    have S7 := hbk.size
    obtain ⟨hg2, vl, morel, hol, hl1, hl2, hl3, hl4, hl5, hl6⟩ := hr2.parts HKK.out
    clear hr2
    have HU := Lib.hid hl5; have HL6 := Lib.hid hl6
    clear hl5 hl6
    have hsee : SeesF w7 w7 := Below.refl _ _
    have HP' := Lib.hid (HP.out.keep hbk)
    have R3' := Lib.hid (R3.out.below hbk)
    have h3' := Lib.hid (h3.out.keep hbk)
    have R1' := Lib.hid (R1.out.below hbk)
    have h1' := Lib.hid (h1.out.keep hbk)
    have R4' := Lib.hid (R4.out.below hbk)
    have h4' := Lib.hid (h4.out.keep hbk)
    have R6' := Lib.hid (R6.out.below hbk)
    have h6' := Lib.hid (h6.out.keep hbk)
    have R8' := Lib.hid (R8.out.below hbk)
    have h8' := Lib.hid (h8.out.keep hbk)
    have hb' := Lib.hid (below_chain hb.out hbk)
    clear hb hbk HP R3 h3 R1 h1 R4 h4 R6 h6 R8 h8
    have hb := hb'; clear hb'
    have HP := HP'; clear HP'
    have R3 := R3'; clear R3'
    have h3 := h3'; clear h3'
    have R1 := R1'; clear R1'
    have h1 := h1'; clear h1'
    have R4 := R4'; clear R4'
    have h4 := h4'; clear h4'
    have R6 := R6'; clear R6'
    have h6 := h6'; clear h6'
    have R8 := R8'; clear R8'
    have h8 := h8'; clear h8'
    have OL := Lib.hid hol; clear hol
    have Rs := Lib.hid hsee; clear hsee
    go_wp2_with fail
    refine (identity_any n _).mono ?_
    intro e w8 he
    rw [HID.out] at he
    obtain ⟨A20, c20, rfl, hr20, ha20, hbk⟩ := he.atR (length_idP n) hn1
    have S8 := hbk.size
    have D20 := Lib.hid hr20.bd
    have HP' := Lib.hid (HP.out.keep hbk)
    have R3' := Lib.hid (R3.out.below hbk)
    have h3' := Lib.hid (h3.out.keep hbk)
    have R1' := Lib.hid (R1.out.below hbk)
    have h1' := Lib.hid (h1.out.keep hbk)
    have R4' := Lib.hid (R4.out.below hbk)
    have h4' := Lib.hid (h4.out.keep hbk)
    have R6' := Lib.hid (R6.out.below hbk)
    have h6' := Lib.hid (h6.out.keep hbk)
    have R8' := Lib.hid (R8.out.below hbk)
    have h8' := Lib.hid (h8.out.keep hbk)
    have OL' := Lib.hid (OL.out.below' hbk)
    have Rs' := Lib.hid (Rs.out.below hbk)
    have hb' := Lib.hid (below_chain hb.out hbk)
    clear hb hbk HP R3 h3 R1 h1 R4 h4 R6 h6 R8 h8 OL Rs
    have hb := hb'; clear hb'
    have HP := HP'; clear HP'
    have R3 := R3'; clear R3'
    have h3 := h3'; clear h3'
    have R1 := R1'; clear R1'
    have h1 := h1'; clear h1'
    have R4 := R4'; clear R4'
    have h4 := h4'; clear h4'
    have R6 := R6'; clear R6'
    have h6 := h6'; clear h6'
    have R8 := R8'; clear R8'
    have h8 := h8'; clear h8'
    have OL := OL'; clear OL'
    have Rs := Rs'; clear Rs'
    have R20 := Lib.hid hr20; clear hr20
    have h20 := Lib.hid ha20; clear ha20
    go_wp2_with fail
    refine (identity_any n _).mono ?_
    intro e w9 he
    rw [HID.out] at he
    obtain ⟨A21, c21, rfl, hr21, ha21, hbk⟩ := he.atR (length_idP n) hn1
    have S9 := hbk.size
    have D21 := Lib.hid hr21.bd
    have HP' := Lib.hid (HP.out.keep hbk)
    have R3' := Lib.hid (R3.out.below hbk)
    have h3' := Lib.hid (h3.out.keep hbk)
    have R1' := Lib.hid (R1.out.below hbk)
    have h1' := Lib.hid (h1.out.keep hbk)
    have R4' := Lib.hid (R4.out.below hbk)
    have h4' := Lib.hid (h4.out.keep hbk)
    have R6' := Lib.hid (R6.out.below hbk)
    have h6' := Lib.hid (h6.out.keep hbk)
    have R8' := Lib.hid (R8.out.below hbk)
    have h8' := Lib.hid (h8.out.keep hbk)
    have OL' := Lib.hid (OL.out.below' hbk)
    have Rs' := Lib.hid (Rs.out.below hbk)
    have R20' := Lib.hid (R20.out.below hbk)
    have h20' := Lib.hid (h20.out.keep hbk)
    have hb' := Lib.hid (below_chain hb.out hbk)
    clear hb hbk HP R3 h3 R1 h1 R4 h4 R6 h6 R8 h8 OL Rs R20 h20
    have hb := hb'; clear hb'
    have HP := HP'; clear HP'
    have R3 := R3'; clear R3'
    have h3 := h3'; clear h3'
    have R1 := R1'; clear R1'
    have h1 := h1'; clear h1'
    have R4 := R4'; clear R4'
    have h4 := h4'; clear h4'
    have R6 := R6'; clear R6'
    have h6 := h6'; clear h6'
    have R8 := R8'; clear R8'
    have h8 := h8'; clear h8'
    have OL := OL'; clear OL'
    have Rs := Rs'; clear Rs'
    have R20 := R20'; clear R20'
    have h20 := h20'; clear h20'
    have R21 := Lib.hid hr21; clear hr21
    have h21 := Lib.hid ha21; clear ha21
    have F5 := Lib.hid (Own.new' (w := w9) (t := 22) (g := w9.heap.size) (vs := [.slice A4 n c4, .slice A6 n c6, .slice A8 n c8, .slice A20 n c20, .slice A21 n c21]) rfl)
    go_wp2_with (at_builtin; refine wpList_append_vals rfl (.tmp 49) (.tmp 59) rfl w9.heap.size rfl rfl (OL.out.alloc _) hl1 hl2 hl3 hl4 F5.out rfl (by omega) (by simp [Value.oneCell']) (by omega) ?_; intro g' cap' more' w50 ho' hg' hgg)
    have S50 := hg'.size
    have G50 := Lib.hid hg'
    have O50 := Lib.hid ho'
    have OL2 := Lib.hid (OL.out.alloc (.cells #[.slice A4 n c4, .slice A6 n c6, .slice A8 n c8, .slice A20 n c20, .slice A21 n c21] 22))
    have UP := Lib.hid (show ∀ B v l, RowI B w9 v l → RowI B w50 v l from fun B v l h => (h.below (alloc_below _ _)).grown OL2.out G50.out)
    have BE := Lib.hid (show Below w.heap.size w w50 from (bel_alloc hb.out _).trans (grown_below G50.out (by omega) (by simp; omega)))
    clear hg' ho'
    refine (apartVals_any g' (K + 5) cap' _ more' w50 O50.out (by simp; omega) (by omega) (fun v hv => ?_) ?_).mono ?_
    · rcases List.mem_append.1 hv with hv | hv
      · obtain ⟨l, h⟩ := HU.out v hv
        exact ⟨l, (UP.out _ _ _ (h.below Rs.out)).base (Nat.zero_le _)⟩
      · simp only [List.mem_cons, List.not_mem_nil, or_false] at hv
        rcases hv with rfl | rfl | rfl | rfl | rfl
        · exact ⟨_, (UP.out _ _ _ R4.out).base (Nat.zero_le _)⟩
        · exact ⟨_, (UP.out _ _ _ R6.out).base (Nat.zero_le _)⟩
        · exact ⟨_, (UP.out _ _ _ R8.out).base (Nat.zero_le _)⟩
        · exact ⟨_, (UP.out _ _ _ R20.out).base (Nat.zero_le _)⟩
        · exact ⟨_, (UP.out _ _ _ R21.out).base (Nat.zero_le _)⟩
    · rw [List.pairwise_append]
      refine ⟨HL6.out.imp fun h _ _ e => by omega, ?_, fun u hu v hv => ?_⟩
      · simp only [List.pairwise_cons, List.mem_cons, List.not_mem_nil, or_false, List.Pairwise.nil, and_true, forall_eq_or_imp, forall_eq, false_imp_iff, implies_true]
        refine ⟨⟨?_, ?_, ?_, ?_⟩, ⟨?_, ?_, ?_⟩, ⟨?_, ?_⟩, ?_⟩
        · intro h1 h2 e; have := D4.out h1; have := D6.out h2; omega
        · intro h1 h2 e; have := D4.out h1; have := D8.out h2; omega
        · intro h1 h2 e; have := D4.out h1; have := D20.out h2; omega
        · intro h1 h2 e; have := D4.out h1; have := D21.out h2; omega
        · intro h1 h2 e; have := D6.out h1; have := D8.out h2; omega
        · intro h1 h2 e; have := D6.out h1; have := D20.out h2; omega
        · intro h1 h2 e; have := D6.out h1; have := D21.out h2; omega
        · intro h1 h2 e; have := D8.out h1; have := D20.out h2; omega
        · intro h1 h2 e; have := D8.out h1; have := D21.out h2; omega
        · intro h1 h2 e; have := D20.out h1; have := D21.out h2; omega
      · simp only [List.mem_cons, List.not_mem_nil, or_false] at hv
        obtain ⟨l, hul⟩ := HU.out u hu
        have hub := hul.bd
        rcases hv with rfl | rfl | rfl | rfl | rfl
        · intro h1 h2 e; have := hub h1; have := D4.out h2; omega
        · intro h1 h2 e; have := hub h1; have := D6.out h2; omega
        · intro h1 h2 e; have := hub h1; have := D8.out h2; omega
        · intro h1 h2 e; have := hub h1; have := D20.out h2; omega
        · intro h1 h2 e; have := hub h1; have := D21.out h2; omega
    · rintro e w51 ⟨rfl, hob⟩
      have HGE := Lib.hid (show ∀ b, (∃ v ∈ vl ++ [.slice A4 n c4, .slice A6 n c6, .slice A8 n c8, .slice A20 n c20, .slice A21 n c21], nilV v = false ∧ b = blk v) → w3.heap.size ≤ b from by
        rintro b ⟨v, hv, hn, rfl⟩
        rcases List.mem_append.1 hv with hv | hv
        · obtain ⟨l, hul⟩ := HU.out v hv
          have := hul.bd hn; omega
        · simp only [List.mem_cons, List.not_mem_nil, or_false] at hv
          rcases hv with rfl | rfl | rfl | rfl | rfl
          · have := D4.out hn; omega
          · have := D6.out hn; omega
          · have := D8.out hn; omega
          · have := D20.out hn; omega
          · have := D21.out hn; omega)
      have B51 := Lib.hid (BE.out.trans (hob.below (B := w.heap.size) (fun b hb' => by have := HGE.out b hb'; omega) BE.out.size))
      have H3 := Lib.hid (RowI.toArg ((UP.out _ _ _ R3.out).only hob (fun hn hG => by have h1 := HGE.out _ hG; have h2 := D3.out hn; omega)) hn1)
      have H0 := Lib.hid (HP0.out.keep B51.out)
      clear hob
      go_wp2_with fail
      refine (sameInts_any A3 A c3 c n n p p _ H3.out H0.out).mono ?_
      rintro e w52 ⟨rfl, hbk⟩
      rw [beq_self_eq_true]
      have B52 := Lib.hid (below_chain B51.out hbk)
      clear hbk
      go_wp2_with fail
      refine (awakeP_true _).mono ?_
      rintro e w53 ⟨rfl, hbk⟩
      have B53 := Lib.hid (below_chain B52.out hbk)
      go_wp2
      go_ret
      exact ⟨rfl, B53.out⟩
end Go.Proofs.Ytccaagildkgfeaa
