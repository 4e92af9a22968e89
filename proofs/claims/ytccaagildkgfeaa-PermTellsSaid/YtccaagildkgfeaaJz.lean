/- Walk: fretworklaw03.PermTells. -/
import Derived.Test.YtccaagildkgfeaaJy
namespace Go.Proofs.Ytccaagildkgfeaa
open Go.RowKit
attribute [local go_sem] Oper.semAt_some

def tblT4 (gb : Nat) (B2 : Nat) (N : Int) (C : Option Addr) (j : Nat) (f0 : Nat) (E : List (Int × Int)) : List Pst := [Pst.val (.pointer (some ⟨gb, 0, none⟩)), Pst.val (.int .i64 N), Pst.val (.pointer (some ⟨gb, 1, none⟩)), Pst.val (.slice C j f0), Pst.edg B2 j E, Pst.gra B2 N j E, Pst.gbox B2]
set_option maxRecDepth 100000 in
set_option maxHeartbeats 8000000 in
theorem permTells_true (A B C : Option Addr) (n c m d j f0 : Nat) (k N : Int) (p q : List Int) (E : List (Int × Int)) (w : World) (hp : ArgI w A n c p) (hq : ArgI w B m d q) (he : ArgE w C j f0 E) (hk0 : -9223372036854775808 ≤ k) (hk1 : k ≤ 9223372036854775807) :
    Calls Try.prog 4 #[.slice A n c, .slice B m d, .int .i64 k, .agg #[.int .i64 N, .slice C j f0]] w fun e w' => e = .returned (.bool true) ∧ Below w.heap.size w w' := by
  have hm0 := hq.le; have hn0 := hp.le; have hj0 := he.le
  have hb := Lib.hid (alloc_below w (.cells #[.int .i64 N, .slice C j f0] 34))
  have HE := Lib.hid (he.keep hb.out); have HP := Lib.hid (hp.keep hb.out); have HQ := Lib.hid (hq.keep hb.out)
  have OG := Lib.hid (Own.new' (t := 34) (w := w) (vs := [.int .i64 N, .slice C j f0]) rfl)
  clear he hp hq
  go_enter Try.func4, Try.ntmps4
  by_cases c1 : 12 < n
  · have d1 : decide ((12 : Int) < (n : Int)) = true := decide_eq_true (by omega)
    go_wp2_with fail
    refine (awakeP_true _).mono ?_
    rintro e w1 ⟨rfl, hbk⟩
    have hb' := Lib.hid (below_chain hb.out hbk)
    go_wp2
    go_ret
    exact ⟨rfl, hb'.out⟩
  have d1 : decide ((12 : Int) < (n : Int)) = false := decide_eq_false (by omega)
  by_cases c2 : 12 < m
  · have d2 : decide ((12 : Int) < (m : Int)) = true := decide_eq_true (by omega)
    go_wp2_with fail
    refine (awakeP_true _).mono ?_
    rintro e w1 ⟨rfl, hbk⟩
    have hb' := Lib.hid (below_chain hb.out hbk)
    go_wp2
    go_ret
    exact ⟨rfl, hb'.out⟩
  have d2 : decide ((12 : Int) < (m : Int)) = false := decide_eq_false (by omega)
  have qOG := OG.out.cell; have zOG := OG.out.lt
  by_cases c3 : 12 < N
  · have d3 : decide (12 < N) = true := decide_eq_true c3
    go_wp2_with fail
    refine (awakeP_true _).mono ?_
    rintro e w1 ⟨rfl, hbk⟩
    have hb' := Lib.hid (below_chain hb.out hbk)
    go_wp2
    go_ret
    exact ⟨rfl, hb'.out⟩
  have d3 : decide (12 < N) = false := decide_eq_false c3
  by_cases c4 : 80 < j
  · have d4 : decide ((80 : Int) < (j : Int)) = true := decide_eq_true (by omega)
    go_wp2_with fail
    refine (awakeP_true _).mono ?_
    rintro e w1 ⟨rfl, hbk⟩
    have hb' := Lib.hid (below_chain hb.out hbk)
    go_wp2
    go_ret
    exact ⟨rfl, hb'.out⟩
  have d4 : decide ((80 : Int) < (j : Int)) = false := decide_eq_false (by omega)
  have LP := Lib.hid HP.out.len; have LE := Lib.hid HE.out.len; have LQ := Lib.hid HQ.out.len
  have hn1 : n ≤ 100000 := by omega
  have hm1 : m ≤ 100000 := by omega
  have hj1 : j ≤ 100000 := by omega
  obtain ⟨x1, hx1⟩ : ∃ z, errC (compO p q) = z := ⟨_, rfl⟩
  have Kx1 := Lib.hid hx1; clear hx1
  obtain ⟨l1, hl1⟩ : ∃ z, (compO p q).getD [] = z := ⟨_, rfl⟩
  have Kl1 := Lib.hid hl1; clear hl1
  obtain ⟨x2, hx2⟩ : ∃ z, errC (invO p) = z := ⟨_, rfl⟩
  have Kx2 := Lib.hid hx2; clear hx2
  obtain ⟨l2, hl2⟩ : ∃ z, (invO p).getD [] = z := ⟨_, rfl⟩
  have Kl2 := Lib.hid hl2; clear hl2
  obtain ⟨x3, hx3⟩ : ∃ z, errC (powO p k) = z := ⟨_, rfl⟩
  have Kx3 := Lib.hid hx3; clear hx3
  obtain ⟨l3, hl3⟩ : ∃ z, (powO p k).getD [] = z := ⟨_, rfl⟩
  have Kl3 := Lib.hid hl3; clear hl3
  obtain ⟨x4, hx4⟩ : ∃ z, errC (cycO p) = z := ⟨_, rfl⟩
  have Kx4 := Lib.hid hx4; clear hx4
  obtain ⟨cs, hcs⟩ : ∃ z, (cycO p).getD [] = z := ⟨_, rfl⟩
  have Kcs := Lib.hid hcs; clear hcs
  obtain ⟨r0, hr0⟩ : ∃ z, rightP p = z := ⟨_, rfl⟩
  have Kr0 := Lib.hid hr0; clear hr0
  obtain ⟨x5, hx5⟩ : ∃ z, (ordO p).getD 0 = z := ⟨_, rfl⟩
  have Kx5 := Lib.hid hx5; clear hx5
  obtain ⟨x6, hx6⟩ : ∃ z, errC (ordO p) = z := ⟨_, rfl⟩
  have Kx6 := Lib.hid hx6; clear hx6
  obtain ⟨M, hM⟩ : ∃ z, grN N (appO N E p) = z := ⟨_, rfl⟩
  have KM := Lib.hid hM; clear hM
  obtain ⟨x7, hx7⟩ : ∃ z, grX (appO N E p) = z := ⟨_, rfl⟩
  have Kx7 := Lib.hid hx7; clear hx7
  obtain ⟨l7, hl7⟩ : ∃ z, grL (appO N E p) = z := ⟨_, rfl⟩
  have Kl7 := Lib.hid hl7; clear hl7
  obtain ⟨l8, hl8⟩ : ∃ z, (if 0 ≤ k ∧ k ≤ 200 then idP k.toNat else []) = z := ⟨_, rfl⟩
  have Kl8 := Lib.hid hl8; clear hl8
  have hbn1 : l1.length ≤ 100000 := by rw [← Kl1.out]; have := compO_len p q; have := LP.out; omega
  obtain ⟨n1, hn1⟩ : ∃ z, l1.length = z := ⟨_, rfl⟩
  rw [hn1] at hbn1
  have Kn1 := Lib.hid hn1; clear hn1
  have hbn2 : l2.length ≤ 100000 := by rw [← Kl2.out]; have := invO_len p; have := LP.out; omega
  obtain ⟨n2, hn2⟩ : ∃ z, l2.length = z := ⟨_, rfl⟩
  rw [hn2] at hbn2
  have Kn2 := Lib.hid hn2; clear hn2
  have hbn3 : l3.length ≤ 100000 := by rw [← Kl3.out]; have := powO_len p k; have := LP.out; omega
  obtain ⟨n3, hn3⟩ : ∃ z, l3.length = z := ⟨_, rfl⟩
  rw [hn3] at hbn3
  have Kn3 := Lib.hid hn3; clear hn3
  have hbn4 : cs.length ≤ 100000 := by rw [← Kcs.out]; have := (cycO_len p).1; have := LP.out; omega
  obtain ⟨n4, hn4⟩ : ∃ z, cs.length = z := ⟨_, rfl⟩
  rw [hn4] at hbn4
  have Kn4 := Lib.hid hn4; clear hn4
  have hbn7 : l7.length ≤ 100000 := by rw [← Kl7.out]; have := appO_len N E p (by have := LE.out; omega); omega
  obtain ⟨n7, hn7⟩ : ∃ z, l7.length = z := ⟨_, rfl⟩
  rw [hn7] at hbn7
  have Kn7 := Lib.hid hn7; clear hn7
  have hbn8 : l8.length ≤ 100000 := by rw [← Kl8.out]; have := idL_len k; omega
  obtain ⟨n8, hn8⟩ : ∃ z, l8.length = z := ⟨_, rfl⟩
  rw [hn8] at hbn8
  have Kn8 := Lib.hid hn8; clear hn8
  have HCL := Lib.hid (show ∀ c ∈ cs, c.length ≤ 100000 from fun c hc => by rw [← Kcs.out] at hc; have := (cycO_len p).2 c hc; have := LP.out; omega)
  clear c1 c2 c3 c4
  go_wp2_with fail
  refine (copyInts_any A n c p _ HP.out hn1).mono ?_
  intro e w1 he
  obtain ⟨A9, c9, rfl, ha9, hbk⟩ := he.at LP.out.symm hn1
  clear qOG zOG
  have HE' := Lib.hid (HE.out.keep hbk)
  have HP' := Lib.hid (HP.out.keep hbk)
  have HQ' := Lib.hid (HQ.out.keep hbk)
  have OG' := Lib.hid (OG.out.below' hbk)
  have hb' := Lib.hid (below_chain hb.out hbk)
  clear hb hbk HE HP HQ OG
  have hb := hb'; clear hb'
  have HE := HE'; clear HE'
  have HP := HP'; clear HP'
  have HQ := HQ'; clear HQ'
  have OG := OG'; clear OG'
  have h9 := Lib.hid ha9; clear ha9
  go_wp2_with fail
  refine (copyInts_any B m d q _ HQ.out hm1).mono ?_
  intro e w2 he
  obtain ⟨A10, c10, rfl, ha10, hbk⟩ := he.at LQ.out.symm hm1
  have HE' := Lib.hid (HE.out.keep hbk)
  have HP' := Lib.hid (HP.out.keep hbk)
  have HQ' := Lib.hid (HQ.out.keep hbk)
  have OG' := Lib.hid (OG.out.below' hbk)
  have h9' := Lib.hid (h9.out.keep hbk)
  have hb' := Lib.hid (below_chain hb.out hbk)
  clear hb hbk HE HP HQ OG h9
  have hb := hb'; clear hb'
  have HE := HE'; clear HE'
  have HP := HP'; clear HP'
  have HQ := HQ'; clear HQ'
  have OG := OG'; clear OG'
  have h9 := h9'; clear h9'
  have h10 := Lib.hid ha10; clear ha10
  have qOG := OG.out.cell; have zOG := OG.out.lt
  have CG := Lib.hid (fun V (hV : Below w2.heap.size w2 V) => OG.out.below' hV)
  have AE := Lib.hid (fun V (hV : Below w2.heap.size w2 V) => HE.out.keep hV)
  clear qOG zOG
  go_wp2_with fail
  refine wpIn_wide (n := 1) |>.1 (regionIn_posts 7 (fun _ => trivial) (by kernel_rfl) (tblT4 w.heap.size w2.heap.size N C j f0 E) (by kernel_rfl) (by kernel_rfl) ?_ ?_)
  simp only [List.take_succ_cons, List.take_zero]
  · skip
    refine .yes rfl (fun a W Q hB hO hD hN => ?_) ?_
    · have e7 : a.tmps.getD 7 undef = .pointer (some ⟨w.heap.size, 0, none⟩) := hO.slot 7 _ rfl rfl
      clear hO hD hN
      gi_wp2
      exact ⟨_, rfl, Below.refl _ _, rfl⟩
    refine .yes rfl (fun a W Q hB hO hD hN => ?_) ?_
    · have e50 : a.tmps.getD 50 undef = .pointer (some ⟨w.heap.size, 0, none⟩) := hD 0 rfl
      clear hO hD hN
      have hO := CG.out W hB
      have q := hO.cell
      have z := hO.lt
      gi_wp2
      exact ⟨_, rfl, Below.refl _ _, rfl⟩
    refine .yes rfl (fun a W Q hB hO hD hN => ?_) ?_
    · have e7 : a.tmps.getD 7 undef = .pointer (some ⟨w.heap.size, 0, none⟩) := hO.slot 7 _ rfl rfl
      clear hO hD hN
      gi_wp2
      exact ⟨_, rfl, Below.refl _ _, rfl⟩
    refine .yes rfl (fun a W Q hB hO hD hN => ?_) ?_
    · have e52 : a.tmps.getD 52 undef = .pointer (some ⟨w.heap.size, 1, none⟩) := hD 2 rfl
      clear hO hD hN
      have hO := CG.out W hB
      have q := hO.cell
      have z := hO.lt
      gi_wp2
      exact ⟨_, rfl, Below.refl _ _, rfl⟩
    refine .yes rfl (fun a W Q hB hO hD hN => ?_) ?_
    · have e53 : a.tmps.getD 53 undef = .slice C j f0 := hD 3 rfl
      clear hO hD hN
      have KC := Lib.hid (copyPairs_any C j f0 E W (AE.out W hB) hj1)
      gi_wp2_with (refine ⟨trivial, ?_⟩; gi_at_call 14; refine (callsIn_wide.2 KC.out).mono ?_; rintro e W1 ⟨v, rfl, hr, hb1⟩)
      obtain ⟨A5, c5, rfl, _⟩ := hr.rd
      rw [← LE.out] at hr ⊢
      exact ⟨_, rfl, hb1, _, _, rfl, hr.base hB.size⟩
    refine .yes rfl (fun a W Q hB hO hD hN => ?_) ?_
    · have e51 : a.tmps.getD 51 undef = .int .i64 N := hD 1 rfl
      obtain ⟨A54, c54, e54, h54⟩ : ∃ A c, (a.tmps.getD 54 undef) = .slice A j c ∧ RowE w2.heap.size W (.slice A j c) E := hD 4 rfl
      clear hO hD hN
      refine wpIn_buildG rfl (show a.eval (.tmp 51) = _ from e51) (show a.eval (.tmp 54) = _ from e54) ?_
      exact ⟨_, rfl, Below.refl _ _, _, _, rfl, h54⟩
    refine .yes rfl (fun a W Q hB hO hD hN => ?_) ?_
    · clear hO hD hN
      gi_wp2
      exact ⟨_, rfl, alloc_below _ _, _, rfl, hB.size, Own.new' rfl⟩
    exact .nil
  · intro f W3 hBz hR
    obtain ⟨A11, c11, e5, hr11⟩ : ∃ A c, f 5 = .agg #[.int .i64 N, .slice A j c] ∧ RowE w2.heap.size W3 (.slice A j c) E := hR 5 (by decide)
    obtain ⟨g11, e6, hg11, ho11⟩ : ∃ g, f 6 = .pointer (some ⟨g, 0, none⟩) ∧ w2.heap.size ≤ g ∧ Own W3 g 34 [.int .i64 0, .slice none 0 0] := hR 6 (by decide)
    have hbk := (hBz.setCell (p := ⟨g11, 0, none⟩) hg11 (.int .i64 N)).setCell (p := ⟨g11, 1, none⟩) hg11 (.slice A11 j c11)
    have q0 := ho11.cell; have q1 := ho11.frozen; have q2 := ho11.lt
    have ro := (hr11.setBox ho11 0 (.int .i64 N)).setBox (ho11.set 0 (.int .i64 N)) 1 (.slice A11 j c11)
    have oo := (ho11.set 0 (.int .i64 N)).set 1 (.slice A11 j c11)
    simp only [List.set_cons_zero, List.set_cons_succ] at oo
    have HBK := Lib.hid hbk; have RO := Lib.hid ro; have OO := Lib.hid oo
    clear hR hBz hr11 ho11 hbk ro oo
    simp only [List.take_succ_cons, List.take_zero, List.drop_succ_cons, List.drop_zero, putAll, Nat.zero_add, Nat.reduceAdd, Act.put, List.setIfInBounds_toArray, List.set_cons_zero, List.set_cons_succ, e5, e6]
    gi_wp2
    generalize (W3.setCell ⟨g11, 0, none⟩ (.int .i64 N)).setCell ⟨g11, 1, none⟩ (.slice A11 j c11) = w3 at HBK RO OO ⊢
    clear q0 q1 q2 e5 e6
    have hbk := HBK.out
    clear HBK
    have HE' := Lib.hid (HE.out.keep hbk)
    have HP' := Lib.hid (HP.out.keep hbk)
    have HQ' := Lib.hid (HQ.out.keep hbk)
    have OG' := Lib.hid (OG.out.below' hbk)
    have h9' := Lib.hid (h9.out.keep hbk)
    have h10' := Lib.hid (h10.out.keep hbk)
    have hb' := Lib.hid (below_chain hb.out hbk)
    clear hb hbk HE HP HQ OG h9 h10
    have hb := hb'; clear hb'
    have HE := HE'; clear HE'
    have HP := HP'; clear HP'
    have HQ := HQ'; clear HQ'
    have OG := OG'; clear OG'
    have h9 := h9'; clear h9'
    have h10 := h10'; clear h10'
    have O11 := Lib.hid OO.out; have R11 := Lib.hid RO.out; have H11 := Lib.hid (RO.out.toArg hj1)
    clear OO RO
    go_wp2_with fail
    refine (compose_any A9 A10 n m c9 c10 p q _ h9.out h10.out).mono ?_
    intro e w4 he
    obtain ⟨A12, c12, rfl, ha12, hbk⟩ := he.any Kx1.out Kl1.out Kn1.out hbn1
    have HE' := Lib.hid (HE.out.keep hbk)
    have HP' := Lib.hid (HP.out.keep hbk)
    have HQ' := Lib.hid (HQ.out.keep hbk)
    have OG' := Lib.hid (OG.out.below' hbk)
    have h9' := Lib.hid (h9.out.keep hbk)
    have h10' := Lib.hid (h10.out.keep hbk)
    have O11' := Lib.hid (O11.out.below' hbk)
    have H11' := Lib.hid (H11.out.keep hbk)
    have hb' := Lib.hid (below_chain hb.out hbk)
    clear hb hbk HE HP HQ OG h9 h10 O11 H11
    have hb := hb'; clear hb'
    have HE := HE'; clear HE'
    have HP := HP'; clear HP'
    have HQ := HQ'; clear HQ'
    have OG := OG'; clear OG'
    have h9 := h9'; clear h9'
    have h10 := h10'; clear h10'
    have O11 := O11'; clear O11'
    have H11 := H11'; clear H11'
    have h12 := Lib.hid ha12; clear ha12
    go_wp2_with fail
    refine (composeR_any A B n m c d p q _ HP.out HQ.out).mono ?_
    intro e w5 he
    obtain ⟨A14, c14, rfl, ha14, hbk⟩ := he.any Kx1.out Kl1.out Kn1.out hbn1
    have HE' := Lib.hid (HE.out.keep hbk)
    have HP' := Lib.hid (HP.out.keep hbk)
    have HQ' := Lib.hid (HQ.out.keep hbk)
    have OG' := Lib.hid (OG.out.below' hbk)
    have h9' := Lib.hid (h9.out.keep hbk)
    have h10' := Lib.hid (h10.out.keep hbk)
    have O11' := Lib.hid (O11.out.below' hbk)
    have H11' := Lib.hid (H11.out.keep hbk)
    have h12' := Lib.hid (h12.out.keep hbk)
    have hb' := Lib.hid (below_chain hb.out hbk)
    clear hb hbk HE HP HQ OG h9 h10 O11 H11 h12
    have hb := hb'; clear hb'
    have HE := HE'; clear HE'
    have HP := HP'; clear HP'
    have HQ := HQ'; clear HQ'
    have OG := OG'; clear OG'
    have h9 := h9'; clear h9'
    have h10 := h10'; clear h10'
    have O11 := O11'; clear O11'
    have H11 := H11'; clear H11'
    have h12 := h12'; clear h12'
    have h14 := Lib.hid ha14; clear ha14
    go_wp2_with fail
    refine (invert_any A9 n c9 p _ h9.out).mono ?_
    intro e w6 he
    obtain ⟨A16, c16, rfl, ha16, hbk⟩ := he.any Kx2.out Kl2.out Kn2.out hbn2
    have HE' := Lib.hid (HE.out.keep hbk)
    have HP' := Lib.hid (HP.out.keep hbk)
    have HQ' := Lib.hid (HQ.out.keep hbk)
    have OG' := Lib.hid (OG.out.below' hbk)
    have h9' := Lib.hid (h9.out.keep hbk)
    have h10' := Lib.hid (h10.out.keep hbk)
    have O11' := Lib.hid (O11.out.below' hbk)
    have H11' := Lib.hid (H11.out.keep hbk)
    have h12' := Lib.hid (h12.out.keep hbk)
    have h14' := Lib.hid (h14.out.keep hbk)
    have hb' := Lib.hid (below_chain hb.out hbk)
    clear hb hbk HE HP HQ OG h9 h10 O11 H11 h12 h14
    have hb := hb'; clear hb'
    have HE := HE'; clear HE'
    have HP := HP'; clear HP'
    have HQ := HQ'; clear HQ'
    have OG := OG'; clear OG'
    have h9 := h9'; clear h9'
    have h10 := h10'; clear h10'
    have O11 := O11'; clear O11'
    have H11 := H11'; clear H11'
    have h12 := h12'; clear h12'
    have h14 := h14'; clear h14'
    have h16 := Lib.hid ha16; clear ha16
    go_wp2_with fail
    refine (invertR_any A n c p _ HP.out).mono ?_
    intro e w7 he
    obtain ⟨A18, c18, rfl, ha18, hbk⟩ := he.any Kx2.out Kl2.out Kn2.out hbn2
    have HE' := Lib.hid (HE.out.keep hbk)
    have HP' := Lib.hid (HP.out.keep hbk)
    have HQ' := Lib.hid (HQ.out.keep hbk)
    have OG' := Lib.hid (OG.out.below' hbk)
    have h9' := Lib.hid (h9.out.keep hbk)
    have h10' := Lib.hid (h10.out.keep hbk)
    have O11' := Lib.hid (O11.out.below' hbk)
    have H11' := Lib.hid (H11.out.keep hbk)
    have h12' := Lib.hid (h12.out.keep hbk)
    have h14' := Lib.hid (h14.out.keep hbk)
    have h16' := Lib.hid (h16.out.keep hbk)
    have hb' := Lib.hid (below_chain hb.out hbk)
    clear hb hbk HE HP HQ OG h9 h10 O11 H11 h12 h14 h16
    have hb := hb'; clear hb'
    have HE := HE'; clear HE'
    have HP := HP'; clear HP'
    have HQ := HQ'; clear HQ'
    have OG := OG'; clear OG'
    have h9 := h9'; clear h9'
    have h10 := h10'; clear h10'
    have O11 := O11'; clear O11'
    have H11 := H11'; clear H11'
    have h12 := h12'; clear h12'
    have h14 := h14'; clear h14'
    have h16 := h16'; clear h16'
    have h18 := Lib.hid ha18; clear ha18
    go_wp2_with fail
    refine (right_any A9 n c9 p _ h9.out).mono ?_
    rintro e w8 ⟨rfl, hbk⟩
    rw [Kr0.out]
    have HE' := Lib.hid (HE.out.keep hbk)
    have HP' := Lib.hid (HP.out.keep hbk)
    have HQ' := Lib.hid (HQ.out.keep hbk)
    have OG' := Lib.hid (OG.out.below' hbk)
    have h9' := Lib.hid (h9.out.keep hbk)
    have h10' := Lib.hid (h10.out.keep hbk)
    have O11' := Lib.hid (O11.out.below' hbk)
    have H11' := Lib.hid (H11.out.keep hbk)
    have h12' := Lib.hid (h12.out.keep hbk)
    have h14' := Lib.hid (h14.out.keep hbk)
    have h16' := Lib.hid (h16.out.keep hbk)
    have h18' := Lib.hid (h18.out.keep hbk)
    have hb' := Lib.hid (below_chain hb.out hbk)
    clear hb hbk HE HP HQ OG h9 h10 O11 H11 h12 h14 h16 h18
    have hb := hb'; clear hb'
    have HE := HE'; clear HE'
    have HP := HP'; clear HP'
    have HQ := HQ'; clear HQ'
    have OG := OG'; clear OG'
    have h9 := h9'; clear h9'
    have h10 := h10'; clear h10'
    have O11 := O11'; clear O11'
    have H11 := H11'; clear H11'
    have h12 := h12'; clear h12'
    have h14 := h14'; clear h14'
    have h16 := h16'; clear h16'
    have h18 := h18'; clear h18'
    go_wp2_with fail
    refine (rightR_any A n c p _ HP.out).mono ?_
    rintro e w9 ⟨rfl, hbk⟩
    rw [Kr0.out]
    have HE' := Lib.hid (HE.out.keep hbk)
    have HP' := Lib.hid (HP.out.keep hbk)
    have HQ' := Lib.hid (HQ.out.keep hbk)
    have OG' := Lib.hid (OG.out.below' hbk)
    have h9' := Lib.hid (h9.out.keep hbk)
    have h10' := Lib.hid (h10.out.keep hbk)
    have O11' := Lib.hid (O11.out.below' hbk)
    have H11' := Lib.hid (H11.out.keep hbk)
    have h12' := Lib.hid (h12.out.keep hbk)
    have h14' := Lib.hid (h14.out.keep hbk)
    have h16' := Lib.hid (h16.out.keep hbk)
    have h18' := Lib.hid (h18.out.keep hbk)
    have hb' := Lib.hid (below_chain hb.out hbk)
    clear hb hbk HE HP HQ OG h9 h10 O11 H11 h12 h14 h16 h18
    have hb := hb'; clear hb'
    have HE := HE'; clear HE'
    have HP := HP'; clear HP'
    have HQ := HQ'; clear HQ'
    have OG := OG'; clear OG'
    have h9 := h9'; clear h9'
    have h10 := h10'; clear h10'
    have O11 := O11'; clear O11'
    have H11 := H11'; clear H11'
    have h12 := h12'; clear h12'
    have h14 := h14'; clear h14'
    have h16 := h16'; clear h16'
    have h18 := h18'; clear h18'
    go_wp2_with fail
    refine (sameInts_any A12 A14 c12 c14 n1 n1 l1 l1 _ h12.out h14.out).mono ?_
    rintro e w10 ⟨rfl, hbk⟩
    rw [beq_self_eq_true]
    have HE' := Lib.hid (HE.out.keep hbk)
    have HP' := Lib.hid (HP.out.keep hbk)
    have HQ' := Lib.hid (HQ.out.keep hbk)
    have OG' := Lib.hid (OG.out.below' hbk)
    have h9' := Lib.hid (h9.out.keep hbk)
    have h10' := Lib.hid (h10.out.keep hbk)
    have O11' := Lib.hid (O11.out.below' hbk)
    have H11' := Lib.hid (H11.out.keep hbk)
    have h12' := Lib.hid (h12.out.keep hbk)
    have h14' := Lib.hid (h14.out.keep hbk)
    have h16' := Lib.hid (h16.out.keep hbk)
    have h18' := Lib.hid (h18.out.keep hbk)
    have hb' := Lib.hid (below_chain hb.out hbk)
    clear hb hbk HE HP HQ OG h9 h10 O11 H11 h12 h14 h16 h18
    have hb := hb'; clear hb'
    have HE := HE'; clear HE'
    have HP := HP'; clear HP'
    have HQ := HQ'; clear HQ'
    have OG := OG'; clear OG'
    have h9 := h9'; clear h9'
    have h10 := h10'; clear h10'
    have O11 := O11'; clear O11'
    have H11 := H11'; clear H11'
    have h12 := h12'; clear h12'
    have h14 := h14'; clear h14'
    have h16 := h16'; clear h16'
    have h18 := h18'; clear h18'
    go_wp2_with fail
    refine (sameInts_any A16 A18 c16 c18 n2 n2 l2 l2 _ h16.out h18.out).mono ?_
    rintro e w11 ⟨rfl, hbk⟩
    rw [beq_self_eq_true]
    have HE' := Lib.hid (HE.out.keep hbk)
    have HP' := Lib.hid (HP.out.keep hbk)
    have HQ' := Lib.hid (HQ.out.keep hbk)
    have OG' := Lib.hid (OG.out.below' hbk)
    have h9' := Lib.hid (h9.out.keep hbk)
    have h10' := Lib.hid (h10.out.keep hbk)
    have O11' := Lib.hid (O11.out.below' hbk)
    have H11' := Lib.hid (H11.out.keep hbk)
    have h12' := Lib.hid (h12.out.keep hbk)
    have h14' := Lib.hid (h14.out.keep hbk)
    have h16' := Lib.hid (h16.out.keep hbk)
    have h18' := Lib.hid (h18.out.keep hbk)
    have hb' := Lib.hid (below_chain hb.out hbk)
    clear hb hbk HE HP HQ OG h9 h10 O11 H11 h12 h14 h16 h18
    have hb := hb'; clear hb'
    have HE := HE'; clear HE'
    have HP := HP'; clear HP'
    have HQ := HQ'; clear HQ'
    have OG := OG'; clear OG'
    have h9 := h9'; clear h9'
    have h10 := h10'; clear h10'
    have O11 := O11'; clear O11'
    have H11 := H11'; clear H11'
    have h12 := h12'; clear h12'
    have h14 := h14'; clear h14'
    have h16 := h16'; clear h16'
    have h18 := h18'; clear h18'
    go_wp2_with fail
    refine (identity_any k _).mono ?_
    intro e w12 he
    rw [Kl8.out] at he
    obtain ⟨A107, c107, rfl, ha107, hbk⟩ := he.at Kn8.out hbn8
    have HE' := Lib.hid (HE.out.keep hbk)
    have HP' := Lib.hid (HP.out.keep hbk)
    have HQ' := Lib.hid (HQ.out.keep hbk)
    have OG' := Lib.hid (OG.out.below' hbk)
    have h9' := Lib.hid (h9.out.keep hbk)
    have h10' := Lib.hid (h10.out.keep hbk)
    have O11' := Lib.hid (O11.out.below' hbk)
    have H11' := Lib.hid (H11.out.keep hbk)
    have h12' := Lib.hid (h12.out.keep hbk)
    have h14' := Lib.hid (h14.out.keep hbk)
    have h16' := Lib.hid (h16.out.keep hbk)
    have h18' := Lib.hid (h18.out.keep hbk)
    have hb' := Lib.hid (below_chain hb.out hbk)
    clear hb hbk HE HP HQ OG h9 h10 O11 H11 h12 h14 h16 h18
    have hb := hb'; clear hb'
    have HE := HE'; clear HE'
    have HP := HP'; clear HP'
    have HQ := HQ'; clear HQ'
    have OG := OG'; clear OG'
    have h9 := h9'; clear h9'
    have h10 := h10'; clear h10'
    have O11 := O11'; clear O11'
    have H11 := H11'; clear H11'
    have h12 := h12'; clear h12'
    have h14 := h14'; clear h14'
    have h16 := h16'; clear h16'
    have h18 := h18'; clear h18'
    have h107 := Lib.hid ha107; clear ha107
    go_wp2_with fail
    refine (identityR_any k _).mono ?_
    intro e w13 he
    rw [Kl8.out] at he
    obtain ⟨A109, c109, rfl, ha109, hbk⟩ := he.at Kn8.out hbn8
    have HE' := Lib.hid (HE.out.keep hbk)
    have HP' := Lib.hid (HP.out.keep hbk)
    have HQ' := Lib.hid (HQ.out.keep hbk)
    have OG' := Lib.hid (OG.out.below' hbk)
    have h9' := Lib.hid (h9.out.keep hbk)
    have h10' := Lib.hid (h10.out.keep hbk)
    have O11' := Lib.hid (O11.out.below' hbk)
    have H11' := Lib.hid (H11.out.keep hbk)
    have h12' := Lib.hid (h12.out.keep hbk)
    have h14' := Lib.hid (h14.out.keep hbk)
    have h16' := Lib.hid (h16.out.keep hbk)
    have h18' := Lib.hid (h18.out.keep hbk)
    have h107' := Lib.hid (h107.out.keep hbk)
    have hb' := Lib.hid (below_chain hb.out hbk)
    clear hb hbk HE HP HQ OG h9 h10 O11 H11 h12 h14 h16 h18 h107
    have hb := hb'; clear hb'
    have HE := HE'; clear HE'
    have HP := HP'; clear HP'
    have HQ := HQ'; clear HQ'
    have OG := OG'; clear OG'
    have h9 := h9'; clear h9'
    have h10 := h10'; clear h10'
    have O11 := O11'; clear O11'
    have H11 := H11'; clear H11'
    have h12 := h12'; clear h12'
    have h14 := h14'; clear h14'
    have h16 := h16'; clear h16'
    have h18 := h18'; clear h18'
    have h107 := h107'; clear h107'
    have h109 := Lib.hid ha109; clear ha109
    go_wp2_with fail
    refine (sameInts_any A107 A109 c107 c109 n8 n8 l8 l8 _ h107.out h109.out).mono ?_
    rintro e w14 ⟨rfl, hbk⟩
    rw [beq_self_eq_true]
    have HE' := Lib.hid (HE.out.keep hbk)
    have HP' := Lib.hid (HP.out.keep hbk)
    have HQ' := Lib.hid (HQ.out.keep hbk)
    have OG' := Lib.hid (OG.out.below' hbk)
    have h9' := Lib.hid (h9.out.keep hbk)
    have h10' := Lib.hid (h10.out.keep hbk)
    have O11' := Lib.hid (O11.out.below' hbk)
    have H11' := Lib.hid (H11.out.keep hbk)
    have h12' := Lib.hid (h12.out.keep hbk)
    have h14' := Lib.hid (h14.out.keep hbk)
    have h16' := Lib.hid (h16.out.keep hbk)
    have h18' := Lib.hid (h18.out.keep hbk)
    have h107' := Lib.hid (h107.out.keep hbk)
    have h109' := Lib.hid (h109.out.keep hbk)
    have hb' := Lib.hid (below_chain hb.out hbk)
    clear hb hbk HE HP HQ OG h9 h10 O11 H11 h12 h14 h16 h18 h107 h109
    have hb := hb'; clear hb'
    have HE := HE'; clear HE'
    have HP := HP'; clear HP'
    have HQ := HQ'; clear HQ'
    have OG := OG'; clear OG'
    have h9 := h9'; clear h9'
    have h10 := h10'; clear h10'
    have O11 := O11'; clear O11'
    have H11 := H11'; clear H11'
    have h12 := h12'; clear h12'
    have h14 := h14'; clear h14'
    have h16 := h16'; clear h16'
    have h18 := h18'; clear h18'
    have h107 := h107'; clear h107'
    have h109 := h109'; clear h109'
    go_wp2_with fail
    refine (power_any A9 n c9 k p _ h9.out).mono ?_
    intro e w15 he
    obtain ⟨A112, c112, rfl, ha112, hbk⟩ := he.any Kx3.out Kl3.out Kn3.out hbn3
    have HE' := Lib.hid (HE.out.keep hbk)
    have HP' := Lib.hid (HP.out.keep hbk)
    have HQ' := Lib.hid (HQ.out.keep hbk)
    have OG' := Lib.hid (OG.out.below' hbk)
    have h9' := Lib.hid (h9.out.keep hbk)
    have h10' := Lib.hid (h10.out.keep hbk)
    have O11' := Lib.hid (O11.out.below' hbk)
    have H11' := Lib.hid (H11.out.keep hbk)
    have h12' := Lib.hid (h12.out.keep hbk)
    have h14' := Lib.hid (h14.out.keep hbk)
    have h16' := Lib.hid (h16.out.keep hbk)
    have h18' := Lib.hid (h18.out.keep hbk)
    have h107' := Lib.hid (h107.out.keep hbk)
    have h109' := Lib.hid (h109.out.keep hbk)
    have hb' := Lib.hid (below_chain hb.out hbk)
    clear hb hbk HE HP HQ OG h9 h10 O11 H11 h12 h14 h16 h18 h107 h109
    have hb := hb'; clear hb'
    have HE := HE'; clear HE'
    have HP := HP'; clear HP'
    have HQ := HQ'; clear HQ'
    have OG := OG'; clear OG'
    have h9 := h9'; clear h9'
    have h10 := h10'; clear h10'
    have O11 := O11'; clear O11'
    have H11 := H11'; clear H11'
    have h12 := h12'; clear h12'
    have h14 := h14'; clear h14'
    have h16 := h16'; clear h16'
    have h18 := h18'; clear h18'
    have h107 := h107'; clear h107'
    have h109 := h109'; clear h109'
    have h112 := Lib.hid ha112; clear ha112
    go_wp2_with fail
    refine (powerR_any A n c k p _ HP.out hk0 hk1).mono ?_
    intro e w16 he
    obtain ⟨A114, c114, rfl, ha114, hbk⟩ := he.any Kx3.out Kl3.out Kn3.out hbn3
    have HE' := Lib.hid (HE.out.keep hbk)
    have HP' := Lib.hid (HP.out.keep hbk)
    have HQ' := Lib.hid (HQ.out.keep hbk)
    have OG' := Lib.hid (OG.out.below' hbk)
    have h9' := Lib.hid (h9.out.keep hbk)
    have h10' := Lib.hid (h10.out.keep hbk)
    have O11' := Lib.hid (O11.out.below' hbk)
    have H11' := Lib.hid (H11.out.keep hbk)
    have h12' := Lib.hid (h12.out.keep hbk)
    have h14' := Lib.hid (h14.out.keep hbk)
    have h16' := Lib.hid (h16.out.keep hbk)
    have h18' := Lib.hid (h18.out.keep hbk)
    have h107' := Lib.hid (h107.out.keep hbk)
    have h109' := Lib.hid (h109.out.keep hbk)
    have h112' := Lib.hid (h112.out.keep hbk)
    have hb' := Lib.hid (below_chain hb.out hbk)
    clear hb hbk HE HP HQ OG h9 h10 O11 H11 h12 h14 h16 h18 h107 h109 h112
    have hb := hb'; clear hb'
    have HE := HE'; clear HE'
    have HP := HP'; clear HP'
    have HQ := HQ'; clear HQ'
    have OG := OG'; clear OG'
    have h9 := h9'; clear h9'
    have h10 := h10'; clear h10'
    have O11 := O11'; clear O11'
    have H11 := H11'; clear H11'
    have h12 := h12'; clear h12'
    have h14 := h14'; clear h14'
    have h16 := h16'; clear h16'
    have h18 := h18'; clear h18'
    have h107 := h107'; clear h107'
    have h109 := h109'; clear h109'
    have h112 := h112'; clear h112'
    have h114 := Lib.hid ha114; clear ha114
    go_wp2_with fail
    refine (cyclesP_any A9 n c9 p _ h9.out).mono ?_
    intro e w17 he
    obtain ⟨A120, c120, rfl, ha120, hbk⟩ := he.any Kx4.out Kcs.out Kn4.out hbn4 HCL.out
    have HE' := Lib.hid (HE.out.keep hbk)
    have HP' := Lib.hid (HP.out.keep hbk)
    have HQ' := Lib.hid (HQ.out.keep hbk)
    have OG' := Lib.hid (OG.out.below' hbk)
    have h9' := Lib.hid (h9.out.keep hbk)
    have h10' := Lib.hid (h10.out.keep hbk)
    have O11' := Lib.hid (O11.out.below' hbk)
    have H11' := Lib.hid (H11.out.keep hbk)
    have h12' := Lib.hid (h12.out.keep hbk)
    have h14' := Lib.hid (h14.out.keep hbk)
    have h16' := Lib.hid (h16.out.keep hbk)
    have h18' := Lib.hid (h18.out.keep hbk)
    have h107' := Lib.hid (h107.out.keep hbk)
    have h109' := Lib.hid (h109.out.keep hbk)
    have h112' := Lib.hid (h112.out.keep hbk)
    have h114' := Lib.hid (h114.out.keep hbk)
    have hb' := Lib.hid (below_chain hb.out hbk)
    clear hb hbk HE HP HQ OG h9 h10 O11 H11 h12 h14 h16 h18 h107 h109 h112 h114
    have hb := hb'; clear hb'
    have HE := HE'; clear HE'
    have HP := HP'; clear HP'
    have HQ := HQ'; clear HQ'
    have OG := OG'; clear OG'
    have h9 := h9'; clear h9'
    have h10 := h10'; clear h10'
    have O11 := O11'; clear O11'
    have H11 := H11'; clear H11'
    have h12 := h12'; clear h12'
    have h14 := h14'; clear h14'
    have h16 := h16'; clear h16'
    have h18 := h18'; clear h18'
    have h107 := h107'; clear h107'
    have h109 := h109'; clear h109'
    have h112 := h112'; clear h112'
    have h114 := h114'; clear h114'
    have h120 := Lib.hid ha120; clear ha120
    go_wp2_with fail
    refine (cyclesR_any A n c p _ HP.out).mono ?_
    intro e w18 he
    obtain ⟨A121, c121, rfl, ha121, hbk⟩ := he.any Kx4.out Kcs.out Kn4.out hbn4 HCL.out
    have HE' := Lib.hid (HE.out.keep hbk)
    have HP' := Lib.hid (HP.out.keep hbk)
    have HQ' := Lib.hid (HQ.out.keep hbk)
    have OG' := Lib.hid (OG.out.below' hbk)
    have h9' := Lib.hid (h9.out.keep hbk)
    have h10' := Lib.hid (h10.out.keep hbk)
    have O11' := Lib.hid (O11.out.below' hbk)
    have H11' := Lib.hid (H11.out.keep hbk)
    have h12' := Lib.hid (h12.out.keep hbk)
    have h14' := Lib.hid (h14.out.keep hbk)
    have h16' := Lib.hid (h16.out.keep hbk)
    have h18' := Lib.hid (h18.out.keep hbk)
    have h107' := Lib.hid (h107.out.keep hbk)
    have h109' := Lib.hid (h109.out.keep hbk)
    have h112' := Lib.hid (h112.out.keep hbk)
    have h114' := Lib.hid (h114.out.keep hbk)
    have h120' := Lib.hid (h120.out.keep hbk)
    have hb' := Lib.hid (below_chain hb.out hbk)
    clear hb hbk HE HP HQ OG h9 h10 O11 H11 h12 h14 h16 h18 h107 h109 h112 h114 h120
    have hb := hb'; clear hb'
    have HE := HE'; clear HE'
    have HP := HP'; clear HP'
    have HQ := HQ'; clear HQ'
    have OG := OG'; clear OG'
    have h9 := h9'; clear h9'
    have h10 := h10'; clear h10'
    have O11 := O11'; clear O11'
    have H11 := H11'; clear H11'
    have h12 := h12'; clear h12'
    have h14 := h14'; clear h14'
    have h16 := h16'; clear h16'
    have h18 := h18'; clear h18'
    have h107 := h107'; clear h107'
    have h109 := h109'; clear h109'
    have h112 := h112'; clear h112'
    have h114 := h114'; clear h114'
    have h120 := h120'; clear h120'
    have h121 := Lib.hid ha121; clear ha121
    go_wp2_with fail
    refine (sameInts_any A112 A114 c112 c114 n3 n3 l3 l3 _ h112.out h114.out).mono ?_
    rintro e w19 ⟨rfl, hbk⟩
    rw [beq_self_eq_true]
    have HE' := Lib.hid (HE.out.keep hbk)
    have HP' := Lib.hid (HP.out.keep hbk)
    have HQ' := Lib.hid (HQ.out.keep hbk)
    have OG' := Lib.hid (OG.out.below' hbk)
    have h9' := Lib.hid (h9.out.keep hbk)
    have h10' := Lib.hid (h10.out.keep hbk)
    have O11' := Lib.hid (O11.out.below' hbk)
    have H11' := Lib.hid (H11.out.keep hbk)
    have h12' := Lib.hid (h12.out.keep hbk)
    have h14' := Lib.hid (h14.out.keep hbk)
    have h16' := Lib.hid (h16.out.keep hbk)
    have h18' := Lib.hid (h18.out.keep hbk)
    have h107' := Lib.hid (h107.out.keep hbk)
    have h109' := Lib.hid (h109.out.keep hbk)
    have h112' := Lib.hid (h112.out.keep hbk)
    have h114' := Lib.hid (h114.out.keep hbk)
    have h120' := Lib.hid (h120.out.keep hbk)
    have h121' := Lib.hid (h121.out.keep hbk)
    have hb' := Lib.hid (below_chain hb.out hbk)
    clear hb hbk HE HP HQ OG h9 h10 O11 H11 h12 h14 h16 h18 h107 h109 h112 h114 h120 h121
    have hb := hb'; clear hb'
    have HE := HE'; clear HE'
    have HP := HP'; clear HP'
    have HQ := HQ'; clear HQ'
    have OG := OG'; clear OG'
    have h9 := h9'; clear h9'
    have h10 := h10'; clear h10'
    have O11 := O11'; clear O11'
    have H11 := H11'; clear H11'
    have h12 := h12'; clear h12'
    have h14 := h14'; clear h14'
    have h16 := h16'; clear h16'
    have h18 := h18'; clear h18'
    have h107 := h107'; clear h107'
    have h109 := h109'; clear h109'
    have h112 := h112'; clear h112'
    have h114 := h114'; clear h114'
    have h120 := h120'; clear h120'
    have h121 := h121'; clear h121'
    go_wp2_with fail
    refine (sameLists_any A120 A121 c120 c121 n4 n4 cs cs _ h120.out h121.out).mono ?_
    rintro e w20 ⟨rfl, hbk⟩
    rw [beq_self_eq_true]
    have HE' := Lib.hid (HE.out.keep hbk)
    have HP' := Lib.hid (HP.out.keep hbk)
    have HQ' := Lib.hid (HQ.out.keep hbk)
    have OG' := Lib.hid (OG.out.below' hbk)
    have h9' := Lib.hid (h9.out.keep hbk)
    have h10' := Lib.hid (h10.out.keep hbk)
    have O11' := Lib.hid (O11.out.below' hbk)
    have H11' := Lib.hid (H11.out.keep hbk)
    have h12' := Lib.hid (h12.out.keep hbk)
    have h14' := Lib.hid (h14.out.keep hbk)
    have h16' := Lib.hid (h16.out.keep hbk)
    have h18' := Lib.hid (h18.out.keep hbk)
    have h107' := Lib.hid (h107.out.keep hbk)
    have h109' := Lib.hid (h109.out.keep hbk)
    have h112' := Lib.hid (h112.out.keep hbk)
    have h114' := Lib.hid (h114.out.keep hbk)
    have h120' := Lib.hid (h120.out.keep hbk)
    have h121' := Lib.hid (h121.out.keep hbk)
    have hb' := Lib.hid (below_chain hb.out hbk)
    clear hb hbk HE HP HQ OG h9 h10 O11 H11 h12 h14 h16 h18 h107 h109 h112 h114 h120 h121
    have hb := hb'; clear hb'
    have HE := HE'; clear HE'
    have HP := HP'; clear HP'
    have HQ := HQ'; clear HQ'
    have OG := OG'; clear OG'
    have h9 := h9'; clear h9'
    have h10 := h10'; clear h10'
    have O11 := O11'; clear O11'
    have H11 := H11'; clear H11'
    have h12 := h12'; clear h12'
    have h14 := h14'; clear h14'
    have h16 := h16'; clear h16'
    have h18 := h18'; clear h18'
    have h107 := h107'; clear h107'
    have h109 := h109'; clear h109'
    have h112 := h112'; clear h112'
    have h114 := h114'; clear h114'
    have h120 := h120'; clear h120'
    have h121 := h121'; clear h121'
    go_wp2_with fail
    refine (order_any A9 n c9 p _ h9.out).mono ?_
    rintro e w21 ⟨he, hbk⟩
    rw [show (if (ordO p).isSome then (0 : Int) else 30) = x6 from Kx6.out, Kx5.out] at he
    subst he
    have HE' := Lib.hid (HE.out.keep hbk)
    have HP' := Lib.hid (HP.out.keep hbk)
    have HQ' := Lib.hid (HQ.out.keep hbk)
    have OG' := Lib.hid (OG.out.below' hbk)
    have h9' := Lib.hid (h9.out.keep hbk)
    have h10' := Lib.hid (h10.out.keep hbk)
    have O11' := Lib.hid (O11.out.below' hbk)
    have H11' := Lib.hid (H11.out.keep hbk)
    have h12' := Lib.hid (h12.out.keep hbk)
    have h14' := Lib.hid (h14.out.keep hbk)
    have h16' := Lib.hid (h16.out.keep hbk)
    have h18' := Lib.hid (h18.out.keep hbk)
    have h107' := Lib.hid (h107.out.keep hbk)
    have h109' := Lib.hid (h109.out.keep hbk)
    have h112' := Lib.hid (h112.out.keep hbk)
    have h114' := Lib.hid (h114.out.keep hbk)
    have h120' := Lib.hid (h120.out.keep hbk)
    have h121' := Lib.hid (h121.out.keep hbk)
    have hb' := Lib.hid (below_chain hb.out hbk)
    clear hb hbk HE HP HQ OG h9 h10 O11 H11 h12 h14 h16 h18 h107 h109 h112 h114 h120 h121
    have hb := hb'; clear hb'
    have HE := HE'; clear HE'
    have HP := HP'; clear HP'
    have HQ := HQ'; clear HQ'
    have OG := OG'; clear OG'
    have h9 := h9'; clear h9'
    have h10 := h10'; clear h10'
    have O11 := O11'; clear O11'
    have H11 := H11'; clear H11'
    have h12 := h12'; clear h12'
    have h14 := h14'; clear h14'
    have h16 := h16'; clear h16'
    have h18 := h18'; clear h18'
    have h107 := h107'; clear h107'
    have h109 := h109'; clear h109'
    have h112 := h112'; clear h112'
    have h114 := h114'; clear h114'
    have h120 := h120'; clear h120'
    have h121 := h121'; clear h121'
    go_wp2_with fail
    refine (orderR_any A n c p _ HP.out).mono ?_
    rintro e w22 ⟨he, hbk⟩
    rw [show (if (ordO p).isSome then (0 : Int) else 30) = x6 from Kx6.out, Kx5.out] at he
    subst he
    have HE' := Lib.hid (HE.out.keep hbk)
    have HP' := Lib.hid (HP.out.keep hbk)
    have HQ' := Lib.hid (HQ.out.keep hbk)
    have OG' := Lib.hid (OG.out.below' hbk)
    have h9' := Lib.hid (h9.out.keep hbk)
    have h10' := Lib.hid (h10.out.keep hbk)
    have O11' := Lib.hid (O11.out.below' hbk)
    have H11' := Lib.hid (H11.out.keep hbk)
    have h12' := Lib.hid (h12.out.keep hbk)
    have h14' := Lib.hid (h14.out.keep hbk)
    have h16' := Lib.hid (h16.out.keep hbk)
    have h18' := Lib.hid (h18.out.keep hbk)
    have h107' := Lib.hid (h107.out.keep hbk)
    have h109' := Lib.hid (h109.out.keep hbk)
    have h112' := Lib.hid (h112.out.keep hbk)
    have h114' := Lib.hid (h114.out.keep hbk)
    have h120' := Lib.hid (h120.out.keep hbk)
    have h121' := Lib.hid (h121.out.keep hbk)
    have hb' := Lib.hid (below_chain hb.out hbk)
    clear hb hbk HE HP HQ OG h9 h10 O11 H11 h12 h14 h16 h18 h107 h109 h112 h114 h120 h121
    have hb := hb'; clear hb'
    have HE := HE'; clear HE'
    have HP := HP'; clear HP'
    have HQ := HQ'; clear HQ'
    have OG := OG'; clear OG'
    have h9 := h9'; clear h9'
    have h10 := h10'; clear h10'
    have O11 := O11'; clear O11'
    have H11 := H11'; clear H11'
    have h12 := h12'; clear h12'
    have h14 := h14'; clear h14'
    have h16 := h16'; clear h16'
    have h18 := h18'; clear h18'
    have h107 := h107'; clear h107'
    have h109 := h109'; clear h109'
    have h112 := h112'; clear h112'
    have h114 := h114'; clear h114'
    have h120 := h120'; clear h120'
    have h121 := h121'; clear h121'
    have qO11 := O11.out.cell; have zO11 := O11.out.lt
    go_wp2_with fail
    refine (apply_any N A11 A9 j c11 n c9 E p _ H11.out h9.out).mono ?_
    intro e w23 he
    obtain ⟨A24, c24, rfl, ha24, hbk⟩ := he.any KM.out Kx7.out Kl7.out Kn7.out hbn7
    clear qO11 zO11
    have HE' := Lib.hid (HE.out.keep hbk)
    have HP' := Lib.hid (HP.out.keep hbk)
    have HQ' := Lib.hid (HQ.out.keep hbk)
    have OG' := Lib.hid (OG.out.below' hbk)
    have h9' := Lib.hid (h9.out.keep hbk)
    have h10' := Lib.hid (h10.out.keep hbk)
    have O11' := Lib.hid (O11.out.below' hbk)
    have H11' := Lib.hid (H11.out.keep hbk)
    have h12' := Lib.hid (h12.out.keep hbk)
    have h14' := Lib.hid (h14.out.keep hbk)
    have h16' := Lib.hid (h16.out.keep hbk)
    have h18' := Lib.hid (h18.out.keep hbk)
    have h107' := Lib.hid (h107.out.keep hbk)
    have h109' := Lib.hid (h109.out.keep hbk)
    have h112' := Lib.hid (h112.out.keep hbk)
    have h114' := Lib.hid (h114.out.keep hbk)
    have h120' := Lib.hid (h120.out.keep hbk)
    have h121' := Lib.hid (h121.out.keep hbk)
    have hb' := Lib.hid (below_chain hb.out hbk)
    clear hb hbk HE HP HQ OG h9 h10 O11 H11 h12 h14 h16 h18 h107 h109 h112 h114 h120 h121
    have hb := hb'; clear hb'
    have HE := HE'; clear HE'
    have HP := HP'; clear HP'
    have HQ := HQ'; clear HQ'
    have OG := OG'; clear OG'
    have h9 := h9'; clear h9'
    have h10 := h10'; clear h10'
    have O11 := O11'; clear O11'
    have H11 := H11'; clear H11'
    have h12 := h12'; clear h12'
    have h14 := h14'; clear h14'
    have h16 := h16'; clear h16'
    have h18 := h18'; clear h18'
    have h107 := h107'; clear h107'
    have h109 := h109'; clear h109'
    have h112 := h112'; clear h112'
    have h114 := h114'; clear h114'
    have h120 := h120'; clear h120'
    have h121 := h121'; clear h121'
    have H24 := Lib.hid ha24; clear ha24
    have hb' := Lib.hid (bel_alloc hb.out (.cells #[.int .i64 M, .slice A24 n7 c24] 34)); clear hb; have hb := hb'; clear hb'
    have HE' := Lib.hid (HE.out.keep (alloc_below _ (.cells #[.int .i64 M, .slice A24 n7 c24] 34))); clear HE; have HE := HE'; clear HE'
    have HP' := Lib.hid (HP.out.keep (alloc_below _ (.cells #[.int .i64 M, .slice A24 n7 c24] 34))); clear HP; have HP := HP'; clear HP'
    have HQ' := Lib.hid (HQ.out.keep (alloc_below _ (.cells #[.int .i64 M, .slice A24 n7 c24] 34))); clear HQ; have HQ := HQ'; clear HQ'
    have OG' := Lib.hid (OG.out.alloc (.cells #[.int .i64 M, .slice A24 n7 c24] 34)); clear OG; have OG := OG'; clear OG'
    have h9' := Lib.hid (h9.out.keep (alloc_below _ (.cells #[.int .i64 M, .slice A24 n7 c24] 34))); clear h9; have h9 := h9'; clear h9'
    have h10' := Lib.hid (h10.out.keep (alloc_below _ (.cells #[.int .i64 M, .slice A24 n7 c24] 34))); clear h10; have h10 := h10'; clear h10'
    have O11' := Lib.hid (O11.out.alloc (.cells #[.int .i64 M, .slice A24 n7 c24] 34)); clear O11; have O11 := O11'; clear O11'
    have H11' := Lib.hid (H11.out.keep (alloc_below _ (.cells #[.int .i64 M, .slice A24 n7 c24] 34))); clear H11; have H11 := H11'; clear H11'
    have h12' := Lib.hid (h12.out.keep (alloc_below _ (.cells #[.int .i64 M, .slice A24 n7 c24] 34))); clear h12; have h12 := h12'; clear h12'
    have h14' := Lib.hid (h14.out.keep (alloc_below _ (.cells #[.int .i64 M, .slice A24 n7 c24] 34))); clear h14; have h14 := h14'; clear h14'
    have h16' := Lib.hid (h16.out.keep (alloc_below _ (.cells #[.int .i64 M, .slice A24 n7 c24] 34))); clear h16; have h16 := h16'; clear h16'
    have h18' := Lib.hid (h18.out.keep (alloc_below _ (.cells #[.int .i64 M, .slice A24 n7 c24] 34))); clear h18; have h18 := h18'; clear h18'
    have h107' := Lib.hid (h107.out.keep (alloc_below _ (.cells #[.int .i64 M, .slice A24 n7 c24] 34))); clear h107; have h107 := h107'; clear h107'
    have h109' := Lib.hid (h109.out.keep (alloc_below _ (.cells #[.int .i64 M, .slice A24 n7 c24] 34))); clear h109; have h109 := h109'; clear h109'
    have h112' := Lib.hid (h112.out.keep (alloc_below _ (.cells #[.int .i64 M, .slice A24 n7 c24] 34))); clear h112; have h112 := h112'; clear h112'
    have h114' := Lib.hid (h114.out.keep (alloc_below _ (.cells #[.int .i64 M, .slice A24 n7 c24] 34))); clear h114; have h114 := h114'; clear h114'
    have h120' := Lib.hid (h120.out.keep (alloc_below _ (.cells #[.int .i64 M, .slice A24 n7 c24] 34))); clear h120; have h120 := h120'; clear h120'
    have h121' := Lib.hid (h121.out.keep (alloc_below _ (.cells #[.int .i64 M, .slice A24 n7 c24] 34))); clear h121; have h121 := h121'; clear h121'
    have H24' := Lib.hid (H24.out.keep (alloc_below _ (.cells #[.int .i64 M, .slice A24 n7 c24] 34))); clear H24; have H24 := H24'; clear H24'
    have O24 := Lib.hid (Own.new' (w := w23) (t := 34) (vs := [.int .i64 M, .slice A24 n7 c24]) rfl)
    have qOG := OG.out.cell; have zOG := OG.out.lt
    go_wp2_with fail
    refine (applyR_any N C A j f0 n c E p _ HE.out HP.out).mono ?_
    intro e w24 he
    obtain ⟨A25, c25, rfl, ha25, hbk⟩ := he.any KM.out Kx7.out Kl7.out Kn7.out hbn7
    clear qOG zOG
    have HE' := Lib.hid (HE.out.keep hbk)
    have HP' := Lib.hid (HP.out.keep hbk)
    have HQ' := Lib.hid (HQ.out.keep hbk)
    have OG' := Lib.hid (OG.out.below' hbk)
    have h9' := Lib.hid (h9.out.keep hbk)
    have h10' := Lib.hid (h10.out.keep hbk)
    have O11' := Lib.hid (O11.out.below' hbk)
    have H11' := Lib.hid (H11.out.keep hbk)
    have h12' := Lib.hid (h12.out.keep hbk)
    have h14' := Lib.hid (h14.out.keep hbk)
    have h16' := Lib.hid (h16.out.keep hbk)
    have h18' := Lib.hid (h18.out.keep hbk)
    have h107' := Lib.hid (h107.out.keep hbk)
    have h109' := Lib.hid (h109.out.keep hbk)
    have h112' := Lib.hid (h112.out.keep hbk)
    have h114' := Lib.hid (h114.out.keep hbk)
    have h120' := Lib.hid (h120.out.keep hbk)
    have h121' := Lib.hid (h121.out.keep hbk)
    have H24' := Lib.hid (H24.out.keep hbk)
    have O24' := Lib.hid (O24.out.below' hbk)
    have hb' := Lib.hid (below_chain hb.out hbk)
    clear hb hbk HE HP HQ OG h9 h10 O11 H11 h12 h14 h16 h18 h107 h109 h112 h114 h120 h121 H24 O24
    have hb := hb'; clear hb'
    have HE := HE'; clear HE'
    have HP := HP'; clear HP'
    have HQ := HQ'; clear HQ'
    have OG := OG'; clear OG'
    have h9 := h9'; clear h9'
    have h10 := h10'; clear h10'
    have O11 := O11'; clear O11'
    have H11 := H11'; clear H11'
    have h12 := h12'; clear h12'
    have h14 := h14'; clear h14'
    have h16 := h16'; clear h16'
    have h18 := h18'; clear h18'
    have h107 := h107'; clear h107'
    have h109 := h109'; clear h109'
    have h112 := h112'; clear h112'
    have h114 := h114'; clear h114'
    have h120 := h120'; clear h120'
    have h121 := h121'; clear h121'
    have H24 := H24'; clear H24'
    have O24 := O24'; clear O24'
    have H25 := Lib.hid ha25; clear ha25
    have hb' := Lib.hid (bel_alloc hb.out (.cells #[.int .i64 M, .slice A25 n7 c25] 34)); clear hb; have hb := hb'; clear hb'
    have HE' := Lib.hid (HE.out.keep (alloc_below _ (.cells #[.int .i64 M, .slice A25 n7 c25] 34))); clear HE; have HE := HE'; clear HE'
    have HP' := Lib.hid (HP.out.keep (alloc_below _ (.cells #[.int .i64 M, .slice A25 n7 c25] 34))); clear HP; have HP := HP'; clear HP'
    have HQ' := Lib.hid (HQ.out.keep (alloc_below _ (.cells #[.int .i64 M, .slice A25 n7 c25] 34))); clear HQ; have HQ := HQ'; clear HQ'
    have OG' := Lib.hid (OG.out.alloc (.cells #[.int .i64 M, .slice A25 n7 c25] 34)); clear OG; have OG := OG'; clear OG'
    have h9' := Lib.hid (h9.out.keep (alloc_below _ (.cells #[.int .i64 M, .slice A25 n7 c25] 34))); clear h9; have h9 := h9'; clear h9'
    have h10' := Lib.hid (h10.out.keep (alloc_below _ (.cells #[.int .i64 M, .slice A25 n7 c25] 34))); clear h10; have h10 := h10'; clear h10'
    have O11' := Lib.hid (O11.out.alloc (.cells #[.int .i64 M, .slice A25 n7 c25] 34)); clear O11; have O11 := O11'; clear O11'
    have H11' := Lib.hid (H11.out.keep (alloc_below _ (.cells #[.int .i64 M, .slice A25 n7 c25] 34))); clear H11; have H11 := H11'; clear H11'
    have h12' := Lib.hid (h12.out.keep (alloc_below _ (.cells #[.int .i64 M, .slice A25 n7 c25] 34))); clear h12; have h12 := h12'; clear h12'
    have h14' := Lib.hid (h14.out.keep (alloc_below _ (.cells #[.int .i64 M, .slice A25 n7 c25] 34))); clear h14; have h14 := h14'; clear h14'
    have h16' := Lib.hid (h16.out.keep (alloc_below _ (.cells #[.int .i64 M, .slice A25 n7 c25] 34))); clear h16; have h16 := h16'; clear h16'
    have h18' := Lib.hid (h18.out.keep (alloc_below _ (.cells #[.int .i64 M, .slice A25 n7 c25] 34))); clear h18; have h18 := h18'; clear h18'
    have h107' := Lib.hid (h107.out.keep (alloc_below _ (.cells #[.int .i64 M, .slice A25 n7 c25] 34))); clear h107; have h107 := h107'; clear h107'
    have h109' := Lib.hid (h109.out.keep (alloc_below _ (.cells #[.int .i64 M, .slice A25 n7 c25] 34))); clear h109; have h109 := h109'; clear h109'
    have h112' := Lib.hid (h112.out.keep (alloc_below _ (.cells #[.int .i64 M, .slice A25 n7 c25] 34))); clear h112; have h112 := h112'; clear h112'
    have h114' := Lib.hid (h114.out.keep (alloc_below _ (.cells #[.int .i64 M, .slice A25 n7 c25] 34))); clear h114; have h114 := h114'; clear h114'
    have h120' := Lib.hid (h120.out.keep (alloc_below _ (.cells #[.int .i64 M, .slice A25 n7 c25] 34))); clear h120; have h120 := h120'; clear h120'
    have h121' := Lib.hid (h121.out.keep (alloc_below _ (.cells #[.int .i64 M, .slice A25 n7 c25] 34))); clear h121; have h121 := h121'; clear h121'
    have H24' := Lib.hid (H24.out.keep (alloc_below _ (.cells #[.int .i64 M, .slice A25 n7 c25] 34))); clear H24; have H24 := H24'; clear H24'
    have O24' := Lib.hid (O24.out.alloc (.cells #[.int .i64 M, .slice A25 n7 c25] 34)); clear O24; have O24 := O24'; clear O24'
    have H25' := Lib.hid (H25.out.keep (alloc_below _ (.cells #[.int .i64 M, .slice A25 n7 c25] 34))); clear H25; have H25 := H25'; clear H25'
    have O25 := Lib.hid (Own.new' (w := w24) (t := 34) (vs := [.int .i64 M, .slice A25 n7 c25]) rfl)
    have qO24 := O24.out.cell; have zO24 := O24.out.lt
    have qO25 := O25.out.cell; have zO25 := O25.out.lt
    go_wp2_with fail
    refine (sameGraph_any M M A24 A25 c24 c25 n7 n7 l7 l7 _ H24.out H25.out).mono ?_
    rintro e w25 ⟨rfl, hbk⟩
    rw [beq_self_eq_true, beq_self_eq_true, Bool.true_and]
    clear qO24 zO24
    clear qO25 zO25
    have HE' := Lib.hid (HE.out.keep hbk)
    have HP' := Lib.hid (HP.out.keep hbk)
    have HQ' := Lib.hid (HQ.out.keep hbk)
    have OG' := Lib.hid (OG.out.below' hbk)
    have h9' := Lib.hid (h9.out.keep hbk)
    have h10' := Lib.hid (h10.out.keep hbk)
    have O11' := Lib.hid (O11.out.below' hbk)
    have H11' := Lib.hid (H11.out.keep hbk)
    have h12' := Lib.hid (h12.out.keep hbk)
    have h14' := Lib.hid (h14.out.keep hbk)
    have h16' := Lib.hid (h16.out.keep hbk)
    have h18' := Lib.hid (h18.out.keep hbk)
    have h107' := Lib.hid (h107.out.keep hbk)
    have h109' := Lib.hid (h109.out.keep hbk)
    have h112' := Lib.hid (h112.out.keep hbk)
    have h114' := Lib.hid (h114.out.keep hbk)
    have h120' := Lib.hid (h120.out.keep hbk)
    have h121' := Lib.hid (h121.out.keep hbk)
    have H24' := Lib.hid (H24.out.keep hbk)
    have O24' := Lib.hid (O24.out.below' hbk)
    have H25' := Lib.hid (H25.out.keep hbk)
    have O25' := Lib.hid (O25.out.below' hbk)
    have hb' := Lib.hid (below_chain hb.out hbk)
    clear hb hbk HE HP HQ OG h9 h10 O11 H11 h12 h14 h16 h18 h107 h109 h112 h114 h120 h121 H24 O24 H25 O25
    have hb := hb'; clear hb'
    have HE := HE'; clear HE'
    have HP := HP'; clear HP'
    have HQ := HQ'; clear HQ'
    have OG := OG'; clear OG'
    have h9 := h9'; clear h9'
    have h10 := h10'; clear h10'
    have O11 := O11'; clear O11'
    have H11 := H11'; clear H11'
    have h12 := h12'; clear h12'
    have h14 := h14'; clear h14'
    have h16 := h16'; clear h16'
    have h18 := h18'; clear h18'
    have h107 := h107'; clear h107'
    have h109 := h109'; clear h109'
    have h112 := h112'; clear h112'
    have h114 := h114'; clear h114'
    have h120 := h120'; clear h120'
    have h121 := h121'; clear h121'
    have H24 := H24'; clear H24'
    have O24 := O24'; clear O24'
    have H25 := H25'; clear H25'
    have O25 := O25'; clear O25'
    go_wp2_with fail
    refine (sameInts_any A9 A c9 c n n p p _ h9.out HP.out).mono ?_
    rintro e w26 ⟨rfl, hbk⟩
    rw [beq_self_eq_true]
    have HE' := Lib.hid (HE.out.keep hbk)
    have HP' := Lib.hid (HP.out.keep hbk)
    have HQ' := Lib.hid (HQ.out.keep hbk)
    have OG' := Lib.hid (OG.out.below' hbk)
    have h9' := Lib.hid (h9.out.keep hbk)
    have h10' := Lib.hid (h10.out.keep hbk)
    have O11' := Lib.hid (O11.out.below' hbk)
    have H11' := Lib.hid (H11.out.keep hbk)
    have h12' := Lib.hid (h12.out.keep hbk)
    have h14' := Lib.hid (h14.out.keep hbk)
    have h16' := Lib.hid (h16.out.keep hbk)
    have h18' := Lib.hid (h18.out.keep hbk)
    have h107' := Lib.hid (h107.out.keep hbk)
    have h109' := Lib.hid (h109.out.keep hbk)
    have h112' := Lib.hid (h112.out.keep hbk)
    have h114' := Lib.hid (h114.out.keep hbk)
    have h120' := Lib.hid (h120.out.keep hbk)
    have h121' := Lib.hid (h121.out.keep hbk)
    have H24' := Lib.hid (H24.out.keep hbk)
    have O24' := Lib.hid (O24.out.below' hbk)
    have H25' := Lib.hid (H25.out.keep hbk)
    have O25' := Lib.hid (O25.out.below' hbk)
    have hb' := Lib.hid (below_chain hb.out hbk)
    clear hb hbk HE HP HQ OG h9 h10 O11 H11 h12 h14 h16 h18 h107 h109 h112 h114 h120 h121 H24 O24 H25 O25
    have hb := hb'; clear hb'
    have HE := HE'; clear HE'
    have HP := HP'; clear HP'
    have HQ := HQ'; clear HQ'
    have OG := OG'; clear OG'
    have h9 := h9'; clear h9'
    have h10 := h10'; clear h10'
    have O11 := O11'; clear O11'
    have H11 := H11'; clear H11'
    have h12 := h12'; clear h12'
    have h14 := h14'; clear h14'
    have h16 := h16'; clear h16'
    have h18 := h18'; clear h18'
    have h107 := h107'; clear h107'
    have h109 := h109'; clear h109'
    have h112 := h112'; clear h112'
    have h114 := h114'; clear h114'
    have h120 := h120'; clear h120'
    have h121 := h121'; clear h121'
    have H24 := H24'; clear H24'
    have O24 := O24'; clear O24'
    have H25 := H25'; clear H25'
    have O25 := O25'; clear O25'
    go_wp2_with fail
    refine (sameInts_any A10 B c10 d m m q q _ h10.out HQ.out).mono ?_
    rintro e w27 ⟨rfl, hbk⟩
    rw [beq_self_eq_true]
    have HE' := Lib.hid (HE.out.keep hbk)
    have HP' := Lib.hid (HP.out.keep hbk)
    have HQ' := Lib.hid (HQ.out.keep hbk)
    have OG' := Lib.hid (OG.out.below' hbk)
    have h9' := Lib.hid (h9.out.keep hbk)
    have h10' := Lib.hid (h10.out.keep hbk)
    have O11' := Lib.hid (O11.out.below' hbk)
    have H11' := Lib.hid (H11.out.keep hbk)
    have h12' := Lib.hid (h12.out.keep hbk)
    have h14' := Lib.hid (h14.out.keep hbk)
    have h16' := Lib.hid (h16.out.keep hbk)
    have h18' := Lib.hid (h18.out.keep hbk)
    have h107' := Lib.hid (h107.out.keep hbk)
    have h109' := Lib.hid (h109.out.keep hbk)
    have h112' := Lib.hid (h112.out.keep hbk)
    have h114' := Lib.hid (h114.out.keep hbk)
    have h120' := Lib.hid (h120.out.keep hbk)
    have h121' := Lib.hid (h121.out.keep hbk)
    have H24' := Lib.hid (H24.out.keep hbk)
    have O24' := Lib.hid (O24.out.below' hbk)
    have H25' := Lib.hid (H25.out.keep hbk)
    have O25' := Lib.hid (O25.out.below' hbk)
    have hb' := Lib.hid (below_chain hb.out hbk)
    clear hb hbk HE HP HQ OG h9 h10 O11 H11 h12 h14 h16 h18 h107 h109 h112 h114 h120 h121 H24 O24 H25 O25
    have hb := hb'; clear hb'
    have HE := HE'; clear HE'
    have HP := HP'; clear HP'
    have HQ := HQ'; clear HQ'
    have OG := OG'; clear OG'
    have h9 := h9'; clear h9'
    have h10 := h10'; clear h10'
    have O11 := O11'; clear O11'
    have H11 := H11'; clear H11'
    have h12 := h12'; clear h12'
    have h14 := h14'; clear h14'
    have h16 := h16'; clear h16'
    have h18 := h18'; clear h18'
    have h107 := h107'; clear h107'
    have h109 := h109'; clear h109'
    have h112 := h112'; clear h112'
    have h114 := h114'; clear h114'
    have h120 := h120'; clear h120'
    have h121 := h121'; clear h121'
    have H24 := H24'; clear H24'
    have O24 := O24'; clear O24'
    have H25 := H25'; clear H25'
    have O25 := O25'; clear O25'
    have qO11 := O11.out.cell; have zO11 := O11.out.lt
    have qOG := OG.out.cell; have zOG := OG.out.lt
    go_wp2_with fail
    refine (sameGraph_any N N A11 C c11 f0 j j E E _ H11.out HE.out).mono ?_
    rintro e w28 ⟨rfl, hbk⟩
    rw [beq_self_eq_true, beq_self_eq_true, Bool.true_and]
    clear qO11 zO11
    clear qOG zOG
    have HE' := Lib.hid (HE.out.keep hbk)
    have HP' := Lib.hid (HP.out.keep hbk)
    have HQ' := Lib.hid (HQ.out.keep hbk)
    have OG' := Lib.hid (OG.out.below' hbk)
    have h9' := Lib.hid (h9.out.keep hbk)
    have h10' := Lib.hid (h10.out.keep hbk)
    have O11' := Lib.hid (O11.out.below' hbk)
    have H11' := Lib.hid (H11.out.keep hbk)
    have h12' := Lib.hid (h12.out.keep hbk)
    have h14' := Lib.hid (h14.out.keep hbk)
    have h16' := Lib.hid (h16.out.keep hbk)
    have h18' := Lib.hid (h18.out.keep hbk)
    have h107' := Lib.hid (h107.out.keep hbk)
    have h109' := Lib.hid (h109.out.keep hbk)
    have h112' := Lib.hid (h112.out.keep hbk)
    have h114' := Lib.hid (h114.out.keep hbk)
    have h120' := Lib.hid (h120.out.keep hbk)
    have h121' := Lib.hid (h121.out.keep hbk)
    have H24' := Lib.hid (H24.out.keep hbk)
    have O24' := Lib.hid (O24.out.below' hbk)
    have H25' := Lib.hid (H25.out.keep hbk)
    have O25' := Lib.hid (O25.out.below' hbk)
    have hb' := Lib.hid (below_chain hb.out hbk)
    clear hb hbk HE HP HQ OG h9 h10 O11 H11 h12 h14 h16 h18 h107 h109 h112 h114 h120 h121 H24 O24 H25 O25
    have hb := hb'; clear hb'
    have HE := HE'; clear HE'
    have HP := HP'; clear HP'
    have HQ := HQ'; clear HQ'
    have OG := OG'; clear OG'
    have h9 := h9'; clear h9'
    have h10 := h10'; clear h10'
    have O11 := O11'; clear O11'
    have H11 := H11'; clear H11'
    have h12 := h12'; clear h12'
    have h14 := h14'; clear h14'
    have h16 := h16'; clear h16'
    have h18 := h18'; clear h18'
    have h107 := h107'; clear h107'
    have h109 := h109'; clear h109'
    have h112 := h112'; clear h112'
    have h114 := h114'; clear h114'
    have h120 := h120'; clear h120'
    have h121 := h121'; clear h121'
    have H24 := H24'; clear H24'
    have O24 := O24'; clear O24'
    have H25 := H25'; clear H25'
    have O25 := O25'; clear O25'
    go_wp2_with fail
    refine (awakeP_true _).mono ?_
    rintro e w29 ⟨rfl, hbk⟩
    have HE' := Lib.hid (HE.out.keep hbk)
    have HP' := Lib.hid (HP.out.keep hbk)
    have HQ' := Lib.hid (HQ.out.keep hbk)
    have OG' := Lib.hid (OG.out.below' hbk)
    have h9' := Lib.hid (h9.out.keep hbk)
    have h10' := Lib.hid (h10.out.keep hbk)
    have O11' := Lib.hid (O11.out.below' hbk)
    have H11' := Lib.hid (H11.out.keep hbk)
    have h12' := Lib.hid (h12.out.keep hbk)
    have h14' := Lib.hid (h14.out.keep hbk)
    have h16' := Lib.hid (h16.out.keep hbk)
    have h18' := Lib.hid (h18.out.keep hbk)
    have h107' := Lib.hid (h107.out.keep hbk)
    have h109' := Lib.hid (h109.out.keep hbk)
    have h112' := Lib.hid (h112.out.keep hbk)
    have h114' := Lib.hid (h114.out.keep hbk)
    have h120' := Lib.hid (h120.out.keep hbk)
    have h121' := Lib.hid (h121.out.keep hbk)
    have H24' := Lib.hid (H24.out.keep hbk)
    have O24' := Lib.hid (O24.out.below' hbk)
    have H25' := Lib.hid (H25.out.keep hbk)
    have O25' := Lib.hid (O25.out.below' hbk)
    have hb' := Lib.hid (below_chain hb.out hbk)
    clear hb hbk HE HP HQ OG h9 h10 O11 H11 h12 h14 h16 h18 h107 h109 h112 h114 h120 h121 H24 O24 H25 O25
    have hb := hb'; clear hb'
    have HE := HE'; clear HE'
    have HP := HP'; clear HP'
    have HQ := HQ'; clear HQ'
    have OG := OG'; clear OG'
    have h9 := h9'; clear h9'
    have h10 := h10'; clear h10'
    have O11 := O11'; clear O11'
    have H11 := H11'; clear H11'
    have h12 := h12'; clear h12'
    have h14 := h14'; clear h14'
    have h16 := h16'; clear h16'
    have h18 := h18'; clear h18'
    have h107 := h107'; clear h107'
    have h109 := h109'; clear h109'
    have h112 := h112'; clear h112'
    have h114 := h114'; clear h114'
    have h120 := h120'; clear h120'
    have h121 := h121'; clear h121'
    have H24 := H24'; clear H24'
    have O24 := O24'; clear O24'
    have H25 := H25'; clear H25'
    have O25 := O25'; clear O25'
    go_wp2
    go_ret
    exact ⟨rfl, hb.out⟩
end Go.Proofs.Ytccaagildkgfeaa
