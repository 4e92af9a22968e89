/- Walk: fretworklaw01.StrandBack. -/
import Derived.Test.YtnhlenagojbigaaStrX
namespace Go.Proofs.Ytnhlenagojbigaa
open Go.RowKit

/-- What is known when i things are put. -/
def LoopB (w : World) (A : Option Addr) (n c l : Nat) (f : Nat → Bool) (th : Nat → Nat × Nat) (b7 i : Nat) (s8 : Value) (wr : World) : Prop :=
  Below w.heap.size w wr ∧ Own wr w.heap.size 24 [.slice A n c, .int .i64 l] ∧
  (∃ g cap rest, s8 = .slice (some ⟨g, 0, none⟩) (i + 1) cap ∧ w.heap.size ≤ g ∧ Own wr g 3 (endsL l th i ++ rest) ∧ i + 1 ≤ cap ∧ cap ≤ maxLen ∧ (endsL l th i ++ rest).length = cap * 1) ∧
  ∃ A' n' c', Bits w wr 5 A' (cellsF (bitB f l th i) n') ∧ RS (lenB l th i) n' (bitB f l th i) ∧ Own wr b7 24 [.slice A' n' c', .int .i64 (lenB l th i : Nat)]

theorem info3 : (Try.prog.info? 3).map (fun i => (i.zero, i.size, i.bytes)) = some (some (.int .i64 0), 1, 8) := by kernel_rfl

set_option maxRecDepth 100000 in
set_option maxHeartbeats 8000000 in
theorem strandBack_true (A B : Option Addr) (n c k kc x : Nat) (L : Int) (f : Nat → Bool) (th : Nat → Nat × Nat) (w : World) (hs : ArgS w A n L f) (hb : Rd w B (cellsT th k)) (hth : ∀ i, (th i).1 < 18446744073709551616 ∧ (th i).2 < 256) (hx : x < 65536) (hkc : k ≤ kc) :
    Calls Try.prog 5 #[.agg #[.slice A n c, .int .i64 L], .slice B k kc, .int .u16 x] w fun e w' => e = .returned (.bool true) ∧ Below w.heap.size w w' := by
  have HS := Lib.hid hs; have HB := Lib.hid hb; have HT := Lib.hid hth; have HA0 := Lib.hid hs.rd
  clear hs hb hth
  have hb := Lib.hid (Below.refl w.heap.size w)
  go_enter Try.func5, Try.ntmps5
  go_wp2_with fail
  refine (great_any A n c L _).mono ?_
  rintro e w1 ⟨rfl, hbk⟩
  have HS' := Lib.hid ((HS.out.alloc _).keep hbk)
  have O3' := Lib.hid (Own.below' (Own.new' (w := w) rfl) hbk)
  have hb' := Lib.hid ((hb.out.alloc (by have := hb.out.size; simp; try omega) _).trans (hbk.mono (by have := hb.out.size; simp; try omega)))
  have hs1 := hbk.size
  simp only [World.size_alloc] at hs1
  clear hb hbk HS
  have hb := hb'; clear hb'
  have HS := HS'; clear HS'
  have O3 := O3'; clear O3'
  have qO3 := O3.out.cell; have zO3 := O3.out.lt
  cases h1 : greatB n L with
  | true =>
    have h1' := Lib.hid h1; clear h1; have h1 := h1'; clear h1'
    go_wp2_with fail
    refine (awake_true _).mono ?_
    rintro e w2 ⟨rfl, hbk⟩
    have O3' := Lib.hid (O3.out.below' hbk)
    have HS' := Lib.hid (HS.out.keep hbk)
    have hb' := Lib.hid (hb.out.trans (hbk.mono (by have := hb.out.size; simp; try omega)))
    have hs2 := hbk.size
    clear qO3 zO3
    clear hb hbk O3 HS
    have hb := hb'; clear hb'
    have O3 := O3'; clear O3'
    have HS := HS'; clear HS'
    go_wp2
    go_ret
    exact ⟨rfl, hb.out⟩
  | false =>
    have h1' := Lib.hid h1; clear h1; have h1 := h1'; clear h1'
    skip
    go_wp2_with fail
    refine (right_any' A n c L f _ HS.out (by have := great_false h1.out; omega)).mono ?_
    rintro e w2 ⟨rfl, hbk⟩
    have O3' := Lib.hid (O3.out.below' hbk)
    have HS' := Lib.hid (HS.out.keep hbk)
    have hb' := Lib.hid (hb.out.trans (hbk.mono (by have := hb.out.size; simp; try omega)))
    have hs2 := hbk.size
    clear qO3 zO3
    clear hb hbk O3 HS
    have hb := hb'; clear hb'
    have O3 := O3'; clear O3'
    have HS := HS'; clear HS'
    have qO3 := O3.out.cell; have zO3 := O3.out.lt
    cases h2 : rightB L n f with
    | true =>
      have h2' := Lib.hid h2; clear h2; have h2 := h2'; clear h2'
      obtain ⟨l, rfl, R1⟩ := HS.out.right h2.out
      have hl1 := (great_false h1.out).1
      have R1 := Lib.hid R1
      obtain ⟨m, hm⟩ : ∃ m, m = min k 30 := ⟨_, rfl⟩
      have hmI : min (k : Int) 30 = (m : Int) := by omega
      have hmk : m ≤ k := by omega
      have hm30 : m ≤ 30 := by omega
      have hmc : m ≤ kc := by omega
      clear hm
      go_wp2_with fail
      go_loopw [8, 10, 11, 44] (fun s8 _ _ v wr => ∃ i : Nat, i ≤ m ∧ v = .int .i64 i ∧ LoopB w A n c l f th w2.heap.size i s8 wr) (fun _ _ _ v _ => m - (intOf v).toNat)
      case atStart =>
        have z2 := HS.out
        exact ⟨0, Nat.zero_le _, rfl, (hb.out.alloc hb.out.size _).alloc (by have := hb.out.size; simp; try omega) _, (O3.out.alloc _).alloc _, ⟨_, 1, [], rfl, by have := hb.out.size; omega, Own.new' (by simp), by omega, by unfold maxLen; omega, rfl⟩, A, n, c, Or.inl HA0.out, R1.out, (Own.new' rfl).alloc _⟩
      case round =>
        obtain ⟨i, hi, rfl, HL⟩ := hrel
        obtain ⟨hbw, hO3, ⟨ge, cap, more, rfl, hge, hE, hc1, hc2, hc3⟩, A', n', c', hbits, hR, hO7⟩ := HL
        have hbR := Lib.hid hbw; have o3 := Lib.hid hO3; have o7 := Lib.hid hO7; have oE := Lib.hid hE; have hBt := Lib.hid hbits; have hRi := Lib.hid hR; have hC3 := Lib.hid hc3
        clear hbw hO3 hO7 hE hbits hR hc3 hb O3 HS qO3
        have q3 := o3.out.cell; have q7 := o7.out.cell
        have z3 := o3.out.lt; have z7 := o7.out.lt; have zE := oE.out.lt; have f7 := o7.out.frozen
        by_cases hlt : i < m
        · obtain ⟨bb, off, rfl, hbb, hcc⟩ := HB.out (by rw [length_cellsT]; omega)
          have hT2 := Lib.hid (HT.out i)
          have hg := cellsT_at th (i := i) (k := k) (by omega)
          have hcN : wr.cell? ⟨bb, off + i * 2, none⟩ = some (.int .u64 ((th i).1 : Nat)) := by rw [Nat.mul_comm]; exact (hbR.out.cell (p := ⟨bb, off + 2 * i, none⟩) hbb).trans (hcc _ _ hg.1)
          have hcW : wr.cell? ⟨bb, off + i * 2 + 1, none⟩ = some (.int .u8 ((th i).2 : Nat)) := by rw [Nat.mul_comm]; exact (hbR.out.cell (p := ⟨bb, off + 2 * i + 1, none⟩) hbb).trans (hcc _ _ hg.2)
          clear hg hcc
          obtain ⟨N, hN⟩ : ∃ N, N = (th i).1 := ⟨_, rfl⟩
          obtain ⟨W, hW⟩ : ∃ N, N = (th i).2 := ⟨_, rfl⟩
          rw [← hN] at hcN hT2; rw [← hW] at hcW hT2
          have HN := Lib.hid hN; have HW := Lib.hid hW
          clear hN hW
          have hle := Lib.hid (lenB_le l th (i + 1))
          have hRn := Lib.hid (bitB_RS th R1.out (by omega) (i + 1) (by omega))
          go_wp2_with fail
          refine (putThing_any A' n' c' (lenB l th i) N W (lenB l th (i + 1)) (bitB f l th i) _ ((hBt.out.rd hbR.out).alloc _) hRi.out hT2.out.1 hT2.out.2 (by rw [HN.out, HW.out]; rfl) (by have := hle.out; omega)).mono ?_
          rintro e w3 ⟨g, rfl, hg, hO, hbk⟩
          rw [HN.out, HW.out] at hO
          have P7 := Lib.hid ((o7.out.alloc _).below' hbk); have P3 := Lib.hid ((o3.out.alloc _).below' hbk); have PE := Lib.hid ((oE.out.alloc _).below' hbk); have PO := Lib.hid (show Own w3 g 5 (cellsF (bitB f l th (i + 1)) ((lenB l th (i + 1) + 7) / 8)) from hO)
          have hb3 := Lib.hid ((hbR.out.alloc hbR.out.size _).trans (hbk.mono (by have := hbR.out.size; simp; try omega)))
          have hs3 := hbk.size
          simp only [World.size_alloc] at hs3 hg
          clear hbk hO o7 o3 oE q3 q7 f7 hBt hRi hbR hcN hcW
          have q7 := P7.out.cell; have f7 := P7.out.frozen; have y7 := P7.out.lt
          go_wp2_with fail
          have S7 := Lib.hid ((P7.out.set 0 (.slice (some ⟨g, 0, none⟩) ((lenB l th (i + 1) + 7) / 8) ((lenB l th (i + 1) + 7) / 8))).set 1 (.int .i64 (lenB l th (i + 1) : Nat)))
          have S3 := Lib.hid ((P3.out.far (p := ⟨w2.heap.size, 0, none⟩) (by simp; omega) (.slice (some ⟨g, 0, none⟩) ((lenB l th (i + 1) + 7) / 8) ((lenB l th (i + 1) + 7) / 8))).far (p := ⟨w2.heap.size, 1, none⟩) (by simp; omega) (.int .i64 (lenB l th (i + 1) : Nat)))
          have SE := Lib.hid ((PE.out.far (p := ⟨w2.heap.size, 0, none⟩) (PE.out.ne P7.out (by decide)) (.slice (some ⟨g, 0, none⟩) ((lenB l th (i + 1) + 7) / 8) ((lenB l th (i + 1) + 7) / 8))).far (p := ⟨w2.heap.size, 1, none⟩) (PE.out.ne P7.out (by decide)) (.int .i64 (lenB l th (i + 1) : Nat)))
          have SO := Lib.hid ((PO.out.far (p := ⟨w2.heap.size, 0, none⟩) (PO.out.ne P7.out (by decide)) (.slice (some ⟨g, 0, none⟩) ((lenB l th (i + 1) + 7) / 8) ((lenB l th (i + 1) + 7) / 8))).far (p := ⟨w2.heap.size, 1, none⟩) (PO.out.ne P7.out (by decide)) (.int .i64 (lenB l th (i + 1) : Nat)))
          have sb := Lib.hid ((hb3.out.setCell (p := ⟨w2.heap.size, 0, none⟩) (by simp; omega) (.slice (some ⟨g, 0, none⟩) ((lenB l th (i + 1) + 7) / 8) ((lenB l th (i + 1) + 7) / 8))).setCell (p := ⟨w2.heap.size, 1, none⟩) (by simp; omega) (.int .i64 (lenB l th (i + 1) : Nat)))
          obtain ⟨W4, hW4⟩ : ∃ V, V = (w3.setCell ⟨w2.heap.size, 0, none⟩ (.slice (some ⟨g, 0, none⟩) ((lenB l th (i + 1) + 7) / 8) ((lenB l th (i + 1) + 7) / 8))).setCell ⟨w2.heap.size, 1, none⟩ (.int .i64 (lenB l th (i + 1) : Nat)) := ⟨_, rfl⟩
          rw [← hW4] at S7 S3 SE SO sb ⊢
          clear hW4 P7 P3 PE PO hb3 q7 f7
          refine (right_any' _ _ _ _ _ _ (ArgS.of SO.out.rd hRn.out) (by have := hle.out; omega)).mono ?_
          rintro e w5 ⟨rfl, hbk⟩
          rw [hRn.out.rightB]
          have T7 := Lib.hid (S7.out.below' hbk); have T3 := Lib.hid (S3.out.below' hbk); have TE := Lib.hid (SE.out.below' hbk); have TO := Lib.hid (SO.out.below' hbk)
          have tb := Lib.hid (sb.out.trans (hbk.mono sb.out.size))
          have x7 := T7.out.lt
          clear hbk S7 S3 SE SO sb
          have q7 := T7.out.cell
          simp only [List.set_cons_zero, List.set_cons_succ] at q7
          obtain ⟨i0, hi0, hz0, hz1, hz2⟩ := info_parts info3
          have I0 := Lib.hid hi0; have I1 := Lib.hid hz0; have I2 := Lib.hid hz1; have I3 := Lib.hid hz2
          clear hi0 hz0 hz1 hz2
          go_wp2_with (at_builtin; refine wpList_append_row rfl (.tmp 61) (.tmp 64) 44 rfl 3 i0 (.int .i64 0) 1 8 Try.underlying44 I0.out I1.out I2.out I3.out rfl (by omega) ge (i + 1) cap (endsL l th i) more rfl (TE.out.alloc _) (by rw [length_endsL]; omega) hc1 hc2 hC3.out ⟨w5.heap.size, 0, none⟩ 1 1 [.int .i64 (lenB l th (i + 1) : Nat)] rfl rfl ?c1 ?c2 ?c3 ?c4 ?c5)
          case c1 => exact fun j u hu => (Own.new' (g := w5.heap.size) (t := 3) (vs := [.int .i64 (lenB l th (i + 1) : Nat)]) (w := w5) rfl).add hu
          case c2 => intro u hu; simp only [List.mem_singleton] at hu; subst hu; rfl
          case c3 => unfold maxLen; omega
          case c4 => omega
          case c5 =>
            intro g' cap' more' w6 hO6 hg6 hgr hp1 hp2 hp3
            have V7 := Lib.hid ((T7.out.alloc _).grown' (TE.out.alloc _) (by decide) hgr)
            have V3 := Lib.hid ((T3.out.alloc _).grown' (TE.out.alloc _) (by decide) hgr)
            have VO := Lib.hid ((TO.out.alloc _).grown' (TE.out.alloc _) (by decide) hgr)
            have vb := Lib.hid ((tb.out.alloc tb.out.size _).trans (grown_below hgr hge (by have := tb.out.size; simp; try omega)))
            have hO6 := Lib.hid hO6
            have hp3 := Lib.hid hp3
            clear hgr q7 T7 T3 TE TO tb
            go_wp2
            go_roundw
            case rel =>
              refine ⟨i + 1, by omega, by go_num, vb.out, V3.out, ⟨g', cap', more', rfl, by have := vb.out.size; omega, ?_, hp1, hp2, ?_⟩, some ⟨g, 0, none⟩, (lenB l th (i + 1) + 7) / 8, (lenB l th (i + 1) + 7) / 8, Or.inr ⟨g, rfl, by omega, VO.out⟩, hRn.out, ?_⟩
              · rw [← endsL_succ, List.append_assoc]; exact hO6.out
              · have h := hp3.out
                rw [length_endsL] at h
                rw [List.length_append, length_endsL]; omega
              · simpa only [List.set_cons_zero, List.set_cons_succ] using V7.out
            case measure => simp [intOf]; omega
        · obtain rfl : i = m := by omega
          have HBits := Lib.hid (hBt.out.rd hbR.out)
          clear hBt
          have hb := hbR; clear hbR
          have hle := Lib.hid (lenB_le l th i)
          obtain ⟨D, hD⟩ : ∃ D, D = lenB l th i - l := ⟨_, rfl⟩
          have e1 : ((lenB l th i : Nat) : Int) - (l : Int) = (D : Int) := by have := hle.out; omega
          obtain ⟨r, hr⟩ : ∃ r, r = x % (D + 1) := ⟨_, rfl⟩
          have hrD : r ≤ D := by have := Nat.mod_lt x (show 0 < D + 1 by omega); omega
          have e2 : (x : Int) % ((D : Int) + 1) = (r : Int) := by rw [hr, Int.natCast_emod, Int.natCast_add]; rfl
          obtain ⟨K, hK⟩ : ∃ K, K = l + r := ⟨_, rfl⟩
          have e3 : (l : Int) + (r : Int) = (K : Int) := by omega
          have hKl := Lib.hid (show l ≤ K by omega)
          have hKM := Lib.hid (show K ≤ lenB l th i by have := hle.out; omega)
          have e4 : (D : Int) + 1 ≠ 0 := by omega
          have hK6 : K ≤ 6000 := by have := hle.out; omega
          have hD6 : D ≤ 6000 := by have := hle.out; omega
          have hcut := Lib.hid (back_ahead (th := th) (m := i) R1.out)
          have hss := Lib.hid (show sameS f ((l + 7) / 8) l f n l = true by rw [R1.out.len]; exact sameS_self)
          clear hr hK hD
          go_upto_region 15 with (fail)
          refine region_tail 12 (by kernel_rfl) (by kernel_rfl) ?_
          simp only [List.take_succ_cons, List.take_zero, List.drop_succ_cons, List.drop_zero]
          repeat (refine still_step rfl rfl (fun K hK => ?_); go_wp2)
          refine wpStill_nil ?_
          clear e1 e2 e3 e4
          go_wp2_with fail
          refine (cut_int A' n' c' (lenB l th i) _ _ 0 K (bitB f l th i) _ HBits.out.drew hRi.out (by rfl) (by omega) (by have := hKM.out; omega)).mono ?_
          rintro e w11 ⟨gx, rfl, hgx, hOx, hbk⟩
          have hbk := undrew hbk
          have o3' := Lib.hid (o3.out.below' hbk)
          have o7' := Lib.hid (o7.out.below' hbk)
          have oE' := Lib.hid (oE.out.below' hbk)
          have HBits' := Lib.hid (HBits.out.below hbk)
          have hb' := Lib.hid (hb.out.trans (hbk.mono (by have := hb.out.size; simp; try omega)))
          have hs11 := hbk.size
          clear q3 q7 f7 z3 z7 zE hb hbk o3 o7 oE HBits
          have hb := hb'; clear hb'
          have o3 := o3'; clear o3'
          have o7 := o7'; clear o7'
          have oE := oE'; clear oE'
          have HBits := HBits'; clear HBits'
          have OX := Lib.hid hOx; clear hOx
          have qo3 := o3.out.cell; have zo3 := o3.out.lt
          have qo7 := o7.out.cell; have zo7 := o7.out.lt
          go_wp2_with fail
          refine (cut_int A' n' c' (lenB l th i) _ _ 0 l (bitB f l th i) _ (HBits.out.alloc _) hRi.out (by rfl) (by omega) (by have := hKl.out; have := hKM.out; omega)).mono ?_
          rintro e w12 ⟨ga, rfl, hga, hOa, hbk⟩
          rw [hcut.out] at hOa
          have o3' := Lib.hid ((o3.out.alloc _).below' hbk)
          have o7' := Lib.hid ((o7.out.alloc _).below' hbk)
          have oE' := Lib.hid ((oE.out.alloc _).below' hbk)
          have OX' := Lib.hid ((OX.out.alloc _).below' hbk)
          have HBits' := Lib.hid ((HBits.out.alloc _).below hbk)
          have O13' := Lib.hid (Own.below' (Own.new' (g := w11.heap.size) (w := w11) rfl) hbk)
          have hb' := Lib.hid ((hb.out.alloc (by have := hb.out.size; simp; try omega) _).trans (hbk.mono (by have := hb.out.size; simp; try omega)))
          have hs12 := hbk.size
          simp only [World.size_alloc] at hs12
          clear qo3 zo3 qo7 zo7
          clear hb hbk o3 o7 oE OX HBits
          have hb := hb'; clear hb'
          have o3 := o3'; clear o3'
          have o7 := o7'; clear o7'
          have oE := oE'; clear oE'
          have OX := OX'; clear OX'
          have HBits := HBits'; clear HBits'
          have O13 := O13'; clear O13'
          have OA := Lib.hid hOa; clear hOa
          have qo3 := o3.out.cell; have zo3 := o3.out.lt
          have qo7 := o7.out.cell; have zo7 := o7.out.lt
          have qO13 := O13.out.cell; have zO13 := O13.out.lt
          go_wp2_with fail
          refine (same_any _ A _ _ n c _ _ f f _ (OA.out.alloc _).rd ((HA0.out.below hb.out).alloc _)).mono ?_
          rintro e w13 ⟨rfl, hbk⟩
          rw [hss.out]
          have o3' := Lib.hid ((o3.out.alloc _).below' hbk)
          have o7' := Lib.hid ((o7.out.alloc _).below' hbk)
          have oE' := Lib.hid ((oE.out.alloc _).below' hbk)
          have OX' := Lib.hid ((OX.out.alloc _).below' hbk)
          have O13' := Lib.hid ((O13.out.alloc _).below' hbk)
          have OA' := Lib.hid ((OA.out.alloc _).below' hbk)
          have HBits' := Lib.hid ((HBits.out.alloc _).below hbk)
          have O15' := Lib.hid (Own.below' (Own.new' (g := w12.heap.size) (w := w12) rfl) hbk)
          have hb' := Lib.hid ((hb.out.alloc (by have := hb.out.size; simp; try omega) _).trans (hbk.mono (by have := hb.out.size; simp; try omega)))
          have hs13 := hbk.size
          simp only [World.size_alloc] at hs13
          clear qo3 zo3 qo7 zo7 qO13 zO13
          clear hb hbk o3 o7 oE OX O13 OA HBits
          have hb := hb'; clear hb'
          have o3 := o3'; clear o3'
          have o7 := o7'; clear o7'
          have oE := oE'; clear oE'
          have OX := OX'; clear OX'
          have O13 := O13'; clear O13'
          have OA := OA'; clear OA'
          have HBits := HBits'; clear HBits'
          have O15 := O15'; clear O15'
          have qo3 := o3.out.cell; have zo3 := o3.out.lt
          have qo7 := o7.out.cell; have zo7 := o7.out.lt
          have qO13 := O13.out.cell; have zO13 := O13.out.lt
          have qoE := oE.out.cell; have zoE := oE.out.lt
          go_wp2_with fail
          go_loopw [17, 18, 19, 20, 21, 22, 23, 24, 112] (fun _ _ _ _ _ _ _ _ v wr => ∃ j : Nat, j ≤ i ∧ v = .int .i64 j ∧ Hid (lenB l th j ≤ K) ∧ Hid (Below w13.heap.size w13 wr)) (fun _ _ _ _ _ _ _ _ v _ => i - (intOf v).toNat)
          case atStart => exact ⟨0, Nat.zero_le _, rfl, hKl.out, Below.refl _ _⟩
          case round =>
            obtain ⟨j, hj, rfl, hjK, hB2⟩ := hrel
            clear qo3 zo3 qo7 zo7 qO13 zO13 qoE zoE
            have p3 := Lib.hid (o3.out.below' hB2.out); have p7 := Lib.hid (o7.out.below' hB2.out); have pE := Lib.hid (oE.out.below' hB2.out); have p13 := Lib.hid (O13.out.below' hB2.out); have pX := Lib.hid (OX.out.below' hB2.out); have pB := Lib.hid (HBits.out.below hB2.out)
            have hb2 := Lib.hid (hb.out.trans (hB2.out.mono hb.out.size))
            have hc2 := hB2
            clear o3 o7 oE O13 OX OA O15 HBits hB2
            by_cases hlt : j < i
            · obtain ⟨bb, off, rfl, hbb, hcc⟩ := HB.out (by rw [length_cellsT]; omega)
              have hT2 := Lib.hid (HT.out j)
              have hg := cellsT_at th (i := j) (k := k) (by omega)
              have hcN : wr.cell? ⟨bb, off + j * 2, none⟩ = some (.int .u64 ((th j).1 : Nat)) := by rw [Nat.mul_comm]; exact (hb2.out.cell (p := ⟨bb, off + 2 * j, none⟩) hbb).trans (hcc _ _ hg.1)
              have hcW : wr.cell? ⟨bb, off + j * 2 + 1, none⟩ = some (.int .u8 ((th j).2 : Nat)) := by rw [Nat.mul_comm]; exact (hb2.out.cell (p := ⟨bb, off + 2 * j + 1, none⟩) hbb).trans (hcc _ _ hg.2)
              clear hg hcc
              obtain ⟨N, hN⟩ : ∃ N, N = (th j).1 := ⟨_, rfl⟩
              obtain ⟨W, hW⟩ : ∃ N, N = (th j).2 := ⟨_, rfl⟩
              rw [← hN] at hcN hT2; rw [← hW] at hcW hT2
              have hTA := Lib.hid (thing_stands (th := th) R1.out (by omega) hlt hm30)
              rw [← hN, ← hW] at hTA
              have hS1 := Lib.hid (show lenB l th j + sizeT N W = lenB l th (j + 1) by rw [hN, hW]; rfl)
              clear hN hW
              go_upto_region 23 with (fail)
              have P18 := Lib.hid (Own.new' (g := wr.heap.size) (t := 46) (vs := [.int .u64 (N : Int), .int .u8 (W : Int)]) (w := wr) rfl)
              have P3 := Lib.hid (p3.out.alloc (.cells #[.int .u64 (N : Int), .int .u8 (W : Int)] 46)); have P7 := Lib.hid (p7.out.alloc (.cells #[.int .u64 (N : Int), .int .u8 (W : Int)] 46)); have PE := Lib.hid (pE.out.alloc (.cells #[.int .u64 (N : Int), .int .u8 (W : Int)] 46)); have P13 := Lib.hid (p13.out.alloc (.cells #[.int .u64 (N : Int), .int .u8 (W : Int)] 46)); have PX := Lib.hid (pX.out.alloc (.cells #[.int .u64 (N : Int), .int .u8 (W : Int)] 46)); have PB := Lib.hid (pB.out.alloc (.cells #[.int .u64 (N : Int), .int .u8 (W : Int)] 46))
              have hb3 := Lib.hid (hb2.out.alloc hb2.out.size (.cells #[.int .u64 (N : Int), .int .u8 (W : Int)] 46))
              have hc3 := Lib.hid (hc2.out.alloc hc2.out.size (.cells #[.int .u64 (N : Int), .int .u8 (W : Int)] 46))
              clear hc2
              clear p3 p7 pE p13 pX pB
              obtain ⟨W0, hW0⟩ : ∃ V, V = wr.alloc (.cells #[.int .u64 (N : Int), .int .u8 (W : Int)] 46) := ⟨_, rfl⟩
              rw [← hW0] at P18 P3 P7 PE P13 PX PB hb3 hc3 ⊢
              clear hW0 hcN hcW
              have qj := Lib.hid ((PE.out.cell j).trans ((List.getElem?_append_left (by rw [length_endsL]; omega)).trans (endsL_at l th (i := i) (j := j) (by omega))))
              have hS : ∀ V, Below W0.heap.size W0 V → (V.cell? ⟨wr.heap.size, 0, none⟩ = some (.int .u64 (N : Int)) ∧ V.cell? ⟨wr.heap.size, 1, none⟩ = some (.int .u8 (W : Int)) ∧ V.cell? ⟨w2.heap.size, 0, none⟩ = some (.slice A' n' c') ∧ V.cell? ⟨w2.heap.size, 1, none⟩ = some (.int .i64 (lenB l th i : Nat)) ∧ V.cell? ⟨ge, j, none⟩ = some (.int .i64 (lenB l th j : Nat)) ∧ Below W0.heap.size W0 V) := fun V h =>
                ⟨(P18.out.below' h).cell 0, (P18.out.below' h).cell 1, (P7.out.below' h).cell 0, (P7.out.below' h).cell 1, (h.cell (p := ⟨ge, j, none⟩) PE.out.lt).trans qj.out, h⟩
              have HSX := Lib.hid hS
              have zj : j < i + 1 := by omega
              have zj0 : (0 : Int) ≤ (j : Int) := by omega
              have zj1 : (j : Int) < (i : Int) + 1 := by omega
              clear hS
              go_cut [19, 20, 21] (fun s19 s20 s21 V => s19 = .int .u64 (numT N W : Nat) ∧ s20 = .int .i64 (lenB l th (j + 1) : Nat) ∧ s21 = .int .i64 0 ∧ Hid (Below W0.heap.size W0 V))
              case first =>
                go_region_held3 (fun V => V.cell? ⟨wr.heap.size, 0, none⟩ = some (.int .u64 (N : Int)) ∧ V.cell? ⟨wr.heap.size, 1, none⟩ = some (.int .u8 (W : Int)) ∧ V.cell? ⟨w2.heap.size, 0, none⟩ = some (.slice A' n' c') ∧ V.cell? ⟨w2.heap.size, 1, none⟩ = some (.int .i64 (lenB l th i : Nat)) ∧ V.cell? ⟨ge, j, none⟩ = some (.int .i64 (lenB l th j : Nat)) ∧ Below W0.heap.size W0 V)
                   (first | assumption | (refine HSX.out _ ?_; assumption) | exact HSX.out _ ((Below.refl _ _).drew) | ((try dsimp only at *); go_split_ands; refine HSX.out _ ?_; refine below_chain ?_ (by assumption); assumption))
                   (first
                    | (go_at_call 23; (try dsimp only at *); go_split_ands; (with_reducible refine (get_reads A' n' c' (lenB l th i) (lenB l th j) (lenB l th (j + 1)) N W (bitB f l th i) _ (PB.out.below (by assumption)) hRi.out hT2.out.2 hS1.out (lenB_mono l th (by omega)) hTA.out).mono ?_); rintro e w' ⟨rfl, hbk⟩))
                all_goals (go_wp2_with fail; (try dsimp only at *); go_split_ands; go_meet; exact ⟨rfl, rfl, rfl, by assumption⟩)
              case rest =>
                obtain ⟨rfl, rfl, rfl, hbc⟩ := hcut
                have Q3 := Lib.hid (P3.out.below' hbc.out); have Q7 := Lib.hid (P7.out.below' hbc.out); have QE := Lib.hid (PE.out.below' hbc.out); have Q13 := Lib.hid (P13.out.below' hbc.out); have QX := Lib.hid (PX.out.below' hbc.out); have Q18 := Lib.hid (P18.out.below' hbc.out)
                have hb4 := Lib.hid (hb3.out.trans (hbc.out.mono hb3.out.size))
                have hc4 := Lib.hid (hc3.out.trans (hbc.out.mono hc3.out.size))
                clear hc3
                clear P3 P7 PE P13 PX P18 PB HSX hbc
                have q18 := Q18.out.cell; have z18 := Q18.out.lt; have zE := QE.out.lt
                have qE1 := (QE.out.cell (j + 1)).trans ((List.getElem?_append_left (by rw [length_endsL]; omega)).trans (endsL_at l th (i := i) (j := j + 1) (by omega)))
                go_wp2_with fail
                refine (number_any N W _ hT2.out.1 hT2.out.2).mono ?_
                rintro e W1 ⟨rfl, hbk⟩
                have T3 := Lib.hid (Q3.out.below' hbk); have T7 := Lib.hid (Q7.out.below' hbk); have TE := Lib.hid (QE.out.below' hbk); have T13 := Lib.hid (Q13.out.below' hbk); have TX := Lib.hid (QX.out.below' hbk); have T18 := Lib.hid (Q18.out.below' hbk)
                have hb5 := Lib.hid (hb4.out.trans (hbk.mono hb4.out.size))
                have hc5 := Lib.hid (hc4.out.trans (hbk.mono hc4.out.size))
                clear hc4
                clear Q3 Q7 QE Q13 QX Q18 hbk hb4 q18 z18 zE qE1
                have qj := Lib.hid ((TE.out.cell j).trans ((List.getElem?_append_left (by rw [length_endsL]; omega)).trans (endsL_at l th (i := i) (j := j) (by omega))))
                have qj1 := Lib.hid ((TE.out.cell (j + 1)).trans ((List.getElem?_append_left (by rw [length_endsL]; omega)).trans (endsL_at l th (i := i) (j := j + 1) (by omega))))
                have qE1 := qj1.out
                have zE := TE.out.lt
                have hS : ∀ V, Below W1.heap.size W1 V → (V.cell? ⟨wr.heap.size, 0, none⟩ = some (.int .u64 (N : Int)) ∧ V.cell? ⟨wr.heap.size, 1, none⟩ = some (.int .u8 (W : Int)) ∧ V.cell? ⟨w11.heap.size, 0, none⟩ = some (.slice (some ⟨gx, 0, none⟩) ((K + 7) / 8) ((K + 7) / 8)) ∧ V.cell? ⟨w11.heap.size, 1, none⟩ = some (.int .i64 (K : Int)) ∧ V.cell? ⟨ge, j, none⟩ = some (.int .i64 (lenB l th j : Nat)) ∧ V.cell? ⟨ge, j + 1, none⟩ = some (.int .i64 (lenB l th (j + 1) : Nat)) ∧ Below W1.heap.size W1 V) := fun V h =>
                  ⟨(T18.out.below' h).cell 0, (T18.out.below' h).cell 1, (T13.out.below' h).cell 0, (T13.out.below' h).cell 1, (h.cell (p := ⟨ge, j, none⟩) TE.out.lt).trans qj.out, (h.cell (p := ⟨ge, j + 1, none⟩) TE.out.lt).trans qj1.out, h⟩
                have HSX := Lib.hid hS
                have e5 : min ((lenB l th j : Nat) : Int) (K : Int) = ((lenB l th j : Nat) : Int) := by have := hjK.out; omega
                have hTK : ∀ y, y < K → cutF (bitB f l th i) 0 K y = bitB f l th i y := fun y hy => by unfold cutF; rw [Nat.zero_add, decide_eq_true hy, Bool.and_true]
                have HTK := Lib.hid hTK
                clear hS hTK
                go_upto_region 26 with (fail)
                clear qE1 zE
                by_cases hq : lenB l th (j + 1) ≤ K
                · have hTB := Lib.hid (hTA.out.congr (g := cutF (bitB f l th i) 0 K) (fun y _ hy => (HTK.out y (by have := hS1.out; omega)).symm))
                  go_cut [22, 23, 24] (fun s22 s23 s24 V => s22 = .int .u64 (numT N W : Nat) ∧ s23 = .int .i64 (lenB l th (j + 1) : Nat) ∧ s24 = .int .i64 0 ∧ Hid (Below W1.heap.size W1 V))
                  case first =>
                    go_region_held3 (fun V => V.cell? ⟨wr.heap.size, 0, none⟩ = some (.int .u64 (N : Int)) ∧ V.cell? ⟨wr.heap.size, 1, none⟩ = some (.int .u8 (W : Int)) ∧ V.cell? ⟨w11.heap.size, 0, none⟩ = some (.slice (some ⟨gx, 0, none⟩) ((K + 7) / 8) ((K + 7) / 8)) ∧ V.cell? ⟨w11.heap.size, 1, none⟩ = some (.int .i64 (K : Int)) ∧ V.cell? ⟨ge, j, none⟩ = some (.int .i64 (lenB l th j : Nat)) ∧ V.cell? ⟨ge, j + 1, none⟩ = some (.int .i64 (lenB l th (j + 1) : Nat)) ∧ Below W1.heap.size W1 V)
                       (first | assumption | (refine HSX.out _ ?_; assumption) | exact HSX.out _ ((Below.refl _ _).drew) | ((try dsimp only at *); go_split_ands; refine HSX.out _ ?_; refine below_chain ?_ (by assumption); assumption))
                       (first
                        | (go_at_call 23; (try dsimp only at *); go_split_ands; (with_reducible refine (get_reads _ _ _ K (lenB l th j) (lenB l th (j + 1)) N W (cutF (bitB f l th i) 0 K) _ (TX.out.rd.below (by assumption)) (cutF_RS (by omega)) hT2.out.2 hS1.out hq hTB.out).mono ?_); rintro e w' ⟨rfl, hbk⟩))
                    all_goals (go_wp2_with fail; (try dsimp only at *); go_split_ands; go_meet; exact ⟨rfl, rfl, rfl, by assumption⟩)
                  case rest =>
                    obtain ⟨rfl, rfl, rfl, hbc⟩ := hcut
                    have R3 := Lib.hid (T3.out.below' hbc.out); have RE := Lib.hid (TE.out.below' hbc.out)
                    have hb6 := Lib.hid (hb5.out.trans (hbc.out.mono hb5.out.size))
                    have qE2 := (RE.out.cell (j + 1)).trans ((List.getElem?_append_left (by rw [length_endsL]; omega)).trans (endsL_at l th (i := i) (j := j + 1) (by omega)))
                    have zE2 := RE.out.lt
                    have hqd : decide ((K : Int) < ((lenB l th (j + 1) : Nat) : Int)) = false := by rw [decide_eq_false_iff_not]; omega
                    go_wp2
                    go_roundw
                    case rel => exact ⟨j + 1, by omega, by go_num, hq, hc5.out.trans (hbc.out.mono hc5.out.size)⟩
                    case measure => simp [intOf]; omega
                · skip
                  go_cut [22, 23, 24] (fun s22 s23 s24 V => s22 = .int .u64 0 ∧ s23 = .int .i64 0 ∧ s24 = .int .i64 10 ∧ Hid (Below W1.heap.size W1 V))
                  case first =>
                    go_region_held3 (fun V => V.cell? ⟨wr.heap.size, 0, none⟩ = some (.int .u64 (N : Int)) ∧ V.cell? ⟨wr.heap.size, 1, none⟩ = some (.int .u8 (W : Int)) ∧ V.cell? ⟨w11.heap.size, 0, none⟩ = some (.slice (some ⟨gx, 0, none⟩) ((K + 7) / 8) ((K + 7) / 8)) ∧ V.cell? ⟨w11.heap.size, 1, none⟩ = some (.int .i64 (K : Int)) ∧ V.cell? ⟨ge, j, none⟩ = some (.int .i64 (lenB l th j : Nat)) ∧ V.cell? ⟨ge, j + 1, none⟩ = some (.int .i64 (lenB l th (j + 1) : Nat)) ∧ Below W1.heap.size W1 V)
                       (first | assumption | (refine HSX.out _ ?_; assumption) | exact HSX.out _ ((Below.refl _ _).drew) | ((try dsimp only at *); go_split_ands; refine HSX.out _ ?_; refine below_chain ?_ (by assumption); assumption))
                       (first
                        | (go_at_call 23; (try dsimp only at *); go_split_ands; (with_reducible refine (get_part _ _ _ K (lenB l th j) N W (bitB f l th i) (cutF (bitB f l th i) 0 K) _ (TX.out.rd.below (by assumption)) (cutF_RS (by omega)) hT2.out.2 hjK.out (by have := hS1.out; omega) hTA.out HTK.out).mono ?_); rintro e w' ⟨rfl, hbk⟩))
                    all_goals (go_wp2_with fail; (try dsimp only at *); go_split_ands; go_meet; exact ⟨rfl, rfl, rfl, by assumption⟩)
                  case rest =>
                    obtain ⟨rfl, rfl, rfl, hbc⟩ := hcut
                    have R3 := Lib.hid (T3.out.below' hbc.out); have RE := Lib.hid (TE.out.below' hbc.out)
                    have hb6 := Lib.hid (hb5.out.trans (hbc.out.mono hb5.out.size))
                    have qE2 := (RE.out.cell (j + 1)).trans ((List.getElem?_append_left (by rw [length_endsL]; omega)).trans (endsL_at l th (i := i) (j := j + 1) (by omega)))
                    have zE2 := RE.out.lt
                    have hqd : decide ((K : Int) < ((lenB l th (j + 1) : Nat) : Int)) = true := by rw [decide_eq_true_eq]; omega
                    go_wp2_with fail
                    refine (awake_true _).mono ?_
                    rintro e w9 ⟨rfl, hbk⟩
                    have hb9 := Lib.hid (hb6.out.trans (hbk.mono hb6.out.size))
                    clear hbk
                    go_wp2
                    go_ret
                    exact ⟨rfl, hb9.out⟩
            · go_wp2_with fail
              refine (awake_true _).mono ?_
              rintro e w9 ⟨rfl, hbk⟩
              have hb9 := Lib.hid (hb2.out.trans (hbk.mono hb2.out.size))
              clear hbk
              go_wp2
              go_ret
              exact ⟨rfl, hb9.out⟩
    | false =>
      have h2' := Lib.hid h2; clear h2; have h2 := h2'; clear h2'
      go_wp2_with fail
      refine (awake_true _).mono ?_
      rintro e w3 ⟨rfl, hbk⟩
      have O3' := Lib.hid (O3.out.below' hbk)
      have HS' := Lib.hid (HS.out.keep hbk)
      have hb' := Lib.hid (hb.out.trans (hbk.mono (by have := hb.out.size; simp; try omega)))
      have hs3 := hbk.size
      clear qO3 zO3
      clear hb hbk O3 HS
      have hb := hb'; clear hb'
      have O3 := O3'; clear O3'
      have HS := HS'; clear HS'
      go_wp2
      go_ret
      exact ⟨rfl, hb.out⟩
end Go.Proofs.Ytnhlenagojbigaa
