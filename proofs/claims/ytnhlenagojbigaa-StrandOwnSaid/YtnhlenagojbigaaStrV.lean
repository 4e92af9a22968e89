/- Walk: fretworklaw01.StrandOwn. -/
import Derived.Test.YtnhlenagojbigaaStrR
import Derived.Test.YtnhlenagojbigaaStrT
import Derived.Test.YtnhlenagojbigaaCopy
import Derived.Test.YtnhlenagojbigaaApart
import Derived.Deep.RegionWith
namespace Go.Proofs.Ytnhlenagojbigaa
open Go.RowKit

def RegL (W0 : World) (_ : Option Addr) (n _ l : Nat) (f : Nat → Bool) (s5 : Value) (W : World) : Prop :=
  ∃ g cap more h, s5 = .pointer (some ⟨h, 0, none⟩) ∧ W0.heap.size ≤ g ∧ Own W g 5 ((lentN f n).map (Value.int .u8) ++ more) ∧ n + 5 ≤ cap ∧ Own W h 24 [.slice (some ⟨g, 0, none⟩) n cap, .int .i64 l] ∧ Below W0.heap.size W0 W

theorem regL_a {W0 w' : World} {A : Option Addr} {n c l g cap : Nat} {f : Nat → Bool} {more : List Value} (hg : W0.drew.heap.size ≤ g) (hO : Own w' g 5 ((lentN f n).map (Value.int .u8) ++ more)) (hc : n + 5 ≤ cap) (hb : Below W0.drew.heap.size W0.drew w') :
    RegL W0 A n c l f (.pointer (some ⟨w'.heap.size, 0, none⟩)) (w'.alloc (.cells #[.slice (some ⟨g, 0, none⟩) n cap, .int .i64 l] 24)) :=
  ⟨g, cap, more, _, rfl, hg, hO.alloc _, hc, Own.new' (vs := [.slice (some ⟨g, 0, none⟩) n cap, .int .i64 l]) rfl, (undrew hb).alloc (undrew hb).size _⟩
theorem regL_b {W0 w' : World} {o : Obj} {A : Option Addr} {n c l g cap : Nat} {f : Nat → Bool} {more : List Value} (hg : (W0.alloc o).drew.heap.size ≤ g) (hO : Own w' g 5 ((lentN f n).map (Value.int .u8) ++ more)) (hc : n + 5 ≤ cap)
   (hZ : Own w' W0.heap.size 24 [.slice none 0 0, .int .i64 0]) (hb : Below (W0.alloc o).drew.heap.size (W0.alloc o).drew w') :
    RegL W0 A n c l f (.pointer (some ⟨W0.heap.size, 0, none⟩)) ((w'.setCell ⟨W0.heap.size, 0, none⟩ (.slice (some ⟨g, 0, none⟩) n cap)).setCell ⟨W0.heap.size, 1, none⟩ (.int .i64 l)) := by
  have hg' : W0.heap.size + 1 ≤ g := by simpa using hg
  have h1 : Below W0.heap.size W0 w' := ((Below.refl _ W0).alloc (Nat.le_refl _) o).trans ((undrew hb).mono (by simp))
  exact ⟨g, cap, more, _, rfl, by omega, (hO.far (p := ⟨W0.heap.size, 0, none⟩) (by intro e; simp at e; omega) _).far (p := ⟨W0.heap.size, 1, none⟩) (by intro e; simp at e; omega) _, hc, (hZ.set 0 _).set 1 _,
    (h1.setCell (p := ⟨W0.heap.size, 0, none⟩) (Nat.le_refl _) _).setCell (p := ⟨W0.heap.size, 1, none⟩) (Nat.le_refl _) _⟩
theorem lent_rd {w : World} {g n : Nat} {f : Nat → Bool} {more : List Value} (h : Own w g 5 ((lentN f n).map (Value.int .u8) ++ more)) : Rd w (some ⟨g, 0, none⟩) (cellsF f n) := by
  have h1 := h.rd_take n
  rw [lentN_map, List.append_assoc, List.take_left' (length_cellsF f n)] at h1
  exact h1
theorem lent_all {w : World} {g n : Nat} {f : Nat → Bool} {more : List Value} (h : Own w g 5 ((lentN f n).map (Value.int .u8) ++ more)) : Rd w (some ⟨g, 0, none⟩) ((lentN f n).map (Value.int .u8)) := by
  have h1 := h.rd_take (n + 5)
  rwa [List.take_left' (by rw [List.length_map, length_lentN])] at h1
theorem pack_at (A : Option Addr) (n c L N : Nat) (f : Nat → Bool) (w : World) (hr : Rd w A (cellsF f n)) (hs : RS L n f) (hN : N = L / 8 + 1) : Calls Try.prog 12 #[.agg #[.slice A n c, .int .i64 L]] w (GoodB w N (packF f L)) := by
  subst hN
  exact pack_good A n c L f w hr hs
theorem unpack_at (A : Option Addr) (N c L : Nat) {n : Nat} (f : Nat → Bool) (w : World) (hr : Rd w A (cellsF (packF f L) N)) (hs : RS L n f) (hN : N = L / 8 + 1) : Calls Try.prog 11 #[.slice A N c] w (GoodS w L f) := by
  subst hN
  have p := packF_unpack hs
  have hle := hs.le
  have h := unpack_good A (L / 8 + 1) c (packF f L) w hr (by omega) (by omega) p.1 (by rw [p.2]; exact hle)
  rw [p.2, cutTo_packF hs] at h
  exact h

def six (a b c d e f i : Nat) : Nat := match i with
  | 0 => a
  | 1 => b
  | 2 => c
  | 3 => d
  | 4 => e
  | _ => f
theorem six_cases {i : Nat} (h : i < 6) : i = 0 ∨ i = 1 ∨ i = 2 ∨ i = 3 ∨ i = 4 ∨ i = 5 := by omega
theorem apart_six (gl kc ga gb gc gd gp gu na nb nc nd np nu : Nat) (w : World) {va vb vc vd vp vu : List Value}
   (hl : Own w gl 22 [.slice (some ⟨ga, 0, none⟩) na na, .slice (some ⟨gb, 0, none⟩) nb nb, .slice (some ⟨gc, 0, none⟩) nc nc, .slice (some ⟨gd, 0, none⟩) nd nd, .slice (some ⟨gp, 0, none⟩) np np, .slice (some ⟨gu, 0, none⟩) nu nu])
   (hd : ga < gb ∧ gb < gc ∧ gc < gd ∧ gd < gp ∧ gp < gu)
   (ea : va.length = na) (oa : Own w ga 5 va) (eb : vb.length = nb) (ob : Own w gb 5 vb) (ec : vc.length = nc) (oc : Own w gc 5 vc) (ed : vd.length = nd) (od : Own w gd 5 vd)
   (ep : vp.length = np) (op : Own w gp 5 vp) (eu : vu.length = nu) (ou : Own w gu 5 vu) (hb : na ≤ 3000 ∧ nb ≤ 3000 ∧ nc ≤ 3000 ∧ nd ≤ 3000 ∧ np ≤ 3000 ∧ nu ≤ 3000) :
    Calls Try.prog 28 #[.slice (some ⟨gl, 0, none⟩) 6 kc] w fun e w' => e = .returned (.bool true) ∧ Only (fun b => b = ga ∨ b = gb ∨ b = gc ∨ b = gd ∨ b = gp ∨ b = gu) w w' := by
  refine (apartBytes_any gl 6 kc (six ga gb gc gd gp gu) (six na nb nc nd np nu) (six na nb nc nd np nu) w hl (by omega) (fun i hi => ?_) (fun i j hi hj h => ?_) (fun i hi => ?_)).mono fun e w' ⟨h1, h2⟩ => ⟨h1, h2.os, h2.tape, h2.output, h2.size, fun b hb hg => h2.block b hb fun ⟨j, hj, e⟩ => hg ?_⟩
  · refine ⟨Nat.le_refl _, ?_⟩
    unfold maxLen
    rcases six_cases hi with rfl | rfl | rfl | rfl | rfl | rfl <;> simp only [six] <;> omega
  · rcases six_cases hi with rfl | rfl | rfl | rfl | rfl | rfl <;> rcases six_cases hj with rfl | rfl | rfl | rfl | rfl | rfl <;> simp only [six] at h <;> omega
  · rcases six_cases hi with rfl | rfl | rfl | rfl | rfl | rfl
    · exact ⟨va, ea, oa⟩
    · exact ⟨vb, eb, ob⟩
    · exact ⟨vc, ec, oc⟩
    · exact ⟨vd, ed, od⟩
    · exact ⟨vp, ep, op⟩
    · exact ⟨vu, eu, ou⟩
  · rcases six_cases hj with rfl | rfl | rfl | rfl | rfl | rfl <;> simp only [six] at e <;> omega

set_option maxRecDepth 100000 in
set_option maxHeartbeats 8000000 in
theorem strandOwn_true (A : Option Addr) (n c x : Nat) (L : Int) (f : Nat → Bool) (w : World) (hs : ArgS w A n L f) (hx : x < 4294967296) :
    Calls Try.prog 8 #[.agg #[.slice A n c, .int .i64 L], .int .u32 x] w fun e w' => e = .returned (.bool true) ∧ Below w.heap.size w w' := by
  have HS := Lib.hid hs; have HA0 := Lib.hid hs.rd
  clear hs
  have hb := Lib.hid (Below.refl w.heap.size w)
  go_enter Try.func8, Try.ntmps8
  go_wp2_with fail
  refine (great_any A n c L _).mono ?_
  rintro e w1 ⟨rfl, hbk⟩
  have HS' := Lib.hid ((HS.out.alloc _).keep hbk)
  have O2' := Lib.hid (Own.below' (Own.new' (w := w) rfl) hbk)
  have hb' := Lib.hid ((hb.out.alloc (by have := hb.out.size; simp; try omega) _).trans (hbk.mono (by have := hb.out.size; simp; try omega)))
  have hs1 := hbk.size
  simp only [World.size_alloc] at hs1
  clear hb hbk HS
  have hb := hb'; clear hb'
  have HS := HS'; clear HS'
  have O2 := O2'; clear O2'
  have qO2 := O2.out.cell; have zO2 := O2.out.lt
  cases h1 : greatB n L with
  | true =>
    have h1' := Lib.hid h1; clear h1; have h1 := h1'; clear h1'
    go_wp2_with fail
    refine (awake_true _).mono ?_
    rintro e w2 ⟨rfl, hbk⟩
    have O2' := Lib.hid (O2.out.below' hbk)
    have HS' := Lib.hid (HS.out.keep hbk)
    have hb' := Lib.hid (hb.out.trans (hbk.mono (by have := hb.out.size; simp; try omega)))
    have hs2 := hbk.size
    clear qO2 zO2
    clear hb hbk O2 HS
    have hb := hb'; clear hb'
    have O2 := O2'; clear O2'
    have HS := HS'; clear HS'
    go_wp2
    go_ret
    exact ⟨rfl, hb.out⟩
  | false =>
    have h1' := Lib.hid h1; clear h1; have h1 := h1'; clear h1'
    skip
    go_wp2_with fail
    refine (right_any' A n c L f _ HS.out (by have := great_false h1.out; omega)).mono ?_
    rintro e w2 ⟨rfl, hbk⟩
    have O2' := Lib.hid (O2.out.below' hbk)
    have HS' := Lib.hid (HS.out.keep hbk)
    have hb' := Lib.hid (hb.out.trans (hbk.mono (by have := hb.out.size; simp; try omega)))
    have hs2 := hbk.size
    clear qO2 zO2
    clear hb hbk O2 HS
    have hb := hb'; clear hb'
    have O2 := O2'; clear O2'
    have HS := HS'; clear HS'
    have qO2 := O2.out.cell; have zO2 := O2.out.lt
    cases h2 : rightB L n f with
    | true =>
      have h2' := Lib.hid h2; clear h2; have h2 := h2'; clear h2'
      obtain ⟨l, rfl, R1⟩ := HS.out.right h2.out
      have hl1 := (great_false h1.out).1
      have hn1 := (great_false h1.out).2
      have hn2 : n ≤ 250 := by omega
      have R1 := Lib.hid R1
      obtain ⟨q, hq⟩ : ∃ q, q = x / 4096 := ⟨_, rfl⟩
      have hqI : (x : Int) / 4096 = (q : Int) := by omega
      have hq20 := Lib.hid (show q < 18446744073709551615 by omega)
      obtain ⟨M1, hM1⟩ : ∃ M, M = l + knotL q := ⟨_, rfl⟩
      have HM1 := Lib.hid hM1
      have lm1 : M1 ≤ 3000 := by have := (knotL_bound q hq20.out).2.1; omega
      obtain ⟨N1, hN1⟩ : ∃ M, M = l / 8 + 1 := ⟨_, rfl⟩
      have HN1 := Lib.hid hN1
      have lm2 : N1 ≤ 3000 := by omega
      clear hq hM1 hN1
      go_upto_region 3 with (fail)
      go_cut [5] (fun s5 W => RegL w2 A n c l f s5 W)
      case first =>
        go_region_with (first | (go_at_call 26; refine (lentBytes_any A n c f _ ?_ (by omega)).mono ?_; (first | exact HS.out.rd.drew | exact (HS.out.rd.alloc _).drew); rintro e w9 ⟨g, cap, more, rfl, hg, hO, hc, hcm, hbk⟩; have HO := Lib.hid hO; (first | have p2 := Lib.hid (O2.out.below' (undrew hbk)) | have p2 := Lib.hid ((O2.out.alloc _).below' (undrew hbk))); have q2 := p2.out.cell; have z2 := p2.out.lt; (try (have oZ := Lib.hid (Own.below' ((Own.new' (w := w2) (g := w2.heap.size) (vs := [.slice none 0 0, .int .i64 0]) (t := 24) rfl).drew) hbk); have qZ := oZ.out.cell; have fZ := oZ.out.frozen; have zZ := oZ.out.lt))))
        all_goals (go_wp2_with fail; go_meet; first | exact regL_a hg hO hc hbk | exact regL_b hg hO hc oZ.out hbk)
      case rest =>
        obtain ⟨gi, ci, mi, g5, rfl, hgi, hOi, hci, hO5, hbk⟩ := hcut
        obtain ⟨w3, hwc⟩ : ∃ V, V = wc := ⟨_, rfl⟩
        subst hwc
        have O2' := Lib.hid (O2.out.below' hbk)
        have HS' := Lib.hid (HS.out.keep hbk)
        have hb' := Lib.hid (hb.out.trans (hbk.mono (by have := hb.out.size; simp; try omega)))
        have hs3 := hbk.size
        clear qO2 zO2
        clear hb hbk O2 HS
        have hb := hb'; clear hb'
        have O2 := O2'; clear O2'
        have HS := HS'; clear HS'
        have OI := Lib.hid hOi; clear hOi
        have O5 := Lib.hid hO5; clear hO5
        have hg5 : g5 < w3.heap.size := O5.out.lt
        have hgi2 : gi < w3.heap.size := OI.out.lt
        have hb3 := hb
        have qO2 := O2.out.cell; have zO2 := O2.out.lt
        have qO5 := O5.out.cell; have zO5 := O5.out.lt
        go_wp2_with fail
        refine (field_at _ n ci l 0 l 0 f _ (lent_rd OI.out) R1.out (by omega) (by omega) (by omega) (by omega)).mono ?_
        rintro e w4 ⟨ga, rfl, hga, hOa, hbk⟩
        have O2' := Lib.hid (O2.out.below' hbk)
        have OI' := Lib.hid (OI.out.below' hbk)
        have O5' := Lib.hid (O5.out.below' hbk)
        have HS' := Lib.hid (HS.out.keep hbk)
        have hb' := Lib.hid (hb.out.trans (hbk.mono (by have := hb.out.size; simp; try omega)))
        have hs4 := hbk.size
        clear qO2 zO2 qO5 zO5
        clear hb hbk O2 OI O5 HS
        have hb := hb'; clear hb'
        have O2 := O2'; clear O2'
        have OI := OI'; clear OI'
        have O5 := O5'; clear O5'
        have HS := HS'; clear HS'
        have OA := Lib.hid hOa; clear hOa
        have qO2 := O2.out.cell; have zO2 := O2.out.lt
        have qO5 := O5.out.cell; have zO5 := O5.out.lt
        have la : ga < w4.heap.size := OA.out.lt
        go_wp2_with fail
        refine (knot_at _ n ci l M1 q f _ (lent_rd (OI.out.alloc _)) R1.out hq20.out (by have := HM1.out; omega) (by omega)).mono ?_
        rintro e w5 ⟨gb, rfl, hgb, hOb, hbk⟩
        have O2' := Lib.hid ((O2.out.alloc _).below' hbk)
        have OI' := Lib.hid ((OI.out.alloc _).below' hbk)
        have O5' := Lib.hid ((O5.out.alloc _).below' hbk)
        have OA' := Lib.hid ((OA.out.alloc _).below' hbk)
        have HS' := Lib.hid ((HS.out.alloc _).keep hbk)
        have O6' := Lib.hid (Own.below' (Own.new' (g := w4.heap.size) (w := w4) rfl) hbk)
        have hb' := Lib.hid ((hb.out.alloc (by have := hb.out.size; simp; try omega) _).trans (hbk.mono (by have := hb.out.size; simp; try omega)))
        have hs5 := hbk.size
        simp only [World.size_alloc] at hs5
        clear qO2 zO2 qO5 zO5
        clear hb hbk O2 OI O5 OA HS
        have hb := hb'; clear hb'
        have O2 := O2'; clear O2'
        have OI := OI'; clear OI'
        have O5 := O5'; clear O5'
        have OA := OA'; clear OA'
        have HS := HS'; clear HS'
        have O6 := O6'; clear O6'
        have OB := Lib.hid hOb; clear hOb
        have qO2 := O2.out.cell; have zO2 := O2.out.lt
        have qO5 := O5.out.cell; have zO5 := O5.out.lt
        have qO6 := O6.out.cell; have zO6 := O6.out.lt
        have lb : gb < w5.heap.size := OB.out.lt
        go_wp2_with fail
        refine (cut_int _ n ci l _ _ 0 l f _ (lent_rd (OI.out.alloc _)) R1.out (by rfl) (by omega) (by omega)).mono ?_
        rintro e w6 ⟨gc, rfl, hgc, hOc, hbk⟩
        have O2' := Lib.hid ((O2.out.alloc _).below' hbk)
        have OI' := Lib.hid ((OI.out.alloc _).below' hbk)
        have O5' := Lib.hid ((O5.out.alloc _).below' hbk)
        have OA' := Lib.hid ((OA.out.alloc _).below' hbk)
        have O6' := Lib.hid ((O6.out.alloc _).below' hbk)
        have OB' := Lib.hid ((OB.out.alloc _).below' hbk)
        have HS' := Lib.hid ((HS.out.alloc _).keep hbk)
        have O8' := Lib.hid (Own.below' (Own.new' (g := w5.heap.size) (w := w5) rfl) hbk)
        have hb' := Lib.hid ((hb.out.alloc (by have := hb.out.size; simp; try omega) _).trans (hbk.mono (by have := hb.out.size; simp; try omega)))
        have hs6 := hbk.size
        simp only [World.size_alloc] at hs6
        clear qO2 zO2 qO5 zO5 qO6 zO6
        clear hb hbk O2 OI O5 OA O6 OB HS
        have hb := hb'; clear hb'
        have O2 := O2'; clear O2'
        have OI := OI'; clear OI'
        have O5 := O5'; clear O5'
        have OA := OA'; clear OA'
        have O6 := O6'; clear O6'
        have OB := OB'; clear OB'
        have HS := HS'; clear HS'
        have O8 := O8'; clear O8'
        have OC := Lib.hid hOc; clear hOc
        have qO2 := O2.out.cell; have zO2 := O2.out.lt
        have qO5 := O5.out.cell; have zO5 := O5.out.lt
        have qO6 := O6.out.cell; have zO6 := O6.out.lt
        have qO8 := O8.out.cell; have zO8 := O8.out.lt
        have lc : gc < w6.heap.size := OC.out.lt
        go_wp2_with fail
        refine (join_at _ none n ci 0 0 l 0 l f noF _ (lent_rd (OI.out.alloc _)) R1.out (Rd.zero (by simp [cellsF])) noF_RS (by omega) (by omega)).mono ?_
        rintro e w7 ⟨gd, rfl, hgd, hOd, hbk⟩
        have O2' := Lib.hid ((O2.out.alloc _).below' hbk)
        have OI' := Lib.hid ((OI.out.alloc _).below' hbk)
        have O5' := Lib.hid ((O5.out.alloc _).below' hbk)
        have OA' := Lib.hid ((OA.out.alloc _).below' hbk)
        have O6' := Lib.hid ((O6.out.alloc _).below' hbk)
        have OB' := Lib.hid ((OB.out.alloc _).below' hbk)
        have O8' := Lib.hid ((O8.out.alloc _).below' hbk)
        have OC' := Lib.hid ((OC.out.alloc _).below' hbk)
        have HS' := Lib.hid ((HS.out.alloc _).keep hbk)
        have O10' := Lib.hid (Own.below' (Own.new' (g := w6.heap.size) (w := w6) rfl) hbk)
        have hb' := Lib.hid ((hb.out.alloc (by have := hb.out.size; simp; try omega) _).trans (hbk.mono (by have := hb.out.size; simp; try omega)))
        have hs7 := hbk.size
        simp only [World.size_alloc] at hs7
        clear qO2 zO2 qO5 zO5 qO6 zO6 qO8 zO8
        clear hb hbk O2 OI O5 OA O6 OB O8 OC HS
        have hb := hb'; clear hb'
        have O2 := O2'; clear O2'
        have OI := OI'; clear OI'
        have O5 := O5'; clear O5'
        have OA := OA'; clear OA'
        have O6 := O6'; clear O6'
        have OB := OB'; clear OB'
        have O8 := O8'; clear O8'
        have OC := OC'; clear OC'
        have HS := HS'; clear HS'
        have O10 := O10'; clear O10'
        have OD := Lib.hid hOd; clear hOd
        have qO2 := O2.out.cell; have zO2 := O2.out.lt
        have qO5 := O5.out.cell; have zO5 := O5.out.lt
        have qO6 := O6.out.cell; have zO6 := O6.out.lt
        have qO8 := O8.out.cell; have zO8 := O8.out.lt
        have qO10 := O10.out.cell; have zO10 := O10.out.lt
        have ld : gd < w7.heap.size := OD.out.lt
        go_wp2_with fail
        refine (pack_at _ n ci l N1 f _ (lent_rd (OI.out.alloc _)) R1.out HN1.out).mono ?_
        rintro e w8 ⟨gp, rfl, hgp, hOp, hbk⟩
        have O2' := Lib.hid ((O2.out.alloc _).below' hbk)
        have OI' := Lib.hid ((OI.out.alloc _).below' hbk)
        have O5' := Lib.hid ((O5.out.alloc _).below' hbk)
        have OA' := Lib.hid ((OA.out.alloc _).below' hbk)
        have O6' := Lib.hid ((O6.out.alloc _).below' hbk)
        have OB' := Lib.hid ((OB.out.alloc _).below' hbk)
        have O8' := Lib.hid ((O8.out.alloc _).below' hbk)
        have OC' := Lib.hid ((OC.out.alloc _).below' hbk)
        have O10' := Lib.hid ((O10.out.alloc _).below' hbk)
        have OD' := Lib.hid ((OD.out.alloc _).below' hbk)
        have HS' := Lib.hid ((HS.out.alloc _).keep hbk)
        have O12' := Lib.hid (Own.below' (Own.new' (g := w7.heap.size) (w := w7) rfl) hbk)
        have hb' := Lib.hid ((hb.out.alloc (by have := hb.out.size; simp; try omega) _).trans (hbk.mono (by have := hb.out.size; simp; try omega)))
        have hs8 := hbk.size
        simp only [World.size_alloc] at hs8
        clear qO2 zO2 qO5 zO5 qO6 zO6 qO8 zO8 qO10 zO10
        clear hb hbk O2 OI O5 OA O6 OB O8 OC O10 OD HS
        have hb := hb'; clear hb'
        have O2 := O2'; clear O2'
        have OI := OI'; clear OI'
        have O5 := O5'; clear O5'
        have OA := OA'; clear OA'
        have O6 := O6'; clear O6'
        have OB := OB'; clear OB'
        have O8 := O8'; clear O8'
        have OC := OC'; clear OC'
        have O10 := O10'; clear O10'
        have OD := OD'; clear OD'
        have HS := HS'; clear HS'
        have O12 := O12'; clear O12'
        have OP := Lib.hid hOp; clear hOp
        have qO2 := O2.out.cell; have zO2 := O2.out.lt
        have qO5 := O5.out.cell; have zO5 := O5.out.lt
        have qO6 := O6.out.cell; have zO6 := O6.out.lt
        have qO8 := O8.out.cell; have zO8 := O8.out.lt
        have qO10 := O10.out.cell; have zO10 := O10.out.lt
        have qO12 := O12.out.cell; have zO12 := O12.out.lt
        have lp : gp < w8.heap.size := OP.out.lt
        go_wp2_with fail
        refine (copyBytes_any _ N1 N1 (packF f l) _ OP.out.rd (by omega)).mono ?_
        rintro e w9 ⟨gq, cq, mq, rfl, hgq, hOq, hcq, hcq2, hcq3, hbk⟩
        have O2' := Lib.hid (O2.out.below' hbk)
        have OI' := Lib.hid (OI.out.below' hbk)
        have O5' := Lib.hid (O5.out.below' hbk)
        have OA' := Lib.hid (OA.out.below' hbk)
        have O6' := Lib.hid (O6.out.below' hbk)
        have OB' := Lib.hid (OB.out.below' hbk)
        have O8' := Lib.hid (O8.out.below' hbk)
        have OC' := Lib.hid (OC.out.below' hbk)
        have O10' := Lib.hid (O10.out.below' hbk)
        have OD' := Lib.hid (OD.out.below' hbk)
        have O12' := Lib.hid (O12.out.below' hbk)
        have OP' := Lib.hid (OP.out.below' hbk)
        have HS' := Lib.hid (HS.out.keep hbk)
        have hb' := Lib.hid (hb.out.trans (hbk.mono (by have := hb.out.size; simp; try omega)))
        have hs9 := hbk.size
        clear qO2 zO2 qO5 zO5 qO6 zO6 qO8 zO8 qO10 zO10 qO12 zO12
        clear hb hbk O2 OI O5 OA O6 OB O8 OC O10 OD O12 OP HS
        have hb := hb'; clear hb'
        have O2 := O2'; clear O2'
        have OI := OI'; clear OI'
        have O5 := O5'; clear O5'
        have OA := OA'; clear OA'
        have O6 := O6'; clear O6'
        have OB := OB'; clear OB'
        have O8 := O8'; clear O8'
        have OC := OC'; clear OC'
        have O10 := O10'; clear O10'
        have OD := OD'; clear OD'
        have O12 := O12'; clear O12'
        have OP := OP'; clear OP'
        have HS := HS'; clear HS'
        have OQ := Lib.hid hOq; clear hOq
        have qO2 := O2.out.cell; have zO2 := O2.out.lt
        have qO5 := O5.out.cell; have zO5 := O5.out.lt
        have qO6 := O6.out.cell; have zO6 := O6.out.lt
        have qO8 := O8.out.cell; have zO8 := O8.out.lt
        have qO10 := O10.out.cell; have zO10 := O10.out.lt
        have qO12 := O12.out.cell; have zO12 := O12.out.lt
        go_wp2_with fail
        refine (unpack_at _ N1 cq l f _ (by have h := OQ.out.rd_take N1; rwa [List.take_left' (length_cellsF _ _)] at h) R1.out HN1.out).mono ?_
        rintro e w10 ⟨gu, rfl, hgu, hOu, hbk⟩
        have O2' := Lib.hid (O2.out.below' hbk)
        have OI' := Lib.hid (OI.out.below' hbk)
        have O5' := Lib.hid (O5.out.below' hbk)
        have OA' := Lib.hid (OA.out.below' hbk)
        have O6' := Lib.hid (O6.out.below' hbk)
        have OB' := Lib.hid (OB.out.below' hbk)
        have O8' := Lib.hid (O8.out.below' hbk)
        have OC' := Lib.hid (OC.out.below' hbk)
        have O10' := Lib.hid (O10.out.below' hbk)
        have OD' := Lib.hid (OD.out.below' hbk)
        have O12' := Lib.hid (O12.out.below' hbk)
        have OP' := Lib.hid (OP.out.below' hbk)
        have OQ' := Lib.hid (OQ.out.below' hbk)
        have HS' := Lib.hid (HS.out.keep hbk)
        have hb' := Lib.hid (hb.out.trans (hbk.mono (by have := hb.out.size; simp; try omega)))
        have hs10 := hbk.size
        clear qO2 zO2 qO5 zO5 qO6 zO6 qO8 zO8 qO10 zO10 qO12 zO12
        clear hb hbk O2 OI O5 OA O6 OB O8 OC O10 OD O12 OP OQ HS
        have hb := hb'; clear hb'
        have O2 := O2'; clear O2'
        have OI := OI'; clear OI'
        have O5 := O5'; clear O5'
        have OA := OA'; clear OA'
        have O6 := O6'; clear O6'
        have OB := OB'; clear OB'
        have O8 := O8'; clear O8'
        have OC := OC'; clear OC'
        have O10 := O10'; clear O10'
        have OD := OD'; clear OD'
        have O12 := O12'; clear O12'
        have OP := OP'; clear OP'
        have OQ := OQ'; clear OQ'
        have HS := HS'; clear HS'
        have OU := Lib.hid hOu; clear hOu
        have qO2 := O2.out.cell; have zO2 := O2.out.lt
        have qO5 := O5.out.cell; have zO5 := O5.out.lt
        have qO6 := O6.out.cell; have zO6 := O6.out.lt
        have qO8 := O8.out.cell; have zO8 := O8.out.lt
        have qO10 := O10.out.cell; have zO10 := O10.out.lt
        have qO12 := O12.out.cell; have zO12 := O12.out.lt
        have lu : gu < w10.heap.size := OU.out.lt
        simp only [World.size_alloc] at hgb hgc hgd hgp
        have hG := Lib.hid (show w3.heap.size ≤ ga ∧ ga < gb ∧ gb < gc ∧ gc < gd ∧ gd < gp ∧ gp < gu by omega)
        go_wp2_with fail
        clear qO2 zO2 qO5 zO5 qO6 zO6 qO8 zO8 qO10 zO10 qO12 zO12
        have zz := hb3.out.size
        have zw := hb.out.size
        refine (apart_six (w10.heap.size + 1) 6 ga gb gc gd gp gu ((l + 7) / 8) ((M1 + 7) / 8) ((l + 7) / 8) ((l + 7) / 8) N1 ((l + 7) / 8) _ (Own.new' (by simp)) ⟨hG.out.2.1, hG.out.2.2.1, hG.out.2.2.2.1, hG.out.2.2.2.2.1, hG.out.2.2.2.2.2⟩
          (length_cellsF _ _) ((OA.out.alloc _).alloc _) (length_cellsF _ _) ((OB.out.alloc _).alloc _) (length_cellsF _ _) ((OC.out.alloc _).alloc _) (length_cellsF _ _) ((OD.out.alloc _).alloc _) (length_cellsF _ _) ((OP.out.alloc _).alloc _) (length_cellsF _ _) ((OU.out.alloc _).alloc _) (by omega)).mono ?_
        rintro e w11 ⟨rfl, hon⟩
        have hne : ∀ b, b < ga → ¬ (b = ga ∨ b = gb ∨ b = gc ∨ b = gd ∨ b = gp ∨ b = gu) := fun b hb h => by have := hG.out; omega
        have p2 := Lib.hid (((O2.out.alloc _).alloc _).only hon (hne _ (by have := hG.out; omega)))
        have p5 := Lib.hid (((O5.out.alloc _).alloc _).only hon (hne _ (by have := hG.out; omega)))
        have pI := Lib.hid (((OI.out.alloc _).alloc _).only hon (hne _ (by have := hG.out; omega)))
        have hb9 := Lib.hid (((hb.out.alloc hb.out.size _).alloc (by simp; omega) _).trans (hon.below (B := w.heap.size) (fun b hb => by have := hG.out; omega) (by simp; omega)))
        clear hon hne hb OA OB OC OD OP OU OQ O2 O5 OI O6 O8 O10 O12 HS
        have q2 := p2.out.cell; have q5 := p5.out.cell; have z2 := p2.out.lt; have z5 := p5.out.lt
        go_wp2_with fail
        refine (keptBytes_any A gi n c ci f _ (lent_all pI.out) (HA0.out.below hb9.out) (by omega) hci).mono ?_
        rintro e w12 ⟨rfl, hbk⟩
        have hb10 := Lib.hid (hb9.out.trans (hbk.mono hb9.out.size))
        clear hbk q2 q5 z2 z5
        go_wp2_with fail
        refine (awake_true _).mono ?_
        rintro e w13 ⟨rfl, hbk⟩
        have hb11 := Lib.hid (hb10.out.trans (hbk.mono hb10.out.size))
        clear hbk
        go_wp2
        go_ret
        exact ⟨rfl, hb11.out⟩
    | false =>
      have h2' := Lib.hid h2; clear h2; have h2 := h2'; clear h2'
      go_wp2_with fail
      refine (awake_true _).mono ?_
      rintro e w3 ⟨rfl, hbk⟩
      have O2' := Lib.hid (O2.out.below' hbk)
      have HS' := Lib.hid (HS.out.keep hbk)
      have hb' := Lib.hid (hb.out.trans (hbk.mono (by have := hb.out.size; simp; try omega)))
      have hs3 := hbk.size
      clear qO2 zO2
      clear hb hbk O2 HS
      have hb := hb'; clear hb'
      have O2 := O2'; clear O2'
      have HS := HS'; clear HS'
      go_wp2
      go_ret
      exact ⟨rfl, hb.out⟩
end Go.Proofs.Ytnhlenagojbigaa
