/- Walk: fretworklaw01.StrandPack: the last byte is nought. -/
import Derived.Test.YtnhlenagojbigaaStrP
namespace Go.Proofs.Ytnhlenagojbigaa
open Go.RowKit

set_option maxRecDepth 100000 in
set_option maxHeartbeats 8000000 in
theorem strandPack_zero (A A' B : Option Addr) (n c n' c' k kc : Nat) (L L' : Int) (f f' h : Nat → Bool) (w : World) (hs : ArgS w A n L f) (ht : ArgS w A' n' L' f') (hb : Rd w B (cellsF h k)) (hk0 : 0 < k) (h250 : k ≤ 250) (hz : byteF h (k - 1) = 0) :
    Calls Try.prog 3 #[.agg #[.slice A n c, .int .i64 L], .agg #[.slice A' n' c', .int .i64 L'], .slice B k kc] w fun e w' => e = .returned (.bool true) ∧ Below w.heap.size w w' := by
  have HS := Lib.hid hs; have HT := Lib.hid ht; have HB := Lib.hid hb
  clear hs ht hb
  obtain ⟨bb, off, rfl, hbb, hcc⟩ := HB.out (by rw [length_cellsF]; exact hk0)
  have hcc := hcc _ _ (cellsF_at h k (k - 1) (by omega))
  rw [hz] at hcc
  have hb := Lib.hid (Below.refl w.heap.size w)
  go_enter Try.func3, Try.ntmps3
  go_wp2_with fail
  refine (unpack_zero _ k kc h _ ((HB.out.alloc _).alloc _) (by omega) (fun _ => hz)).mono ?_
  rintro e w1 ⟨rfl, hbk⟩
  have HS' := Lib.hid (((HS.out.alloc _).alloc _).keep hbk)
  have HT' := Lib.hid (((HT.out.alloc _).alloc _).keep hbk)
  have O3' := Lib.hid (Own.below' ((Own.new' (w := w) rfl).alloc _) hbk)
  have O4' := Lib.hid (Own.below' (Own.new' (g := w.heap.size + 1) (w := w.alloc _) (by simp)) hbk)
  have hb' := Lib.hid (((hb.out.alloc (by have := hb.out.size; simp; try omega) _).alloc (by have := hb.out.size; simp; try omega) _).trans (hbk.mono (by have := hb.out.size; simp; try omega)))
  have hs1 := hbk.size
  simp only [World.size_alloc] at hs1
  have HB1 := hb'
  clear hb hbk HS HT
  have hb := hb'; clear hb'
  have HS := HS'; clear HS'
  have HT := HT'; clear HT'
  have O3 := O3'; clear O3'
  have O4 := O4'; clear O4'
  have hb0 := Lib.hid (hb.out.alloc hb.out.size (.cells #[.slice none 0 0, .int .i64 0] 24)); clear hb; have hb := hb0; clear hb0
  have O3' := Lib.hid (O3.out.alloc (.cells #[.slice none 0 0, .int .i64 0] 24)); clear O3; have O3 := O3'; clear O3'
  have O4' := Lib.hid (O4.out.alloc (.cells #[.slice none 0 0, .int .i64 0] 24)); clear O4; have O4 := O4'; clear O4'
  have HS' := Lib.hid (HS.out.alloc (.cells #[.slice none 0 0, .int .i64 0] 24)); clear HS; have HS := HS'; clear HS'
  have HT' := Lib.hid (HT.out.alloc (.cells #[.slice none 0 0, .int .i64 0] 24)); clear HT; have HT := HT'; clear HT'
  have hcz : ∀ o, (w1.alloc o).cell? ⟨bb, off + (k - 1), none⟩ = some (.int .u8 0) := fun o => ((HB1.out.alloc HB1.out.size o).cell (p := ⟨bb, off + (k - 1), none⟩) hbb).trans hcc
  have qO3 := O3.out.cell; have zO3 := O3.out.lt
  have qO4 := O4.out.cell; have zO4 := O4.out.lt
  go_wp2_with fail
  refine (great_any A n c L _).mono ?_
  rintro e w2 ⟨rfl, hbk⟩
  have O3' := Lib.hid (O3.out.below' hbk)
  have O4' := Lib.hid (O4.out.below' hbk)
  have HS' := Lib.hid (HS.out.keep hbk)
  have HT' := Lib.hid (HT.out.keep hbk)
  have hb' := Lib.hid (hb.out.trans (hbk.mono (by have := hb.out.size; simp; try omega)))
  have hs2 := hbk.size
  clear hcz qO3 zO3 qO4 zO4
  clear hb hbk O3 O4 HS HT
  have hb := hb'; clear hb'
  have O3 := O3'; clear O3'
  have O4 := O4'; clear O4'
  have HS := HS'; clear HS'
  have HT := HT'; clear HT'
  have qO3 := O3.out.cell; have zO3 := O3.out.lt
  have qO4 := O4.out.cell; have zO4 := O4.out.lt
  cases h1 : greatB n L with
  | true =>
    have h1' := Lib.hid h1; clear h1; have h1 := h1'; clear h1'
    go_wp2_with fail
    refine (awake_true _).mono ?_
    rintro e w3 ⟨rfl, hbk⟩
    have O3' := Lib.hid (O3.out.below' hbk)
    have O4' := Lib.hid (O4.out.below' hbk)
    have HS' := Lib.hid (HS.out.keep hbk)
    have HT' := Lib.hid (HT.out.keep hbk)
    have hb' := Lib.hid (hb.out.trans (hbk.mono (by have := hb.out.size; simp; try omega)))
    have hs3 := hbk.size
    clear qO3 zO3 qO4 zO4
    clear hb hbk O3 O4 HS HT
    have hb := hb'; clear hb'
    have O3 := O3'; clear O3'
    have O4 := O4'; clear O4'
    have HS := HS'; clear HS'
    have HT := HT'; clear HT'
    go_wp2
    go_ret
    exact ⟨rfl, hb.out⟩
  | false =>
    have h1' := Lib.hid h1; clear h1; have h1 := h1'; clear h1'
    skip
    go_wp2_with fail
    refine (great_any A' n' c' L' _).mono ?_
    rintro e w3 ⟨rfl, hbk⟩
    have O3' := Lib.hid (O3.out.below' hbk)
    have O4' := Lib.hid (O4.out.below' hbk)
    have HS' := Lib.hid (HS.out.keep hbk)
    have HT' := Lib.hid (HT.out.keep hbk)
    have hb' := Lib.hid (hb.out.trans (hbk.mono (by have := hb.out.size; simp; try omega)))
    have hs3 := hbk.size
    clear qO3 zO3 qO4 zO4
    clear hb hbk O3 O4 HS HT
    have hb := hb'; clear hb'
    have O3 := O3'; clear O3'
    have O4 := O4'; clear O4'
    have HS := HS'; clear HS'
    have HT := HT'; clear HT'
    have qO3 := O3.out.cell; have zO3 := O3.out.lt
    have qO4 := O4.out.cell; have zO4 := O4.out.lt
    cases h2 : greatB n' L' with
    | true =>
      have h2' := Lib.hid h2; clear h2; have h2 := h2'; clear h2'
      go_wp2_with fail
      refine (awake_true _).mono ?_
      rintro e w4 ⟨rfl, hbk⟩
      have O3' := Lib.hid (O3.out.below' hbk)
      have O4' := Lib.hid (O4.out.below' hbk)
      have HS' := Lib.hid (HS.out.keep hbk)
      have HT' := Lib.hid (HT.out.keep hbk)
      have hb' := Lib.hid (hb.out.trans (hbk.mono (by have := hb.out.size; simp; try omega)))
      have hs4 := hbk.size
      clear qO3 zO3 qO4 zO4
      clear hb hbk O3 O4 HS HT
      have hb := hb'; clear hb'
      have O3 := O3'; clear O3'
      have O4 := O4'; clear O4'
      have HS := HS'; clear HS'
      have HT := HT'; clear HT'
      go_wp2
      go_ret
      exact ⟨rfl, hb.out⟩
    | false =>
      have h2' := Lib.hid h2; clear h2; have h2 := h2'; clear h2'
      skip
      go_wp2_with fail
      refine (right_any' A n c L f _ HS.out (by have := great_false h1.out; omega)).mono ?_
      rintro e w4 ⟨rfl, hbk⟩
      have O3' := Lib.hid (O3.out.below' hbk)
      have O4' := Lib.hid (O4.out.below' hbk)
      have HS' := Lib.hid (HS.out.keep hbk)
      have HT' := Lib.hid (HT.out.keep hbk)
      have hb' := Lib.hid (hb.out.trans (hbk.mono (by have := hb.out.size; simp; try omega)))
      have hs4 := hbk.size
      clear qO3 zO3 qO4 zO4
      clear hb hbk O3 O4 HS HT
      have hb := hb'; clear hb'
      have O3 := O3'; clear O3'
      have O4 := O4'; clear O4'
      have HS := HS'; clear HS'
      have HT := HT'; clear HT'
      have qO3 := O3.out.cell; have zO3 := O3.out.lt
      have qO4 := O4.out.cell; have zO4 := O4.out.lt
      cases h3 : rightB L n f with
      | true =>
        have h3' := Lib.hid h3; clear h3; have h3 := h3'; clear h3'
        skip
        go_wp2_with fail
        refine (right_any' A' n' c' L' f' _ HT.out (by have := great_false h2.out; omega)).mono ?_
        rintro e w5 ⟨rfl, hbk⟩
        have O3' := Lib.hid (O3.out.below' hbk)
        have O4' := Lib.hid (O4.out.below' hbk)
        have HS' := Lib.hid (HS.out.keep hbk)
        have HT' := Lib.hid (HT.out.keep hbk)
        have hb' := Lib.hid (hb.out.trans (hbk.mono (by have := hb.out.size; simp; try omega)))
        have hs5 := hbk.size
        clear qO3 zO3 qO4 zO4
        clear hb hbk O3 O4 HS HT
        have hb := hb'; clear hb'
        have O3 := O3'; clear O3'
        have O4 := O4'; clear O4'
        have HS := HS'; clear HS'
        have HT := HT'; clear HT'
        have qO3 := O3.out.cell; have zO3 := O3.out.lt
        have qO4 := O4.out.cell; have zO4 := O4.out.lt
        cases h4 : rightB L' n' f' with
        | true =>
          have h4' := Lib.hid h4; clear h4; have h4 := h4'; clear h4'
          obtain ⟨l, rfl, R1⟩ := HS.out.right h3.out
          obtain ⟨l', rfl, R2⟩ := HT.out.right h4.out
          have R1 := Lib.hid R1; have R2 := Lib.hid R2
          have hl1 := (great_false h1.out).1; have hl2 := (great_false h2.out).1
          go_wp2_with fail
          refine (pack_good A n c l f _ HS.out.rd R1.out).mono ?_
          rintro e w6 ⟨gp, rfl, hgp, hOp, hbk⟩
          have O3' := Lib.hid (O3.out.below' hbk)
          have O4' := Lib.hid (O4.out.below' hbk)
          have HS' := Lib.hid (HS.out.keep hbk)
          have HT' := Lib.hid (HT.out.keep hbk)
          have hb' := Lib.hid (hb.out.trans (hbk.mono (by have := hb.out.size; simp; try omega)))
          have hs6 := hbk.size
          clear qO3 zO3 qO4 zO4
          clear hb hbk O3 O4 HS HT
          have hb := hb'; clear hb'
          have O3 := O3'; clear O3'
          have O4 := O4'; clear O4'
          have HS := HS'; clear HS'
          have HT := HT'; clear HT'
          have OP := Lib.hid hOp; clear hOp
          have qO3 := O3.out.cell; have zO3 := O3.out.lt
          have qO4 := O4.out.cell; have zO4 := O4.out.lt
          go_wp2_with fail
          refine (pack_good A' n' c' l' f' _ HT.out.rd R2.out).mono ?_
          rintro e w7 ⟨gq, rfl, hgq, hOq, hbk⟩
          have O3' := Lib.hid (O3.out.below' hbk)
          have O4' := Lib.hid (O4.out.below' hbk)
          have OP' := Lib.hid (OP.out.below' hbk)
          have HS' := Lib.hid (HS.out.keep hbk)
          have HT' := Lib.hid (HT.out.keep hbk)
          have hb' := Lib.hid (hb.out.trans (hbk.mono (by have := hb.out.size; simp; try omega)))
          have hs7 := hbk.size
          clear qO3 zO3 qO4 zO4
          clear hb hbk O3 O4 OP HS HT
          have hb := hb'; clear hb'
          have O3 := O3'; clear O3'
          have O4 := O4'; clear O4'
          have OP := OP'; clear OP'
          have HS := HS'; clear HS'
          have HT := HT'; clear HT'
          have OQ := Lib.hid hOq; clear hOq
          have qO3 := O3.out.cell; have zO3 := O3.out.lt
          have qO4 := O4.out.cell; have zO4 := O4.out.lt
          go_wp2_with fail
          refine (unpack_good _ (l / 8 + 1) (l / 8 + 1) (packF f l) _ OP.out.rd (by omega) (by omega) (packF_unpack R1.out).1 (by rw [(packF_unpack R1.out).2]; omega)).mono ?_
          rintro e w8 ⟨gv, rfl, hgv, hOv, hbk⟩
          rw [(packF_unpack R1.out).2, cutTo_packF R1.out] at hOv
          rw [(packF_unpack R1.out).2]
          have O3' := Lib.hid (O3.out.below' hbk)
          have O4' := Lib.hid (O4.out.below' hbk)
          have OP' := Lib.hid (OP.out.below' hbk)
          have OQ' := Lib.hid (OQ.out.below' hbk)
          have HS' := Lib.hid (HS.out.keep hbk)
          have HT' := Lib.hid (HT.out.keep hbk)
          have hb' := Lib.hid (hb.out.trans (hbk.mono (by have := hb.out.size; simp; try omega)))
          have hs8 := hbk.size
          clear qO3 zO3 qO4 zO4
          clear hb hbk O3 O4 OP OQ HS HT
          have hb := hb'; clear hb'
          have O3 := O3'; clear O3'
          have O4 := O4'; clear O4'
          have OP := OP'; clear OP'
          have OQ := OQ'; clear OQ'
          have HS := HS'; clear HS'
          have HT := HT'; clear HT'
          have OV := Lib.hid hOv; clear hOv
          have qO3 := O3.out.cell; have zO3 := O3.out.lt
          have qO4 := O4.out.cell; have zO4 := O4.out.lt
          go_upto_region 15 with (fail)
          have O14 := Lib.hid (Own.new' (w := w8) (g := w8.heap.size) (t := 24) (vs := [.slice (some ⟨gv, 0, none⟩) ((l + 7) / 8) ((l + 7) / 8), .int .i64 l]) rfl)
          clear qO3 zO3 qO4 zO4
          have hb0 := Lib.hid (hb.out.alloc hb.out.size (.cells #[.slice (some ⟨gv, 0, none⟩) ((l + 7) / 8) ((l + 7) / 8), .int .i64 l] 24)); clear hb; have hb := hb0; clear hb0
          have O3' := Lib.hid (O3.out.alloc (.cells #[.slice (some ⟨gv, 0, none⟩) ((l + 7) / 8) ((l + 7) / 8), .int .i64 l] 24)); clear O3; have O3 := O3'; clear O3'
          have O4' := Lib.hid (O4.out.alloc (.cells #[.slice (some ⟨gv, 0, none⟩) ((l + 7) / 8) ((l + 7) / 8), .int .i64 l] 24)); clear O4; have O4 := O4'; clear O4'
          have OP' := Lib.hid (OP.out.alloc (.cells #[.slice (some ⟨gv, 0, none⟩) ((l + 7) / 8) ((l + 7) / 8), .int .i64 l] 24)); clear OP; have OP := OP'; clear OP'
          have OQ' := Lib.hid (OQ.out.alloc (.cells #[.slice (some ⟨gv, 0, none⟩) ((l + 7) / 8) ((l + 7) / 8), .int .i64 l] 24)); clear OQ; have OQ := OQ'; clear OQ'
          have OV' := Lib.hid (OV.out.alloc (.cells #[.slice (some ⟨gv, 0, none⟩) ((l + 7) / 8) ((l + 7) / 8), .int .i64 l] 24)); clear OV; have OV := OV'; clear OV'
          have HS' := Lib.hid (HS.out.alloc (.cells #[.slice (some ⟨gv, 0, none⟩) ((l + 7) / 8) ((l + 7) / 8), .int .i64 l] 24)); clear HS; have HS := HS'; clear HS'
          have HT' := Lib.hid (HT.out.alloc (.cells #[.slice (some ⟨gv, 0, none⟩) ((l + 7) / 8) ((l + 7) / 8), .int .i64 l] 24)); clear HT; have HT := HT'; clear HT'
          have hz8 : w8.heap.size < (w8.alloc (.cells #[.slice (some ⟨gv, 0, none⟩) ((l + 7) / 8) ((l + 7) / 8), .int .i64 l] 24)).heap.size := by simp
          obtain ⟨W0, hW0⟩ : ∃ W, W = w8.alloc (.cells #[.slice (some ⟨gv, 0, none⟩) ((l + 7) / 8) ((l + 7) / 8), .int .i64 l] 24) := ⟨_, rfl⟩
          rw [← hW0] at hb hz8 O14 O3 O4 OP OQ OV HS HT ⊢
          clear hW0
          have qO3 := O3.out.cell; have zO3 := O3.out.lt
          have qO4 := O4.out.cell; have zO4 := O4.out.lt
          have qO14 := O14.out.cell; have zO14 := O14.out.lt
          have hsv := Lib.hid (show sameS f n l f ((l + 7) / 8) l = true by rw [R1.out.len]; exact sameS_self)
          have hpq := Lib.hid (sameB_pack R1.out R2.out)
          obtain ⟨X, hX⟩ : ∃ X, X = sameS f n l f' n' l' := ⟨_, rfl⟩
          rw [← hX] at hpq
          have HX := Lib.hid hX
          have tq1 : Int.tdiv (l : Int) 8 = (l : Int) / 8 := Int.tdiv_eq_ediv_of_nonneg (by omega)
          have tq2 : IntKind.i64.wrap ((l : Int) / 8) = (l : Int) / 8 := IntWalk.i64_in _ (by omega)
          have tq3 : IntKind.i64.wrap ((l : Int) / 8 + 1) = (l : Int) / 8 + 1 := IntWalk.i64_in _ (by omega)
          have hS : ∀ W, Below W0.heap.size W0 W → (W.cell? ⟨w.heap.size, 0, none⟩ = some (.slice A n c) ∧ W.cell? ⟨w.heap.size, 1, none⟩ = some (.int .i64 l) ∧ W.cell? ⟨w.heap.size + 1, 0, none⟩ = some (.slice A' n' c') ∧ W.cell? ⟨w.heap.size + 1, 1, none⟩ = some (.int .i64 l') ∧
             W.cell? ⟨w8.heap.size, 0, none⟩ = some (.slice (some ⟨gv, 0, none⟩) ((l + 7) / 8) ((l + 7) / 8)) ∧ W.cell? ⟨w8.heap.size, 1, none⟩ = some (.int .i64 l) ∧ Below W0.heap.size W0 W) := fun W h =>
            ⟨(h.cell (p := ⟨w.heap.size, 0, none⟩) zO3).trans (qO3 0), (h.cell (p := ⟨w.heap.size, 1, none⟩) zO3).trans (qO3 1), (h.cell (p := ⟨w.heap.size + 1, 0, none⟩) zO4).trans (qO4 0), (h.cell (p := ⟨w.heap.size + 1, 1, none⟩) zO4).trans (qO4 1),
             (h.cell (p := ⟨w8.heap.size, 0, none⟩) zO14).trans (qO14 0), (h.cell (p := ⟨w8.heap.size, 1, none⟩) zO14).trans (qO14 1), h⟩
          have HSX := Lib.hid hS
          clear hS qO3 qO4 qO14 zO3 zO4 zO14 hX
          go_region_held3 (fun W => W.cell? ⟨w.heap.size, 0, none⟩ = some (.slice A n c) ∧ W.cell? ⟨w.heap.size, 1, none⟩ = some (.int .i64 l) ∧ W.cell? ⟨w.heap.size + 1, 0, none⟩ = some (.slice A' n' c') ∧ W.cell? ⟨w.heap.size + 1, 1, none⟩ = some (.int .i64 l') ∧
             W.cell? ⟨w8.heap.size, 0, none⟩ = some (.slice (some ⟨gv, 0, none⟩) ((l + 7) / 8) ((l + 7) / 8)) ∧ W.cell? ⟨w8.heap.size, 1, none⟩ = some (.int .i64 l) ∧ Below W0.heap.size W0 W)
             (first | assumption | (refine HSX.out _ ?_; assumption) | exact HSX.out _ ((Below.refl _ _).drew) | ((try dsimp only at *); go_split_ands; refine HSX.out _ ?_; refine below_chain ?_ (by assumption); assumption))
             (first
              | (go_at_call 14; (try dsimp only at *); go_split_ands; with_reducible refine (sameBytes_any _ _ _ _ _ _ _ _ _ (OP.out.below' (by assumption)).rd (OQ.out.below' (by assumption)).rd).mono ?_; rintro e w' ⟨rfl, rfl⟩; rw [hpq.out])
              | (go_at_call 16; (try dsimp only at *); go_split_ands; with_reducible refine (same_any _ _ _ _ _ _ _ _ f f _ (HS.out.keep (by assumption)).rd (OV.out.below' (by assumption)).rd).mono ?_; rintro e w' ⟨rfl, hbk⟩; rw [hsv.out])
              | (go_at_call 16; (try dsimp only at *); go_split_ands; with_reducible refine (same_any _ _ _ _ _ _ _ _ f f' _ (HS.out.keep (by assumption)).rd (HT.out.keep (by assumption)).rd).mono ?_; rintro e w' ⟨rfl, hbk⟩; rw [← HX.out])
              | (go_at_call 10; refine (awake_true _).mono ?_; rintro e w' ⟨rfl, hbk⟩))
          all_goals (go_wp2; (try dsimp only at *); go_split_ands; go_ret; exact ⟨rfl, hb.out.trans (Below.mono (by assumption) hb.out.size)⟩)
        | false =>
          have h4' := Lib.hid h4; clear h4; have h4 := h4'; clear h4'
          go_wp2_with fail
          refine (awake_true _).mono ?_
          rintro e w6 ⟨rfl, hbk⟩
          have O3' := Lib.hid (O3.out.below' hbk)
          have O4' := Lib.hid (O4.out.below' hbk)
          have HS' := Lib.hid (HS.out.keep hbk)
          have HT' := Lib.hid (HT.out.keep hbk)
          have hb' := Lib.hid (hb.out.trans (hbk.mono (by have := hb.out.size; simp; try omega)))
          have hs6 := hbk.size
          clear qO3 zO3 qO4 zO4
          clear hb hbk O3 O4 HS HT
          have hb := hb'; clear hb'
          have O3 := O3'; clear O3'
          have O4 := O4'; clear O4'
          have HS := HS'; clear HS'
          have HT := HT'; clear HT'
          go_wp2
          go_ret
          exact ⟨rfl, hb.out⟩
      | false =>
        have h3' := Lib.hid h3; clear h3; have h3 := h3'; clear h3'
        go_wp2_with fail
        refine (awake_true _).mono ?_
        rintro e w5 ⟨rfl, hbk⟩
        have O3' := Lib.hid (O3.out.below' hbk)
        have O4' := Lib.hid (O4.out.below' hbk)
        have HS' := Lib.hid (HS.out.keep hbk)
        have HT' := Lib.hid (HT.out.keep hbk)
        have hb' := Lib.hid (hb.out.trans (hbk.mono (by have := hb.out.size; simp; try omega)))
        have hs5 := hbk.size
        clear qO3 zO3 qO4 zO4
        clear hb hbk O3 O4 HS HT
        have hb := hb'; clear hb'
        have O3 := O3'; clear O3'
        have O4 := O4'; clear O4'
        have HS := HS'; clear HS'
        have HT := HT'; clear HT'
        go_wp2
        go_ret
        exact ⟨rfl, hb.out⟩
end Go.Proofs.Ytnhlenagojbigaa
