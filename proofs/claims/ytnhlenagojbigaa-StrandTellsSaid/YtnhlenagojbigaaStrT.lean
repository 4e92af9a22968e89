/- Walk: fretworklaw01.StrandParts. -/
import Derived.Test.YtnhlenagojbigaaStrN
import Derived.Test.YtnhlenagojbigaaStrP
import Derived.Test.YtnhlenagojbigaaStrQ
import Derived.Test.YtnhlenagojbigaaStrS
import Derived.Deep.RegionWith
namespace Go.Proofs.Ytnhlenagojbigaa
open Go.RowKit

theorem cut_int (A : Option Addr) (n c L : Nat) (p q : Int) (k l : Nat) (f : Nat → Bool) (w : World) (hr : Rd w A (cellsF f n)) (hs : RS L n f) (hp : p = k) (hl : q - k = l) (hq : q ≤ L) :
    Calls Try.prog 22 #[.agg #[.slice A n c, .int .i64 L], .int .i64 p, .int .i64 q] w (GoodS w l (cutF f k l)) := by
  obtain rfl : q = ((k + l : Nat) : Int) := by omega
  subst hp
  have h := cut_good A n c L k (k + l) f w hr hs (by omega) (by omega)
  rw [Nat.add_sub_cancel_left] at h
  exact h

theorem wrap_pow (v : Nat) (h : v < 64) : IntKind.u64.wrap (2 ^ v) = ((2 ^ v : Nat) : Int) := by
  have h1 : 2 ^ v < 2 ^ 64 := Nat.pow_lt_pow_right (by decide) h
  have h2 : ((2 : Int) ^ v) = ((2 ^ v : Nat) : Int) := by rw [Int.natCast_pow]; rfl
  rw [h2]
  generalize 2 ^ v = p at h1
  exact IntWalk.u64_in _ (by omega)
theorem mod_64 {z x v : Nat} (h : z = x % 2 ^ v) (hv : v = 64) (hx : x < 18446744073709551616) : z = x := by
  subst hv
  rw [h]
  exact Nat.mod_eq_of_lt hx

theorem div_bound {X x v u : Nat} (h : X = x / 2 ^ v) (hu : u = 64 - v) (hv : v ≤ 64) (hx : x < 18446744073709551616) : X < 2 ^ u := by
  rw [h, hu, Nat.div_lt_iff_lt_mul (Nat.two_pow_pos v), ← Nat.pow_add, Nat.sub_add_cancel hv]
  exact hx
theorem mod_bound {z x v : Nat} (h : z = x % 2 ^ v) : z < 2 ^ v := by
  rw [h]; exact Nat.mod_lt _ (Nat.two_pow_pos v)
theorem fields_parts {f : Nat → Bool} {L X x z v u M : Nat} (h : X = x / 2 ^ v) (hz : z = x % 2 ^ v) (hu : u = 64 - v) (hM : M = L + (64 - v)) (hv : v ≤ 64) : putF (putF f L X u) M z v = putF f L x 64 := by
  subst h hz hu hM
  exact put_parts v hv

theorem undrew {a w : World} (h : Below a.drew.heap.size a.drew w) : Below a.heap.size a w := ⟨h.os, h.tape, h.output, h.size, h.block⟩

def Reg20 (_ : Program) (W0 : World) (M : Nat) (f : Nat → Bool) (s15 s26 : Value) (W : World) : Prop :=
  ∃ g h, s15 = .int .i64 0 ∧ s26 = .pointer (some ⟨h, 0, none⟩) ∧ Own W g 5 (cellsF f ((M + 7) / 8)) ∧ Own W h 24 [.slice (some ⟨g, 0, none⟩) ((M + 7) / 8) ((M + 7) / 8), .int .i64 M] ∧ Below W0.heap.size W0 W

theorem reg20_a {P : Program} {W0 w' : World} {M gh : Nat} {f : Nat → Bool} (hO : Own w' gh 5 (cellsF f ((M + 7) / 8))) (hb : Below W0.drew.heap.size W0.drew w') :
    Reg20 P W0 M f (.int .i64 0) (.pointer (some ⟨w'.heap.size, 0, none⟩)) (w'.alloc (.cells #[.slice (some ⟨gh, 0, none⟩) ((M + 7) / 8) ((M + 7) / 8), .int .i64 M] 24)) :=
  ⟨gh, _, rfl, rfl, hO.alloc _, Own.new' (vs := [.slice (some ⟨gh, 0, none⟩) ((M + 7) / 8) ((M + 7) / 8), .int .i64 M]) rfl, (undrew hb).alloc (undrew hb).size _⟩
theorem reg20_b {P : Program} {W0 w' : World} {o : Obj} {M gh : Nat} {f : Nat → Bool} (hg : (W0.alloc o).drew.heap.size ≤ gh) (hO : Own w' gh 5 (cellsF f ((M + 7) / 8)))
   (hZ : Own w' W0.heap.size 24 [.slice none 0 0, .int .i64 0]) (hb : Below (W0.alloc o).drew.heap.size (W0.alloc o).drew w') :
    Reg20 P W0 M f (.int .i64 0) (.pointer (some ⟨W0.heap.size, 0, none⟩)) ((w'.setCell ⟨W0.heap.size, 0, none⟩ (.slice (some ⟨gh, 0, none⟩) ((M + 7) / 8) ((M + 7) / 8))).setCell ⟨W0.heap.size, 1, none⟩ (.int .i64 M)) := by
  have hg' : W0.heap.size + 1 ≤ gh := by simpa using hg
  have h1 : Below W0.heap.size W0 w' := ((Below.refl _ W0).alloc (Nat.le_refl _) o).trans ((undrew hb).mono (by simp))
  exact ⟨gh, _, rfl, rfl, (hO.far (p := ⟨W0.heap.size, 0, none⟩) (by intro e; simp at e; omega) _).far (p := ⟨W0.heap.size, 1, none⟩) (by intro e; simp at e; omega) _, (hZ.set 0 _).set 1 _,
    (h1.setCell (p := ⟨W0.heap.size, 0, none⟩) (Nat.le_refl _) _).setCell (p := ⟨W0.heap.size, 1, none⟩) (Nat.le_refl _) _⟩

set_option maxRecDepth 100000 in
set_option maxHeartbeats 8000000 in
theorem strandParts_true (A A' A'' : Option Addr) (n c n' c' n'' c'' y x : Nat) (L L' L'' : Int) (f f' f'' : Nat → Bool) (w : World) (hs : ArgS w A n L f) (ht : ArgS w A' n' L' f') (hu : ArgS w A'' n'' L'' f'') (hy : y < 65536) (hx : x < 18446744073709551616) :
    Calls Try.prog 6 #[.agg #[.slice A n c, .int .i64 L], .agg #[.slice A' n' c', .int .i64 L'], .agg #[.slice A'' n'' c'', .int .i64 L''], .int .u16 y, .int .u64 x] w fun e w' => e = .returned (.bool true) ∧ Below w.heap.size w w' := by
  have HS := Lib.hid hs; have HT := Lib.hid ht; have HU := Lib.hid hu
  clear hs ht hu
  have hb := Lib.hid (Below.refl w.heap.size w)
  go_enter Try.func6, Try.ntmps6
  go_wp2_with fail
  refine (great_any A n c L _).mono ?_
  rintro e w1 ⟨rfl, hbk⟩
  have HS' := Lib.hid ((((HS.out.alloc _).alloc _).alloc _).keep hbk)
  have HT' := Lib.hid ((((HT.out.alloc _).alloc _).alloc _).keep hbk)
  have HU' := Lib.hid ((((HU.out.alloc _).alloc _).alloc _).keep hbk)
  have O5' := Lib.hid (Own.below' (((Own.new' (w := w) rfl).alloc _).alloc _) hbk)
  have O6' := Lib.hid (Own.below' ((Own.new' (g := w.heap.size + 1) (w := w.alloc _) (by simp)).alloc _) hbk)
  have O7' := Lib.hid (Own.below' (Own.new' (g := w.heap.size + 2) (w := (w.alloc _).alloc _) (by simp)) hbk)
  have hb' := Lib.hid ((((hb.out.alloc (by have := hb.out.size; simp; try omega) _).alloc (by have := hb.out.size; simp; try omega) _).alloc (by have := hb.out.size; simp; try omega) _).trans (hbk.mono (by have := hb.out.size; simp; try omega)))
  have hs1 := hbk.size
  simp only [World.size_alloc] at hs1
  clear hb hbk HS HT HU
  have hb := hb'; clear hb'
  have HS := HS'; clear HS'
  have HT := HT'; clear HT'
  have HU := HU'; clear HU'
  have O5 := O5'; clear O5'
  have O6 := O6'; clear O6'
  have O7 := O7'; clear O7'
  have qO5 := O5.out.cell; have zO5 := O5.out.lt
  have qO6 := O6.out.cell; have zO6 := O6.out.lt
  have qO7 := O7.out.cell; have zO7 := O7.out.lt
  cases h1 : greatB n L with
  | true =>
    have h1' := Lib.hid h1; clear h1; have h1 := h1'; clear h1'
    go_wp2_with fail
    refine (awake_true _).mono ?_
    rintro e w2 ⟨rfl, hbk⟩
    have O5' := Lib.hid (O5.out.below' hbk)
    have O6' := Lib.hid (O6.out.below' hbk)
    have O7' := Lib.hid (O7.out.below' hbk)
    have HS' := Lib.hid (HS.out.keep hbk)
    have HT' := Lib.hid (HT.out.keep hbk)
    have HU' := Lib.hid (HU.out.keep hbk)
    have hb' := Lib.hid (hb.out.trans (hbk.mono (by have := hb.out.size; simp; try omega)))
    have hs2 := hbk.size
    clear qO5 zO5 qO6 zO6 qO7 zO7
    clear hb hbk O5 O6 O7 HS HT HU
    have hb := hb'; clear hb'
    have O5 := O5'; clear O5'
    have O6 := O6'; clear O6'
    have O7 := O7'; clear O7'
    have HS := HS'; clear HS'
    have HT := HT'; clear HT'
    have HU := HU'; clear HU'
    go_wp2
    go_ret
    exact ⟨rfl, hb.out⟩
  | false =>
    have h1' := Lib.hid h1; clear h1; have h1 := h1'; clear h1'
    skip
    go_wp2_with fail
    refine (great_any A' n' c' L' _).mono ?_
    rintro e w2 ⟨rfl, hbk⟩
    have O5' := Lib.hid (O5.out.below' hbk)
    have O6' := Lib.hid (O6.out.below' hbk)
    have O7' := Lib.hid (O7.out.below' hbk)
    have HS' := Lib.hid (HS.out.keep hbk)
    have HT' := Lib.hid (HT.out.keep hbk)
    have HU' := Lib.hid (HU.out.keep hbk)
    have hb' := Lib.hid (hb.out.trans (hbk.mono (by have := hb.out.size; simp; try omega)))
    have hs2 := hbk.size
    clear qO5 zO5 qO6 zO6 qO7 zO7
    clear hb hbk O5 O6 O7 HS HT HU
    have hb := hb'; clear hb'
    have O5 := O5'; clear O5'
    have O6 := O6'; clear O6'
    have O7 := O7'; clear O7'
    have HS := HS'; clear HS'
    have HT := HT'; clear HT'
    have HU := HU'; clear HU'
    have qO5 := O5.out.cell; have zO5 := O5.out.lt
    have qO6 := O6.out.cell; have zO6 := O6.out.lt
    have qO7 := O7.out.cell; have zO7 := O7.out.lt
    cases h2 : greatB n' L' with
    | true =>
      have h2' := Lib.hid h2; clear h2; have h2 := h2'; clear h2'
      go_wp2_with fail
      refine (awake_true _).mono ?_
      rintro e w3 ⟨rfl, hbk⟩
      have O5' := Lib.hid (O5.out.below' hbk)
      have O6' := Lib.hid (O6.out.below' hbk)
      have O7' := Lib.hid (O7.out.below' hbk)
      have HS' := Lib.hid (HS.out.keep hbk)
      have HT' := Lib.hid (HT.out.keep hbk)
      have HU' := Lib.hid (HU.out.keep hbk)
      have hb' := Lib.hid (hb.out.trans (hbk.mono (by have := hb.out.size; simp; try omega)))
      have hs3 := hbk.size
      clear qO5 zO5 qO6 zO6 qO7 zO7
      clear hb hbk O5 O6 O7 HS HT HU
      have hb := hb'; clear hb'
      have O5 := O5'; clear O5'
      have O6 := O6'; clear O6'
      have O7 := O7'; clear O7'
      have HS := HS'; clear HS'
      have HT := HT'; clear HT'
      have HU := HU'; clear HU'
      go_wp2
      go_ret
      exact ⟨rfl, hb.out⟩
    | false =>
      have h2' := Lib.hid h2; clear h2; have h2 := h2'; clear h2'
      skip
      go_wp2_with fail
      refine (great_any A'' n'' c'' L'' _).mono ?_
      rintro e w3 ⟨rfl, hbk⟩
      have O5' := Lib.hid (O5.out.below' hbk)
      have O6' := Lib.hid (O6.out.below' hbk)
      have O7' := Lib.hid (O7.out.below' hbk)
      have HS' := Lib.hid (HS.out.keep hbk)
      have HT' := Lib.hid (HT.out.keep hbk)
      have HU' := Lib.hid (HU.out.keep hbk)
      have hb' := Lib.hid (hb.out.trans (hbk.mono (by have := hb.out.size; simp; try omega)))
      have hs3 := hbk.size
      clear qO5 zO5 qO6 zO6 qO7 zO7
      clear hb hbk O5 O6 O7 HS HT HU
      have hb := hb'; clear hb'
      have O5 := O5'; clear O5'
      have O6 := O6'; clear O6'
      have O7 := O7'; clear O7'
      have HS := HS'; clear HS'
      have HT := HT'; clear HT'
      have HU := HU'; clear HU'
      have qO5 := O5.out.cell; have zO5 := O5.out.lt
      have qO6 := O6.out.cell; have zO6 := O6.out.lt
      have qO7 := O7.out.cell; have zO7 := O7.out.lt
      cases h3 : greatB n'' L'' with
      | true =>
        have h3' := Lib.hid h3; clear h3; have h3 := h3'; clear h3'
        go_wp2_with fail
        refine (awake_true _).mono ?_
        rintro e w4 ⟨rfl, hbk⟩
        have O5' := Lib.hid (O5.out.below' hbk)
        have O6' := Lib.hid (O6.out.below' hbk)
        have O7' := Lib.hid (O7.out.below' hbk)
        have HS' := Lib.hid (HS.out.keep hbk)
        have HT' := Lib.hid (HT.out.keep hbk)
        have HU' := Lib.hid (HU.out.keep hbk)
        have hb' := Lib.hid (hb.out.trans (hbk.mono (by have := hb.out.size; simp; try omega)))
        have hs4 := hbk.size
        clear qO5 zO5 qO6 zO6 qO7 zO7
        clear hb hbk O5 O6 O7 HS HT HU
        have hb := hb'; clear hb'
        have O5 := O5'; clear O5'
        have O6 := O6'; clear O6'
        have O7 := O7'; clear O7'
        have HS := HS'; clear HS'
        have HT := HT'; clear HT'
        have HU := HU'; clear HU'
        go_wp2
        go_ret
        exact ⟨rfl, hb.out⟩
      | false =>
        have h3' := Lib.hid h3; clear h3; have h3 := h3'; clear h3'
        skip
        go_wp2_with fail
        refine (right_any' A n c L f _ HS.out (by have := great_false h1.out; omega)).mono ?_
        rintro e w4 ⟨rfl, hbk⟩
        have O5' := Lib.hid (O5.out.below' hbk)
        have O6' := Lib.hid (O6.out.below' hbk)
        have O7' := Lib.hid (O7.out.below' hbk)
        have HS' := Lib.hid (HS.out.keep hbk)
        have HT' := Lib.hid (HT.out.keep hbk)
        have HU' := Lib.hid (HU.out.keep hbk)
        have hb' := Lib.hid (hb.out.trans (hbk.mono (by have := hb.out.size; simp; try omega)))
        have hs4 := hbk.size
        clear qO5 zO5 qO6 zO6 qO7 zO7
        clear hb hbk O5 O6 O7 HS HT HU
        have hb := hb'; clear hb'
        have O5 := O5'; clear O5'
        have O6 := O6'; clear O6'
        have O7 := O7'; clear O7'
        have HS := HS'; clear HS'
        have HT := HT'; clear HT'
        have HU := HU'; clear HU'
        have qO5 := O5.out.cell; have zO5 := O5.out.lt
        have qO6 := O6.out.cell; have zO6 := O6.out.lt
        have qO7 := O7.out.cell; have zO7 := O7.out.lt
        cases h4 : rightB L n f with
        | true =>
          have h4' := Lib.hid h4; clear h4; have h4 := h4'; clear h4'
          skip
          go_wp2_with fail
          refine (right_any' A' n' c' L' f' _ HT.out (by have := great_false h2.out; omega)).mono ?_
          rintro e w5 ⟨rfl, hbk⟩
          have O5' := Lib.hid (O5.out.below' hbk)
          have O6' := Lib.hid (O6.out.below' hbk)
          have O7' := Lib.hid (O7.out.below' hbk)
          have HS' := Lib.hid (HS.out.keep hbk)
          have HT' := Lib.hid (HT.out.keep hbk)
          have HU' := Lib.hid (HU.out.keep hbk)
          have hb' := Lib.hid (hb.out.trans (hbk.mono (by have := hb.out.size; simp; try omega)))
          have hs5 := hbk.size
          clear qO5 zO5 qO6 zO6 qO7 zO7
          clear hb hbk O5 O6 O7 HS HT HU
          have hb := hb'; clear hb'
          have O5 := O5'; clear O5'
          have O6 := O6'; clear O6'
          have O7 := O7'; clear O7'
          have HS := HS'; clear HS'
          have HT := HT'; clear HT'
          have HU := HU'; clear HU'
          have qO5 := O5.out.cell; have zO5 := O5.out.lt
          have qO6 := O6.out.cell; have zO6 := O6.out.lt
          have qO7 := O7.out.cell; have zO7 := O7.out.lt
          cases h5 : rightB L' n' f' with
          | true =>
            have h5' := Lib.hid h5; clear h5; have h5 := h5'; clear h5'
            skip
            go_wp2_with fail
            refine (right_any' A'' n'' c'' L'' f'' _ HU.out (by have := great_false h3.out; omega)).mono ?_
            rintro e w6 ⟨rfl, hbk⟩
            have O5' := Lib.hid (O5.out.below' hbk)
            have O6' := Lib.hid (O6.out.below' hbk)
            have O7' := Lib.hid (O7.out.below' hbk)
            have HS' := Lib.hid (HS.out.keep hbk)
            have HT' := Lib.hid (HT.out.keep hbk)
            have HU' := Lib.hid (HU.out.keep hbk)
            have hb' := Lib.hid (hb.out.trans (hbk.mono (by have := hb.out.size; simp; try omega)))
            have hs6 := hbk.size
            clear qO5 zO5 qO6 zO6 qO7 zO7
            clear hb hbk O5 O6 O7 HS HT HU
            have hb := hb'; clear hb'
            have O5 := O5'; clear O5'
            have O6 := O6'; clear O6'
            have O7 := O7'; clear O7'
            have HS := HS'; clear HS'
            have HT := HT'; clear HT'
            have HU := HU'; clear HU'
            have qO5 := O5.out.cell; have zO5 := O5.out.lt
            have qO6 := O6.out.cell; have zO6 := O6.out.lt
            have qO7 := O7.out.cell; have zO7 := O7.out.lt
            cases h6 : rightB L'' n'' f'' with
            | true =>
              have h6' := Lib.hid h6; clear h6; have h6 := h6'; clear h6'
              obtain ⟨l, rfl, R1⟩ := HS.out.right h4.out
              obtain ⟨l', rfl, R2⟩ := HT.out.right h5.out
              obtain ⟨l'', rfl, R3⟩ := HU.out.right h6.out
              have hl1 := (great_false h1.out).1; have hl2 := (great_false h2.out).1; have hl3 := (great_false h3.out).1
              have R1 := Lib.hid R1; have R2 := Lib.hid R2; have R3 := Lib.hid R3
              obtain ⟨k, hk⟩ : ∃ k, k = y % (l + 1) := ⟨_, rfl⟩
              have hkl : k ≤ l := by have := Nat.mod_lt y (show 0 < l + 1 by omega); omega
              have hkI := Lib.hid (show (y : Int) % ((l : Int) + 1) = (k : Int) by rw [hk, Int.natCast_emod, Int.natCast_add]; rfl)
              clear hk
              obtain ⟨M1, hM1⟩ : ∃ M, M = l + l' := ⟨_, rfl⟩
              obtain ⟨M2, hM2⟩ : ∃ M, M = l' + l'' := ⟨_, rfl⟩
              obtain ⟨M3, hM3⟩ : ∃ M, M = l + l' + l'' := ⟨_, rfl⟩
              obtain ⟨k', hk'⟩ : ∃ M, M = l - k := ⟨_, rfl⟩
              have HM1 := Lib.hid hM1; have HM2 := Lib.hid hM2; have HM3 := Lib.hid hM3; have HK' := Lib.hid hk'
              have lm1 : M1 ≤ 4000 := by omega
              have lm2 : M2 ≤ 4000 := by omega
              have lm3 : M3 ≤ 6000 := by omega
              have lk' : k' ≤ 2000 := by omega
              have t1 : ((M3 : Int) != (l : Int) + (l' : Int) + (l'' : Int)) = false := by rw [bne_eq_false_iff_eq]; omega
              have hss := Lib.hid (show sameS f n l f ((l + 7) / 8) l = true by rw [R1.out.len]; exact sameS_self)
              clear hM1 hM2 hM3 hk'
              go_wp2_with fail
              refine (cut_int A n c l _ _ 0 k f _ HS.out.rd R1.out (by rfl) (by have := hkI.out; omega) (by have := hkI.out; omega)).mono ?_
              rintro e w7 ⟨gx, rfl, hgx, hOx, hbk⟩
              have O5' := Lib.hid (O5.out.below' hbk)
              have O6' := Lib.hid (O6.out.below' hbk)
              have O7' := Lib.hid (O7.out.below' hbk)
              have HS' := Lib.hid (HS.out.keep hbk)
              have HT' := Lib.hid (HT.out.keep hbk)
              have HU' := Lib.hid (HU.out.keep hbk)
              have hb' := Lib.hid (hb.out.trans (hbk.mono (by have := hb.out.size; simp; try omega)))
              have hs7 := hbk.size
              clear qO5 zO5 qO6 zO6 qO7 zO7
              clear hb hbk O5 O6 O7 HS HT HU
              have hb := hb'; clear hb'
              have O5 := O5'; clear O5'
              have O6 := O6'; clear O6'
              have O7 := O7'; clear O7'
              have HS := HS'; clear HS'
              have HT := HT'; clear HT'
              have HU := HU'; clear HU'
              have OX := Lib.hid hOx; clear hOx
              have qO5 := O5.out.cell; have zO5 := O5.out.lt
              have qO6 := O6.out.cell; have zO6 := O6.out.lt
              have qO7 := O7.out.cell; have zO7 := O7.out.lt
              go_wp2_with fail
              refine (cut_int A n c l _ _ k k' f _ (HS.out.alloc _).rd R1.out (by have := hkI.out; omega) (by have := hkI.out; have := HK'.out; omega) (by have := hkI.out; omega)).mono ?_
              rintro e w8 ⟨gy, rfl, hgy, hOy, hbk⟩
              have O5' := Lib.hid ((O5.out.alloc _).below' hbk)
              have O6' := Lib.hid ((O6.out.alloc _).below' hbk)
              have O7' := Lib.hid ((O7.out.alloc _).below' hbk)
              have OX' := Lib.hid ((OX.out.alloc _).below' hbk)
              have HS' := Lib.hid ((HS.out.alloc _).keep hbk)
              have HT' := Lib.hid ((HT.out.alloc _).keep hbk)
              have HU' := Lib.hid ((HU.out.alloc _).keep hbk)
              have O12' := Lib.hid (Own.below' (Own.new' (g := w7.heap.size) (w := w7) rfl) hbk)
              have hb' := Lib.hid ((hb.out.alloc (by have := hb.out.size; simp; try omega) _).trans (hbk.mono (by have := hb.out.size; simp; try omega)))
              have hs8 := hbk.size
              simp only [World.size_alloc] at hs8
              clear qO5 zO5 qO6 zO6 qO7 zO7
              clear hb hbk O5 O6 O7 OX HS HT HU
              have hb := hb'; clear hb'
              have O5 := O5'; clear O5'
              have O6 := O6'; clear O6'
              have O7 := O7'; clear O7'
              have OX := OX'; clear OX'
              have HS := HS'; clear HS'
              have HT := HT'; clear HT'
              have HU := HU'; clear HU'
              have O12 := O12'; clear O12'
              have OY := Lib.hid hOy; clear hOy
              have qO5 := O5.out.cell; have zO5 := O5.out.lt
              have qO6 := O6.out.cell; have zO6 := O6.out.lt
              have qO7 := O7.out.cell; have zO7 := O7.out.lt
              have qO12 := O12.out.cell; have zO12 := O12.out.lt
              go_wp2_with fail
              refine (join_at _ _ _ _ _ _ k k' l _ _ _ ((OX.out.alloc _)).rd (cutF_RS (by omega)) ((OY.out.alloc _)).rd (cutF_RS (by omega)) (by have := HK'.out; omega) (by omega)).mono ?_
              rintro e w9 ⟨gz, rfl, hgz, hOz, hbk⟩
              rw [HK'.out, join_cut R1.out hkl] at hOz
              have O5' := Lib.hid ((O5.out.alloc _).below' hbk)
              have O6' := Lib.hid ((O6.out.alloc _).below' hbk)
              have O7' := Lib.hid ((O7.out.alloc _).below' hbk)
              have OX' := Lib.hid ((OX.out.alloc _).below' hbk)
              have O12' := Lib.hid ((O12.out.alloc _).below' hbk)
              have OY' := Lib.hid ((OY.out.alloc _).below' hbk)
              have HS' := Lib.hid ((HS.out.alloc _).keep hbk)
              have HT' := Lib.hid ((HT.out.alloc _).keep hbk)
              have HU' := Lib.hid ((HU.out.alloc _).keep hbk)
              have O14' := Lib.hid (Own.below' (Own.new' (g := w8.heap.size) (w := w8) rfl) hbk)
              have hb' := Lib.hid ((hb.out.alloc (by have := hb.out.size; simp; try omega) _).trans (hbk.mono (by have := hb.out.size; simp; try omega)))
              have hs9 := hbk.size
              simp only [World.size_alloc] at hs9
              clear qO5 zO5 qO6 zO6 qO7 zO7 qO12 zO12
              clear hb hbk O5 O6 O7 OX O12 OY HS HT HU
              have hb := hb'; clear hb'
              have O5 := O5'; clear O5'
              have O6 := O6'; clear O6'
              have O7 := O7'; clear O7'
              have OX := OX'; clear OX'
              have O12 := O12'; clear O12'
              have OY := OY'; clear OY'
              have HS := HS'; clear HS'
              have HT := HT'; clear HT'
              have HU := HU'; clear HU'
              have O14 := O14'; clear O14'
              have OZ := Lib.hid hOz; clear hOz
              have qO5 := O5.out.cell; have zO5 := O5.out.lt
              have qO6 := O6.out.cell; have zO6 := O6.out.lt
              have qO7 := O7.out.cell; have zO7 := O7.out.lt
              have qO12 := O12.out.cell; have zO12 := O12.out.lt
              have qO14 := O14.out.cell; have zO14 := O14.out.lt
              go_wp2_with fail
              refine (same_any A _ n c _ _ _ _ f f _ (HS.out.alloc _).rd (OZ.out.alloc _).rd).mono ?_
              rintro e w10 ⟨rfl, hbk⟩
              rw [hss.out]
              have O5' := Lib.hid ((O5.out.alloc _).below' hbk)
              have O6' := Lib.hid ((O6.out.alloc _).below' hbk)
              have O7' := Lib.hid ((O7.out.alloc _).below' hbk)
              have OX' := Lib.hid ((OX.out.alloc _).below' hbk)
              have O12' := Lib.hid ((O12.out.alloc _).below' hbk)
              have OY' := Lib.hid ((OY.out.alloc _).below' hbk)
              have O14' := Lib.hid ((O14.out.alloc _).below' hbk)
              have OZ' := Lib.hid ((OZ.out.alloc _).below' hbk)
              have HS' := Lib.hid ((HS.out.alloc _).keep hbk)
              have HT' := Lib.hid ((HT.out.alloc _).keep hbk)
              have HU' := Lib.hid ((HU.out.alloc _).keep hbk)
              have O16' := Lib.hid (Own.below' (Own.new' (g := w9.heap.size) (w := w9) rfl) hbk)
              have hb' := Lib.hid ((hb.out.alloc (by have := hb.out.size; simp; try omega) _).trans (hbk.mono (by have := hb.out.size; simp; try omega)))
              have hs10 := hbk.size
              simp only [World.size_alloc] at hs10
              clear qO5 zO5 qO6 zO6 qO7 zO7 qO12 zO12 qO14 zO14
              clear hb hbk O5 O6 O7 OX O12 OY O14 OZ HS HT HU
              have hb := hb'; clear hb'
              have O5 := O5'; clear O5'
              have O6 := O6'; clear O6'
              have O7 := O7'; clear O7'
              have OX := OX'; clear OX'
              have O12 := O12'; clear O12'
              have OY := OY'; clear OY'
              have O14 := O14'; clear O14'
              have OZ := OZ'; clear OZ'
              have HS := HS'; clear HS'
              have HT := HT'; clear HT'
              have HU := HU'; clear HU'
              have O16 := O16'; clear O16'
              have qO5 := O5.out.cell; have zO5 := O5.out.lt
              have qO6 := O6.out.cell; have zO6 := O6.out.lt
              have qO7 := O7.out.cell; have zO7 := O7.out.lt
              have qO12 := O12.out.cell; have zO12 := O12.out.lt
              have qO14 := O14.out.cell; have zO14 := O14.out.lt
              have qO16 := O16.out.cell; have zO16 := O16.out.lt
              go_wp2_with fail
              refine (join_at A A' n c n' c' l l' M1 f f' _ HS.out.rd R1.out HT.out.rd R2.out (by have := HM1.out; omega) (by omega)).mono ?_
              rintro e w11 ⟨ga, rfl, hga, hOa, hbk⟩
              have O5' := Lib.hid (O5.out.below' hbk)
              have O6' := Lib.hid (O6.out.below' hbk)
              have O7' := Lib.hid (O7.out.below' hbk)
              have OX' := Lib.hid (OX.out.below' hbk)
              have O12' := Lib.hid (O12.out.below' hbk)
              have OY' := Lib.hid (OY.out.below' hbk)
              have O14' := Lib.hid (O14.out.below' hbk)
              have OZ' := Lib.hid (OZ.out.below' hbk)
              have O16' := Lib.hid (O16.out.below' hbk)
              have HS' := Lib.hid (HS.out.keep hbk)
              have HT' := Lib.hid (HT.out.keep hbk)
              have HU' := Lib.hid (HU.out.keep hbk)
              have hb' := Lib.hid (hb.out.trans (hbk.mono (by have := hb.out.size; simp; try omega)))
              have hs11 := hbk.size
              clear qO5 zO5 qO6 zO6 qO7 zO7 qO12 zO12 qO14 zO14 qO16 zO16
              clear hb hbk O5 O6 O7 OX O12 OY O14 OZ O16 HS HT HU
              have hb := hb'; clear hb'
              have O5 := O5'; clear O5'
              have O6 := O6'; clear O6'
              have O7 := O7'; clear O7'
              have OX := OX'; clear OX'
              have O12 := O12'; clear O12'
              have OY := OY'; clear OY'
              have O14 := O14'; clear O14'
              have OZ := OZ'; clear OZ'
              have O16 := O16'; clear O16'
              have HS := HS'; clear HS'
              have HT := HT'; clear HT'
              have HU := HU'; clear HU'
              have OA := Lib.hid hOa; clear hOa
              have qO5 := O5.out.cell; have zO5 := O5.out.lt
              have qO6 := O6.out.cell; have zO6 := O6.out.lt
              have qO7 := O7.out.cell; have zO7 := O7.out.lt
              go_wp2_with fail
              refine (join_at A' A'' n' c' n'' c'' l' l'' M2 f' f'' _ (HT.out.alloc _).rd R2.out (HU.out.alloc _).rd R3.out (by have := HM2.out; omega) (by omega)).mono ?_
              rintro e w12 ⟨gb, rfl, hgb, hOb, hbk⟩
              have O5' := Lib.hid ((O5.out.alloc _).below' hbk)
              have O6' := Lib.hid ((O6.out.alloc _).below' hbk)
              have O7' := Lib.hid ((O7.out.alloc _).below' hbk)
              have OX' := Lib.hid ((OX.out.alloc _).below' hbk)
              have O12' := Lib.hid ((O12.out.alloc _).below' hbk)
              have OY' := Lib.hid ((OY.out.alloc _).below' hbk)
              have O14' := Lib.hid ((O14.out.alloc _).below' hbk)
              have OZ' := Lib.hid ((OZ.out.alloc _).below' hbk)
              have O16' := Lib.hid ((O16.out.alloc _).below' hbk)
              have OA' := Lib.hid ((OA.out.alloc _).below' hbk)
              have HS' := Lib.hid ((HS.out.alloc _).keep hbk)
              have HT' := Lib.hid ((HT.out.alloc _).keep hbk)
              have HU' := Lib.hid ((HU.out.alloc _).keep hbk)
              have O18' := Lib.hid (Own.below' (Own.new' (g := w11.heap.size) (w := w11) rfl) hbk)
              have hb' := Lib.hid ((hb.out.alloc (by have := hb.out.size; simp; try omega) _).trans (hbk.mono (by have := hb.out.size; simp; try omega)))
              have hs12 := hbk.size
              simp only [World.size_alloc] at hs12
              clear qO5 zO5 qO6 zO6 qO7 zO7
              clear hb hbk O5 O6 O7 OX O12 OY O14 OZ O16 OA HS HT HU
              have hb := hb'; clear hb'
              have O5 := O5'; clear O5'
              have O6 := O6'; clear O6'
              have O7 := O7'; clear O7'
              have OX := OX'; clear OX'
              have O12 := O12'; clear O12'
              have OY := OY'; clear OY'
              have O14 := O14'; clear O14'
              have OZ := OZ'; clear OZ'
              have O16 := O16'; clear O16'
              have OA := OA'; clear OA'
              have HS := HS'; clear HS'
              have HT := HT'; clear HT'
              have HU := HU'; clear HU'
              have O18 := O18'; clear O18'
              have OB := Lib.hid hOb; clear hOb
              have qO5 := O5.out.cell; have zO5 := O5.out.lt
              have qO6 := O6.out.cell; have zO6 := O6.out.lt
              have qO7 := O7.out.cell; have zO7 := O7.out.lt
              have qO18 := O18.out.cell; have zO18 := O18.out.lt
              go_wp2_with fail
              have RA := Lib.hid (by rw [HM1.out]; exact joinF_RS R1.out R2.out (by omega) : RS M1 ((M1 + 7) / 8) (joinF f l f'))
              have RB := Lib.hid (by rw [HM2.out]; exact joinF_RS R2.out R3.out (by omega) : RS M2 ((M2 + 7) / 8) (joinF f' l' f''))
              refine (join_at _ A'' _ _ n'' c'' M1 l'' M3 _ f'' _ (OA.out.alloc _).rd RA.out (HU.out.alloc _).rd R3.out (by have := HM1.out; have := HM3.out; omega) (by omega)).mono ?_
              rintro e w13 ⟨gc, rfl, hgc, hOc, hbk⟩
              have O5' := Lib.hid ((O5.out.alloc _).below' hbk)
              have O6' := Lib.hid ((O6.out.alloc _).below' hbk)
              have O7' := Lib.hid ((O7.out.alloc _).below' hbk)
              have OX' := Lib.hid ((OX.out.alloc _).below' hbk)
              have O12' := Lib.hid ((O12.out.alloc _).below' hbk)
              have OY' := Lib.hid ((OY.out.alloc _).below' hbk)
              have O14' := Lib.hid ((O14.out.alloc _).below' hbk)
              have OZ' := Lib.hid ((OZ.out.alloc _).below' hbk)
              have O16' := Lib.hid ((O16.out.alloc _).below' hbk)
              have OA' := Lib.hid ((OA.out.alloc _).below' hbk)
              have O18' := Lib.hid ((O18.out.alloc _).below' hbk)
              have OB' := Lib.hid ((OB.out.alloc _).below' hbk)
              have HS' := Lib.hid ((HS.out.alloc _).keep hbk)
              have HT' := Lib.hid ((HT.out.alloc _).keep hbk)
              have HU' := Lib.hid ((HU.out.alloc _).keep hbk)
              have O19' := Lib.hid (Own.below' (Own.new' (g := w12.heap.size) (w := w12) rfl) hbk)
              have hb' := Lib.hid ((hb.out.alloc (by have := hb.out.size; simp; try omega) _).trans (hbk.mono (by have := hb.out.size; simp; try omega)))
              have hs13 := hbk.size
              simp only [World.size_alloc] at hs13
              clear qO5 zO5 qO6 zO6 qO7 zO7 qO18 zO18
              clear hb hbk O5 O6 O7 OX O12 OY O14 OZ O16 OA O18 OB HS HT HU
              have hb := hb'; clear hb'
              have O5 := O5'; clear O5'
              have O6 := O6'; clear O6'
              have O7 := O7'; clear O7'
              have OX := OX'; clear OX'
              have O12 := O12'; clear O12'
              have OY := OY'; clear OY'
              have O14 := O14'; clear O14'
              have OZ := OZ'; clear OZ'
              have O16 := O16'; clear O16'
              have OA := OA'; clear OA'
              have O18 := O18'; clear O18'
              have OB := OB'; clear OB'
              have HS := HS'; clear HS'
              have HT := HT'; clear HT'
              have HU := HU'; clear HU'
              have O19 := O19'; clear O19'
              have OC := Lib.hid hOc; clear hOc
              have qO5 := O5.out.cell; have zO5 := O5.out.lt
              have qO6 := O6.out.cell; have zO6 := O6.out.lt
              have qO7 := O7.out.cell; have zO7 := O7.out.lt
              have qO18 := O18.out.cell; have zO18 := O18.out.lt
              have qO19 := O19.out.cell; have zO19 := O19.out.lt
              go_wp2_with fail
              refine (join_at A _ n c _ _ l M2 M3 f _ _ (HS.out.alloc _).rd R1.out (OB.out.alloc _).rd RB.out (by have := HM2.out; have := HM3.out; omega) (by omega)).mono ?_
              rintro e w14 ⟨gd, rfl, hgd, hOd, hbk⟩
              rw [← join_assoc, ← HM1.out] at hOd
              have O5' := Lib.hid ((O5.out.alloc _).below' hbk)
              have O6' := Lib.hid ((O6.out.alloc _).below' hbk)
              have O7' := Lib.hid ((O7.out.alloc _).below' hbk)
              have OX' := Lib.hid ((OX.out.alloc _).below' hbk)
              have O12' := Lib.hid ((O12.out.alloc _).below' hbk)
              have OY' := Lib.hid ((OY.out.alloc _).below' hbk)
              have O14' := Lib.hid ((O14.out.alloc _).below' hbk)
              have OZ' := Lib.hid ((OZ.out.alloc _).below' hbk)
              have O16' := Lib.hid ((O16.out.alloc _).below' hbk)
              have OA' := Lib.hid ((OA.out.alloc _).below' hbk)
              have O18' := Lib.hid ((O18.out.alloc _).below' hbk)
              have OB' := Lib.hid ((OB.out.alloc _).below' hbk)
              have O19' := Lib.hid ((O19.out.alloc _).below' hbk)
              have OC' := Lib.hid ((OC.out.alloc _).below' hbk)
              have HS' := Lib.hid ((HS.out.alloc _).keep hbk)
              have HT' := Lib.hid ((HT.out.alloc _).keep hbk)
              have HU' := Lib.hid ((HU.out.alloc _).keep hbk)
              have O20' := Lib.hid (Own.below' (Own.new' (g := w13.heap.size) (w := w13) rfl) hbk)
              have hb' := Lib.hid ((hb.out.alloc (by have := hb.out.size; simp; try omega) _).trans (hbk.mono (by have := hb.out.size; simp; try omega)))
              have hs14 := hbk.size
              simp only [World.size_alloc] at hs14
              clear qO5 zO5 qO6 zO6 qO7 zO7 qO18 zO18 qO19 zO19
              clear hb hbk O5 O6 O7 OX O12 OY O14 OZ O16 OA O18 OB O19 OC HS HT HU
              have hb := hb'; clear hb'
              have O5 := O5'; clear O5'
              have O6 := O6'; clear O6'
              have O7 := O7'; clear O7'
              have OX := OX'; clear OX'
              have O12 := O12'; clear O12'
              have OY := OY'; clear OY'
              have O14 := O14'; clear O14'
              have OZ := OZ'; clear OZ'
              have O16 := O16'; clear O16'
              have OA := OA'; clear OA'
              have O18 := O18'; clear O18'
              have OB := OB'; clear OB'
              have O19 := O19'; clear O19'
              have OC := OC'; clear OC'
              have HS := HS'; clear HS'
              have HT := HT'; clear HT'
              have HU := HU'; clear HU'
              have O20 := O20'; clear O20'
              have OD := Lib.hid hOd; clear hOd
              have qO5 := O5.out.cell; have zO5 := O5.out.lt
              have qO6 := O6.out.cell; have zO6 := O6.out.lt
              have qO7 := O7.out.cell; have zO7 := O7.out.lt
              have qO18 := O18.out.cell; have zO18 := O18.out.lt
              have qO19 := O19.out.cell; have zO19 := O19.out.lt
              have qO20 := O20.out.cell; have zO20 := O20.out.lt
              go_wp2_with fail
              refine (same_any _ _ _ _ _ _ _ _ (joinF (joinF f l f') M1 f'') (joinF (joinF f l f') M1 f'') _ (OC.out.alloc _).rd (OD.out.alloc _).rd).mono ?_
              rintro e w15 ⟨rfl, hbk⟩
              rw [sameS_self]
              have O5' := Lib.hid ((O5.out.alloc _).below' hbk)
              have O6' := Lib.hid ((O6.out.alloc _).below' hbk)
              have O7' := Lib.hid ((O7.out.alloc _).below' hbk)
              have OX' := Lib.hid ((OX.out.alloc _).below' hbk)
              have O12' := Lib.hid ((O12.out.alloc _).below' hbk)
              have OY' := Lib.hid ((OY.out.alloc _).below' hbk)
              have O14' := Lib.hid ((O14.out.alloc _).below' hbk)
              have OZ' := Lib.hid ((OZ.out.alloc _).below' hbk)
              have O16' := Lib.hid ((O16.out.alloc _).below' hbk)
              have OA' := Lib.hid ((OA.out.alloc _).below' hbk)
              have O18' := Lib.hid ((O18.out.alloc _).below' hbk)
              have OB' := Lib.hid ((OB.out.alloc _).below' hbk)
              have O19' := Lib.hid ((O19.out.alloc _).below' hbk)
              have OC' := Lib.hid ((OC.out.alloc _).below' hbk)
              have O20' := Lib.hid ((O20.out.alloc _).below' hbk)
              have OD' := Lib.hid ((OD.out.alloc _).below' hbk)
              have HS' := Lib.hid ((HS.out.alloc _).keep hbk)
              have HT' := Lib.hid ((HT.out.alloc _).keep hbk)
              have HU' := Lib.hid ((HU.out.alloc _).keep hbk)
              have O21' := Lib.hid (Own.below' (Own.new' (g := w14.heap.size) (w := w14) rfl) hbk)
              have hb' := Lib.hid ((hb.out.alloc (by have := hb.out.size; simp; try omega) _).trans (hbk.mono (by have := hb.out.size; simp; try omega)))
              have hs15 := hbk.size
              simp only [World.size_alloc] at hs15
              clear qO5 zO5 qO6 zO6 qO7 zO7 qO18 zO18 qO19 zO19 qO20 zO20
              clear hb hbk O5 O6 O7 OX O12 OY O14 OZ O16 OA O18 OB O19 OC O20 OD HS HT HU
              have hb := hb'; clear hb'
              have O5 := O5'; clear O5'
              have O6 := O6'; clear O6'
              have O7 := O7'; clear O7'
              have OX := OX'; clear OX'
              have O12 := O12'; clear O12'
              have OY := OY'; clear OY'
              have O14 := O14'; clear O14'
              have OZ := OZ'; clear OZ'
              have O16 := O16'; clear O16'
              have OA := OA'; clear OA'
              have O18 := O18'; clear O18'
              have OB := OB'; clear OB'
              have O19 := O19'; clear O19'
              have OC := OC'; clear OC'
              have O20 := O20'; clear O20'
              have OD := OD'; clear OD'
              have HS := HS'; clear HS'
              have HT := HT'; clear HT'
              have HU := HU'; clear HU'
              have O21 := O21'; clear O21'
              have qO5 := O5.out.cell; have zO5 := O5.out.lt
              have qO6 := O6.out.cell; have zO6 := O6.out.lt
              have qO7 := O7.out.cell; have zO7 := O7.out.lt
              have qO18 := O18.out.cell; have zO18 := O18.out.lt
              have qO19 := O19.out.cell; have zO19 := O19.out.lt
              have qO20 := O20.out.cell; have zO20 := O20.out.lt
              have qO21 := O21.out.cell; have zO21 := O21.out.lt
              obtain ⟨v, hv⟩ : ∃ v, v = y % 65 := ⟨_, rfl⟩
              have hv64 : v ≤ 64 := by omega
              have hvI : (y : Int) % 65 = (v : Int) := by omega
              obtain ⟨z, hz⟩ : ∃ z, z = x % 2 ^ v := ⟨_, rfl⟩
              have hzI := Lib.hid hz
              clear hv hz
              go_upto_if 148 with (fail)
              go_cut [24] (fun s24 W => s24 = .int .u64 z ∧ W = w15)
              case first =>
                by_cases hv1 : v < 64
                · have hd : decide ((v : Int) < 64) = true := by rw [decide_eq_true_eq]; omega
                  obtain ⟨P, hP⟩ : ∃ P, P = 2 ^ v := ⟨_, rfl⟩
                  have hw2 : IntKind.u64.wrap (2 ^ v) = (P : Int) := by rw [hP]; exact wrap_pow v hv1
                  have hP1 : (P : Int) ≠ 0 := by have := Nat.two_pow_pos v; omega
                  have hP2 : ((P : Int) == 0) = false := by rw [beq_eq_false_iff_ne]; exact hP1
                  have HP := Lib.hid hP
                  clear hP
                  go_wp2_with fail
                  go_meet
                  exact ⟨by rw [hzI.out, ← HP.out, Int.natCast_emod], rfl⟩
                · have hd : decide ((v : Int) < 64) = false := by rw [decide_eq_false_iff_not]; omega
                  have hzx := Lib.hid (mod_64 hzI.out (show v = 64 by omega) hx)
                  go_wp2_with fail
                  go_meet
                  exact ⟨by rw [hzx.out], rfl⟩
              case rest =>
                obtain ⟨rfl, rfl⟩ := hcut
                obtain ⟨X, hX⟩ : ∃ X, X = x / 2 ^ v := ⟨_, rfl⟩
                obtain ⟨M4, hM4⟩ : ∃ M, M = l + 64 := ⟨_, rfl⟩
                obtain ⟨M5, hM5⟩ : ∃ M, M = l + (64 - v) := ⟨_, rfl⟩
                obtain ⟨u, hu⟩ : ∃ M, M = 64 - v := ⟨_, rfl⟩
                have hXI : (x : Int) / 2 ^ v = (X : Int) := by rw [hX, Int.natCast_ediv, Int.natCast_pow]; rfl
                have huI : (64 : Int) - (v : Int) = (u : Int) := by omega
                have hXb := Lib.hid (div_bound hX hu hv64 hx)
                have hzb := Lib.hid (mod_bound hzI.out)
                have HF := Lib.hid (fields_parts (f := f) (L := l) hX hzI.out hu hM5 hv64)
                have HX := Lib.hid hX; have HM4 := Lib.hid hM4; have HM5 := Lib.hid hM5; have Hu := Lib.hid hu
                have lm4 : M4 ≤ 3000 := by omega
                have lm5 : M5 ≤ 3000 := by omega
                have lu : u ≤ 64 := by omega
                clear hX hM4 hM5 hu
                go_wp2_with fail
                refine (field_at A n c l 64 M4 x f _ HS.out.rd R1.out (by omega) (by omega) (by have := HM4.out; omega) (by omega)).mono ?_
                rintro e w16 ⟨ge, rfl, hge, hOe, hbk⟩
                have O5' := Lib.hid (O5.out.below' hbk)
                have O6' := Lib.hid (O6.out.below' hbk)
                have O7' := Lib.hid (O7.out.below' hbk)
                have OX' := Lib.hid (OX.out.below' hbk)
                have O12' := Lib.hid (O12.out.below' hbk)
                have OY' := Lib.hid (OY.out.below' hbk)
                have O14' := Lib.hid (O14.out.below' hbk)
                have OZ' := Lib.hid (OZ.out.below' hbk)
                have O16' := Lib.hid (O16.out.below' hbk)
                have OA' := Lib.hid (OA.out.below' hbk)
                have O18' := Lib.hid (O18.out.below' hbk)
                have OB' := Lib.hid (OB.out.below' hbk)
                have O19' := Lib.hid (O19.out.below' hbk)
                have OC' := Lib.hid (OC.out.below' hbk)
                have O20' := Lib.hid (O20.out.below' hbk)
                have OD' := Lib.hid (OD.out.below' hbk)
                have O21' := Lib.hid (O21.out.below' hbk)
                have HS' := Lib.hid (HS.out.keep hbk)
                have HT' := Lib.hid (HT.out.keep hbk)
                have HU' := Lib.hid (HU.out.keep hbk)
                have hb' := Lib.hid (hb.out.trans (hbk.mono (by have := hb.out.size; simp; try omega)))
                have hs16 := hbk.size
                clear qO5 zO5 qO6 zO6 qO7 zO7 qO18 zO18 qO19 zO19 qO20 zO20 qO21 zO21
                clear hb hbk O5 O6 O7 OX O12 OY O14 OZ O16 OA O18 OB O19 OC O20 OD O21 HS HT HU
                have hb := hb'; clear hb'
                have O5 := O5'; clear O5'
                have O6 := O6'; clear O6'
                have O7 := O7'; clear O7'
                have OX := OX'; clear OX'
                have O12 := O12'; clear O12'
                have OY := OY'; clear OY'
                have O14 := O14'; clear O14'
                have OZ := OZ'; clear OZ'
                have O16 := O16'; clear O16'
                have OA := OA'; clear OA'
                have O18 := O18'; clear O18'
                have OB := OB'; clear OB'
                have O19 := O19'; clear O19'
                have OC := OC'; clear OC'
                have O20 := O20'; clear O20'
                have OD := OD'; clear OD'
                have O21 := O21'; clear O21'
                have HS := HS'; clear HS'
                have HT := HT'; clear HT'
                have HU := HU'; clear HU'
                have OE := Lib.hid hOe; clear hOe
                have qO5 := O5.out.cell; have zO5 := O5.out.lt
                have qO6 := O6.out.cell; have zO6 := O6.out.lt
                have qO7 := O7.out.cell; have zO7 := O7.out.lt
                go_upto_region 20 with (fail)
                have hb0 := Lib.hid (hb.out.alloc hb.out.size (.cells #[.slice (some ⟨ge, 0, none⟩) ((M4 + 7) / 8) ((M4 + 7) / 8), .int .i64 M4] 24)); clear hb; have hb := hb0; clear hb0
                have O25 := Lib.hid (Own.new' (g := w16.heap.size) (t := 24) (vs := [.slice (some ⟨ge, 0, none⟩) ((M4 + 7) / 8) ((M4 + 7) / 8), .int .i64 M4]) (w := w16) rfl)
                have O5' := Lib.hid (O5.out.alloc (.cells #[.slice (some ⟨ge, 0, none⟩) ((M4 + 7) / 8) ((M4 + 7) / 8), .int .i64 M4] 24)); clear O5; have O5 := O5'; clear O5'
                have O6' := Lib.hid (O6.out.alloc (.cells #[.slice (some ⟨ge, 0, none⟩) ((M4 + 7) / 8) ((M4 + 7) / 8), .int .i64 M4] 24)); clear O6; have O6 := O6'; clear O6'
                have O7' := Lib.hid (O7.out.alloc (.cells #[.slice (some ⟨ge, 0, none⟩) ((M4 + 7) / 8) ((M4 + 7) / 8), .int .i64 M4] 24)); clear O7; have O7 := O7'; clear O7'
                have OX' := Lib.hid (OX.out.alloc (.cells #[.slice (some ⟨ge, 0, none⟩) ((M4 + 7) / 8) ((M4 + 7) / 8), .int .i64 M4] 24)); clear OX; have OX := OX'; clear OX'
                have O12' := Lib.hid (O12.out.alloc (.cells #[.slice (some ⟨ge, 0, none⟩) ((M4 + 7) / 8) ((M4 + 7) / 8), .int .i64 M4] 24)); clear O12; have O12 := O12'; clear O12'
                have OY' := Lib.hid (OY.out.alloc (.cells #[.slice (some ⟨ge, 0, none⟩) ((M4 + 7) / 8) ((M4 + 7) / 8), .int .i64 M4] 24)); clear OY; have OY := OY'; clear OY'
                have O14' := Lib.hid (O14.out.alloc (.cells #[.slice (some ⟨ge, 0, none⟩) ((M4 + 7) / 8) ((M4 + 7) / 8), .int .i64 M4] 24)); clear O14; have O14 := O14'; clear O14'
                have OZ' := Lib.hid (OZ.out.alloc (.cells #[.slice (some ⟨ge, 0, none⟩) ((M4 + 7) / 8) ((M4 + 7) / 8), .int .i64 M4] 24)); clear OZ; have OZ := OZ'; clear OZ'
                have O16' := Lib.hid (O16.out.alloc (.cells #[.slice (some ⟨ge, 0, none⟩) ((M4 + 7) / 8) ((M4 + 7) / 8), .int .i64 M4] 24)); clear O16; have O16 := O16'; clear O16'
                have OA' := Lib.hid (OA.out.alloc (.cells #[.slice (some ⟨ge, 0, none⟩) ((M4 + 7) / 8) ((M4 + 7) / 8), .int .i64 M4] 24)); clear OA; have OA := OA'; clear OA'
                have O18' := Lib.hid (O18.out.alloc (.cells #[.slice (some ⟨ge, 0, none⟩) ((M4 + 7) / 8) ((M4 + 7) / 8), .int .i64 M4] 24)); clear O18; have O18 := O18'; clear O18'
                have OB' := Lib.hid (OB.out.alloc (.cells #[.slice (some ⟨ge, 0, none⟩) ((M4 + 7) / 8) ((M4 + 7) / 8), .int .i64 M4] 24)); clear OB; have OB := OB'; clear OB'
                have O19' := Lib.hid (O19.out.alloc (.cells #[.slice (some ⟨ge, 0, none⟩) ((M4 + 7) / 8) ((M4 + 7) / 8), .int .i64 M4] 24)); clear O19; have O19 := O19'; clear O19'
                have OC' := Lib.hid (OC.out.alloc (.cells #[.slice (some ⟨ge, 0, none⟩) ((M4 + 7) / 8) ((M4 + 7) / 8), .int .i64 M4] 24)); clear OC; have OC := OC'; clear OC'
                have O20' := Lib.hid (O20.out.alloc (.cells #[.slice (some ⟨ge, 0, none⟩) ((M4 + 7) / 8) ((M4 + 7) / 8), .int .i64 M4] 24)); clear O20; have O20 := O20'; clear O20'
                have OD' := Lib.hid (OD.out.alloc (.cells #[.slice (some ⟨ge, 0, none⟩) ((M4 + 7) / 8) ((M4 + 7) / 8), .int .i64 M4] 24)); clear OD; have OD := OD'; clear OD'
                have O21' := Lib.hid (O21.out.alloc (.cells #[.slice (some ⟨ge, 0, none⟩) ((M4 + 7) / 8) ((M4 + 7) / 8), .int .i64 M4] 24)); clear O21; have O21 := O21'; clear O21'
                have OE' := Lib.hid (OE.out.alloc (.cells #[.slice (some ⟨ge, 0, none⟩) ((M4 + 7) / 8) ((M4 + 7) / 8), .int .i64 M4] 24)); clear OE; have OE := OE'; clear OE'
                have HS' := Lib.hid (HS.out.alloc (.cells #[.slice (some ⟨ge, 0, none⟩) ((M4 + 7) / 8) ((M4 + 7) / 8), .int .i64 M4] 24)); clear HS; have HS := HS'; clear HS'
                have HT' := Lib.hid (HT.out.alloc (.cells #[.slice (some ⟨ge, 0, none⟩) ((M4 + 7) / 8) ((M4 + 7) / 8), .int .i64 M4] 24)); clear HT; have HT := HT'; clear HT'
                have HU' := Lib.hid (HU.out.alloc (.cells #[.slice (some ⟨ge, 0, none⟩) ((M4 + 7) / 8) ((M4 + 7) / 8), .int .i64 M4] 24)); clear HU; have HU := HU'; clear HU'
                have hz8 : w16.heap.size < (w16.alloc (.cells #[.slice (some ⟨ge, 0, none⟩) ((M4 + 7) / 8) ((M4 + 7) / 8), .int .i64 M4] 24)).heap.size := by simp
                obtain ⟨W0, hW0⟩ : ∃ W, W = w16.alloc (.cells #[.slice (some ⟨ge, 0, none⟩) ((M4 + 7) / 8) ((M4 + 7) / 8), .int .i64 M4] 24) := ⟨_, rfl⟩
                rw [← hW0] at hb hz8 O5 O6 O7 OX O12 OY O14 OZ O16 OA O18 OB O19 OC O20 OD O21 OE O25 HS HT HU ⊢
                clear hW0 qO5 zO5 qO6 zO6 qO7 zO7
                have qO5 := O5.out.cell; have zO5 := O5.out.lt
                have qO6 := O6.out.cell; have zO6 := O6.out.lt
                have qO7 := O7.out.cell; have zO7 := O7.out.lt
                have qO25 := O25.out.cell; have zO25 := O25.out.lt
                have hwu : IntKind.i64.wrap (u : Int) = (u : Int) := IntWalk.i64_in _ (by omega)
                go_cut [15, 26] (fun s15 s26 W => Reg20 Try.prog W0 M5 (putF f l X u) s15 s26 W)
                case first =>
                  go_region_with ((go_at_call 25; refine (field_at A n c l u M5 X f _ ?_ R1.out (by omega) hXb.out (by have := HM5.out; have := Hu.out; omega) (by omega)).mono ?_; (first | exact HS.out.rd.drew | exact (HS.out.rd.alloc _).drew); rintro e w17 ⟨gh, rfl, hgh, hOh, hbk⟩; (try (have oZ := Lib.hid (Own.below' ((Own.new' (w := W0) (g := W0.heap.size) (vs := [.slice none 0 0, .int .i64 0]) (t := 24) rfl).drew) hbk); have qZ := oZ.out.cell; have fZ := oZ.out.frozen; have zZ := oZ.out.lt))))
                  all_goals (go_wp2_with fail; go_meet; first | exact reg20_a hOh hbk | exact reg20_b hgh hOh oZ.out hbk | (trace_state; sorry))
                case rest =>
                  obtain ⟨gh, g26, rfl, rfl, hOh, hO26, hbk⟩ := hcut
                  obtain ⟨w17, hwc⟩ : ∃ W, W = wc := ⟨_, rfl⟩
                  subst hwc
                  have O5' := Lib.hid (O5.out.below' hbk)
                  have O6' := Lib.hid (O6.out.below' hbk)
                  have O7' := Lib.hid (O7.out.below' hbk)
                  have OX' := Lib.hid (OX.out.below' hbk)
                  have O12' := Lib.hid (O12.out.below' hbk)
                  have OY' := Lib.hid (OY.out.below' hbk)
                  have O14' := Lib.hid (O14.out.below' hbk)
                  have OZ' := Lib.hid (OZ.out.below' hbk)
                  have O16' := Lib.hid (O16.out.below' hbk)
                  have OA' := Lib.hid (OA.out.below' hbk)
                  have O18' := Lib.hid (O18.out.below' hbk)
                  have OB' := Lib.hid (OB.out.below' hbk)
                  have O19' := Lib.hid (O19.out.below' hbk)
                  have OC' := Lib.hid (OC.out.below' hbk)
                  have O20' := Lib.hid (O20.out.below' hbk)
                  have OD' := Lib.hid (OD.out.below' hbk)
                  have O21' := Lib.hid (O21.out.below' hbk)
                  have OE' := Lib.hid (OE.out.below' hbk)
                  have O25' := Lib.hid (O25.out.below' hbk)
                  have HS' := Lib.hid (HS.out.keep hbk)
                  have HT' := Lib.hid (HT.out.keep hbk)
                  have HU' := Lib.hid (HU.out.keep hbk)
                  have hb' := Lib.hid (hb.out.trans (hbk.mono (by have := hb.out.size; simp; try omega)))
                  have hs17 := hbk.size
                  clear qO5 zO5 qO6 zO6 qO7 zO7 qO25 zO25
                  clear hb hbk O5 O6 O7 OX O12 OY O14 OZ O16 OA O18 OB O19 OC O20 OD O21 OE O25 HS HT HU
                  have hb := hb'; clear hb'
                  have O5 := O5'; clear O5'
                  have O6 := O6'; clear O6'
                  have O7 := O7'; clear O7'
                  have OX := OX'; clear OX'
                  have O12 := O12'; clear O12'
                  have OY := OY'; clear OY'
                  have O14 := O14'; clear O14'
                  have OZ := OZ'; clear OZ'
                  have O16 := O16'; clear O16'
                  have OA := OA'; clear OA'
                  have O18 := O18'; clear O18'
                  have OB := OB'; clear OB'
                  have O19 := O19'; clear O19'
                  have OC := OC'; clear OC'
                  have O20 := O20'; clear O20'
                  have OD := OD'; clear OD'
                  have O21 := O21'; clear O21'
                  have OE := OE'; clear OE'
                  have O25 := O25'; clear O25'
                  have HS := HS'; clear HS'
                  have HT := HT'; clear HT'
                  have HU := HU'; clear HU'
                  have OH := Lib.hid hOh; clear hOh
                  have O26 := Lib.hid hO26; clear hO26
                  have qO5 := O5.out.cell; have zO5 := O5.out.lt
                  have qO6 := O6.out.cell; have zO6 := O6.out.lt
                  have qO7 := O7.out.cell; have zO7 := O7.out.lt
                  have qO25 := O25.out.cell; have zO25 := O25.out.lt
                  have qO26 := O26.out.cell; have zO26 := O26.out.lt
                  go_wp2_with fail
                  refine (field_at _ _ _ M5 v M4 z _ _ OH.out.rd (putF_RS R1.out (by have := HM5.out; have := Hu.out; omega) (by have := HM5.out; omega) (by omega)) hv64 hzb.out (by have := HM4.out; have := HM5.out; omega) (by omega)).mono ?_
                  rintro e w18 ⟨gi, rfl, hgi, hOi, hbk⟩
                  rw [HF.out] at hOi
                  have O5' := Lib.hid (O5.out.below' hbk)
                  have O6' := Lib.hid (O6.out.below' hbk)
                  have O7' := Lib.hid (O7.out.below' hbk)
                  have OX' := Lib.hid (OX.out.below' hbk)
                  have O12' := Lib.hid (O12.out.below' hbk)
                  have OY' := Lib.hid (OY.out.below' hbk)
                  have O14' := Lib.hid (O14.out.below' hbk)
                  have OZ' := Lib.hid (OZ.out.below' hbk)
                  have O16' := Lib.hid (O16.out.below' hbk)
                  have OA' := Lib.hid (OA.out.below' hbk)
                  have O18' := Lib.hid (O18.out.below' hbk)
                  have OB' := Lib.hid (OB.out.below' hbk)
                  have O19' := Lib.hid (O19.out.below' hbk)
                  have OC' := Lib.hid (OC.out.below' hbk)
                  have O20' := Lib.hid (O20.out.below' hbk)
                  have OD' := Lib.hid (OD.out.below' hbk)
                  have O21' := Lib.hid (O21.out.below' hbk)
                  have OE' := Lib.hid (OE.out.below' hbk)
                  have O25' := Lib.hid (O25.out.below' hbk)
                  have OH' := Lib.hid (OH.out.below' hbk)
                  have O26' := Lib.hid (O26.out.below' hbk)
                  have HS' := Lib.hid (HS.out.keep hbk)
                  have HT' := Lib.hid (HT.out.keep hbk)
                  have HU' := Lib.hid (HU.out.keep hbk)
                  have hb' := Lib.hid (hb.out.trans (hbk.mono (by have := hb.out.size; simp; try omega)))
                  have hs18 := hbk.size
                  clear qO5 zO5 qO6 zO6 qO7 zO7 qO25 zO25 qO26 zO26
                  clear hb hbk O5 O6 O7 OX O12 OY O14 OZ O16 OA O18 OB O19 OC O20 OD O21 OE O25 OH O26 HS HT HU
                  have hb := hb'; clear hb'
                  have O5 := O5'; clear O5'
                  have O6 := O6'; clear O6'
                  have O7 := O7'; clear O7'
                  have OX := OX'; clear OX'
                  have O12 := O12'; clear O12'
                  have OY := OY'; clear OY'
                  have O14 := O14'; clear O14'
                  have OZ := OZ'; clear OZ'
                  have O16 := O16'; clear O16'
                  have OA := OA'; clear OA'
                  have O18 := O18'; clear O18'
                  have OB := OB'; clear OB'
                  have O19 := O19'; clear O19'
                  have OC := OC'; clear OC'
                  have O20 := O20'; clear O20'
                  have OD := OD'; clear OD'
                  have O21 := O21'; clear O21'
                  have OE := OE'; clear OE'
                  have O25 := O25'; clear O25'
                  have OH := OH'; clear OH'
                  have O26 := O26'; clear O26'
                  have HS := HS'; clear HS'
                  have HT := HT'; clear HT'
                  have HU := HU'; clear HU'
                  have OI := Lib.hid hOi; clear hOi
                  have qO5 := O5.out.cell; have zO5 := O5.out.lt
                  have qO6 := O6.out.cell; have zO6 := O6.out.lt
                  have qO7 := O7.out.cell; have zO7 := O7.out.lt
                  have qO25 := O25.out.cell; have zO25 := O25.out.lt
                  have qO26 := O26.out.cell; have zO26 := O26.out.lt
                  go_wp2_with fail
                  refine (same_any _ _ _ _ _ _ _ _ (putF f l x 64) (putF f l x 64) _ (OE.out.alloc _).rd (OI.out.alloc _).rd).mono ?_
                  rintro e w19 ⟨rfl, hbk⟩
                  rw [sameS_self]
                  have O5' := Lib.hid ((O5.out.alloc _).below' hbk)
                  have O6' := Lib.hid ((O6.out.alloc _).below' hbk)
                  have O7' := Lib.hid ((O7.out.alloc _).below' hbk)
                  have OX' := Lib.hid ((OX.out.alloc _).below' hbk)
                  have O12' := Lib.hid ((O12.out.alloc _).below' hbk)
                  have OY' := Lib.hid ((OY.out.alloc _).below' hbk)
                  have O14' := Lib.hid ((O14.out.alloc _).below' hbk)
                  have OZ' := Lib.hid ((OZ.out.alloc _).below' hbk)
                  have O16' := Lib.hid ((O16.out.alloc _).below' hbk)
                  have OA' := Lib.hid ((OA.out.alloc _).below' hbk)
                  have O18' := Lib.hid ((O18.out.alloc _).below' hbk)
                  have OB' := Lib.hid ((OB.out.alloc _).below' hbk)
                  have O19' := Lib.hid ((O19.out.alloc _).below' hbk)
                  have OC' := Lib.hid ((OC.out.alloc _).below' hbk)
                  have O20' := Lib.hid ((O20.out.alloc _).below' hbk)
                  have OD' := Lib.hid ((OD.out.alloc _).below' hbk)
                  have O21' := Lib.hid ((O21.out.alloc _).below' hbk)
                  have OE' := Lib.hid ((OE.out.alloc _).below' hbk)
                  have O25' := Lib.hid ((O25.out.alloc _).below' hbk)
                  have OH' := Lib.hid ((OH.out.alloc _).below' hbk)
                  have O26' := Lib.hid ((O26.out.alloc _).below' hbk)
                  have OI' := Lib.hid ((OI.out.alloc _).below' hbk)
                  have HS' := Lib.hid ((HS.out.alloc _).keep hbk)
                  have HT' := Lib.hid ((HT.out.alloc _).keep hbk)
                  have HU' := Lib.hid ((HU.out.alloc _).keep hbk)
                  have O27' := Lib.hid (Own.below' (Own.new' (g := w18.heap.size) (w := w18) rfl) hbk)
                  have hb' := Lib.hid ((hb.out.alloc (by have := hb.out.size; simp; try omega) _).trans (hbk.mono (by have := hb.out.size; simp; try omega)))
                  have hs19 := hbk.size
                  simp only [World.size_alloc] at hs19
                  clear qO5 zO5 qO6 zO6 qO7 zO7 qO25 zO25 qO26 zO26
                  clear hb hbk O5 O6 O7 OX O12 OY O14 OZ O16 OA O18 OB O19 OC O20 OD O21 OE O25 OH O26 OI HS HT HU
                  have hb := hb'; clear hb'
                  have O5 := O5'; clear O5'
                  have O6 := O6'; clear O6'
                  have O7 := O7'; clear O7'
                  have OX := OX'; clear OX'
                  have O12 := O12'; clear O12'
                  have OY := OY'; clear OY'
                  have O14 := O14'; clear O14'
                  have OZ := OZ'; clear OZ'
                  have O16 := O16'; clear O16'
                  have OA := OA'; clear OA'
                  have O18 := O18'; clear O18'
                  have OB := OB'; clear OB'
                  have O19 := O19'; clear O19'
                  have OC := OC'; clear OC'
                  have O20 := O20'; clear O20'
                  have OD := OD'; clear OD'
                  have O21 := O21'; clear O21'
                  have OE := OE'; clear OE'
                  have O25 := O25'; clear O25'
                  have OH := OH'; clear OH'
                  have O26 := O26'; clear O26'
                  have OI := OI'; clear OI'
                  have HS := HS'; clear HS'
                  have HT := HT'; clear HT'
                  have HU := HU'; clear HU'
                  have O27 := O27'; clear O27'
                  have qO5 := O5.out.cell; have zO5 := O5.out.lt
                  have qO6 := O6.out.cell; have zO6 := O6.out.lt
                  have qO7 := O7.out.cell; have zO7 := O7.out.lt
                  have qO25 := O25.out.cell; have zO25 := O25.out.lt
                  have qO26 := O26.out.cell; have zO26 := O26.out.lt
                  have qO27 := O27.out.cell; have zO27 := O27.out.lt
                  go_wp2_with fail
                  refine (awake_true _).mono ?_
                  rintro e w20 ⟨rfl, hbk⟩
                  have O5' := Lib.hid (O5.out.below' hbk)
                  have O6' := Lib.hid (O6.out.below' hbk)
                  have O7' := Lib.hid (O7.out.below' hbk)
                  have OX' := Lib.hid (OX.out.below' hbk)
                  have O12' := Lib.hid (O12.out.below' hbk)
                  have OY' := Lib.hid (OY.out.below' hbk)
                  have O14' := Lib.hid (O14.out.below' hbk)
                  have OZ' := Lib.hid (OZ.out.below' hbk)
                  have O16' := Lib.hid (O16.out.below' hbk)
                  have OA' := Lib.hid (OA.out.below' hbk)
                  have O18' := Lib.hid (O18.out.below' hbk)
                  have OB' := Lib.hid (OB.out.below' hbk)
                  have O19' := Lib.hid (O19.out.below' hbk)
                  have OC' := Lib.hid (OC.out.below' hbk)
                  have O20' := Lib.hid (O20.out.below' hbk)
                  have OD' := Lib.hid (OD.out.below' hbk)
                  have O21' := Lib.hid (O21.out.below' hbk)
                  have OE' := Lib.hid (OE.out.below' hbk)
                  have O25' := Lib.hid (O25.out.below' hbk)
                  have OH' := Lib.hid (OH.out.below' hbk)
                  have O26' := Lib.hid (O26.out.below' hbk)
                  have OI' := Lib.hid (OI.out.below' hbk)
                  have O27' := Lib.hid (O27.out.below' hbk)
                  have HS' := Lib.hid (HS.out.keep hbk)
                  have HT' := Lib.hid (HT.out.keep hbk)
                  have HU' := Lib.hid (HU.out.keep hbk)
                  have hb' := Lib.hid (hb.out.trans (hbk.mono (by have := hb.out.size; simp; try omega)))
                  have hs20 := hbk.size
                  clear qO5 zO5 qO6 zO6 qO7 zO7 qO25 zO25 qO26 zO26 qO27 zO27
                  clear hb hbk O5 O6 O7 OX O12 OY O14 OZ O16 OA O18 OB O19 OC O20 OD O21 OE O25 OH O26 OI O27 HS HT HU
                  have hb := hb'; clear hb'
                  have O5 := O5'; clear O5'
                  have O6 := O6'; clear O6'
                  have O7 := O7'; clear O7'
                  have OX := OX'; clear OX'
                  have O12 := O12'; clear O12'
                  have OY := OY'; clear OY'
                  have O14 := O14'; clear O14'
                  have OZ := OZ'; clear OZ'
                  have O16 := O16'; clear O16'
                  have OA := OA'; clear OA'
                  have O18 := O18'; clear O18'
                  have OB := OB'; clear OB'
                  have O19 := O19'; clear O19'
                  have OC := OC'; clear OC'
                  have O20 := O20'; clear O20'
                  have OD := OD'; clear OD'
                  have O21 := O21'; clear O21'
                  have OE := OE'; clear OE'
                  have O25 := O25'; clear O25'
                  have OH := OH'; clear OH'
                  have O26 := O26'; clear O26'
                  have OI := OI'; clear OI'
                  have O27 := O27'; clear O27'
                  have HS := HS'; clear HS'
                  have HT := HT'; clear HT'
                  have HU := HU'; clear HU'
                  go_wp2
                  go_ret
                  exact ⟨rfl, hb.out⟩
            | false =>
              have h6' := Lib.hid h6; clear h6; have h6 := h6'; clear h6'
              go_wp2_with fail
              refine (awake_true _).mono ?_
              rintro e w7 ⟨rfl, hbk⟩
              have O5' := Lib.hid (O5.out.below' hbk)
              have O6' := Lib.hid (O6.out.below' hbk)
              have O7' := Lib.hid (O7.out.below' hbk)
              have HS' := Lib.hid (HS.out.keep hbk)
              have HT' := Lib.hid (HT.out.keep hbk)
              have HU' := Lib.hid (HU.out.keep hbk)
              have hb' := Lib.hid (hb.out.trans (hbk.mono (by have := hb.out.size; simp; try omega)))
              have hs7 := hbk.size
              clear qO5 zO5 qO6 zO6 qO7 zO7
              clear hb hbk O5 O6 O7 HS HT HU
              have hb := hb'; clear hb'
              have O5 := O5'; clear O5'
              have O6 := O6'; clear O6'
              have O7 := O7'; clear O7'
              have HS := HS'; clear HS'
              have HT := HT'; clear HT'
              have HU := HU'; clear HU'
              go_wp2
              go_ret
              exact ⟨rfl, hb.out⟩
          | false =>
            have h5' := Lib.hid h5; clear h5; have h5 := h5'; clear h5'
            go_wp2_with fail
            refine (awake_true _).mono ?_
            rintro e w6 ⟨rfl, hbk⟩
            have O5' := Lib.hid (O5.out.below' hbk)
            have O6' := Lib.hid (O6.out.below' hbk)
            have O7' := Lib.hid (O7.out.below' hbk)
            have HS' := Lib.hid (HS.out.keep hbk)
            have HT' := Lib.hid (HT.out.keep hbk)
            have HU' := Lib.hid (HU.out.keep hbk)
            have hb' := Lib.hid (hb.out.trans (hbk.mono (by have := hb.out.size; simp; try omega)))
            have hs6 := hbk.size
            clear qO5 zO5 qO6 zO6 qO7 zO7
            clear hb hbk O5 O6 O7 HS HT HU
            have hb := hb'; clear hb'
            have O5 := O5'; clear O5'
            have O6 := O6'; clear O6'
            have O7 := O7'; clear O7'
            have HS := HS'; clear HS'
            have HT := HT'; clear HT'
            have HU := HU'; clear HU'
            go_wp2
            go_ret
            exact ⟨rfl, hb.out⟩
        | false =>
          have h4' := Lib.hid h4; clear h4; have h4 := h4'; clear h4'
          go_wp2_with fail
          refine (awake_true _).mono ?_
          rintro e w5 ⟨rfl, hbk⟩
          have O5' := Lib.hid (O5.out.below' hbk)
          have O6' := Lib.hid (O6.out.below' hbk)
          have O7' := Lib.hid (O7.out.below' hbk)
          have HS' := Lib.hid (HS.out.keep hbk)
          have HT' := Lib.hid (HT.out.keep hbk)
          have HU' := Lib.hid (HU.out.keep hbk)
          have hb' := Lib.hid (hb.out.trans (hbk.mono (by have := hb.out.size; simp; try omega)))
          have hs5 := hbk.size
          clear qO5 zO5 qO6 zO6 qO7 zO7
          clear hb hbk O5 O6 O7 HS HT HU
          have hb := hb'; clear hb'
          have O5 := O5'; clear O5'
          have O6 := O6'; clear O6'
          have O7 := O7'; clear O7'
          have HS := HS'; clear HS'
          have HT := HT'; clear HT'
          have HU := HU'; clear HU'
          go_wp2
          go_ret
          exact ⟨rfl, hb.out⟩
end Go.Proofs.Ytnhlenagojbigaa
