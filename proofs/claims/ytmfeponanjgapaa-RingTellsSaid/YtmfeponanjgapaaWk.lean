/- Walk: ranks. -/
import Derived.Test.YtmfeponanjgapaaWj
import Derived.Laws.MakeOwn
namespace Go.Proofs.Ytmfeponanjgapaa
open Go.RowKit Go.Sort Go.Shelf

theorem infoI : (Try.prog.info? 3).map (fun i => (i.zero, i.size, i.bytes)) = some (some (.int .i64 0), 1, 8) := by kernel_rfl
def zeros (n : Nat) : List Value := List.replicate n (.int .i64 0)
theorem mk_ints (n : Nat) (hn : n ≤ 100000) (W : World) : (Instr.makeSlice 25 (.int .i64 (n : Int)) (.int .i64 (n : Int))).run Try.prog W = .ok (.slice (some ⟨W.heap.size, 0, none⟩) n n) (W.alloc (.cells (zeros n).toArray 3)) := by
  obtain ⟨i0, hi, hz0, hz1, hz2⟩ := info_parts infoI
  have hmk := run_make (P := Try.prog) W 25 3 i0 _ Try.underlying25 hi hz0 .i64 .i64 n n (by omega) (by omega) (by rw [hz2]; omega) (by omega)
  rw [hz1] at hmk
  simp only [Int.toNat_natCast, Value.cells, replicate_cells, Nat.mul_one] at hmk
  exact hmk
theorem zeros_idL (n : Nat) : zeros n = cellsI (idL n 0) := (idL_zero n).symm
theorem sort_any (A : Option Addr) (c m n bx g : Nat) (hnm : n = m + 1) (ws : List (List UInt8)) (w wr : World) (hr : RdW w A ws) (hl : m + 1 = ws.length) (hO : Own wr g 3 (cellsI (idL n n))) (hX : Own wr bx 22 [.slice A n c]) (hB : RowKit.Below w.heap.size w wr) (hg : w.heap.size ≤ g) (hsz : m + 1 ≤ 1000) :
    Calls Try.prog 33 #[.slice (some ⟨g, 0, none⟩) n n, .func (.func 34) #[] #[.pointer (some ⟨bx, 0, none⟩)]] wr fun e w' => e = .returned (.tuple #[]) ∧
      ∃ d, PermIn 0 (m + 1) (fin0 m) d ∧ SortedIn (ltOf (cfF ws m)) 0 (m + 1) d ∧ Own w' g 3 (d.toList.map (encF m)) ∧ Own w' bx 22 [.slice A n c] ∧ RowKit.Below w.heap.size w w' := by
  subst hnm
  have hne : bx ≠ g := (hX.ne hO (by decide))
  rw [idL_fin] at hO
  have eg : ∀ args w, (callFunc 34 args).run Try.prog w = .ok (.enter 34 args) w := enters_of Try.func34 (by kernel_rfl) rfl
  have far : ∀ (n : Nat) (d : Array (Fin (m + 1))) (os : Array Obj), Own (sortWorld (encF m) wr g 0 n d os) bx 22 [.slice A (m + 1) c] := fun n d os => hX.grown grown_sort (by intro e; injection e with e; exact hne e)
  have bel : ∀ (n : Nat) (d : Array (Fin (m + 1))) (os : Array Obj), RowKit.Below w.heap.size w (sortWorld (encF m) wr g 0 n d os) := fun n d os => hB.trans (grown_below grown_sort hg hB.size)
  have hcmp : CmpReads Try.prog 34 #[.pointer (some ⟨bx, 0, none⟩)] (encF m) (cfF ws m) g 0 (fin0 m).size wr := fun n os d _ x y =>
    rankCmp_any A (m + 1) c bx x y ws w _ hr hl (bel n d os) ((far n d os).cell 0) x.isLt y.isLt
  have h := Any.slices_SortFunc Try.sortInt (encF m) (fun _ => rfl) (cfF ws m) (swoF ws m) 34 #[.pointer (some ⟨bx, 0, none⟩)] g 0 (m + 1) (fin0 m) wr eg hcmp.lays (holds_own hO) hO.lt (by rw [fin0_size]; omega)
  rw [fin0_size] at h
  change Calls Try.prog 33 _ _ _ at h
  refine h.mono fun e w' ⟨he, d, n, os, h1, h2, h3⟩ => ⟨he, d, h1, h2, ?_⟩
  subst h3
  exact ⟨own_sort hO (by rw [fin0_size]; exact (pl_perm h1).1), far n d os, bel n d os⟩
/-- The ranks, as far as they are known. -/
def RkL (ws : List (List UInt8)) {m : Nat} (d : Array (Fin (m + 1))) (j : Nat) (O : List Int) : Prop := O.length = m + 1 ∧ ∀ i, i ≤ j → O.getD (pl d i) 0 = (rk ws (pl d) i : Int)
theorem RkL.start {ws : List (List UInt8)} {m : Nat} (d : Array (Fin (m + 1))) : RkL ws d 0 (idL (m + 1) 0) := by
  refine ⟨length_idL _ _, fun i hi => ?_⟩
  obtain rfl : i = 0 := by omega
  have h := pl_lt (d := d) 0
  unfold idL rk
  rw [List.getD_eq_getElem?_getD, List.getElem?_map, List.getElem?_range h]
  simp
theorem RkL.step {ws : List (List UInt8)} {m j : Nat} {d : Array (Fin (m + 1))} {O : List Int} (hp : PermIn 0 (m + 1) (fin0 m) d) (h : RkL ws d j O) (hj : j + 1 < m + 1) {x : Int} (hx : x = (rk ws (pl d) (j + 1) : Int)) : RkL ws d (j + 1) (O.set (pl d (j + 1)) x) := by
  refine ⟨by rw [List.length_set]; exact h.1, fun i hi => ?_⟩
  rw [List.getD_eq_getElem?_getD, List.getElem?_set]
  by_cases e : pl d (j + 1) = pl d i
  · have := pl_inj hp hj (by omega) e
    subst this
    rw [if_pos e, if_pos (by rw [h.1]; exact pl_lt _), hx]
    rfl
  · rw [if_neg e, ← List.getD_eq_getElem?_getD]
    refine h.2 i ?_
    rcases Nat.lt_or_ge i (j + 1) with h1 | h1
    · omega
    · exact absurd (by rw [show i = j + 1 by omega]) e
def RkS (w : World) (ws : List (List UInt8)) (A : Option Addr) (k c : Nat) {m : Nat} (d : Array (Fin (m + 1))) (g2 : Nat) (s6 : Value) (wr : World) : Prop :=
  ∃ j : Nat, j + 1 ≤ k ∧ s6 = .int .i64 ((j : Int) + 1) ∧ ∃ O, RkL ws d j O ∧ Own wr g2 3 (cellsI O) ∧ Own wr (w.heap.size + 1) 3 (d.toList.map (encF m)) ∧ Own wr w.heap.size 22 [.slice A k c] ∧ RowKit.Below w.heap.size w wr
def RankPost (w : World) (ws : List (List UInt8)) (e : Ending) (w' : World) : Prop :=
  ∃ g r, e = .returned (.slice (some ⟨g, 0, none⟩) ws.length ws.length) ∧ w.heap.size ≤ g ∧ Own w' g 3 (cellsI r) ∧ RankOf ws r ∧ Below w.heap.size w w'
set_option maxRecDepth 100000 in
set_option maxHeartbeats 4000000 in
theorem ranks_any (A : Option Addr) (c m : Nat) (ws : List (List UInt8)) (w : World) (hr : RdW w A ws) (hl : m + 1 = ws.length) (hn : m + 1 ≤ 1000) :
    Calls Try.prog 22 #[.slice A (m + 1) c] w (RankPost w ws) := by
  have HR := Lib.hid hr; have HL := Lib.hid hl
  clear hr hl
  obtain ⟨n, hnm⟩ : ∃ n, n = m + 1 := ⟨_, rfl⟩
  have HN := Lib.hid hnm
  have hn0 : 0 < n := by omega
  have hn1 : n ≤ 1000 := by omega
  rw [← hnm]
  clear hnm hn
  have hmk := mk_ints n (by omega)
  go_enter Try.func22, Try.ntmps22
  go_wp2
  go_loopw [4, 12] (fun _ i wr => ∃ k : Nat, k ≤ n ∧ i = .int .i64 k ∧ Hid (Own wr (w.heap.size + 1) 3 (cellsI (idL n k))) ∧ Hid (Own wr w.heap.size 22 [.slice A n c]) ∧ Hid (Below w.heap.size w wr)) (fun _ i _ => n - (intOf i).toNat)
  case atStart => exact ⟨0, Nat.zero_le _, rfl, Lib.hid (by rw [← zeros_idL]; exact Own.new' (g := w.heap.size + 1) (t := 3) (vs := zeros n) (w := w.alloc (.cells #[.slice A n c] 22)) (by simp)), Lib.hid ((Own.new' (vs := [.slice A n c]) rfl).alloc _), Lib.hid (((Below.refl _ w).alloc (Nat.le_refl _) _).alloc (by simp) _)⟩
  case round =>
    obtain ⟨k, hk, rfl, hO, hX, hB⟩ := hrel
    by_cases hlt : k < n
    · have q0 := hO.out.cell k
      have q1 : wr.cell? ⟨w.heap.size + 1, k, none⟩ = some (.int .i64 0) := by
        rw [q0]
        refine (cellsI_at (x := 0) ?_)
        unfold idL
        rw [List.getElem?_map, List.getElem?_range hlt]
        simp
      have f1 := hO.out.frozen k
      clear q0
      go_wp2
      go_roundw
      case rel => exact ⟨k + 1, by omega, by go_num, Lib.hid (by have := hO.out.set k (.int .i64 (k : Int)); rw [idL_step hlt] at this; exact this), Lib.hid (hX.out.far (p := ⟨w.heap.size + 1, k, none⟩) (by simp) _), Lib.hid (hB.out.setCell (p := ⟨w.heap.size + 1, k, none⟩) (by simp) _)⟩
      case measure => simp [intOf]; omega
    · obtain rfl : k = n := by omega
      have HS := Lib.hid (sort_any A c m k w.heap.size (w.heap.size + 1) HN.out ws w wr HR.out HL.out hO.out hX.out hB.out (by omega) (by have := HN.out; omega))
      go_wp2_with fail
      refine HS.out.mono ?_
      rintro e w3 ⟨rfl, d, hp, hs, ho, hx, hb⟩
      have HP := Lib.hid hp; have HD := Lib.hid hs; have OO := Lib.hid ho; have OX := Lib.hid hx; have BB := Lib.hid hb
      have x3 : w3.cell? ⟨w.heap.size, 0, none⟩ = some (.slice A k c) := hx.cell 0
      have z3 := hx.lt; have z4 := ho.lt
      clear hp hs ho hx hb HS hO hX hB
      have zg : w.heap.size + 1 ≠ w3.heap.size := Nat.ne_of_lt z4
      have zg0 : w.heap.size ≠ w3.heap.size := Nat.ne_of_lt z3
      go_wp2
      go_loopw [6] (fun s6 wr => RkS w ws A k c d w3.heap.size s6 wr) (fun s6 _ => k - (intOf s6).toNat)
      case atStart => exact ⟨0, by omega, rfl, idL (m + 1) 0, RkL.start d, by rw [← zeros_idL, ← HN.out]; exact Own.new w3 _ _, OO.out.alloc _, OX.out.alloc _, BB.out.alloc BB.out.size _⟩
      case round =>
        clear x3
        obtain ⟨j, hj, rfl, O, hO, o2, o1, oX, hb⟩ := hrel
        have HO := Lib.hid hO; have O2 := Lib.hid o2; have O1 := Lib.hid o1; have OX := Lib.hid oX; have BB := Lib.hid hb
        clear hO o2 o1 oX hb
        by_cases hlt : j + 1 < k
        · have hds := (pl_perm HP.out).1
          obtain ⟨p1, hp1⟩ : ∃ p, pl d (j + 1) = p := ⟨_, rfl⟩
          obtain ⟨p0, hp0⟩ : ∃ p, pl d j = p := ⟨_, rfl⟩
          have l1 : p1 < k := by rw [← hp1]; have := pl_lt (d := d) (j + 1); have := HN.out; omega
          have l0 : p0 < k := by rw [← hp0]; have := pl_lt (d := d) j; have := HN.out; omega
          have c1 : wr.drew.cell? ⟨w.heap.size + 1, j + 1, none⟩ = some (.int .i64 (p1 : Int)) := by
            rw [← hp1]; exact (O1.out.cell _).trans (pl_at hds (by have := HN.out; omega))
          have c0 : wr.drew.cell? ⟨w.heap.size + 1, j, none⟩ = some (.int .i64 (p0 : Int)) := by
            rw [← hp0]; exact (O1.out.cell _).trans (pl_at hds (by have := HN.out; omega))
          have HP1 := Lib.hid hp1; have HP0 := Lib.hid hp0
          obtain ⟨v0, hv0⟩ : ∃ v : Int, v = (rk ws (pl d) j : Int) := ⟨_, rfl⟩
          have hOl := HO.out.1
          have e0 : O[p0]? = some v0 := by
            have h := HO.out.2 j (Nat.le_refl _)
            rw [hp0, List.getD_eq_getElem?_getD, List.getElem?_eq_getElem (by have := HN.out; omega)] at h
            rw [List.getElem?_eq_getElem (by have := HN.out; omega), hv0]
            exact congrArg some h
          have b0 : 0 ≤ v0 ∧ v0 ≤ 1000 := by have := rk_le ws (pl d) j; omega
          obtain ⟨v1, e1⟩ : ∃ v, O[p1]? = some v := ⟨_, List.getElem?_eq_getElem (by have := HN.out; omega)⟩
          have q0 : wr.drew.cell? ⟨w3.heap.size, p0, none⟩ = some (.int .i64 v0) := (O2.out.cell p0).trans (cellsI_at e0)
          have q1 : wr.drew.cell? ⟨w3.heap.size, p1, none⟩ = some (.int .i64 v1) := (O2.out.cell p1).trans (cellsI_at e1)
          have f1 : wr.drew.frozen? ⟨w3.heap.size, p1, none⟩ = false := O2.out.frozen p1
          have HV0 := Lib.hid hv0
          clear hds hp1 hp0 hOl e0 e1 hv0
          have i1 : (0 : Int) ≤ (p1 : Int) := by omega
          have i0 : (0 : Int) ≤ (p0 : Int) := by omega
          go_wp2
          refine region_tail 13 (by kernel_rfl) (by kernel_rfl) ?_
          simp only [List.take_succ_cons, List.take_zero, List.drop_succ_cons, List.drop_zero]
          repeat (refine still_step rfl rfl (fun K hK => ?_); go_wp2)
          refine wpStill_nil ?_
          go_wp2
          obtain ⟨W4, hW4⟩ : ∃ V, V = (wr.setCell ⟨w3.heap.size, p1, none⟩ (.int .i64 v0)).drew := ⟨_, rfl⟩
          have P2 := Lib.hid (show Own W4 w3.heap.size 3 (cellsI (O.set p1 v0)) by
            have h := (O2.out.set p1 (.int .i64 v0)).drew
            rw [← hW4] at h
            unfold cellsI at h ⊢
            rw [List.map_set]
            exact h)
          have P1 := Lib.hid (show Own W4 (w.heap.size + 1) 3 (d.toList.map (encF m)) by rw [hW4]; exact (O1.out.far (p := ⟨w3.heap.size, p1, none⟩) zg _).drew)
          have PX := Lib.hid (show Own W4 w.heap.size 22 [.slice A k c] by rw [hW4]; exact (OX.out.far (p := ⟨w3.heap.size, p1, none⟩) zg0 _).drew)
          have PB := Lib.hid (show RowKit.Below w.heap.size w W4 by rw [hW4]; exact below_drewN (BB.out.setCell (p := ⟨w3.heap.size, p1, none⟩) (by simp; omega) _) 1)
          rw [← hW4]
          clear hW4 O2 O1 OX BB c1 c0 q0 q1 f1
          obtain ⟨gb, off, h0, h1⟩ := HR.out.atD
          have hA := (h0 (by have := HL.out; omega)).1
          have hgb := (h0 (by have := HL.out; omega)).2
          subst hA
          obtain ⟨B1, k1, e1, r1⟩ := h1 p1 (by have := HL.out; have := HN.out; omega)
          obtain ⟨B0, k0, e0, r0⟩ := h1 p0 (by have := HL.out; have := HN.out; omega)
          have d1 : W4.drew.cell? ⟨gb, off + p1, none⟩ = some (.slice B1 (wd ws p1).length k1) := ((below_cells PB.out).1 _ _ hgb).trans e1
          have d0 : W4.drew.cell? ⟨gb, off + p0, none⟩ = some (.slice B0 (wd ws p0).length k0) := ((below_cells PB.out).1 _ _ hgb).trans e0
          have dx : W4.drew.cell? ⟨w.heap.size, 0, none⟩ = some (.slice (some ⟨gb, off, none⟩) k c) := PX.out.cell 0
          have hds := (pl_perm HP.out).1
          have c1 : W4.drew.cell? ⟨w.heap.size + 1, j + 1, none⟩ = some (.int .i64 (p1 : Int)) := by
            rw [← HP1.out]; exact (P1.out.cell _).trans (pl_at hds (by have := HN.out; omega))
          have c0 : W4.drew.cell? ⟨w.heap.size + 1, j, none⟩ = some (.int .i64 (p0 : Int)) := by
            rw [← HP0.out]; exact (P1.out.cell _).trans (pl_at hds (by have := HN.out; omega))
          have R1 := Lib.hid (r1.below PB.out); have R0 := Lib.hid (r0.below PB.out)
          have HRK := Lib.hid (show rk ws (pl d) (j + 1) = rk ws (pl d) j + if wd ws p0 = wd ws p1 then 0 else 1 by rw [rk, HP0.out, HP1.out])
          clear h0 h1 e1 e0 r1 r0 hds
          generalize wd ws p1 = x at *
          generalize wd ws p0 = y at *
          refine region_tail 15 (by kernel_rfl) (by kernel_rfl) ?_
          simp only [List.take_succ_cons, List.take_zero, List.drop_succ_cons, List.drop_zero]
          repeat (refine still_step rfl rfl (fun K hK => ?_); go_wp2)
          refine wpStill_nil ?_
          go_wp2_with fail
          refine (bytesEqual_any B1 B0 x.length k1 y.length k0 x y _ rfl rfl R1.out.drew R0.out.drew).mono ?_
          rintro e _ ⟨rfl, rfl⟩
          cases hq : (x == y) with
          | true =>
            have HV1 := Lib.hid (show v0 = (rk ws (pl d) (j + 1) : Int) by rw [HRK.out, if_pos (by have := eq_of_beq hq; exact this.symm), Nat.add_zero, HV0.out])
            clear hq d1 d0 dx c1 c0
            go_wp2
            go_roundw
            case rel => exact ⟨j + 1, by omega, by go_num, _, RkL.step HP.out HO.out (by have := HN.out; omega) HV1.out |> (HP1.out ▸ ·), P2.out.drew, P1.out.drew, PX.out.drew, below_drewN PB.out 1⟩
            case measure => simp [intOf]; omega
          | false =>
            have HV1 := Lib.hid (show v0 + 1 = (rk ws (pl d) (j + 1) : Int) by rw [HRK.out, if_neg (by intro e; rw [e] at hq; simp at hq), HV0.out]; rfl)
            have q1 : W4.drew.cell? ⟨w3.heap.size, p1, none⟩ = some (.int .i64 v0) := (P2.out.cell p1).trans (cellsI_at (by rw [List.getElem?_set, if_pos rfl, if_pos (by rw [HO.out.1, ← HN.out]; exact l1)]))
            have f1 : W4.drew.frozen? ⟨w3.heap.size, p1, none⟩ = false := P2.out.frozen p1
            have H2 := Lib.hid (show Own (W4.setCell ⟨w3.heap.size, p1, none⟩ (.int .i64 (v0 + 1))).drew w3.heap.size 3 (cellsI (O.set p1 (v0 + 1))) by
              have h := (P2.out.set p1 (.int .i64 (v0 + 1))).drew
              unfold cellsI at h ⊢
              rw [List.map_set] at h ⊢
              rw [List.set_set] at h
              exact h)
            clear hq d1 d0 dx c0
            go_wp2
            go_roundw
            case rel => exact ⟨j + 1, by omega, by go_num, _, RkL.step HP.out HO.out (by have := HN.out; omega) HV1.out |> (HP1.out ▸ ·), H2.out, (P1.out.far (p := ⟨w3.heap.size, p1, none⟩) zg _).drew, (PX.out.far (p := ⟨w3.heap.size, p1, none⟩) zg0 _).drew, below_drewN (PB.out.setCell (p := ⟨w3.heap.size, p1, none⟩) (by simp; omega) _) 1⟩
            case measure => simp [intOf]; omega
        · obtain hjk : j + 1 = k := by omega
          have HJ := Lib.hid hjk
          have hge : decide ((j : Int) + 1 < (k : Int)) = false := by rw [decide_eq_false_iff_not]; omega
          clear hjk
          go_wp2
          go_ret
          have e1 := HN.out; have e2 := HL.out; have e3 := HJ.out
          refine ⟨w3.heap.size, O, by rw [← e2, ← e1]; rfl, by omega, O2.out, ?_, BB.out⟩
          refine rank_of (d := pl d) (by rw [HO.out.1]; exact e2) (fun a ha => ?_) (fun i j hij hj => pl_sorted HD.out i j hij (by omega)) (fun i hi => HO.out.2 i (by omega))
          obtain ⟨i, hi, h⟩ := pl_sur HP.out (show a < m + 1 by omega)
          exact ⟨i, by omega, h⟩
end Go.Proofs.Ytmfeponanjgapaa
