/- Walks: slices.Clone, ring.copied. -/
import Derived.Test.YtmfeponanjgapaaWa
import Derived.Test.YtmfeponanjgapaaRow
namespace Go.Proofs.Ytmfeponanjgapaa
open Go.RowKit

theorem infoB : (Try.prog.info? 5).map (fun i => (i.zero, i.size, i.bytes)) = some (some (.int .u8 0), 1, 1) := by kernel_rfl
theorem infoW : (Try.prog.info? 36).map (fun i => (i.zero, i.size, i.bytes)) = some (some (.slice none 0 0), 1, 24) := by kernel_rfl
/-- A block known whole, marked or not. -/
def OwnM (w : World) (g : Nat) (t : TypeId) (vs : List Value) : Prop := ∃ fr, w.heap[g]? = some (.cells vs.toArray t fr)
section
variable {w w' : World} {g b : Nat} {t t' : TypeId} {vs us : List Value}
theorem Own.mark (h : Own w g t vs) : OwnM w g t vs := ⟨_, h⟩
theorem OwnM.lt (h : OwnM w g t vs) : g < w.heap.size := by
  obtain ⟨fr, h⟩ := h
  exact (Array.getElem?_eq_some_iff.1 h).1
theorem OwnM.below' (h : OwnM w g t vs) (hb : Below w.heap.size w w') : OwnM w' g t vs := by
  have hl := h.lt
  obtain ⟨fr, h⟩ := h
  exact ⟨fr, (hb.block g hl).trans h⟩
theorem OwnM.ne (h : OwnM w g t vs) (ho : Own w b t' us) (hn : t ≠ t') : g ≠ b := by
  rintro rfl
  obtain ⟨fr, h⟩ := h
  unfold Own at ho
  rw [h] at ho
  injection ho with ho
  injection ho with _ h2
  exact hn h2
theorem OwnM.grown' (h : OwnM w g t vs) (ho : Own w b t' us) (hn : t ≠ t') (hg : w.grownBy w' (some b)) : OwnM w' g t vs := by
  have hl := h.lt; have hne := h.ne ho hn
  obtain ⟨fr, h⟩ := h
  exact ⟨fr, (hg.block g hl (by intro e; injection e with e; exact hne e)).trans h⟩
theorem OwnM.far (h : OwnM w g t vs) {p : Addr} (hp : g ≠ p.block) (u : Value) : OwnM (w.setCell p u) g t vs := by
  obtain ⟨fr, h⟩ := h
  exact ⟨fr, (Below.heap_setCell w p u g hp).trans h⟩
theorem OwnM.cell (h : OwnM w g t vs) (i : Nat) : w.cell? ⟨g, i, none⟩ = vs[i]? := by
  obtain ⟨fr, h⟩ := h
  rw [cell_of_row w g i vs.toArray t fr h]; simp
theorem OwnM.rd (h : OwnM w g t vs) : Rd w (some ⟨g, 0, none⟩) vs := fun _ => ⟨g, 0, rfl, h.lt, fun j v hv => by rw [Nat.zero_add, h.cell, hv]⟩
end
/-- A word in a block of its own. -/
def WdO (w : World) (v : Value) (l : List UInt8) : Prop := ∃ A c, v = .slice A l.length c ∧ (l = [] ∨ ∃ g more, A = some ⟨g, 0, none⟩ ∧ OwnM w g 5 (cellsB l ++ more))
theorem rd_front {w : World} {g : Nat} {t : TypeId} {xs more : List Value} (h : Own w g t (xs ++ more)) : Rd w (some ⟨g, 0, none⟩) xs := by
  have := h.rd_take xs.length
  rwa [List.take_left' rfl] at this
section
variable {w w' wr W W' : World} {v : Value} {l : List UInt8} {ws : List (List UInt8)}
theorem WdO.wd (h : WdO w v l) : Wd w v l := by
  obtain ⟨A, c, e, h⟩ := h
  refine ⟨A, c, e, ?_⟩
  rcases h with rfl | ⟨g, more, rfl, h⟩
  · exact Rd.nil
  · have := h.rd.take (cellsB l).length
    rwa [List.take_left' rfl] at this
theorem WdO.below (h : WdO w v l) (hb : Below w.heap.size w w') : WdO w' v l := by
  obtain ⟨A, c, e, h⟩ := h
  refine ⟨A, c, e, ?_⟩
  rcases h with h | ⟨g, more, rfl, h⟩
  · exact .inl h
  · exact .inr ⟨g, more, rfl, h.below' hb⟩
theorem WdO.grown (h : WdO w v l) {g : Nat} {us : List Value} (ho : Own w g 36 us) (hg : w.grownBy w' (some g)) : WdO w' v l := by
  obtain ⟨A, c, e, h⟩ := h
  refine ⟨A, c, e, ?_⟩
  rcases h with h | ⟨g, more, rfl, h⟩
  · exact .inl h
  · exact .inr ⟨g, more, rfl, h.grown' ho (by decide) hg⟩
theorem WdO.far (h : WdO w v l) {g : Nat} {us : List Value} (ho : Own w g 36 us) (i : Nat) (u : Value) : WdO (w.setCell ⟨g, i, none⟩ u) v l := by
  obtain ⟨A, c, e, h⟩ := h
  refine ⟨A, c, e, ?_⟩
  rcases h with h | ⟨g', more, rfl, h⟩
  · exact .inl h
  · exact .inr ⟨g', more, rfl, h.far (p := ⟨g, i, none⟩) (h.ne ho (by decide)) u⟩
/-- A row of words of the call's own. -/
def RowW (B : Nat) (wr : World) (v : Value) (ws : List (List UInt8)) : Prop :=
  (ws = [] ∧ v = .slice none 0 0) ∨ ∃ g cap vs more, v = .slice (some ⟨g, 0, none⟩) ws.length cap ∧ B ≤ g ∧ Own wr g 36 (vs ++ more) ∧ vs.length = ws.length ∧ ws.length ≤ cap ∧ cap ≤ maxLen ∧ (vs ++ more).length = cap ∧
    ∀ (i : Nat) (v : Value) (l : List UInt8), vs[i]? = some v → ws[i]? = some l → WdO wr v l
theorem RowW.below {B : Nat} (h : RowW B W v ws) (hb : Below W.heap.size W W') : RowW B W' v ws := by
  rcases h with h | ⟨g, cap, vs, more, e, hg, ho, h1, h2, h3, h4, h5⟩
  · exact .inl h
  · exact .inr ⟨g, cap, vs, more, e, hg, ho.below' hb, h1, h2, h3, h4, fun i v l hv hl => (h5 i v l hv hl).below hb⟩
theorem RowW.rd {B : Nat} (h : RowW B W v ws) : ∃ A c, v = .slice A ws.length c ∧ RdW W A ws := by
  rcases h with ⟨rfl, rfl⟩ | ⟨g, cap, vs, more, e, hg, ho, h1, h2, h3, h4, h5⟩
  · exact ⟨none, 0, rfl, [], rfl, Rd.nil, fun i v l hv => by simp at hv⟩
  · exact ⟨_, cap, e, vs, h1, rd_front ho, fun i v l hv hl => (h5 i v l hv hl).wd⟩
theorem RowW.more {g cap : Nat} {vs more : List Value} {B : Nat} (hB : B ≤ g) (ho : Own W g 36 ((vs ++ [v]) ++ more)) (h1 : vs.length = ws.length) (h2 : ws.length + 1 ≤ cap) (h3 : cap ≤ maxLen) (h4 : ((vs ++ [v]) ++ more).length = cap)
    (h5 : ∀ (i : Nat) (v : Value) (l : List UInt8), vs[i]? = some v → ws[i]? = some l → WdO W v l) (hv : WdO W v l) : RowW B W (.slice (some ⟨g, 0, none⟩) (ws.length + 1) cap) (ws ++ [l]) := by
  refine .inr ⟨g, cap, vs ++ [v], more, by rw [List.length_append]; rfl, hB, ho, by simp [h1], by simpa using h2, h3, h4, fun i u k hu hk => ?_⟩
  rcases Nat.lt_or_ge i ws.length with hi | hi
  · rw [List.getElem?_append_left (by omega)] at hu
    rw [List.getElem?_append_left hi] at hk
    exact h5 i u k hu hk
  · rw [List.getElem?_append_right (by omega)] at hu
    rw [List.getElem?_append_right hi] at hk
    have e1 : i - vs.length = 0 := by
      have := (List.getElem?_eq_some_iff.1 hu).1
      simp at this; omega
    have e2 : i - ws.length = 0 := by omega
    rw [e1] at hu; rw [e2] at hk
    simp at hu hk
    subst hu hk
    exact hv
end
theorem alloc_below (V : World) (o : Obj) : Below V.heap.size V (V.alloc o) := (Below.refl _ V).alloc (Nat.le_refl _) o
/-- A word in new memory. -/
def FreshWd (w : World) (l : List UInt8) (e : Ending) (w' : World) : Prop := ∃ v, e = .returned v ∧ WdO w' v l ∧ Below w.heap.size w w'
set_option maxRecDepth 100000 in
set_option maxHeartbeats 2000000 in
theorem clone_any (A : Option Addr) (n c : Nat) (l : List UInt8) (w : World) (hl : n = l.length) (hr : Rd w A (cellsB l)) (hn : n ≤ 140737488351232) :
    Calls Try.prog 36 #[.slice A n c] w (FreshWd w l) := by
  have HR := Lib.hid hr; have HL := Lib.hid hl
  clear hr hl
  obtain ⟨i0, hi, hz0, hz1, hz2⟩ := info_parts infoB
  have I0 := Lib.hid hi; have I1 := Lib.hid hz0; have I2 := Lib.hid hz1; have I3 := Lib.hid hz2
  clear hi hz0 hz1 hz2
  have hnil := fun (w : World) (a : Option Addr) (n c : Nat) => Lib.run_eql_slice_nil (P := Try.prog) w 36 5 a n c 0 0 Try.underlying36
  rcases Option.eq_none_or_eq_some A with hA | ⟨ad, hA⟩
  · obtain rfl : n = 0 := by
      rcases Nat.eq_zero_or_pos n with h | h
      · exact h
      · obtain ⟨b, off, e, _⟩ := HR.out (by rw [length_cellsB]; have := HL.out; omega)
        rw [hA] at e; cases e
    subst hA
    go_enter Try.func36, Try.ntmps36
    go_wp2
    go_ret
    have hl0 : l = [] := List.eq_nil_of_length_eq_zero HL.out.symm
    subst hl0
    exact ⟨_, rfl, ⟨none, 0, rfl, .inl rfl⟩, Below.refl _ w⟩
  · subst hA
    have hce : ∀ j u, (cellsB l)[j]? = some u → (w.alloc (.cells #[] 5)).cell? (ad.add j) = some u := fun j u hu => by
      have hl : 0 < (cellsB l).length := by
        rcases Nat.lt_or_ge j (cellsB l).length with h | h
        · omega
        · rw [List.getElem?_eq_none h] at hu; cases hu
      obtain ⟨b, off, e, hb, hc⟩ := (HR.out.alloc (.cells #[] 5)) hl
      injection e with e
      subst e
      have := hc j u hu
      rw [← this]
      unfold Addr.add
      split
      · rename_i e; subst e; rfl
      · rfl
    have HC := Lib.hid hce
    clear hce
    go_enter Try.func36, Try.ntmps36
    go_wp2_with (at_builtin; refine wpList_append_own_at _ rfl (.tmp 5) (.tmp 6) 36 rfl w.heap.size 5 i0 (.int .u8 0) 1 1 Try.underlying36 I0.out I1.out I2.out I3.out rfl (by omega) _ 0 [] rfl (owns_of_own (cap := 0) (rest := []) (Own.new' (vs := []) rfl) (Nat.le_refl _) rfl (Nat.le_refl _) (Nat.zero_le _) rfl) ad n c (cellsB l) rfl (by rw [length_cellsB, Nat.mul_one]; exact HL.out.symm) HC.out cellsB_one (by unfold maxLen; omega) (by omega) (by simp) ?_)
    intro v' w' hown hgrow hnl hblk
    obtain ⟨g, cap, more, rfl, hg, hO, h1, h2, h3⟩ := row_own hown hnl
    have hb := Lib.hid (((Below.refl w.heap.size w).alloc (Nat.le_refl _) (.cells #[] 5)).trans (grown_below hgrow (Nat.le_refl _) (by simp)))
    have HO := Lib.hid hO
    clear hown hgrow hnl hblk h3 hO
    go_wp2
    go_ret
    have h := HL.out
    subst h
    exact ⟨_, rfl, ⟨_, cap, by simp, .inr ⟨g, more, rfl, HO.out.mark⟩⟩, hb.out⟩
/-- Words in new memory. -/
def FreshR (w : World) (ws : List (List UInt8)) (e : Ending) (w' : World) : Prop := ∃ v, e = .returned v ∧ RowW w.heap.size w' v ws ∧ Below w.heap.size w w'
def CopL (w : World) (n : Nat) (ws : List (List UInt8)) (o i : Value) (wr : World) : Prop := ∃ k : Nat, k ≤ n ∧ i = .int .i64 k ∧ RowW w.heap.size wr o (ws.take k) ∧ Below w.heap.size w wr
set_option maxRecDepth 100000 in
set_option maxHeartbeats 4000000 in
theorem copied_any (A : Option Addr) (c n : Nat) (ws : List (List UInt8)) (w : World) (hr : RdW w A ws) (hl : n = ws.length) (hn : n ≤ 1000) (hs : ∀ l ∈ ws, l.length ≤ 1000) :
    Calls Try.prog 25 #[.slice A n c] w (FreshR w ws) := by
  have HR := Lib.hid hr
  have HL := Lib.hid hl; have HS := Lib.hid hs
  clear hr hl hs
  obtain ⟨i0, hi, hz0, hz1, hz2⟩ := info_parts infoW
  have I0 := Lib.hid hi; have I1 := Lib.hid hz0; have I2 := Lib.hid hz1; have I3 := Lib.hid hz2
  clear hi hz0 hz1 hz2
  go_enter Try.func25, Try.ntmps25
  go_wp2
  go_loopw [3, 5, 8] (fun o _ i wr => CopL w n ws o i wr) (fun _ _ i _ => n - (intOf i).toNat)
  case atStart => exact ⟨0, Nat.zero_le _, rfl, .inl ⟨rfl, rfl⟩, Below.refl _ w⟩
  case round =>
    obtain ⟨k, hk, rfl, hrow, hbw⟩ := hrel
    have HB := Lib.hid hbw
    have hb0 := hbw.size
    clear hbw
    by_cases hlt : k < n
    · obtain ⟨b, off, h0, h1⟩ := (HR.out.below HB.out).at
      have hA := (h0 (by have := HL.out; omega)).1
      subst hA
      obtain ⟨l, hl⟩ : ∃ l, ws[k]? = some l := ⟨_, List.getElem?_eq_getElem (by have := HL.out; omega)⟩
      obtain ⟨B', c', hc, hrl⟩ := h1 k l hl
      have hl1 : l.length ≤ 1000 := HS.out l (List.mem_of_getElem? hl)
      have HT := Lib.hid (show ws.take k ++ [l] = ws.take (k + 1) by rw [List.take_add_one, hl]; rfl)
      have HK := Lib.hid (show (ws.take k).length = k by rw [List.length_take]; have := HL.out; omega)
      have HRL := Lib.hid hrl
      clear h0 h1 hl hrl
      rcases hrow with ⟨h0, rfl⟩ | ⟨g, cap, vs, more, rfl, hg, ho, r1, r2, r3, r4, r5⟩
      · have H0 := Lib.hid h0
        clear h0
        go_wp2_with fail
        refine (clone_any B' l.length c' l _ rfl HRL.out (by omega)).mono ?_
        rintro e w1 ⟨_, rfl, ⟨A2, c2, rfl, hv⟩, hbk⟩
        have hz1 := hbk.size
        have HV := Lib.hid (show WdO (w1.alloc (.cells #[.slice A2 l.length c2] 36)) (.slice A2 l.length c2) l from WdO.below (w := w1) ⟨A2, c2, rfl, hv⟩ ((Below.refl _ w1).alloc (Nat.le_refl _) _))
        have HB1 := Lib.hid ((HB.out.trans (hbk.mono HB.out.size)).alloc (Nat.le_trans hb0 hz1) (.cells #[.slice A2 l.length c2] 36))
        clear hv hbk HB
        go_wp2_with (at_builtin; refine wpList_append_new rfl (.tmp 12) (.tmp 15) 22 rfl 36 i0 (.slice none 0 0) 1 24 Try.underlying22 I0.out I1.out I2.out I3.out rfl (by decide) rfl ⟨w1.heap.size, 0, none⟩ 1 1 (by decide) [.slice A2 l.length c2] rfl rfl (cell_one_new _ _ _) (by simp [Value.oneCell']) (by decide) (by decide) ?_)
        intro g' cap' more' w2 hO2 hg2 hb2 h1 h2 h3
        have hb3 : Below (w1.alloc (.cells #[.slice A2 l.length c2] 36)).heap.size (w1.alloc (.cells #[.slice A2 l.length c2] 36)) w2 := by rw [World.size_alloc]; exact hb2
        have hrow := Lib.hid (RowW.more (B := w.heap.size) (vs := []) (ws := ws.take k) (by omega) hO2 (by rw [H0.out]; rfl) (by have := HK.out; rw [H0.out] at this ⊢; exact h1) h2 (by simpa using h3) (fun i v l hv => by simp at hv) (HV.out.below hb3))
        have HB2 := Lib.hid (HB1.out.trans (hb3.mono HB1.out.size))
        have HR2 := Lib.hid (show RowW w.heap.size w2 (.slice (some ⟨g', 0, none⟩) 1 cap') (ws.take (k + 1)) by
          have := hrow.out
          rw [HT.out, HK.out] at this
          have e0 : k = 0 := by have := HK.out; rw [H0.out] at this; exact this.symm
          subst e0
          exact this)
        clear hO2 hg2 hb2 hb3 h1 h2 h3 HV HB1 hrow
        go_wp2
        go_roundw
        case rel => exact ⟨k + 1, by omega, by go_num, HR2.out, HB2.out⟩
        case measure => simp [intOf]; omega
      · have HO := Lib.hid ho; have H5 := Lib.hid r5; have H1 := Lib.hid r1; have H4 := Lib.hid r4
        have r2k : k ≤ cap := by have := HK.out; omega
        have e9 := HK.out
        rw [e9]
        clear ho r5 r1 r4 e9
        go_wp2_with fail
        refine (clone_any B' l.length c' l _ rfl HRL.out (by omega)).mono ?_
        rintro e w1 ⟨_, rfl, ⟨A2, c2, rfl, hv⟩, hbk⟩
        have hz1 := hbk.size
        have hba := Lib.hid (hbk.trans (alloc_below w1 (.cells #[.slice A2 l.length c2] 36) |>.mono hz1))
        have HV := Lib.hid (show WdO (w1.alloc (.cells #[.slice A2 l.length c2] 36)) (.slice A2 l.length c2) l from WdO.below (w := w1) ⟨A2, c2, rfl, hv⟩ (alloc_below _ _))
        have HO1 := Lib.hid (HO.out.below' hba.out)
        have H51 := Lib.hid (fun (i : Nat) (v : Value) (k : List UInt8) hv hl => (H5.out i v k hv hl).below hba.out)
        have HB1 := Lib.hid (HB.out.trans (hba.out.mono HB.out.size))
        clear hv hbk HB H5
        go_wp2_with (at_builtin; refine wpList_append_row rfl (.tmp 12) (.tmp 15) 22 rfl 36 i0 (.slice none 0 0) 1 24 Try.underlying22 I0.out I1.out I2.out I3.out rfl (by decide) g k cap vs more rfl HO1.out (by have := HK.out; have := H1.out; omega) r2k r3 (by rw [H4.out, Nat.mul_one]) ⟨w1.heap.size, 0, none⟩ 1 1 [.slice A2 l.length c2] rfl rfl (cell_one_new _ _ _) (by simp [Value.oneCell']) (by unfold maxLen; omega) (by omega) ?_)
        intro g' cap' more' w2 hO2 hg2 hb2 h1 h2 h3
        have hgg : w.heap.size ≤ g' := by
          rcases hg2 with h | h
          · omega
          · omega
        have hrow := Lib.hid (RowW.more (B := w.heap.size) (vs := vs) (ws := ws.take k) hgg (by rw [List.append_assoc]; exact hO2) H1.out (by rw [HK.out]; exact h1) h2 (by simpa using h3) (fun i v l hv hl => (H51.out i v l hv hl).grown HO1.out hb2) (HV.out.grown HO1.out hb2))
        have HB2 := Lib.hid (HB1.out.trans (grown_below hb2 (by omega) HB1.out.size))
        have HR2 := Lib.hid (show RowW w.heap.size w2 (.slice (some ⟨g', 0, none⟩) (k + 1) cap') (ws.take (k + 1)) by
          have := hrow.out
          rw [HT.out, HK.out] at this
          exact this)
        clear hO2 hg2 hb2 h1 h2 h3 HV HB1 hrow
        go_wp2
        go_roundw
        case rel => exact ⟨k + 1, by omega, by go_num, HR2.out, HB2.out⟩
        case measure => simp [intOf]; omega
    · obtain rfl : k = n := by omega
      have HT := Lib.hid (show ws.take k = ws by rw [HL.out]; exact List.take_length)
      have HW := Lib.hid hrow
      clear hrow
      go_wp2
      go_ret
      exact ⟨_, rfl, by have := HW.out; rw [HT.out] at this; exact this, HB.out⟩
end Go.Proofs.Ytmfeponanjgapaa
