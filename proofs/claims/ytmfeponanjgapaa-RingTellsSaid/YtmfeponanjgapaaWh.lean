/- Walks: ring.Bytes. -/
import Derived.Test.YtmfeponanjgapaaWg
namespace Go.Proofs.Ytmfeponanjgapaa
open Go.RowKit

/-- A row of bytes of the call's own. -/
def RowB (B : Nat) (W : World) (v : Value) (l : List UInt8) : Prop :=
  (l = [] ∧ v = .slice none 0 0) ∨ ∃ g cap more, v = .slice (some ⟨g, 0, none⟩) l.length cap ∧ B ≤ g ∧ Own W g 5 (cellsB l ++ more) ∧ l.length ≤ cap ∧ cap ≤ maxLen ∧ (cellsB l ++ more).length = cap
/-- Blocks of other kinds stay. -/
def KeepT (W W' : World) : Prop := ∀ (g : Nat) (t : TypeId) (vs : List Value), t ≠ 5 → Own W g t vs → Own W' g t vs
section
variable {W W' : World} {v : Value} {k l : List UInt8} {B : Nat}
theorem RowB.below (h : RowB B W v l) (hb : Below W.heap.size W W') : RowB B W' v l := by
  rcases h with h | ⟨g, cap, more, e, hg, ho, h⟩
  · exact .inl h
  · exact .inr ⟨g, cap, more, e, hg, ho.below' hb, h⟩
theorem RowB.far (h : RowB B W v l) {b : Nat} {t : TypeId} {us : List Value} (ho : Own W b t us) (hn : 5 ≠ t) (i : Nat) (u : Value) : RowB B (W.setCell ⟨b, i, none⟩ u) v l := by
  rcases h with h | ⟨g, cap, more, e, hg, h1, h⟩
  · exact .inl h
  · exact .inr ⟨g, cap, more, e, hg, h1.far (p := ⟨b, i, none⟩) (h1.ne ho hn) u, h⟩
theorem RowB.rd (h : RowB B W v l) : ∃ A c, v = .slice A l.length c ∧ Rd W A (cellsB l) := by
  rcases h with ⟨rfl, rfl⟩ | ⟨g, cap, more, e, hg, ho, h⟩
  · exact ⟨none, 0, rfl, Rd.nil⟩
  · exact ⟨_, cap, e, rd_front ho⟩
theorem RowB.one (h : RowB B W v l) : v.oneCell' = true := by
  rcases h with ⟨rfl, rfl⟩ | ⟨g, cap, more, e, _⟩
  · rfl
  · rw [e]; rfl
theorem KeepT.refl (W : World) : KeepT W W := fun _ _ _ _ h => h
/-- append of bytes to bytes of the call's own. -/
theorem run_append_bytes (ty : TypeId) (A : Option Addr) (n c : Nat) (h1 : RowB B W v l) (hn : n = k.length) (hr : Rd W A (cellsB k)) (hsz : l.length + n ≤ 1000000) (hB : B ≤ W.heap.size) :
    ∃ v' w', (Builtin.append_ #[36, 36] ty #[v, .slice A n c]).run Try.prog W = .ok v' w' ∧ RowB B w' v' (l ++ k) ∧ Below B W w' ∧ KeepT W w' := by
  obtain ⟨i0, hi, hz0, hz1, hz2⟩ := info_parts infoB
  cases A with
  | none =>
    have hk : k = [] := by
      rcases Nat.eq_zero_or_pos k.length with h | h
      · exact List.eq_nil_of_length_eq_zero h
      · obtain ⟨b, off, e, _⟩ := hr (by rw [length_cellsB]; exact h)
        cases e
    subst hk
    rw [List.append_nil]
    have hn0 : n = 0 := hn
    subst hn0
    refine ⟨v, W, ?_, h1, Below.refl _ _, KeepT.refl _⟩
    rcases h1 with ⟨_, rfl⟩ | ⟨g, cap, more, rfl, hg, ho, r1, r2, r3⟩
    · simp [Builtin.append_, run_underlying Try.underlying36, sizeOf, typeInfo, hi, Builtin.lenOf, Builtin.firstCells]
    · simp [Builtin.append_, run_underlying Try.underlying36, sizeOf, typeInfo, hi, Builtin.lenOf, Builtin.firstCells, r1, storeCells]
  | some ad =>
    have hnews : ∀ j u, (cellsB k)[j]? = some u → W.cell? (ad.add j) = some u := fun j u hu => by
      have hl : 0 < (cellsB k).length := by
        rcases Nat.lt_or_ge j (cellsB k).length with h | h
        · omega
        · rw [List.getElem?_eq_none h] at hu; cases hu
      obtain ⟨b, off, e, hb, hc⟩ := hr hl
      injection e with e
      subst e
      rw [add_off]
      exact hc j u hu
    have hown : W.ownsRow B 5 1 v l.length (cellsB l) := by
      rcases h1 with ⟨rfl, rfl⟩ | ⟨g, cap, more, rfl, hg, ho, r1, r2, r3⟩
      · exact World.ownsRow_nil _ _ _ _
      · exact owns_of_own ho hg (by rw [length_cellsB, Nat.mul_one]) r1 r2 (by rw [r3, Nat.mul_one])
    obtain ⟨v', w', e, hown', hgrow, hnil, hblk⟩ := run_append_own_at (P := Try.prog) W B 36 ty 5 i0 (.int .u8 0) 1 1 Try.underlying36 hi hz0 hz1 hz2 rfl (by decide) v l.length (cellsB l) hown ad n c (cellsB k) (by rw [length_cellsB, Nat.mul_one]; exact hn.symm) hnews cellsB_one (by unfold maxLen; omega) (by omega) hB
    refine ⟨v', w', e, ?_, ?_, ?_⟩
    · by_cases hv : v' = .slice none 0 0
      · obtain ⟨hv0, hm0⟩ := hnil.1 hv
        refine .inl ⟨?_, hv⟩
        have : k = [] := List.eq_nil_of_length_eq_zero (by omega)
        subst this
        rcases h1 with ⟨rfl, _⟩ | ⟨g, cap, more, e, _⟩
        · rfl
        · rw [e] at hv0; cases hv0
      · obtain ⟨g', cap', more', rfl, hg', hO, p1, p2, p3⟩ := row_own hown' hv
        rw [← cellsB_append] at hO p3
        exact .inr ⟨g', cap', more', by rw [List.length_append, hn], hg', hO, by rw [List.length_append, ← hn]; exact p1, p2, by rw [p3, Nat.mul_one]⟩
    · rcases h1 with ⟨_, rfl⟩ | ⟨g, cap, more, rfl, hg, ho, _⟩
      · exact (below_none hgrow).mono hB
      · exact grown_below hgrow hg hB
    · intro g2 t2 vs2 ht hO2
      rcases h1 with ⟨_, rfl⟩ | ⟨g, cap, more, rfl, hg, ho, _⟩
      · exact hO2.below' (below_none hgrow)
      · exact hO2.grown' ho ht hgrow
theorem wpList_append_bytes {ops : Array Oper} {rest : List Oper} {o : Oper} {a : Act} {Q : Exit → Act → World → Prop} (hgd : o.guard = none) (s x : Operand)
    (ho : o.op = .call { callee := .builtin .append, args := #[s, x], argTypes := #[36, 36] }) (A : Option Addr) (n c : Nat) (hs : a.eval s = v) (hx : a.eval x = .slice A n c) (h1 : RowB B W v l) (hn : n = k.length) (hr : Rd W A (cellsB k)) (hsz : l.length + n ≤ 1000000) (hB : B ≤ W.heap.size)
    (h : ∀ v' w', RowB B w' v' (l ++ k) → Below B W w' → KeepT W w' → wpList Try.prog ops Q rest (a.put o.dst v') w') : wpList Try.prog ops Q (o :: rest) a W := by
  obtain ⟨v', w', e, q1, q2, q3⟩ := run_append_bytes o.type A n c h1 hn hr hsz hB
  refine wpList_plain hgd fun K hK => ?_
  unfold Oper.wp execOp
  simp only [ho, resolve, invoke, builtin, Sem.run_bind, Sem.run_pure, Result.andThen_ok, List.map_toArray, List.map_cons, List.map_nil, hs, hx, e]
  exact hK _ _ (h v' w' q1 q2 q3)
end
/-- A number's bytes. -/
def four (n : Nat) : List UInt8 := [UInt8.ofNat (n / 16777216), UInt8.ofNat (n / 65536), UInt8.ofNat (n / 256), UInt8.ofNat n]
theorem four_cells {n : Nat} (h : n ≤ 1000) : cellsB (four n) = [.int .u8 ((n : Int) / 16777216), .int .u8 ((n : Int) / 65536), .int .u8 ((n : Int) / 256), .int .u8 ((n : Int) % 256)] := by
  have e1 : (UInt8.ofNat (n / 16777216)).toNat = n / 16777216 := by rw [UInt8.toNat_ofNat']; omega
  have e2 : (UInt8.ofNat (n / 65536)).toNat = n / 65536 := by rw [UInt8.toNat_ofNat']; omega
  have e3 : (UInt8.ofNat (n / 256)).toNat = n / 256 := by rw [UInt8.toNat_ofNat']; omega
  have e4 : (UInt8.ofNat n).toNat = n % 256 := by rw [UInt8.toNat_ofNat']
  unfold cellsB Lib.numsL four
  simp only [List.map_cons, List.map_nil, e1, e2, e3, e4]
  simp
def NumPost (B bx : Nat) (w : World) (l : List UInt8) (e : Ending) (w' : World) : Prop := e = .returned (.tuple #[]) ∧ ∃ v, Own w' bx 36 [v] ∧ RowB B w' v l ∧ Below B w w'
set_option maxRecDepth 100000 in
set_option maxHeartbeats 4000000 in
theorem number_any (n bx B : Nat) (v : Value) (l : List UInt8) (w : World) (ho : Own w bx 36 [v]) (hr : RowB B w v l) (hn : n ≤ 1000) (hl : l.length ≤ 100000) (hB : B ≤ bx) :
    Calls Try.prog 31 #[.int .i64 n, .pointer (some ⟨bx, 0, none⟩)] w (NumPost B bx w (l ++ four n)) := by
  have HO := Lib.hid ho; have HR := Lib.hid hr
  have c0 : w.cell? ⟨bx, 0, none⟩ = some v := ho.cell 0
  have z0 := ho.lt
  clear ho hr
  go_enter Try.func31, Try.ntmps31
  have HX := Lib.hid (show Own (w.alloc (.cells #[.int .u8 ((n : Int) / 16777216), .int .u8 ((n : Int) / 65536), .int .u8 ((n : Int) / 256), .int .u8 ((n : Int) % 256)] 5)) w.heap.size 5 (cellsB (four n)) by rw [four_cells hn]; exact Own.new w _ _)
  have HRa := Lib.hid (HR.out.below (alloc_below w (.cells #[.int .u8 ((n : Int) / 16777216), .int .u8 ((n : Int) / 65536), .int .u8 ((n : Int) / 256), .int .u8 ((n : Int) % 256)] 5)))
  have HOa := Lib.hid (HO.out.alloc (.cells #[.int .u8 ((n : Int) / 16777216), .int .u8 ((n : Int) / 65536), .int .u8 ((n : Int) / 256), .int .u8 ((n : Int) % 256)] 5))
  go_wp2_with (at_builtin; refine wpList_append_bytes rfl (.tmp 3) (.tmp 15) rfl (some ⟨w.heap.size, 0, none⟩) 4 4 (k := four n) rfl rfl HRa.out rfl HX.out.rd (by omega) (by simp; omega) ?_)
  intro v' w1 hr1 hb1 hk1
  have HO1 := Lib.hid (hk1 _ _ _ (by decide) HOa.out)
  have q1 := HO1.out.cell 0; have f1 := HO1.out.frozen 0; have z1 := HO1.out.lt
  rcases hr1 with ⟨h0, _⟩ | ⟨g, cap, more, rfl, hg, ho1, r1⟩
  · exact absurd (congrArg List.length h0) (by simp [four])
  · have HR1 := Lib.hid (show RowB B w1 (.slice (some ⟨g, 0, none⟩) (l ++ four n).length cap) (l ++ four n) from .inr ⟨g, cap, more, rfl, hg, ho1, r1⟩)
    have HB1 := Lib.hid (((Below.refl B w).alloc (by omega) (.cells #[.int .u8 ((n : Int) / 16777216), .int .u8 ((n : Int) / 65536), .int .u8 ((n : Int) / 256), .int .u8 ((n : Int) % 256)] 5)).trans hb1)
    clear hb1 hk1 ho1 r1 hg
    generalize l ++ four n = L at HR1 ⊢
    have q1 : w1.cell? ⟨bx, 0, none⟩ = some v := q1
    go_wp2
    go_end0
    exact ⟨rfl, _, HO1.out.set 0 _, HR1.out.far HO1.out (by decide) 0 _, HB1.out.setCell (p := ⟨bx, 0, none⟩) hB _⟩
def wordB (l : List UInt8) : List UInt8 := four l.length ++ l
def bytesW (ws : List (List UInt8)) : List UInt8 := four ws.length ++ ws.flatMap wordB
def bytesK (ws : List (List UInt8)) (k : Nat) : List UInt8 := four ws.length ++ (ws.take k).flatMap wordB
theorem bytesK_step {ws : List (List UInt8)} {k : Nat} {l : List UInt8} (h : ws[k]? = some l) : bytesK ws (k + 1) = (bytesK ws k ++ four l.length) ++ l := by
  unfold bytesK
  rw [List.take_add_one, h]
  simp [wordB]
theorem bytesK_len {ws : List (List UInt8)} (hs : ∀ l ∈ ws, l.length ≤ 60) (k : Nat) : (bytesK ws k).length ≤ 4 + 64 * k := by
  induction k with
  | zero => simp [bytesK, four]
  | succ k ih =>
    cases h : ws[k]? with
    | none =>
      have h1 := List.getElem?_eq_none_iff.1 h
      have : bytesK ws (k + 1) = bytesK ws k := by unfold bytesK; rw [List.take_of_length_le (by omega), List.take_of_length_le (by omega)]
      rw [this]; omega
    | some l =>
      have := hs l (List.mem_of_getElem? h)
      rw [bytesK_step h]
      simp only [List.length_append]
      have h4 : (four l.length).length = 4 := rfl
      omega
/-- Bytes in new memory. -/
def FreshY (w : World) (l : List UInt8) (e : Ending) (w' : World) : Prop := ∃ v, e = .returned v ∧ RowB w.heap.size w' v l ∧ Below w.heap.size w w'
def BytL (w : World) (n : Nat) (ws : List (List UInt8)) (i : Value) (wr : World) : Prop := ∃ k : Nat, k ≤ n ∧ i = .int .i64 k ∧ ∃ v, Own wr w.heap.size 36 [v] ∧ RowB w.heap.size wr v (bytesK ws k) ∧ Below w.heap.size w wr
set_option maxRecDepth 100000 in
set_option maxHeartbeats 4000000 in
theorem bytes_any (A : Option Addr) (c n : Nat) (ws : List (List UInt8)) (w : World) (hr : RdW w A ws) (hl : n = ws.length) (hn : n ≤ 60) (hs : ∀ l ∈ ws, l.length ≤ 60) :
    Calls Try.prog 19 #[.slice A n c] w (FreshY w (bytesW ws)) := by
  have HR := Lib.hid hr
  have HL := Lib.hid hl; have HS := Lib.hid hs
  clear hr hl hs
  go_enter Try.func19, Try.ntmps19
  go_wp2_with fail
  refine (number_any n w.heap.size w.heap.size (.slice none 0 0) [] _ (Own.new' (vs := [.slice none 0 0]) rfl) (.inl ⟨rfl, rfl⟩) (by omega) (by simp) (Nat.le_refl _)).mono ?_
  rintro e w1 ⟨rfl, v1, ho1, hr1, hb1⟩
  have HO1 := Lib.hid ho1
  have HR1 := Lib.hid (show RowB w.heap.size w1 v1 (bytesK ws 0) by rw [List.nil_append] at hr1; unfold bytesK; rw [List.take_zero, List.flatMap_nil, List.append_nil, ← HL.out]; exact hr1)
  have HB1 := Lib.hid ((alloc_below w (.cells #[.slice none 0 0] 36)).trans hb1)
  clear ho1 hr1 hb1
  go_wp2
  go_loopw [6, 14] (fun _ i wr => BytL w n ws i wr) (fun _ i _ => n - (intOf i).toNat)
  case atStart => exact ⟨0, Nat.zero_le _, rfl, v1, HO1.out, HR1.out, HB1.out⟩
  case round =>
    obtain ⟨k, hk, rfl, v, ho, hrow, hbw⟩ := hrel
    have HB := Lib.hid hbw; have HO := Lib.hid ho; have HW := Lib.hid hrow
    have hb0 := hbw.size
    clear hbw ho hrow HO1 HR1 HB1
    by_cases hlt : k < n
    · obtain ⟨b, off, h0, h1⟩ := HR.out.at
      have hA := (h0 (by have := HL.out; omega)).1
      have hbl := (h0 (by have := HL.out; omega)).2
      subst hA
      obtain ⟨l, hl⟩ : ∃ l, ws[k]? = some l := ⟨_, List.getElem?_eq_getElem (by have := HL.out; omega)⟩
      obtain ⟨B', c', hc0, hrl⟩ := h1 k l hl
      have hc : wr.cell? ⟨b, off + k, none⟩ = some (.slice B' l.length c') := ((below_cells HB.out).1 _ _ hbl).trans hc0
      have hl1 : l.length ≤ 60 := HS.out l (List.mem_of_getElem? hl)
      have hlen := bytesK_len HS.out k
      have HT := Lib.hid (bytesK_step hl)
      have HRL := Lib.hid hrl
      clear h0 h1 hl hrl hc0
      go_wp2_with fail
      refine (number_any l.length w.heap.size w.heap.size v (bytesK ws k) _ HO.out HW.out (by omega) (by omega) (Nat.le_refl _)).mono ?_
      rintro e w2 ⟨rfl, v2, ho2, hr2, hb2⟩
      have q2 : w2.cell? ⟨w.heap.size, 0, none⟩ = some v2 := ho2.cell 0
      have z2 := ho2.lt
      have HO2 := Lib.hid ho2; have HR2 := Lib.hid hr2; have HB2 := Lib.hid (HB.out.trans hb2)
      have HRL2 := Lib.hid (HRL.out.below HB2.out)
      have h4 : (four l.length).length = 4 := rfl
      have hlen2 : (bytesK ws k ++ four l.length).length ≤ 8 + 64 * k := by rw [List.length_append]; omega
      clear ho2 hr2 hb2 h4
      go_wp2_with (at_builtin; refine wpList_append_bytes rfl (.tmp 22) (.tmp 23) rfl B' l.length c' (k := l) rfl rfl HR2.out rfl HRL2.out (by omega) (by omega) ?_)
      intro v3 w3 hr3 hb3 hk3
      have HO3 := Lib.hid (hk3 _ _ _ (by decide) HO2.out)
      have q3 : w3.cell? ⟨w.heap.size, 0, none⟩ = some v2 := HO3.out.cell 0
      have f3 := HO3.out.frozen 0; have z3 := HO3.out.lt
      have HR3 := Lib.hid (show RowB w.heap.size w3 v3 (bytesK ws (k + 1)) by rw [HT.out, List.append_assoc]; exact hr3)
      have HB3 := Lib.hid (HB2.out.trans hb3)
      have hne : bytesK ws (k + 1) ≠ [] := by unfold bytesK; simp [four]
      have hv3 : ∃ A m d, v3 = .slice A m d := by
        rcases HR3.out with ⟨h0, _⟩ | ⟨g, cap, more, e, _⟩
        · exact absurd h0 hne
        · exact ⟨_, _, _, e⟩
      obtain ⟨A3, m3, d3, rfl⟩ := hv3
      clear hr3 hb3 hk3 hne
      go_wp2
      go_roundw
      case rel => exact ⟨k + 1, by omega, by go_num, _, HO3.out.set 0 _, HR3.out.far HO3.out (by decide) 0 _, HB3.out.setCell (p := ⟨w.heap.size, 0, none⟩) (Nat.le_refl _) _⟩
      case measure => simp [intOf]; omega
    · obtain rfl : k = n := by omega
      have q3 : wr.cell? ⟨w.heap.size, 0, none⟩ = some v := HO.out.cell 0
      have HT := Lib.hid (show bytesK ws k = bytesW ws by unfold bytesK bytesW; rw [List.take_of_length_le (by have := HL.out; omega)])
      go_wp2
      go_ret
      exact ⟨v, rfl, by rw [← HT.out]; exact HW.out, HB.out⟩
end Go.Proofs.Ytmfeponanjgapaa
