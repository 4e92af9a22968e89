/- Walk: fretworklaw01.StrandLimits. -/
import Derived.Test.YtnhlenagojbigaaStrN
import Derived.Test.YtnhlenagojbigaaStrP
import Derived.Test.YtnhlenagojbigaaStrQ
import Derived.Test.YtnhlenagojbigaaStrS
namespace Go.Proofs.Ytnhlenagojbigaa
open Go.RowKit

/-- The bits of a strand of as many as there may be: all nought, but for the last byte. -/
def mostF (x i : Nat) : Bool := decide (4194296 ≤ i ∧ i < 4194304) && x.testBit (7 - i % 8)
theorem most_RS (x : Nat) : RS 4194304 524288 (mostF x) :=
  ⟨Nat.le_refl _, rfl, fun i hi => by unfold mostF; rw [decide_eq_false (by omega), Bool.false_and]⟩
theorem most_set (x : Nat) (hx : x < 256) : (cellsF (fun _ => false) 524288).set 524287 (.int .u8 (x : Nat)) = cellsF (mostF x) 524288 := by
  refine cellsF_set (f := fun _ => false) (g := mostF x) (q := 524287) (eq_byteF hx fun t ht => ?_) fun i _ h2 => ?_
  · unfold mostF
    rw [decide_eq_true (by omega), Bool.true_and]
    congr 1; omega
  · unfold mostF; rw [decide_eq_false (by omega), Bool.false_and]
theorem mk_most (T : Nat) (hT : T = 524288) (W : World) : (Instr.makeSlice 22 (.int .i64 524288) (.int .i64 524288)).run Try.prog W = .ok (.slice (some ⟨W.heap.size, 0, none⟩) T T) (W.alloc (.cells (cellsF (fun _ => false) T).toArray 5)) := by
  have h := mk_bytes T (by omega) W
  rw [hT] at h ⊢
  exact h

theorem most_at (x T : Nat) (hx : x < 256) (hT : T = 524288) : (cellsF (fun _ => false) T).set (T - 1) (.int .u8 (x : Int)) = cellsF (mostF x) T := by
  subst hT
  exact most_set x hx
theorem most_cut_RS {k m : Nat} (x : Nat) (h : k + m = 4194304) : RS m ((m + 7) / 8) (cutF (mostF x) 0 m) := cutF_RS (by omega)
theorem most_RS' {T : Nat} (x : Nat) (hT : T = 524288) : RS 4194304 T (mostF x) := by rw [hT]; exact most_RS x
theorem cut_most (A : Option Addr) (n c k m x : Nat) (w : World) (q : Int) (hr : Rd w A (cellsF (mostF x) n)) (hT : n = 524288) (hk : k + m = 4194304) (hq : q = m) :
    Calls Try.prog 22 #[.agg #[.slice A n c, .int .i64 4194304], .int .i64 0, .int .i64 q] w (GoodS w m (cutF (mostF x) 0 m)) := by
  subst hq
  exact cut_at A n c 4194304 0 m m (mostF x) w hr (most_RS' x hT) (by omega) (by omega) (by omega)
theorem field_zero (A : Option Addr) (n c L wd M : Nat) (f : Nat → Bool) (w : World) (hr : Rd w A (cellsF f n)) (hs : RS L n f) (hw : wd ≤ 64) (hM : L + wd = M ∧ M ≤ 4194304) :
    Calls Try.prog 25 #[.agg #[.slice A n c, .int .i64 L], .int .u64 0, .int .i64 wd] w (GoodS w M (putF f L 0 wd)) :=
  field_at A n c L wd M 0 f w hr hs hw (Nat.two_pow_pos _) hM.1 hM.2
theorem field_over (A : Option Addr) (n c L wd : Nat) (f : Nat → Bool) (w : World) (hr : Rd w A (cellsF f n)) (hs : RS L n f) (hw : wd + 1 ≤ 64) (h : 4194304 < L + (wd + 1)) :
    Calls Try.prog 25 #[.agg #[.slice A n c, .int .i64 L], .int .u64 0, .int .i64 ((wd : Int) + 1)] w (BadS w 3) :=
  field_long A n c L (wd + 1) 0 f w hr hs hw (Nat.two_pow_pos _) h
theorem join_over (A A' : Option Addr) (n c c' T m x : Nat) (f : Nat → Bool) (w : World) (hr : Rd w A (cellsF f n)) (hs : RS m n f) (hr' : Rd w A' (cellsF (mostF x) T)) (hT : T = 524288) (h : 0 < m) :
    Calls Try.prog 18 #[.agg #[.slice A n c, .int .i64 m], .agg #[.slice A' T c', .int .i64 4194304]] w (BadS w 3) :=
  join_long A A' n c T c' m 4194304 f (mostF x) w hr hs hr' (most_RS' x hT) (by omega)
theorem knot_most (A : Option Addr) (T c x : Nat) (w : World) (hr : Rd w A (cellsF (mostF x) T)) (hT : T = 524288) :
    Calls Try.prog 20 #[.agg #[.slice A T c, .int .i64 4194304], .int .u64 0] w (BadS w 3) :=
  knot_long A T c 4194304 0 (mostF x) w hr (most_RS' x hT) (by omega) (by have := (digits_bound 0 (by omega)).1; omega)
theorem pack_most (A : Option Addr) (T c x : Nat) (w : World) (hr : Rd w A (cellsF (mostF x) T)) (hT : T = 524288) :
    Calls Try.prog 12 #[.agg #[.slice A T c, .int .i64 4194304]] w (GoodB w (T + 1) (packF (mostF x) 4194304)) := by
  have h := pack_good A T c 4194304 (mostF x) w hr (most_RS' x hT)
  rw [show 4194304 / 8 + 1 = T + 1 by omega] at h
  exact h
theorem right_most (A : Option Addr) (T c x : Nat) (w : World) (hr : Rd w A (cellsF (mostF x) T)) (hT : T = 524288) :
    Calls Try.prog 13 #[.agg #[.slice A T c, .int .i64 4194304]] w fun e w' => e = .returned (.bool true) ∧ Below w.heap.size w w' := by
  have h := right_any' A T c 4194304 (mostF x) w (ArgS.of hr (most_RS' x hT)) (by omega)
  rw [show (4194304 : Int) = ((4194304 : Nat) : Int) from rfl, (most_RS' x hT).rightB] at h
  exact h
theorem unpack_most (A : Option Addr) (T B x : Nat) (w : World) (hr : Rd w A (cellsF (packF (mostF x) 4194304) (T + 1))) (hT : T = 524288) (hB : B = 4194304) :
    Calls Try.prog 11 #[.slice A (T + 1) (T + 1)] w (GoodS w B (mostF x)) := by
  subst hB
  have R := most_RS' x hT
  have p := packF_unpack R
  rw [show 4194304 / 8 + 1 = T + 1 by omega] at p
  have h := unpack_good A (T + 1) (T + 1) (packF (mostF x) 4194304) w hr (by omega) (by omega) p.1 (by rw [p.2]; omega)
  rw [p.2, cutTo_packF R] at h
  exact h

theorem Own.add {w : World} {g : Nat} {t : TypeId} {vs : List Value} (h : Own w g t vs) {j : Nat} {u : Value} (hu : vs[j]? = some u) : w.cell? ((⟨g, 0, none⟩ : Addr).add j) = some u := by
  have h1 := h.cell j
  rw [hu] at h1
  unfold Addr.add
  split
  · rename_i e; subst e; exact h1
  · simpa using h1
theorem own_slice {w : World} {base size n : Nat} {e : TypeId} {v : Value} {xs : List Value} (h : w.ownsRow base e size v n xs) (hn : 0 < n) : ∃ g cap, v = .slice (some ⟨g, 0, none⟩) n cap := by
  rcases h.2 with ⟨_, h0⟩ | ⟨g, cap, cur, rfl, _⟩
  · omega
  · exact ⟨g, cap, rfl⟩
theorem below_none {w w' : World} (h : w.grownBy w' none) : Below w.heap.size w w' := ⟨h.os, h.tape, h.output, h.size, fun k hk => h.block k hk (by simp)⟩

set_option maxRecDepth 100000 in
set_option maxHeartbeats 8000000 in
theorem strandLimits_true (y x : Nat) (w : World) (hy : y < 256) (hx : x < 256) :
    Calls Try.prog 7 #[.int .u8 y, .int .u8 x] w fun e w' => e = .returned (.bool true) ∧ Below w.heap.size w w' := by
  have hb := Lib.hid (Below.refl w.heap.size w)
  obtain ⟨k, hk⟩ : ∃ k, k = y % 64 := ⟨_, rfl⟩
  have hkI : (y : Int) % 64 = (k : Int) := by omega
  have hk64 : k < 64 := by omega
  obtain ⟨m, hm⟩ : ∃ m, m = 4194304 - k := ⟨_, rfl⟩
  have Hkm := Lib.hid (show k + m = 4194304 by omega)
  clear hk hm
  obtain ⟨T, hT⟩ : ∃ T : Nat, T = 524288 := ⟨_, rfl⟩
  obtain ⟨B, hB⟩ : ∃ T : Nat, T = 4194304 := ⟨_, rfl⟩
  have hmk := mk_most T hT
  have HT := Lib.hid hT
  have HB := Lib.hid hB
  have hT1 : T ≤ 524288 := by omega
  have hT2 : 524288 ≤ T := by omega
  have hTI : ((T : Nat) : Int) - 1 < (T : Int) := by omega
  have tB : ((B : Int) != 4194304) = false := by rw [bne_eq_false_iff_eq, hB]; rfl
  have tT : (((T + 1 : Nat) : Int) != 524289) = false := by rw [bne_eq_false_iff_eq, hT]; rfl
  have hss := Lib.hid (show sameS (mostF x) ((B + 7) / 8) B (mostF x) T 4194304 = true by rw [hB, hT]; exact sameS_self)
  clear hT hB
  go_enter Try.func7, Try.ntmps7
  go_upto_region 3 with (fail)
  have oG := Lib.hid ((Own.new' (g := w.heap.size) (t := 5) (vs := cellsF (fun _ => false) T) (w := w) rfl).alloc (.cells #[.slice (some ⟨w.heap.size, 0, none⟩) T T, .int .i64 4194304] 24))
  have O6 := Lib.hid (Own.new' (g := w.heap.size + 1) (t := 24) (vs := [.slice (some ⟨w.heap.size, 0, none⟩) T T, .int .i64 4194304]) (w := w.alloc (.cells (cellsF (fun _ => false) T).toArray 5)) (by simp))
  have hb0 := Lib.hid ((hb.out.alloc (Nat.le_refl _) (.cells (cellsF (fun _ => false) T).toArray 5)).alloc (by simp) (.cells #[.slice (some ⟨w.heap.size, 0, none⟩) T T, .int .i64 4194304] 24)); clear hb; have hb := hb0; clear hb0
  have hs0 : w.heap.size + 2 ≤ ((w.alloc (.cells (cellsF (fun _ => false) T).toArray 5)).alloc (.cells #[.slice (some ⟨w.heap.size, 0, none⟩) T T, .int .i64 4194304] 24)).heap.size := by simp
  obtain ⟨W0, hW0⟩ : ∃ W, W = (w.alloc (.cells (cellsF (fun _ => false) T).toArray 5)).alloc (.cells #[.slice (some ⟨w.heap.size, 0, none⟩) T T, .int .i64 4194304] 24) := ⟨_, rfl⟩
  rw [← hW0] at hb oG O6 hs0 ⊢
  clear hW0
  have fG := oG.out.frozen
  have cG : W0.cell? ⟨w.heap.size, T - 1, none⟩ = some (.int .u8 (byteF (fun _ => false) (T - 1) : Nat)) := (oG.out.cell _).trans (cellsF_at _ _ _ (by omega))
  have q6 := O6.out.cell
  go_upto_region 4 with (fail)
  have oG1 := Lib.hid (oG.out.set (T - 1) (.int .u8 (x : Int)))
  have O61 := Lib.hid (O6.out.far (p := ⟨w.heap.size, T - 1, none⟩) (by simp) (.int .u8 (x : Int)))
  have hb1 := Lib.hid (hb.out.setCell (p := ⟨w.heap.size, T - 1, none⟩) (by simp) (.int .u8 (x : Int)))
  have hs1 : W0.heap.size ≤ (W0.setCell ⟨w.heap.size, T - 1, none⟩ (.int .u8 (x : Int))).heap.size := by simp [World.setCell]
  obtain ⟨W1, hW1⟩ : ∃ W, W = W0.setCell ⟨w.heap.size, T - 1, none⟩ (.int .u8 (x : Int)) := ⟨_, rfl⟩
  rw [← hW1] at oG1 O61 hb1 hs1 ⊢
  rw [most_at x T hx HT.out] at oG1
  clear hW1 oG O6 hb fG cG q6 hmk hT1 hT2 hTI
  have OG := oG1; have O6 := O61; have hb := hb1
  clear oG1 O61 hb1
  have qO6 := O6.out.cell; have zO6 := O6.out.lt
  go_wp2_with fail
  refine (cut_most _ T T k m x _ _ OG.out.rd HT.out Hkm.out (by have := Hkm.out; omega)).mono ?_
  rintro e w1 ⟨gn, rfl, hgn, hOn, hbk⟩
  have OG' := Lib.hid (OG.out.below' hbk)
  have O6' := Lib.hid (O6.out.below' hbk)
  have hb' := Lib.hid (hb.out.trans (hbk.mono (by have := hb.out.size; simp; try omega)))
  have hs1 := hbk.size
  clear qO6 zO6
  clear hb hbk OG O6
  have hb := hb'; clear hb'
  have OG := OG'; clear OG'
  have O6 := O6'; clear O6'
  have ON := Lib.hid hOn; clear hOn
  have qO6 := O6.out.cell; have zO6 := O6.out.lt
  go_wp2_with fail
  refine (field_zero _ _ _ m k B _ _ (ON.out.alloc _).rd (most_cut_RS x Hkm.out) (by omega) (by have := Hkm.out; have := HB.out; omega)).mono ?_
  rintro e w2 ⟨gw, rfl, hgw, hOw, hbk⟩
  have OG' := Lib.hid ((OG.out.alloc _).below' hbk)
  have O6' := Lib.hid ((O6.out.alloc _).below' hbk)
  have ON' := Lib.hid ((ON.out.alloc _).below' hbk)
  have O7' := Lib.hid (Own.below' (Own.new' (g := w1.heap.size) (w := w1) rfl) hbk)
  have hb' := Lib.hid ((hb.out.alloc (by have := hb.out.size; simp; try omega) _).trans (hbk.mono (by have := hb.out.size; simp; try omega)))
  have hs2 := hbk.size
  simp only [World.size_alloc] at hs2
  clear qO6 zO6
  clear hb hbk OG O6 ON
  have hb := hb'; clear hb'
  have OG := OG'; clear OG'
  have O6 := O6'; clear O6'
  have ON := ON'; clear ON'
  have O7 := O7'; clear O7'
  have OW := Lib.hid hOw; clear hOw
  have qO6 := O6.out.cell; have zO6 := O6.out.lt
  have qO7 := O7.out.cell; have zO7 := O7.out.lt
  go_wp2_with fail
  refine (field_over _ _ _ m k _ _ (ON.out.alloc _).rd (most_cut_RS x Hkm.out) (by omega) (by have := Hkm.out; omega)).mono ?_
  rintro e w3 ⟨rfl, hbk⟩
  have OG' := Lib.hid ((OG.out.alloc _).below' hbk)
  have O6' := Lib.hid ((O6.out.alloc _).below' hbk)
  have ON' := Lib.hid ((ON.out.alloc _).below' hbk)
  have O7' := Lib.hid ((O7.out.alloc _).below' hbk)
  have OW' := Lib.hid ((OW.out.alloc _).below' hbk)
  have O9' := Lib.hid (Own.below' (Own.new' (g := w2.heap.size) (w := w2) rfl) hbk)
  have hb' := Lib.hid ((hb.out.alloc (by have := hb.out.size; simp; try omega) _).trans (hbk.mono (by have := hb.out.size; simp; try omega)))
  have hs3 := hbk.size
  simp only [World.size_alloc] at hs3
  clear qO6 zO6 qO7 zO7
  clear hb hbk OG O6 ON O7 OW
  have hb := hb'; clear hb'
  have OG := OG'; clear OG'
  have O6 := O6'; clear O6'
  have ON := ON'; clear ON'
  have O7 := O7'; clear O7'
  have OW := OW'; clear OW'
  have O9 := O9'; clear O9'
  have qO6 := O6.out.cell; have zO6 := O6.out.lt
  have qO7 := O7.out.cell; have zO7 := O7.out.lt
  have qO9 := O9.out.cell; have zO9 := O9.out.lt
  go_wp2_with fail
  refine (join_over _ _ _ _ _ T m x _ _ (ON.out.alloc _).rd (most_cut_RS x Hkm.out) (OG.out.alloc _).rd HT.out (by have := Hkm.out; omega)).mono ?_
  rintro e w4 ⟨rfl, hbk⟩
  have OG' := Lib.hid ((OG.out.alloc _).below' hbk)
  have O6' := Lib.hid ((O6.out.alloc _).below' hbk)
  have ON' := Lib.hid ((ON.out.alloc _).below' hbk)
  have O7' := Lib.hid ((O7.out.alloc _).below' hbk)
  have OW' := Lib.hid ((OW.out.alloc _).below' hbk)
  have O9' := Lib.hid ((O9.out.alloc _).below' hbk)
  have O11' := Lib.hid (Own.below' (Own.new' (g := w3.heap.size) (w := w3) rfl) hbk)
  have hb' := Lib.hid ((hb.out.alloc (by have := hb.out.size; simp; try omega) _).trans (hbk.mono (by have := hb.out.size; simp; try omega)))
  have hs4 := hbk.size
  simp only [World.size_alloc] at hs4
  clear qO6 zO6 qO7 zO7 qO9 zO9
  clear hb hbk OG O6 ON O7 OW O9
  have hb := hb'; clear hb'
  have OG := OG'; clear OG'
  have O6 := O6'; clear O6'
  have ON := ON'; clear ON'
  have O7 := O7'; clear O7'
  have OW := OW'; clear OW'
  have O9 := O9'; clear O9'
  have O11 := O11'; clear O11'
  have qO6 := O6.out.cell; have zO6 := O6.out.lt
  have qO7 := O7.out.cell; have zO7 := O7.out.lt
  have qO9 := O9.out.cell; have zO9 := O9.out.lt
  go_wp2_with fail
  refine (knot_most _ T T x _ (OG.out.alloc _).rd HT.out).mono ?_
  rintro e w5 ⟨rfl, hbk⟩
  have OG' := Lib.hid ((OG.out.alloc _).below' hbk)
  have O6' := Lib.hid ((O6.out.alloc _).below' hbk)
  have ON' := Lib.hid ((ON.out.alloc _).below' hbk)
  have O7' := Lib.hid ((O7.out.alloc _).below' hbk)
  have OW' := Lib.hid ((OW.out.alloc _).below' hbk)
  have O9' := Lib.hid ((O9.out.alloc _).below' hbk)
  have O11' := Lib.hid ((O11.out.alloc _).below' hbk)
  have O13' := Lib.hid (Own.below' (Own.new' (g := w4.heap.size) (w := w4) rfl) hbk)
  have hb' := Lib.hid ((hb.out.alloc (by have := hb.out.size; simp; try omega) _).trans (hbk.mono (by have := hb.out.size; simp; try omega)))
  have hs5 := hbk.size
  simp only [World.size_alloc] at hs5
  clear qO6 zO6 qO7 zO7 qO9 zO9
  clear hb hbk OG O6 ON O7 OW O9 O11
  have hb := hb'; clear hb'
  have OG := OG'; clear OG'
  have O6 := O6'; clear O6'
  have ON := ON'; clear ON'
  have O7 := O7'; clear O7'
  have OW := OW'; clear OW'
  have O9 := O9'; clear O9'
  have O11 := O11'; clear O11'
  have O13 := O13'; clear O13'
  have qO6 := O6.out.cell; have zO6 := O6.out.lt
  have qO7 := O7.out.cell; have zO7 := O7.out.lt
  have qO9 := O9.out.cell; have zO9 := O9.out.lt
  go_wp2_with fail
  refine (pack_most _ T T x _ (OG.out.alloc _).rd HT.out).mono ?_
  rintro e w6 ⟨gb, rfl, hgb, hOb, hbk⟩
  have OG' := Lib.hid ((OG.out.alloc _).below' hbk)
  have O6' := Lib.hid ((O6.out.alloc _).below' hbk)
  have ON' := Lib.hid ((ON.out.alloc _).below' hbk)
  have O7' := Lib.hid ((O7.out.alloc _).below' hbk)
  have OW' := Lib.hid ((OW.out.alloc _).below' hbk)
  have O9' := Lib.hid ((O9.out.alloc _).below' hbk)
  have O11' := Lib.hid ((O11.out.alloc _).below' hbk)
  have O13' := Lib.hid ((O13.out.alloc _).below' hbk)
  have O15' := Lib.hid (Own.below' (Own.new' (g := w5.heap.size) (w := w5) rfl) hbk)
  have hb' := Lib.hid ((hb.out.alloc (by have := hb.out.size; simp; try omega) _).trans (hbk.mono (by have := hb.out.size; simp; try omega)))
  have hs6 := hbk.size
  simp only [World.size_alloc] at hs6
  clear qO6 zO6 qO7 zO7 qO9 zO9
  clear hb hbk OG O6 ON O7 OW O9 O11 O13
  have hb := hb'; clear hb'
  have OG := OG'; clear OG'
  have O6 := O6'; clear O6'
  have ON := ON'; clear ON'
  have O7 := O7'; clear O7'
  have OW := OW'; clear OW'
  have O9 := O9'; clear O9'
  have O11 := O11'; clear O11'
  have O13 := O13'; clear O13'
  have O15 := O15'; clear O15'
  have OB := Lib.hid hOb; clear hOb
  have qO6 := O6.out.cell; have zO6 := O6.out.lt
  have qO7 := O7.out.cell; have zO7 := O7.out.lt
  have qO9 := O9.out.cell; have zO9 := O9.out.lt
  go_wp2_with fail
  refine (right_most _ T T x _ OG.out.rd HT.out).mono ?_
  rintro e w7 ⟨rfl, hbk⟩
  have OG' := Lib.hid (OG.out.below' hbk)
  have O6' := Lib.hid (O6.out.below' hbk)
  have ON' := Lib.hid (ON.out.below' hbk)
  have O7' := Lib.hid (O7.out.below' hbk)
  have OW' := Lib.hid (OW.out.below' hbk)
  have O9' := Lib.hid (O9.out.below' hbk)
  have O11' := Lib.hid (O11.out.below' hbk)
  have O13' := Lib.hid (O13.out.below' hbk)
  have O15' := Lib.hid (O15.out.below' hbk)
  have OB' := Lib.hid (OB.out.below' hbk)
  have hb' := Lib.hid (hb.out.trans (hbk.mono (by have := hb.out.size; simp; try omega)))
  have hs7 := hbk.size
  clear qO6 zO6 qO7 zO7 qO9 zO9
  clear hb hbk OG O6 ON O7 OW O9 O11 O13 O15 OB
  have hb := hb'; clear hb'
  have OG := OG'; clear OG'
  have O6 := O6'; clear O6'
  have ON := ON'; clear ON'
  have O7 := O7'; clear O7'
  have OW := OW'; clear OW'
  have O9 := O9'; clear O9'
  have O11 := O11'; clear O11'
  have O13 := O13'; clear O13'
  have O15 := O15'; clear O15'
  have OB := OB'; clear OB'
  have qO6 := O6.out.cell; have zO6 := O6.out.lt
  have qO7 := O7.out.cell; have zO7 := O7.out.lt
  have qO9 := O9.out.cell; have zO9 := O9.out.lt
  go_wp2_with fail
  refine (unpack_most _ T B x _ OB.out.rd HT.out HB.out).mono ?_
  rintro e w8 ⟨gs, rfl, hgs, hOs, hbk⟩
  have OG' := Lib.hid (OG.out.below' hbk)
  have O6' := Lib.hid (O6.out.below' hbk)
  have ON' := Lib.hid (ON.out.below' hbk)
  have O7' := Lib.hid (O7.out.below' hbk)
  have OW' := Lib.hid (OW.out.below' hbk)
  have O9' := Lib.hid (O9.out.below' hbk)
  have O11' := Lib.hid (O11.out.below' hbk)
  have O13' := Lib.hid (O13.out.below' hbk)
  have O15' := Lib.hid (O15.out.below' hbk)
  have OB' := Lib.hid (OB.out.below' hbk)
  have hb' := Lib.hid (hb.out.trans (hbk.mono (by have := hb.out.size; simp; try omega)))
  have hs8 := hbk.size
  clear qO6 zO6 qO7 zO7 qO9 zO9
  clear hb hbk OG O6 ON O7 OW O9 O11 O13 O15 OB
  have hb := hb'; clear hb'
  have OG := OG'; clear OG'
  have O6 := O6'; clear O6'
  have ON := ON'; clear ON'
  have O7 := O7'; clear O7'
  have OW := OW'; clear OW'
  have O9 := O9'; clear O9'
  have O11 := O11'; clear O11'
  have O13 := O13'; clear O13'
  have O15 := O15'; clear O15'
  have OB := OB'; clear OB'
  have OS := Lib.hid hOs; clear hOs
  have qO6 := O6.out.cell; have zO6 := O6.out.lt
  have qO7 := O7.out.cell; have zO7 := O7.out.lt
  have qO9 := O9.out.cell; have zO9 := O9.out.lt
  go_upto_region 13 with (fail)
  obtain ⟨i0, hi, hz0, hz1, hz2⟩ := info_parts info5
  have oB := Lib.hid ((OB.out.alloc (.cells #[.slice (some ⟨gs, 0, none⟩) ((B + 7) / 8) ((B + 7) / 8), .int .i64 B] 24)).alloc (.cells #[.int .u8 1] 5))
  have I0 := Lib.hid hi; have I1 := Lib.hid hz0; have I2 := Lib.hid hz1; have I3 := Lib.hid hz2
  clear hi hz0 hz1 hz2
  go_wp2_with (at_builtin; refine wpList_append_grows _ rfl (.tmp 108) (.tmp 109) 22 rfl 5 i0 (.int .u8 0) 1 1 Try.underlying22 I0.out I1.out I2.out I3.out rfl (by omega) (some ⟨gb, 0, none⟩) (T + 1) (T + 1) (cellsF (packF (mostF x) 4194304) (T + 1)) rfl (fun h => by cases h) ?c1 (fun b hb j u hu => by injection hb with hb; subst hb; exact oB.out.add hu) ⟨w8.heap.size + 1, 0, none⟩ 1 1 [.int .u8 1] rfl rfl ?c2 ?c3 ?c4 ?c5 ?c6 ?c7)
  case c1 => rw [length_cellsF]; omega
  case c2 => exact fun j u hu => (Own.new' (g := w8.heap.size + 1) (t := 5) (vs := [.int .u8 1]) (by simp)).add hu
  case c3 => intro u hu; simp only [List.mem_singleton] at hu; subst hu; rfl
  case c4 => omega
  case c5 => unfold maxLen; have := HT.out; omega
  case c6 => have := HT.out; omega
  intro v' w9 hown hgrow
  obtain ⟨ga, ca, rfl⟩ := own_slice hown (by omega)
  have hbk := below_none hgrow
  clear hown hgrow oB
  have OG' := Lib.hid (((OG.out.alloc _).alloc _).below' hbk)
  have O6' := Lib.hid (((O6.out.alloc _).alloc _).below' hbk)
  have ON' := Lib.hid (((ON.out.alloc _).alloc _).below' hbk)
  have O7' := Lib.hid (((O7.out.alloc _).alloc _).below' hbk)
  have OW' := Lib.hid (((OW.out.alloc _).alloc _).below' hbk)
  have O9' := Lib.hid (((O9.out.alloc _).alloc _).below' hbk)
  have O11' := Lib.hid (((O11.out.alloc _).alloc _).below' hbk)
  have O13' := Lib.hid (((O13.out.alloc _).alloc _).below' hbk)
  have O15' := Lib.hid (((O15.out.alloc _).alloc _).below' hbk)
  have OB' := Lib.hid (((OB.out.alloc _).alloc _).below' hbk)
  have OS' := Lib.hid (((OS.out.alloc _).alloc _).below' hbk)
  have O19' := Lib.hid (Own.below' ((Own.new' (g := w8.heap.size) (w := w8) rfl).alloc _) hbk)
  have hb' := Lib.hid (((hb.out.alloc (by have := hb.out.size; simp; try omega) _).alloc (by have := hb.out.size; simp; try omega) _).trans (hbk.mono (by have := hb.out.size; simp; try omega)))
  have hs9 := hbk.size
  simp only [World.size_alloc] at hs9
  clear qO6 zO6 qO7 zO7 qO9 zO9
  clear hb hbk OG O6 ON O7 OW O9 O11 O13 O15 OB OS
  have hb := hb'; clear hb'
  have OG := OG'; clear OG'
  have O6 := O6'; clear O6'
  have ON := ON'; clear ON'
  have O7 := O7'; clear O7'
  have OW := OW'; clear OW'
  have O9 := O9'; clear O9'
  have O11 := O11'; clear O11'
  have O13 := O13'; clear O13'
  have O15 := O15'; clear O15'
  have OB := OB'; clear OB'
  have OS := OS'; clear OS'
  have O19 := O19'; clear O19'
  have qO6 := O6.out.cell; have zO6 := O6.out.lt
  have qO7 := O7.out.cell; have zO7 := O7.out.lt
  have qO9 := O9.out.cell; have zO9 := O9.out.lt
  have qO19 := O19.out.cell; have zO19 := O19.out.lt
  go_wp2_with fail
  refine (unpack_long _ _ _ _ (by have := HT.out; omega) (by have := HT.out; omega)).mono ?_
  rintro e w10 ⟨rfl, hbk⟩
  have OG' := Lib.hid (OG.out.below' hbk)
  have O6' := Lib.hid (O6.out.below' hbk)
  have ON' := Lib.hid (ON.out.below' hbk)
  have O7' := Lib.hid (O7.out.below' hbk)
  have OW' := Lib.hid (OW.out.below' hbk)
  have O9' := Lib.hid (O9.out.below' hbk)
  have O11' := Lib.hid (O11.out.below' hbk)
  have O13' := Lib.hid (O13.out.below' hbk)
  have O15' := Lib.hid (O15.out.below' hbk)
  have OB' := Lib.hid (OB.out.below' hbk)
  have OS' := Lib.hid (OS.out.below' hbk)
  have O19' := Lib.hid (O19.out.below' hbk)
  have hb' := Lib.hid (hb.out.trans (hbk.mono (by have := hb.out.size; simp; try omega)))
  have hs10 := hbk.size
  clear qO6 zO6 qO7 zO7 qO9 zO9 qO19 zO19
  clear hb hbk OG O6 ON O7 OW O9 O11 O13 O15 OB OS O19
  have hb := hb'; clear hb'
  have OG := OG'; clear OG'
  have O6 := O6'; clear O6'
  have ON := ON'; clear ON'
  have O7 := O7'; clear O7'
  have OW := OW'; clear OW'
  have O9 := O9'; clear O9'
  have O11 := O11'; clear O11'
  have O13 := O13'; clear O13'
  have O15 := O15'; clear O15'
  have OB := OB'; clear OB'
  have OS := OS'; clear OS'
  have O19 := O19'; clear O19'
  have qO6 := O6.out.cell; have zO6 := O6.out.lt
  have qO7 := O7.out.cell; have zO7 := O7.out.lt
  have qO9 := O9.out.cell; have zO9 := O9.out.lt
  have qO19 := O19.out.cell; have zO19 := O19.out.lt
  go_wp2_with fail
  refine (same_any _ _ _ _ _ _ _ _ (mostF x) (mostF x) _ OS.out.rd OG.out.rd).mono ?_
  rintro e w11 ⟨rfl, hbk⟩
  rw [hss.out]
  have OG' := Lib.hid (OG.out.below' hbk)
  have O6' := Lib.hid (O6.out.below' hbk)
  have ON' := Lib.hid (ON.out.below' hbk)
  have O7' := Lib.hid (O7.out.below' hbk)
  have OW' := Lib.hid (OW.out.below' hbk)
  have O9' := Lib.hid (O9.out.below' hbk)
  have O11' := Lib.hid (O11.out.below' hbk)
  have O13' := Lib.hid (O13.out.below' hbk)
  have O15' := Lib.hid (O15.out.below' hbk)
  have OB' := Lib.hid (OB.out.below' hbk)
  have OS' := Lib.hid (OS.out.below' hbk)
  have O19' := Lib.hid (O19.out.below' hbk)
  have hb' := Lib.hid (hb.out.trans (hbk.mono (by have := hb.out.size; simp; try omega)))
  have hs11 := hbk.size
  clear qO6 zO6 qO7 zO7 qO9 zO9 qO19 zO19
  clear hb hbk OG O6 ON O7 OW O9 O11 O13 O15 OB OS O19
  have hb := hb'; clear hb'
  have OG := OG'; clear OG'
  have O6 := O6'; clear O6'
  have ON := ON'; clear ON'
  have O7 := O7'; clear O7'
  have OW := OW'; clear OW'
  have O9 := O9'; clear O9'
  have O11 := O11'; clear O11'
  have O13 := O13'; clear O13'
  have O15 := O15'; clear O15'
  have OB := OB'; clear OB'
  have OS := OS'; clear OS'
  have O19 := O19'; clear O19'
  go_wp2_with fail
  refine (awake_true _).mono ?_
  rintro e w12 ⟨rfl, hbk⟩
  have OG' := Lib.hid (OG.out.below' hbk)
  have O6' := Lib.hid (O6.out.below' hbk)
  have ON' := Lib.hid (ON.out.below' hbk)
  have O7' := Lib.hid (O7.out.below' hbk)
  have OW' := Lib.hid (OW.out.below' hbk)
  have O9' := Lib.hid (O9.out.below' hbk)
  have O11' := Lib.hid (O11.out.below' hbk)
  have O13' := Lib.hid (O13.out.below' hbk)
  have O15' := Lib.hid (O15.out.below' hbk)
  have OB' := Lib.hid (OB.out.below' hbk)
  have OS' := Lib.hid (OS.out.below' hbk)
  have O19' := Lib.hid (O19.out.below' hbk)
  have hb' := Lib.hid (hb.out.trans (hbk.mono (by have := hb.out.size; simp; try omega)))
  have hs12 := hbk.size
  clear hb hbk OG O6 ON O7 OW O9 O11 O13 O15 OB OS O19
  have hb := hb'; clear hb'
  have OG := OG'; clear OG'
  have O6 := O6'; clear O6'
  have ON := ON'; clear ON'
  have O7 := O7'; clear O7'
  have OW := OW'; clear OW'
  have O9 := O9'; clear O9'
  have O11 := O11'; clear O11'
  have O13 := O13'; clear O13'
  have O15 := O15'; clear O15'
  have OB := OB'; clear OB'
  have OS := OS'; clear OS'
  have O19 := O19'; clear O19'
  go_wp2
  go_ret
  exact ⟨rfl, hb.out⟩
end Go.Proofs.Ytnhlenagojbigaa
