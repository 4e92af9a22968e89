/- Walk: perm.Apply (under way). -/
import Derived.Test.YtccaagildkgfeaaGf
import Derived.Test.YtccaagildkgfeaaIh
import Derived.Test.YtccaagildkgfeaaPostIn
namespace Go.Proofs.Ytccaagildkgfeaa
open Go.RowKit Go.Sort Go.Shelf
attribute [local go_sem] Oper.semAt_some

def atI (p : List Int) (x : Int) : Int := p.getD x.toNat 0
def appE (p : List Int) (E : List (Int × Int)) : List (Int × Int) := E.map fun e => (atI p e.1, atI p e.2)
def appO (N : Int) (E : List (Int × Int)) (p : List Int) : Except Int (List (Int × Int)) :=
  if rightG N E = true then (if rightP p = true ∧ (p.length : Int) = N then newO N (appE p E) else .error 30) else .error 20
theorem okE_all {N : Int} : ∀ {E : List (Int × Int)} {q : Option (Int × Int)}, okE N q E = true → ∀ e ∈ E, 0 ≤ e.1 ∧ e.1 < e.2 ∧ e.2 < N
  | [], _, _, e, h => by simp at h
  | f :: r, q, h, e, he => by
    unfold okE at h
    rw [Bool.and_eq_true, Bool.and_eq_true, Bool.and_eq_true, Bool.and_eq_true, decide_eq_true_eq, decide_eq_true_eq, decide_eq_true_eq] at h
    rcases List.mem_cons.1 he with rfl | he
    · exact ⟨h.1.1.1.1, h.1.1.1.2, h.1.1.2⟩
    · exact okE_all h.2 e he
theorem rightG_all {N : Int} {E : List (Int × Int)} (h : rightG N E = true) : N ≤ 200 ∧ E.length ≤ 594 ∧ ∀ e ∈ E, 0 ≤ e.1 ∧ e.1 < e.2 ∧ e.2 < N := by
  unfold rightG at h
  rw [Bool.and_eq_true, Bool.and_eq_true, Bool.and_eq_true, decide_eq_true_eq, decide_eq_true_eq, decide_eq_true_eq] at h
  exact ⟨h.1.1.2, h.1.2, okE_all h.2⟩
theorem set_edge (a b : Int) (R : List (Int × Int)) : ∀ (T : List (Int × Int)), ((cellsE (T ++ (0, 0) :: R)).set (T.length * 2) (.int .i64 a)).set (T.length * 2 + 1) (.int .i64 b) = cellsE (T ++ (a, b) :: R)
  | [] => rfl
  | f :: T => by
    have ih := set_edge a b R T
    rw [List.cons_append, cellsE_cons, List.cons_append, cellsE_cons, List.length_cons, show (T.length + 1) * 2 = T.length * 2 + 1 + 1 from by omega, List.set_cons_succ, List.set_cons_succ, List.set_cons_succ, List.set_cons_succ, ih]
/-- The edges turned so far, and room. -/
def appK (p : List Int) (E : List (Int × Int)) (k : Nat) : List (Int × Int) := appE p (E.take k) ++ List.replicate (E.length - k) (0, 0)
theorem length_appE (p : List Int) (E : List (Int × Int)) : (appE p E).length = E.length := by unfold appE; rw [List.length_map]
theorem appK_at {p : List Int} {E : List (Int × Int)} {k : Nat} (h : k < E.length) : (appK p E k)[k]? = some (0, 0) := by
  unfold appK
  rw [List.getElem?_append_right (by rw [length_appE, List.length_take]; omega), length_appE, List.length_take, Nat.min_eq_left (by omega), Nat.sub_self, List.getElem?_replicate, if_pos (by omega)]
theorem appK_set {p : List Int} {E : List (Int × Int)} {k : Nat} {e : Int × Int} (h : E[k]? = some e) : ((cellsE (appK p E k)).set (k * 2) (.int .i64 (atI p e.1))).set (k * 2 + 1) (.int .i64 (atI p e.2)) = cellsE (appK p E (k + 1)) := by
  have hk := (List.getElem?_eq_some_iff.1 h).1
  have e1 : appK p E k = appE p (E.take k) ++ (0, 0) :: List.replicate (E.length - (k + 1)) (0, 0) := by
    unfold appK
    rw [← List.replicate_succ, show E.length - (k + 1) + 1 = E.length - k by omega]
  have e2 : appK p E (k + 1) = appE p (E.take k) ++ (atI p e.1, atI p e.2) :: List.replicate (E.length - (k + 1)) (0, 0) := by
    unfold appK
    rw [List.take_add_one, h, show appE p (E.take k ++ (some e).toList) = appE p (E.take k) ++ [(atI p e.1, atI p e.2)] from List.map_append, List.append_assoc]
    rfl
  have hl : k = (appE p (E.take k)).length := by rw [length_appE, List.length_take]; omega
  have h3 := set_edge (atI p e.1) (atI p e.2) (List.replicate (E.length - (k + 1)) (0, 0)) (appE p (E.take k))
  rw [← hl] at h3
  rw [e1, e2, h3]
theorem appK_all (p : List Int) (E : List (Int × Int)) : appK p E E.length = appE p E := by
  unfold appK
  rw [List.take_length, Nat.sub_self, List.replicate_zero, List.append_nil]
theorem rowE_apart {B g : Nat} {W : World} {v : Value} {l : List (Int × Int)} {vs : List Value} (h : RowE B W v l) (ho : Own W g 34 vs) (x y : Value) : RowE B ((W.setCell ⟨g, 0, none⟩ x).setCell ⟨g, 1, none⟩ y) v l := by
  rcases h with h | ⟨g1, cap, more, e, hgb, h1, h⟩
  · exact .inl h
  · have hn := h1.ne ho (by decide)
    exact .inr ⟨g1, cap, more, e, hgb, (h1.far (p := ⟨g, 0, none⟩) hn x).far (p := ⟨g, 1, none⟩) hn y, h⟩
theorem wpIn_build2 {F : Fence} {nn : Nat} {a : Act} {W : World} {K : Act → World → Prop} {Q : Exit → Act → World → Prop} {o : Oper} {x y : Operand} {p q : Int} (ho : o.op = .build 57 #[(0, x), (1, y)]) (hx : a.eval x = .int .i64 p) (hy : a.eval y = .int .i64 q)
    (h : K (a.put o.dst (.agg #[.int .i64 p, .int .i64 q])) W) : o.wpIn F nn Try.prog a W K Q := by
  unfold Oper.wpIn
  refine ⟨by simp [Oper.about, ho], ?_⟩
  rw [Oper.semAt_plain F _ _ (by rw [ho]; intro c hc'; cases hc')]
  have hr : (Instr.build 57 #[(0, .int .i64 p), (1, .int .i64 q)]).run Try.prog W = .ok (.agg #[.int .i64 p, .int .i64 q]) W := run_build W 57 _ _ (by kernel_rfl)
  simp [execOp, ho, hx, hy, hr, Result.andThen]
  exact h
def tblAp (gz : Nat) (n : Nat) (k : Nat) (b2 : Nat) (off2 : Nat) (m : Nat) (d : Nat) (ge : Nat) (u0 : Nat) (u1 : Nat) (v0 : Int) (v1 : Int) : List Pst := [Pst.val (.slice (some ⟨gz, 0, none⟩) n n), Pst.val (.int .i64 (k : Nat)), Pst.val (.slice (some ⟨b2, off2, none⟩) m d), Pst.val (.pointer (some ⟨ge, 0, none⟩)), Pst.val (.int .i64 (u0 : Nat)), Pst.val (.pointer (some ⟨b2, off2 + u0, none⟩)), Pst.val (.int .i64 v0), Pst.val (.slice (some ⟨b2, off2, none⟩) m d), Pst.val (.pointer (some ⟨ge, 1, none⟩)), Pst.val (.int .i64 (u1 : Nat)), Pst.val (.pointer (some ⟨b2, off2 + u1, none⟩)), Pst.val (.int .i64 v1), Pst.val (.agg #[.int .i64 v0, .int .i64 v1]), Pst.val (.pointer (some ⟨gz, k * 2, none⟩))]
set_option maxRecDepth 100000 in
set_option maxHeartbeats 8000000 in
theorem apply_any (N : Int) (A B : Option Addr) (n c m d : Nat) (E : List (Int × Int)) (p : List Int) (w : World) (h1 : ArgE w A n c E) (h2 : ArgI w B m d p) :
    Calls Try.prog 28 #[.agg #[.int .i64 N, .slice A n c], .slice B m d] w (GrE w N (appO N E p)) := by
  have hn0 := h1.le
  have hm0 := h2.le
  have hW1 := alloc_below w (.cells #[.int .i64 N, .slice A n c] 34)
  have hW2 := alloc_below (w.alloc (.cells #[.int .i64 N, .slice A n c] 34)) (.cells #[.int .i64 0, .slice none 0 0] 34)
  have HB0 := Lib.hid (hW1.trans (hW2.mono (by simp)))
  have HA := Lib.hid (h1.keep HB0.out)
  have HI := Lib.hid (h2.keep HB0.out)
  have G0 := Lib.hid ((Own.new' (t := 34) (w := w) (vs := [.int .i64 N, .slice A n c]) rfl).below' hW2)
  have R0 := Lib.hid (Own.new' (t := 34) (w := w.alloc (.cells #[.int .i64 N, .slice A n c] 34)) (g := w.heap.size + 1) (vs := [.int .i64 0, .slice none 0 0]) (by simp))
  clear h1 h2 hW1 hW2
  have HR := Lib.hid (rightG_any N A n c E _ HA.out)
  obtain ⟨r, hr⟩ : ∃ r, rightG N E = r := ⟨_, rfl⟩
  rw [hr] at HR
  have RG := Lib.hid hr
  clear hr
  cases r with
  | false =>
    have HX := Lib.hid (show appO N E p = .error 20 from if_neg (by rw [RG.out]; simp))
    rw [HX.out]
    go_enter Try.func28, Try.ntmps28
    go_wp2_with fail
    refine HR.out.mono ?_
    rintro e w' ⟨rfl, hb⟩
    have OR := Lib.hid (R0.out.below' hb)
    have yR := OR.out.lt; have fR := OR.out.frozen; have qR := OR.out.cell
    have BF := Lib.hid (HB0.out.trans (hb.mono HB0.out.size))
    clear hb
    go_wp2
    have hF := (OR.out.set 0 (.int .i64 0)).set 1 (.slice none 0 0)
    have r0 := hF.cell 0
    have r1 := hF.cell 1
    simp only [List.set_cons_zero, List.set_cons_succ, List.getElem?_cons_zero, List.getElem?_cons_succ] at r0 r1
    exact bodyPost_ret (v := .tuple #[.agg #[.int .i64 0, .slice none 0 0], .int .i64 20]) (by simp [results, Try.results28, go_sem, r0, r1]) rfl ⟨rfl, (BF.out.setCell (by simp; try omega) _).setCell (by simp; try omega) _⟩
  | true =>
    obtain ⟨r2, hr2⟩ : ∃ r, rightP p = r := ⟨_, rfl⟩
    have RP := Lib.hid hr2
    clear hr2
    go_enter Try.func28, Try.ntmps28
    go_wp2_with fail
    refine HR.out.mono ?_
    rintro e w1 ⟨rfl, hb⟩
    have OR := Lib.hid (R0.out.below' hb)
    have OG := Lib.hid (G0.out.below' hb)
    have g0 : w1.cell? ⟨w.heap.size, 0, none⟩ = some (.int .i64 N) := OG.out.cell 0
    have g1 : w1.cell? ⟨w.heap.size, 1, none⟩ = some (.slice A n c) := OG.out.cell 1
    have BF := Lib.hid (HB0.out.trans (hb.mono HB0.out.size))
    have HI1 := Lib.hid (HI.out.keep hb)
    have HA1 := Lib.hid (HA.out.keep hb)
    clear hb
    have HP := Lib.hid (right_any B m d p _ HI1.out)
    rw [RP.out] at HP
    go_wp2_with fail
    refine HP.out.mono ?_
    rintro e w2 ⟨rfl, hb⟩
    have OR2 := Lib.hid (OR.out.below' hb)
    have OG2 := Lib.hid (OG.out.below' hb)
    have g2 : w2.cell? ⟨w.heap.size, 0, none⟩ = some (.int .i64 N) := OG2.out.cell 0
    have g3 : w2.cell? ⟨w.heap.size, 1, none⟩ = some (.slice A n c) := OG2.out.cell 1
    have yR := OR2.out.lt; have fR := OR2.out.frozen; have qR := OR2.out.cell
    have BF2 := Lib.hid (BF.out.trans (hb.mono BF.out.size))
    have HI2 := Lib.hid (HI1.out.keep hb)
    have HA2 := Lib.hid (HA1.out.keep hb)
    clear hb g0 g1
    cases r2 with
    | false =>
      have HX := Lib.hid (show appO N E p = .error 30 from (if_pos RG.out).trans (if_neg (by rw [RP.out]; simp)))
      go_wp2
      have hF := (OR2.out.set 0 (.int .i64 0)).set 1 (.slice none 0 0)
      have r0 := hF.cell 0
      have r1 := hF.cell 1
      simp only [List.set_cons_zero, List.set_cons_succ, List.getElem?_cons_zero, List.getElem?_cons_succ] at r0 r1
      exact bodyPost_ret (v := .tuple #[.agg #[.int .i64 0, .slice none 0 0], .int .i64 30]) (by simp [results, Try.results28, go_sem, r0, r1]) rfl (by show GrE w N (appO N E p) _ _; rw [HX.out]; exact ⟨rfl, (BF2.out.setCell (by simp; try omega) _).setCell (by simp; try omega) _⟩)
    | true =>
      by_cases hmn : (m : Int) = N
      · have k1 : ((m : Int) != N) = false := by rw [bne_eq_false_iff_eq]; exact hmn
        have HX := Lib.hid (show appO N E p = newO N (appE p E) from (if_pos RG.out).trans (if_pos ⟨RP.out, by rw [← HI.out.len]; exact hmn⟩))
        obtain ⟨hN, hE, hall⟩ := rightG_all RG.out
        have HALL := Lib.hid hall
        have hnE := HA.out.len
        have HNE := Lib.hid hnE
        have hn : n ≤ 594 := by omega
        have hmk := mk_edges n n (Nat.le_refl _) (by omega) w2
        have HMN := Lib.hid hmn
        clear hall hE hnE hmn
        have HO0 := Lib.hid (show Own (w2.alloc (.cells (cellsE (List.replicate n (0, 0))).toArray 57)) w2.heap.size 57 (cellsE (appK p E 0)) from (by unfold appK; rw [List.take_zero, Nat.sub_zero, ← HNE.out]; exact Own.new' rfl))
        have HBL := Lib.hid (alloc_below w2 (.cells (cellsE (List.replicate n (0, 0))).toArray 57))
        have zg := OG2.out.lt
        go_wp2
        go_loopw [7, 8, 31] (fun _ _ i wr => ∃ k : Nat, k ≤ n ∧ i = .int .i64 (k : Int) ∧ Hid (Own wr w2.heap.size 57 (cellsE (appK p E k))) ∧ Hid (Below w2.heap.size w2 wr)) (fun _ _ i _ => n - (intOf i).toNat)
        case atStart => exact ⟨0, Nat.zero_le _, rfl, HO0, HBL⟩
        case round =>
          obtain ⟨k, hk, rfl, hO, hB⟩ := hrel
          by_cases hlt : k < n
          · obtain ⟨b, off, rfl, hbk, hc⟩ := rd_edge HA2.out.rd (by have := HNE.out; omega)
            obtain ⟨e, he⟩ : ∃ x, E[k]? = some x := ⟨_, List.getElem?_eq_getElem (by have := HNE.out; omega)⟩
            obtain ⟨z0, z1, z2⟩ := HALL.out e (List.mem_of_getElem? he)
            obtain ⟨x0, x1⟩ := e
            obtain ⟨u0, rfl⟩ := Int.eq_ofNat_of_zero_le z0
            obtain ⟨u1, rfl⟩ := Int.eq_ofNat_of_zero_le (show 0 ≤ x1 by have : (u0 : Int) < x1 := z1; omega)
            have hu1 : u1 < m := by have := HMN.out; have : (u1 : Int) < N := z2; omega
            have hu0 : u0 < m := by have : (u0 : Int) < (u1 : Int) := z1; omega
            obtain ⟨b2, off2, rfl, hbk2, hc2⟩ := rd_int HI2.out.rd (by have := HI2.out.len; omega)
            obtain ⟨v0, hv0⟩ : ∃ x, p[u0]? = some x := ⟨_, List.getElem?_eq_getElem (by have := HI2.out.len; omega)⟩
            obtain ⟨v1, hv1⟩ : ∃ x, p[u1]? = some x := ⟨_, List.getElem?_eq_getElem (by have := HI2.out.len; omega)⟩
            obtain ⟨q0, q1⟩ := hc wr hB.out k _ he
            have q2 := hc2 wr hB.out u0 v0 hv0
            have q3 := hc2 wr hB.out u1 v1 hv1
            have hz := hO.out.lt
            have fz := hO.out.frozen
            have cz := hO.out.cell
            have hbw2 : b2 < wr.heap.size := Nat.lt_of_lt_of_le hbk2 hB.out.size
            have ON := Own.new' (g := wr.heap.size) (t := 57) (w := wr) (vs := [.int .i64 u0, .int .i64 u1]) rfl
            have CE0 := Lib.hid (fun W (hW : Below (wr.alloc (.cells #[.int .i64 u0, .int .i64 u1] 57)).heap.size (wr.alloc (.cells #[.int .i64 u0, .int .i64 u1] 57)) W) => (show W.cell? ⟨wr.heap.size, 0, none⟩ = some (.int .i64 (u0 : Int)) from (ON.below' hW).cell 0))
            have CE1 := Lib.hid (fun W (hW : Below (wr.alloc (.cells #[.int .i64 u0, .int .i64 u1] 57)).heap.size (wr.alloc (.cells #[.int .i64 u0, .int .i64 u1] 57)) W) => (show W.cell? ⟨wr.heap.size, 1, none⟩ = some (.int .i64 (u1 : Int)) from (ON.below' hW).cell 1))
            have CP0 := Lib.hid (fun W (hW : Below (wr.alloc (.cells #[.int .i64 u0, .int .i64 u1] 57)).heap.size (wr.alloc (.cells #[.int .i64 u0, .int .i64 u1] 57)) W) => hc2 W (hB.out.trans (((alloc_below wr _).trans (hW.mono (by simp))).mono hB.out.size)) u0 v0 hv0)
            have CP1 := Lib.hid (fun W (hW : Below (wr.alloc (.cells #[.int .i64 u0, .int .i64 u1] 57)).heap.size (wr.alloc (.cells #[.int .i64 u0, .int .i64 u1] 57)) W) => hc2 W (hB.out.trans (((alloc_below wr _).trans (hW.mono (by simp))).mono hB.out.size)) u1 v1 hv1)
            have HST := Lib.hid (show ((cellsE (appK p E k)).set (k * 2) (.int .i64 v0)).set (k * 2 + 1) (.int .i64 v1) = cellsE (appK p E (k + 1)) from (by have h := appK_set (p := p) he; rw [show atI p (u0 : Int) = v0 from (by unfold atI; rw [Int.toNat_natCast, List.getD_eq_getElem?_getD, hv0]; rfl), show atI p (u1 : Int) = v1 from (by unfold atI; rw [Int.toNat_natCast, List.getD_eq_getElem?_getD, hv1]; rfl)] at h; exact h))
            clear ON hc hc2 hv0 hv1 q2 q3 
            clear z0 z1 z2
            go_wp2
            refine wpIn_wide (n := 1) |>.1 (regionIn_posts 14 (fun _ => trivial) (by kernel_rfl) (tblAp w2.heap.size n k b2 off2 m d wr.heap.size u0 u1 v0 v1) (by kernel_rfl) (by kernel_rfl) ?_ ?_)
            simp only [List.take_succ_cons, List.take_zero]
            · skip
              refine .yes rfl (fun a W Q hB hO hD hN => ?_) ?_
              · have e6 : a.tmps.getD 6 undef = .slice (some ⟨w2.heap.size, 0, none⟩) n n := hO.slot 6 _ rfl rfl
                clear hO hD hN
                gi_wp2
                exact ⟨_, rfl, Below.refl _ _, rfl⟩
              refine .yes rfl (fun a W Q hB hO hD hN => ?_) ?_
              · have e7 : a.tmps.getD 7 undef = .int .i64 (k : Nat) := hO.slot 7 _ rfl rfl
                clear hO hD hN
                gi_wp2
                exact ⟨_, rfl, Below.refl _ _, rfl⟩
              refine .yes rfl (fun a W Q hB hO hD hN => ?_) ?_
              · have e1 : a.tmps.getD 1 undef = .slice (some ⟨b2, off2, none⟩) m d := hO.slot 1 _ rfl rfl
                clear hO hD hN
                gi_wp2
                exact ⟨_, rfl, Below.refl _ _, rfl⟩
              refine .yes rfl (fun a W Q hB hO hD hN => ?_) ?_
              · have e8 : a.tmps.getD 8 undef = .pointer (some ⟨wr.heap.size, 0, none⟩) := hO.slot 8 _ rfl rfl
                clear hO hD hN
                gi_wp2
                exact ⟨_, rfl, Below.refl _ _, rfl⟩
              refine .yes rfl (fun a W Q hB hO hD hN => ?_) ?_
              · have e39 : a.tmps.getD 39 undef = .pointer (some ⟨wr.heap.size, 0, none⟩) := hD 3 rfl
                clear hO hD hN
                have hc := CE0.out W hB
                gi_wp2
                exact ⟨_, rfl, Below.refl _ _, rfl⟩
              refine .yes rfl (fun a W Q hB hO hD hN => ?_) ?_
              · have e38 : a.tmps.getD 38 undef = .slice (some ⟨b2, off2, none⟩) m d := hD 2 rfl
                have e40 : a.tmps.getD 40 undef = .int .i64 (u0 : Nat) := hD 4 rfl
                clear hO hD hN
                gi_wp2
                exact ⟨_, rfl, Below.refl _ _, rfl⟩
              refine .yes rfl (fun a W Q hB hO hD hN => ?_) ?_
              · have e41 : a.tmps.getD 41 undef = .pointer (some ⟨b2, off2 + u0, none⟩) := hD 5 rfl
                clear hO hD hN
                have hc := CP0.out W hB
                gi_wp2
                exact ⟨_, rfl, Below.refl _ _, rfl⟩
              refine .yes rfl (fun a W Q hB hO hD hN => ?_) ?_
              · have e1 : a.tmps.getD 1 undef = .slice (some ⟨b2, off2, none⟩) m d := hO.slot 1 _ rfl rfl
                clear hO hD hN
                gi_wp2
                exact ⟨_, rfl, Below.refl _ _, rfl⟩
              refine .yes rfl (fun a W Q hB hO hD hN => ?_) ?_
              · have e8 : a.tmps.getD 8 undef = .pointer (some ⟨wr.heap.size, 0, none⟩) := hO.slot 8 _ rfl rfl
                clear hO hD hN
                gi_wp2
                exact ⟨_, rfl, Below.refl _ _, rfl⟩
              refine .yes rfl (fun a W Q hB hO hD hN => ?_) ?_
              · have e44 : a.tmps.getD 44 undef = .pointer (some ⟨wr.heap.size, 1, none⟩) := hD 8 rfl
                clear hO hD hN
                have hc := CE1.out W hB
                gi_wp2
                exact ⟨_, rfl, Below.refl _ _, rfl⟩
              refine .yes rfl (fun a W Q hB hO hD hN => ?_) ?_
              · have e43 : a.tmps.getD 43 undef = .slice (some ⟨b2, off2, none⟩) m d := hD 7 rfl
                have e45 : a.tmps.getD 45 undef = .int .i64 (u1 : Nat) := hD 9 rfl
                clear hO hD hN
                gi_wp2
                exact ⟨_, rfl, Below.refl _ _, rfl⟩
              refine .yes rfl (fun a W Q hB hO hD hN => ?_) ?_
              · have e46 : a.tmps.getD 46 undef = .pointer (some ⟨b2, off2 + u1, none⟩) := hD 10 rfl
                clear hO hD hN
                have hc := CP1.out W hB
                gi_wp2
                exact ⟨_, rfl, Below.refl _ _, rfl⟩
              refine .yes rfl (fun a W Q hB hO hD hN => ?_) ?_
              · have e42 : a.tmps.getD 42 undef = .int .i64 v0 := hD 6 rfl
                have e47 : a.tmps.getD 47 undef = .int .i64 v1 := hD 11 rfl
                clear hO hD hN
                refine wpIn_build2 rfl (show a.eval (.tmp 42) = _ from e42) (show a.eval (.tmp 47) = _ from e47) ?_
                exact ⟨_, rfl, Below.refl _ _, rfl⟩
              refine .yes rfl (fun a W Q hB hO hD hN => ?_) ?_
              · have e36 : a.tmps.getD 36 undef = .slice (some ⟨w2.heap.size, 0, none⟩) n n := hD 0 rfl
                have e37 : a.tmps.getD 37 undef = .int .i64 (k : Nat) := hD 1 rfl
                clear hO hD hN
                gi_wp2
                exact ⟨_, rfl, Below.refl _ _, rfl⟩
              exact .nil
            · intro f V2 hBz hR
              have e48 : f 12 = .agg #[.int .i64 v0, .int .i64 v1] := hR 12 (by decide)
              have e49 : f 13 = .pointer (some ⟨w2.heap.size, k * 2, none⟩) := hR 13 (by decide)
              have HB5 := Lib.hid ((alloc_below wr (.cells #[.int .i64 u0, .int .i64 u1] 57)).trans (hBz.mono (by simp)))
              have hO5 := hO.out.below' HB5.out
              have hkE : k < E.length := by have := HNE.out; omega
              have c5 : V2.cell? ⟨w2.heap.size, k * 2, none⟩ = some (.int .i64 0) := (hO5.cell _).trans (cellsE_at (appK_at hkE)).1
              have c6 : V2.cell? ⟨w2.heap.size, k * 2 + 1, none⟩ = some (.int .i64 0) := (hO5.cell _).trans (cellsE_at (appK_at hkE)).2
              have f5 := hO5.frozen (k * 2)
              have f6 := hO5.frozen (k * 2 + 1)
              have z5 := hO5.lt
              have HO5 := Lib.hid hO5
              clear hR hBz hO5
              simp only [List.take_succ_cons, List.take_zero, List.drop_succ_cons, List.drop_zero, putAll, Nat.zero_add, Nat.reduceAdd, Act.put, List.setIfInBounds_toArray, List.set_cons_zero, List.set_cons_succ, e48, e49]
              gi_wp2
              go_wp2
              go_roundw
              case rel => exact ⟨k + 1, by omega, by go_num, Lib.hid (by have h := (HO5.out.set (k * 2) (.int .i64 v0)).set (k * 2 + 1) (.int .i64 v1); rw [HST.out] at h; exact h), Lib.hid ((((hB.out.trans (HB5.out.mono hB.out.size)).setCell (p := ⟨w2.heap.size, k * 2, none⟩) (Nat.le_refl _) _)).setCell (p := ⟨w2.heap.size, k * 2 + 1, none⟩) (Nat.le_refl _) _)⟩
              case measure => simp [intOf]; omega
          · obtain rfl : n = k := by omega
            have hO5 := hO.out
            have HRE := Lib.hid (show RowE w.heap.size wr (.slice (some ⟨w2.heap.size, 0, none⟩) n n) (appE p E) from (by
              have h1 := hO.out
              rw [HNE.out, appK_all] at h1
              have h2 := RowE.made (B := w.heap.size) h1 BF2.out.size (by rw [length_appE, ← HNE.out]; omega)
              rw [length_appE, ← HNE.out] at h2
              exact h2))
            have OG3 := Lib.hid (OG2.out.below' hB.out)
            have OR3 := Lib.hid (OR2.out.below' hB.out)
            have g4 : wr.cell? ⟨w.heap.size, 0, none⟩ = some (.int .i64 N) := OG3.out.cell 0
            have zg4 := OG3.out.lt
            have BF3 := Lib.hid (BF2.out.trans (hB.out.mono BF2.out.size))
            have HE3 := Lib.hid (show ArgE wr (some ⟨w2.heap.size, 0, none⟩) n n (appE p E) from by
              obtain ⟨A', c', e, h⟩ := HRE.out.arg (by rw [length_appE, ← HNE.out]; omega)
              rw [length_appE, ← HNE.out] at e h
              injection e with e1 e2 e3
              subst e1 e3
              exact h)
            go_wp2_with fail
            refine (newG_any N _ _ _ (appE p E) wr HE3.out).mono ?_
            rintro e w4 he
            rw [HX.out]
            have HRS := Lib.hid he
            clear he
            cases hno : newO N (appE p E) with
            | error x =>
              have HNO := Lib.hid hno
              have h := HRS.out
              rw [hno] at h
              obtain ⟨rfl, hb⟩ := h
              have OR4 := Lib.hid (OR3.out.below' hb)
              have yR4 := OR4.out.lt; have fR4 := OR4.out.frozen; have qR4 := OR4.out.cell
              have BF4 := Lib.hid (BF3.out.trans (hb.mono BF3.out.size))
              clear hb HRS hno yR fR qR
              go_wp2
              have hF := (OR4.out.set 0 (.int .i64 0)).set 1 (.slice none 0 0)
              have r0 := hF.cell 0
              have r1 := hF.cell 1
              simp only [List.set_cons_zero, List.set_cons_succ, List.getElem?_cons_zero, List.getElem?_cons_succ] at r0 r1
              exact bodyPost_ret (v := .tuple #[.agg #[.int .i64 0, .slice none 0 0], .int .i64 x]) (by simp [results, Try.results28, go_sem, r0, r1]) rfl (by show GrE w N (appO N E p) _ _; rw [HX.out, HNO.out]; exact ⟨rfl, (BF4.out.setCell (by simp; try omega) _).setCell (by simp; try omega) _⟩)
            | ok l =>
              have HNO := Lib.hid hno
              have h := HRS.out
              rw [hno] at h
              obtain ⟨v, rfl, hv, hb⟩ := h
              have OR4 := Lib.hid (OR3.out.below' hb)
              have yR4 := OR4.out.lt; have fR4 := OR4.out.frozen; have qR4 := OR4.out.cell
              have BF4 := Lib.hid (BF3.out.trans (hb.mono BF3.out.size))
              have HV := Lib.hid (hv.base BF3.out.size)
              have zN := BF2.out.size
              obtain ⟨A4, c4, rfl, _, _⟩ := hv.rd
              clear hv hb HRS hno yR fR qR
              go_wp2
              have hF := (OR4.out.set 0 (.int .i64 N)).set 1 (.slice A4 l.length c4)
              have r0 := hF.cell 0
              have r1 := hF.cell 1
              simp only [List.set_cons_zero, List.set_cons_succ, List.getElem?_cons_zero, List.getElem?_cons_succ] at r0 r1
              have h2 := rowE_apart HV.out OR4.out (.int .i64 N) (.slice A4 l.length c4)
              exact bodyPost_ret (v := .tuple #[.agg #[.int .i64 N, .slice A4 l.length c4], .int .i64 0]) (by simp [results, Try.results28, go_sem, r0, r1]) rfl (by show GrE w N (appO N E p) _ _; rw [HX.out, HNO.out]; exact ⟨_, rfl, h2, (BF4.out.setCell (by simp; try omega) _).setCell (by simp; try omega) _⟩)
      · have k0 : ((m : Int) == N) = false := by rw [beq_eq_false_iff_ne]; exact hmn
        have HX := Lib.hid (show appO N E p = .error 30 from (if_pos RG.out).trans (if_neg (by rw [← HI.out.len]; exact fun h => hmn h.2)))
        go_wp2
        have hF := (OR2.out.set 0 (.int .i64 0)).set 1 (.slice none 0 0)
        have r0 := hF.cell 0
        have r1 := hF.cell 1
        simp only [List.set_cons_zero, List.set_cons_succ, List.getElem?_cons_zero, List.getElem?_cons_succ] at r0 r1
        exact bodyPost_ret (v := .tuple #[.agg #[.int .i64 0, .slice none 0 0], .int .i64 30]) (by simp [results, Try.results28, go_sem, r0, r1]) rfl (by show GrE w N (appO N E p) _ _; rw [HX.out]; exact ⟨rfl, (BF2.out.setCell (by simp; try omega) _).setCell (by simp; try omega) _⟩)
end Go.Proofs.Ytccaagildkgfeaa
