/- Walk: fretworkref02.Read. -/
import Derived.Test.YtljihclpgpmfeaaDoorDk
import Derived.Test.YtljihclpgpmfeaaDoorDj
import Derived.Test.YtljihclpgpmfeaaDoorUr
import Derived.Test.YtljihclpgpmfeaaDoorKa
import Derived.Test.YtljihclpgpmfeaaDoorMa
import Derived.Test.YtljihclpgpmfeaaDoorUq
namespace Go.Proofs.YtljihclpgpmfeaaDoor
set_option maxRecDepth 100000
open Go.RowKit
attribute [local go_sem] Oper.semAt_some

theorem rowE_home {B : Nat} {W : World} {v : Value} {l : List (Int × Int)} (h : RowE B W v l) : v.ownBlock = none ∨ ∃ g, v.ownBlock = some g ∧ B ≤ g := by
  rcases h with ⟨_, rfl⟩ | ⟨g, cap, more, rfl, hg, _⟩
  · exact .inl rfl
  · exact .inr ⟨g, rfl, hg⟩
theorem rowE_mine {B g : Nat} {W : World} {v : Value} {l : List (Int × Int)} (h : RowE B W v l) (e : v.ownBlock = some g) : ∃ xs, Own W g 49 xs := by
  rcases h with ⟨_, rfl⟩ | ⟨g1, cap, more, rfl, _, ho, _⟩
  · cases e
  · have e : some g1 = some g := e
    injection e with e
    subst e
    exact ⟨_, ho⟩
theorem wpIn_build2 {F : Fence} {nn : Nat} {a : Act} {W : World} {K : Act → World → Prop} {Q : Exit → Act → World → Prop} {o : Oper} {x y : Operand} {p q : Int} (ho : o.op = .build 49 #[(0, x), (1, y)]) (hx : a.eval x = .int .i64 p) (hy : a.eval y = .int .i64 q)
    (h : K (a.put o.dst (.agg #[.int .i64 p, .int .i64 q])) W) : o.wpIn F nn Tryd.prog a W K Q := by
  have hr : (Instr.build 49 #[(0, .int .i64 p), (1, .int .i64 q)]).run Tryd.prog W = .ok (.agg #[.int .i64 p, .int .i64 q]) W := run_build W 49 _ _ (by kernel_rfl)
  unfold Oper.wpIn
  refine ⟨?_, ?_⟩
  · simp [Oper.about, ho]
  · rw [Oper.semAt_plain F _ _ (by rw [ho]; intro c hc'; cases hc')]
    simp [execOp, ho, hx, hy, hr, Result.andThen]
    exact h
theorem wpIn_append_edge {F : Fence} {nn : Nat} {a : Act} {V : World} {K : Act → World → Prop} {Q : Exit → Act → World → Prop} {o : Oper} {s y : Operand} {u : Value} {l k : List (Int × Int)} {B n m : Nat} {A : Option Addr}
    (ho : o.op = .call { callee := .builtin .append, args := #[s, y], argTypes := #[24, 24] }) (hs : a.eval s = u) (hy : a.eval y = .slice A n m) (h1 : RowE B V u l) (hn : n = k.length) (hr : Rd V A (cellsE k)) (hsz : l.length + n ≤ 1000000) (hB : B ≤ V.heap.size)
    (h : ∀ v' w', RowE B w' v' (l ++ k) → V.grownBy w' u.ownBlock → K (a.put o.dst v') w') : o.wpIn F nn Tryd.prog a V K Q := by
  obtain ⟨v', w', hrun, r1, r2, r3⟩ := run_append_edges o.type A n m h1 hn hr hsz hB
  have hg : V.grownBy w' u.ownBlock := ⟨r2.os, r2.tape, r2.output, r2.size, r3⟩
  unfold Oper.wpIn
  refine ⟨?_, ?_⟩
  · simp [Oper.about, ho, resolve, Target.leads, Sem.run_pure]
  · rw [Oper.semAt_plain F _ _ (by rw [ho]; intro c hc'; cases hc')]
    simp [execOp, ho, resolve, invoke, builtin, hs, hy, hrun, Result.andThen]
    exact h _ _ r1 hg
def tblRd (G : Nat) (gv : Nat) (m : Nat) (cap : Nat) (i : Nat) (i1 : Nat) (A2 : Option Addr) (n2 : Nat) (c2 : Nat) (x0 : Int) (x1 : Int) (S : Nat) (B : Nat) (n3 : Nat) (E3 : List (Int × Int)) : List Pst := [Pst.val (.pointer (some ⟨G, 1, none⟩)), Pst.val (.slice A2 n2 c2), Pst.val (.slice (some ⟨gv, 0, none⟩) m cap), Pst.val (.int .i64 (i : Nat)), Pst.val (.pointer (some ⟨gv, i, none⟩)), Pst.val (.int .i64 x0), Pst.val (.slice (some ⟨gv, 0, none⟩) m cap), Pst.val (.int .i64 (i : Nat)), Pst.val (.int .i64 (i1 : Nat)), Pst.val (.pointer (some ⟨gv, i1, none⟩)), Pst.val (.int .i64 x1), Pst.val (.agg #[.int .i64 x0, .int .i64 x1]), Pst.own2 S 1 [.int .i64 x0, .int .i64 x1], Pst.edg B n3 E3]
set_option maxRecDepth 100000 in
set_option maxHeartbeats 16000000 in
theorem readR_any (A : Option Addr) (n c : Nat) (f : Nat → Bool) (w : World) (hr : Rd w A (cellsF f n)) (hn : n ≤ 1000) :
    Calls Tryd.prog 28 #[.slice A n c] w (GrE w (readN f n) (readX f n)) := by
  have HB0 := Lib.hid (alloc_below w (.cells #[.int .i64 0, .slice none 0 0] 26))
  have OB := Lib.hid (Own.new' (t := 26) (w := w) (vs := [.int .i64 0, .slice none 0 0]) rfl)
  have HR := Lib.hid (hr.alloc (.cells #[.int .i64 0, .slice none 0 0] 26))
  clear hr
  by_cases hcond : 0 < n ∧ byteF f (n - 1) ≠ 0
  · have hL4 : unpackL f n ≤ 4194304 := by unfold unpackL; omega
    have hL8 : unpackL f n ≤ 7999 := by unfold unpackL; omega
    have HRO0 := Lib.hid (show readO f n = readK (cutTo f (unpackL f n)) (unpackL f n) from if_pos ⟨by omega, hcond.1, hcond.2, hL4⟩)
    have HU := Lib.hid (unpack_ref_good A n c f _ HR.out hn hcond.1 hcond.2)
    have hrs := cutTo_RS (f := f) hL4
    obtain ⟨L, hL⟩ : ∃ L, unpackL f n = L := ⟨_, rfl⟩
    obtain ⟨g, hg⟩ : ∃ g, cutTo f L = g := ⟨_, rfl⟩
    rw [hL] at hL8 hL4
    rw [hL, hg] at HRO0 HU hrs
    obtain ⟨kb, hkb⟩ : ∃ k, (L + 7) / 8 = k := ⟨_, rfl⟩
    have hkb1 : kb ≤ 1000 := by omega
    rw [hkb] at hrs
    have HU2 := HU.out
    unfold GoodS at HU2
    rw [hkb] at HU2
    have HU3 := Lib.hid HU2
    have HRS := Lib.hid hrs
    clear HU HU2 hrs hcond hL hg hkb
    go_enter Tryd.func28, Tryd.ntmps28
    go_wp2_with fail
    refine HU3.out.mono ?_
    rintro e w1 ⟨gb, rfl, hgb, hob, hb⟩
    have O1 := Lib.hid (OB.out.below' hb)
    have HB1 := Lib.hid (HB0.out.trans (hb.mono HB0.out.size))
    have HOB := Lib.hid hob
    clear hb hob hgb HU3 HR
    go_wp2_with fail
    obtain ⟨sb, hsb⟩ : ∃ s, s = w1.heap.size := ⟨_, rfl⟩
    obtain ⟨W2, hW2⟩ : ∃ W, w1.alloc (.cells #[.slice (some ⟨gb, 0, none⟩) kb kb, .int .i64 (L : Nat)] 63) = W := ⟨_, rfl⟩
    have OS2 := Lib.hid (show Own W2 sb 63 [.slice (some ⟨gb, 0, none⟩) kb kb, .int .i64 (L : Nat)] from by rw [← hW2]; exact Own.new' hsb)
    have OB2 := Lib.hid (show Own W2 w.heap.size 26 [.int .i64 0, .slice none 0 0] from by rw [← hW2]; exact O1.out.alloc _)
    have HOB2 := Lib.hid (show Own W2 gb 5 (cellsF g kb) from by rw [← hW2]; exact HOB.out.alloc _)
    have HBW := Lib.hid (show Below w.heap.size w W2 from by rw [← hW2]; exact HB1.out.alloc HB1.out.size _)
    rw [hW2, ← hsb]
    clear hW2 hsb O1 HOB HB1 OB HB0
    go_loopw [6, 7, 8, 9, 10] (fun v s7 _ _ _ wr => ∃ (p : Nat) (l : List Int), p ≤ L ∧ s7 = .int .i64 (p : Int) ∧ Hid (RowI W2.heap.size wr v l) ∧ Hid (KnotsAt g 0 l p) ∧ Hid (SmallK l) ∧ Hid (l.length ≤ p) ∧ Hid (∀ x ∈ l, x ≤ 1000) ∧ Hid (Below W2.heap.size W2 wr)) (fun _ s7 _ _ _ _ => L - (intOf s7).toNat)
    case atStart => exact ⟨0, [], Nat.zero_le _, rfl, Lib.hid (.inl ⟨rfl, rfl⟩), Lib.hid rfl, Lib.hid (fun x hx => by simp at hx), Lib.hid (Nat.le_refl _), Lib.hid (fun x hx => by simp at hx), Lib.hid (Below.refl _ _)⟩
    case round =>
      obtain ⟨p, l, hp, rfl, HRI, HK, HSM, HLP, HTH, HB⟩ := hrel
      have OSr := Lib.hid (OS2.out.below' HB.out)
      have qs := OSr.out.cell; have zs := OSr.out.lt
      by_cases hlt : p < L
      · have HKN := Lib.hid (show knotO g L p 1000 = knotZ g L p 1000 (zerosF g p (min 64 (L - p))) from rfl)
        have HGK := Lib.hid (getKnot_ref_any (some ⟨gb, 0, none⟩) kb kb L p g wr (HOB2.out.below' HB.out).rd HRS.out (by omega) hp)
        obtain ⟨z, hz⟩ : ∃ z, zerosF g p (min 64 (L - p)) = z := ⟨_, rfl⟩
        rw [hz] at HKN HGK
        clear hz
        go_wp2_with fail
        refine HGK.out.mono ?_
        intro e w5 he
        clear HGK
        rcases he with ⟨h1, rfl, hb5⟩ | ⟨h1, h2, rfl, hb5⟩ | ⟨h1, h2, rfl, hb5⟩
        · have HX := Lib.hid (readX_none (f := f) (n := n) (by rw [HRO0.out, read_stuck HK.out HSM.out hlt (HKN.out.trans (by unfold knotZ; rw [if_pos h1]))]))
          have OBX := Lib.hid (OB2.out.below' (below_chain HB.out hb5))
          have HBF := Lib.hid (below_chain HBW.out (below_chain HB.out hb5))
          clear hb5 h1 qs zs
          have yR := OBX.out.lt; have fR := OBX.out.frozen; have qR := OBX.out.cell
          go_wp2
          have hF := (OBX.out.set 0 (.int .i64 0)).set 1 (.slice none 0 0)
          have r0 := hF.cell 0
          have r1 := hF.cell 1
          simp only [List.set_cons_zero, List.set_cons_succ, List.getElem?_cons_zero, List.getElem?_cons_succ] at r0 r1
          exact bodyPost_ret (v := .tuple #[.agg #[.int .i64 0, .slice none 0 0], .int .i64 20]) (by simp [results, Tryd.results28, go_sem, r0, r1]) rfl (by show GrE w (readN f n) (readX f n) _ _; rw [HX.out]; exact ⟨rfl, (HBF.out.setCell (by simp; try omega) _).setCell (by simp; try omega) _⟩)
        · have HX := Lib.hid (readX_none (f := f) (n := n) (by rw [HRO0.out, read_stuck HK.out HSM.out hlt (HKN.out.trans (by unfold knotZ; rw [if_neg h1, if_pos h2]))]))
          have OBX := Lib.hid (OB2.out.below' (below_chain HB.out hb5))
          have HBF := Lib.hid (below_chain HBW.out (below_chain HB.out hb5))
          clear hb5 h1 h2 qs zs
          have yR := OBX.out.lt; have fR := OBX.out.frozen; have qR := OBX.out.cell
          go_wp2
          have hF := (OBX.out.set 0 (.int .i64 0)).set 1 (.slice none 0 0)
          have r0 := hF.cell 0
          have r1 := hF.cell 1
          simp only [List.set_cons_zero, List.set_cons_succ, List.getElem?_cons_zero, List.getElem?_cons_succ] at r0 r1
          exact bodyPost_ret (v := .tuple #[.agg #[.int .i64 0, .slice none 0 0], .int .i64 20]) (by simp [results, Tryd.results28, go_sem, r0, r1]) rfl (by show GrE w (readN f n) (readX f n) _ _; rw [HX.out]; exact ⟨rfl, (HBF.out.setCell (by simp; try omega) _).setCell (by simp; try omega) _⟩)
        · have HK2 := Lib.hid (HKN.out.trans (show _ = if 1000 < numF g (p + z) (z + 1) - 1 then none else some (numF g (p + z) (z + 1) - 1, p + 2 * z + 1) from by unfold knotZ; rw [if_neg h1, if_neg (by omega)]))
          obtain ⟨M, hM⟩ : ∃ M, numF g (p + z) (z + 1) - 1 = M := ⟨_, rfl⟩
          obtain ⟨q, hq⟩ : ∃ q, p + 2 * z + 1 = q := ⟨_, rfl⟩
          rw [hM, hq] at HK2 ⊢
          have hqL : q ≤ L := by omega
          clear hM h1 HKN
          by_cases hGM : 1000 < M
          · have d1 : decide ((1000 : Int) < (M : Int)) = true := decide_eq_true (by omega)
            have d1n : decide (1000 < M) = true := decide_eq_true hGM
            have HX := Lib.hid (readX_none (f := f) (n := n) (by rw [HRO0.out, read_stuck HK.out HSM.out hlt (HK2.out.trans (if_pos hGM))]))
            have OBX := Lib.hid (OB2.out.below' (below_chain HB.out hb5))
            have HBF := Lib.hid (below_chain HBW.out (below_chain HB.out hb5))
            clear hb5 hGM h2 hq qs zs
            have yR := OBX.out.lt; have fR := OBX.out.frozen; have qR := OBX.out.cell
            go_wp2
            have hF := (OBX.out.set 0 (.int .i64 0)).set 1 (.slice none 0 0)
            have r0 := hF.cell 0
            have r1 := hF.cell 1
            simp only [List.set_cons_zero, List.set_cons_succ, List.getElem?_cons_zero, List.getElem?_cons_succ] at r0 r1
            exact bodyPost_ret (v := .tuple #[.agg #[.int .i64 0, .slice none 0 0], .int .i64 20]) (by simp [results, Tryd.results28, go_sem, r0, r1]) rfl (by show GrE w (readN f n) (readX f n) _ _; rw [HX.out]; exact ⟨rfl, (HBF.out.setCell (by simp; try omega) _).setCell (by simp; try omega) _⟩)
          · have d1 : decide ((1000 : Int) < (M : Int)) = false := decide_eq_false (by omega)
            have d1n : decide (1000 < M) = false := decide_eq_false hGM
            have wM : IntKind.i64.wrap (M : Int) = M := by rw [IntKind.wrap_i64]; omega
            obtain ⟨k1, k2, k3, k4⟩ := knotO_some hp (HK2.out.trans (if_neg hGM))
            have HKn := Lib.hid (show KnotsAt g 0 (l ++ [(M : Int)]) q from by rw [k2]; exact knots_snoc HK.out k1)
            have hpos := knotL_pos (m := M) (by omega)
            have HSn := Lib.hid (show SmallK (l ++ [(M : Int)]) from fun x hx => by
              rcases List.mem_append.1 hx with hx | hx
              · exact HSM.out x hx
              · rw [List.mem_singleton] at hx; omega)
            have HTn := Lib.hid (show ∀ x ∈ l ++ [(M : Int)], x ≤ 1000 from fun x hx => by
              rcases List.mem_append.1 hx with hx | hx
              · exact HTH.out x hx
              · rw [List.mem_singleton] at hx; omega)
            have HLn := Lib.hid (show (l ++ [(M : Int)]).length ≤ q from by rw [List.length_append]; have := HLP.out; simp; omega)
            have hpq : p < q := by omega
            have HV := Lib.hid (alloc_below w5 (.cells #[.int .i64 (M : Int)] 3))
            have OE := Lib.hid (show Own (w5.alloc (.cells #[.int .i64 (M : Int)] 3)) w5.heap.size 3 [.int .i64 (M : Int)] from Own.new w5 _ _)
            have HRV := Lib.hid ((HRI.out.below hb5).below HV.out)
            have HB5 := Lib.hid (HB.out.trans (hb5.mono HB.out.size))
            have hs5 := HB5.out.size
            have hs6 := HBW.out.size
            have HLL := Lib.hid (show l.length + 1 ≤ 1000000 by have := HLP.out; omega)
            clear hb5 hGM h2 hq k1 k2 k3 k4 hpos HK2 HB qs zs HRI
            go_wp2_with (at_builtin; refine wpList_append_one rfl (.tmp 39) (.tmp 42) rfl w5.heap.size 1 1 (l := l) (x := (M : Int)) rfl rfl HRV.out OE.out HLL.out (by simp; omega) rfl rfl ?_)
            intro v' w' r1 r2 r3
            have HRn := Lib.hid r1
            have HBn := Lib.hid (show Below W2.heap.size W2 w' from RowKit.Below.grown (HB5.out.trans (HV.out.mono hs5)) r2 (by simp; omega) (by
              intro q hq
              rcases HRV.out.home with e | ⟨g, xs, e, hg, _⟩
              · rw [e] at hq; cases hq
              · rw [e] at hq; injection hq with hq; omega))
            clear r1 r2 r3 HV OE HRV HB5
            go_wp2
            refine ⟨⟨q, l ++ [(M : Int)], hqL, rfl, HRn, HKn, HSn, HLn, HTn, HBn⟩, ?_⟩
            simp [intOf]; omega
      · obtain rfl : p = L := by omega
        have HNO := Lib.hid (read_end HK.out HSM.out)
        have HRO := Lib.hid (HRO0.out.trans HNO.out)
        have OBX := Lib.hid (OB2.out.below' HB.out)
        have HBF := Lib.hid (below_chain HBW.out HB.out)
        rcases HRI.out with ⟨rfl, rfl⟩ | ⟨gv, cap, more, rfl, hgv, hown, hc1, hc2, hc3⟩
        · have HX := Lib.hid (readX_none (f := f) (n := n) (by rw [HRO.out]; rfl))
          have yR := OBX.out.lt; have fR := OBX.out.frozen; have qR := OBX.out.cell
          go_wp2
          have hF := (OBX.out.set 0 (.int .i64 0)).set 1 (.slice none 0 0)
          have r0 := hF.cell 0
          have r1 := hF.cell 1
          simp only [List.set_cons_zero, List.set_cons_succ, List.getElem?_cons_zero, List.getElem?_cons_succ] at r0 r1
          exact bodyPost_ret (v := .tuple #[.agg #[.int .i64 0, .slice none 0 0], .int .i64 20]) (by simp [results, Tryd.results28, go_sem, r0, r1]) rfl (by show GrE w (readN f n) (readX f n) _ _; rw [HX.out]; exact ⟨rfl, (HBF.out.setCell (by simp; try omega) _).setCell (by simp; try omega) _⟩)
        obtain ⟨m, hm⟩ : ∃ m, l.length = m := ⟨_, rfl⟩
        have hm8 : m ≤ 8000 := by have := HLP.out; omega
        rw [hm] at hc1 ⊢
        by_cases h2 : m < 2
        · have HX := Lib.hid (readX_none (f := f) (n := n) (by
            rw [HRO.out]
            match l, hm with
            | [], _ => rfl
            | [_], _ => rfl
            | _ :: _ :: _, hm => simp at hm; omega))
          have d1 : decide ((m : Int) < 2) = true := decide_eq_true (by omega)
          have d1n : decide (m < 2) = true := decide_eq_true h2
          clear h2
          have yR := OBX.out.lt; have fR := OBX.out.frozen; have qR := OBX.out.cell
          go_wp2
          have hF := (OBX.out.set 0 (.int .i64 0)).set 1 (.slice none 0 0)
          have r0 := hF.cell 0
          have r1 := hF.cell 1
          simp only [List.set_cons_zero, List.set_cons_succ, List.getElem?_cons_zero, List.getElem?_cons_succ] at r0 r1
          exact bodyPost_ret (v := .tuple #[.agg #[.int .i64 0, .slice none 0 0], .int .i64 20]) (by simp [results, Tryd.results28, go_sem, r0, r1]) rfl (by show GrE w (readN f n) (readX f n) _ _; rw [HX.out]; exact ⟨rfl, (HBF.out.setCell (by simp; try omega) _).setCell (by simp; try omega) _⟩)
        obtain ⟨a, b, r, rfl⟩ : ∃ a b r, l = a :: b :: r := by
          match l, hm with
          | [], hm => simp at hm; omega
          | [_], hm => simp at hm; omega
          | a :: b :: r, _ => exact ⟨a, b, r, rfl⟩
        have d1 : decide ((m : Int) < 2) = false := decide_eq_false (by omega)
        have d1n : decide (m < 2) = false := decide_eq_false h2
        have hb0 : 0 ≤ b := HK.out.2.2.1
        have ha0 : 0 ≤ a := HK.out.1
        have hb1 : b ≤ 1000 := HTH.out b (by simp)
        have ha1 : a ≤ 1000 := HTH.out a (by simp)
        have HM' := Lib.hid (show r.length + 2 = m from by rw [← hm]; rfl)
        have HO := Lib.hid hown
        have cb : wr.cell? ⟨gv, 1, none⟩ = some (.int .i64 b) := (hown.cell 1).trans rfl
        have ca : wr.cell? ⟨gv, 0, none⟩ = some (.int .i64 a) := (hown.cell 0).trans rfl
        have zo := hown.lt
        have HNE := Lib.hid (numsO_cons a b r)
        obtain ⟨k, rfl⟩ : ∃ k : Nat, b = (k : Int) := ⟨b.toNat, by omega⟩
        clear hown HK HSM HTH hm hc2 hc3 hgv
        by_cases h3 : r.length = 2 * k
        · have HRK := Lib.hid h3
          have HM := Lib.hid (show m = 2 + 2 * k by have := HM'.out; omega)
          have dn : ((m : Int) != 2 + 2 * (k : Int)) = false := by have := HM.out; simp; omega
          have HNE2 := Lib.hid (HNE.out.trans (if_pos (by have := HRK.out; omega)))
          have HPL := Lib.hid (pairs_flat HRK.out).2
          clear HNE h3
          have HNE := HNE2; clear HNE2
          go_wp2_with fail
          obtain ⟨G, hG⟩ : ∃ g, g = wr.heap.size := ⟨_, rfl⟩
          obtain ⟨W3, hW3⟩ : ∃ W, wr.alloc (.cells #[.int .i64 a, .slice none 0 0] 26) = W := ⟨_, rfl⟩
          have HG3 := Lib.hid (show Own W3 G 26 [.int .i64 a, .slice none 0 0] from by rw [← hW3]; exact Own.new' hG)
          have HWB := Lib.hid (show Below wr.heap.size wr W3 from by rw [← hW3]; exact alloc_below _ _)
          have HGW := Lib.hid (show wr.heap.size ≤ G from Nat.le_of_eq hG.symm)
          have HW3 := Lib.hid (show W3.heap.size = wr.heap.size + 1 from by rw [← hW3]; simp)
          have HGE := Lib.hid hG
          rw [hW3, ← hG]
          have HLI := HO; have HB2 := HB; have OB2' := OB2
          clear hG HO HB ca cb zo hW3 OBX HBF HRI qs zs OSr
          obtain ⟨W2, hW2⟩ : ∃ W, W = wr := ⟨_, rfl⟩
          subst hW2
          go_loopw [12] (fun i wr => ∃ (j : Nat) (v2 : Value), j ≤ k ∧ i = .int .i64 (2 + 2 * (j : Int)) ∧ Hid (Own wr G 26 [.int .i64 a, v2]) ∧ Hid (RowE W3.heap.size wr v2 ((pairsOf r).take j)) ∧ Hid (Below W2.heap.size W2 wr)) (fun i _ => (2 + 2 * (k : Int) - intOf i).toNat)
          case atStart => exact ⟨0, _, Nat.zero_le _, rfl, HG3, Lib.hid (.inl ⟨List.take_zero, rfl⟩), HWB⟩
          case round =>
            obtain ⟨j, v2, hj, rfl, HG, HR, HB⟩ := hrel
            have HLr := Lib.hid (HLI.out.below' HB.out)
            by_cases hjk : j < k
            · obtain ⟨x0, x1, hp, hx0, hx1⟩ := pairs_at (i := j) HRK.out hjk
              obtain ⟨i, hi⟩ : ∃ i, i = 2 + 2 * j := ⟨_, rfl⟩
              obtain ⟨i1, hi1⟩ : ∃ i, i = 2 + 2 * j + 1 := ⟨_, rfl⟩
              have HI1 := Lib.hid (show (i : Int) + 1 = (i1 : Int) by omega)
              have HI2 := Lib.hid (show (i : Int) + 2 = 2 + 2 * ((j + 1 : Nat) : Int) by omega)
              have him : i1 < m := by have := HM.out; omega
              have HH := Lib.hid (show i < m ∧ i1 < m by omega)
              have HX0 := Lib.hid (show (cellsI (a :: (k : Int) :: r) ++ more)[i]? = some (.int .i64 x0) from by
                rw [List.getElem?_append_left (by rw [length_cellsI]; simp only [List.length_cons]; have := HRK.out; omega)]
                refine cellsI_at ?_
                rw [hi, show 2 + 2 * j = 2 * j + 1 + 1 by omega]; exact hx0)
              have HX1 := Lib.hid (show (cellsI (a :: (k : Int) :: r) ++ more)[i1]? = some (.int .i64 x1) from by
                rw [List.getElem?_append_left (by rw [length_cellsI]; simp only [List.length_cons]; have := HRK.out; omega)]
                refine cellsI_at ?_
                rw [hi1, show 2 + 2 * j + 1 = 2 * j + 1 + 1 + 1 by omega]; exact hx1)
              have hiI : (2 : Int) + 2 * (j : Int) = (i : Int) := by omega
              rw [hiI]
              obtain ⟨E2, hE2⟩ : ∃ E, (pairsOf r).take j = E := ⟨_, rfl⟩
              obtain ⟨E3, hE3⟩ : ∃ E, E = E2 ++ [(x0, x1)] := ⟨_, rfl⟩
              obtain ⟨j1, hj1⟩ : ∃ x, x = j + 1 := ⟨_, rfl⟩
              have HE3 := Lib.hid (show (pairsOf r).take (j + 1) = E3 from by rw [List.take_add_one, hp, hE2, hE3]; rfl)
              have HE2 := Lib.hid (show E2.length = j from by rw [← hE2, List.length_take, HPL.out]; omega)
              rw [hE2] at HR
              obtain ⟨A2, n2, c2, rfl⟩ := rowE_slice HR.out
              have HHO := Lib.hid (rowE_home HR.out)
              have HNX := Lib.hid (show ∀ g, wr.heap.size ≤ g → some g ≠ (Value.slice A2 n2 c2).ownBlock from fun g hg e => by
                obtain ⟨xs, ho⟩ := rowE_mine HR.out e.symm
                have := ho.lt
                omega)
              have CE := Lib.hid (fun V (hV : wr.grownBy V (Value.slice A2 n2 c2).ownBlock) => HG.out.grown hV (fun e => by
                obtain ⟨xs, ho⟩ := rowE_mine HR.out e.symm
                exact HG.out.ne ho (by decide) rfl))
              have CL := Lib.hid (fun V (hV : wr.grownBy V (Value.slice A2 n2 c2).ownBlock) => HLr.out.grown hV (fun e => by
                obtain ⟨xs, ho⟩ := rowE_mine HR.out e.symm
                exact HLr.out.ne ho (by decide) rfl))
              have hdc : decide ((i : Int) < (m : Int)) = true := decide_eq_true (by omega)
              have hdn : decide (i < m) = true := decide_eq_true (by omega)
              have HWS := Lib.hid (show W3.heap.size ≤ wr.heap.size from by have := HG.out.lt; have := HW3.out; have := HGE.out; omega)
              clear hi hi1 hp hx0 hx1 hE2 HLr
              have HJ1 := Lib.hid hj1; have HED := Lib.hid hE3
              clear hj1 hE3
              go_wp2_with fail
              refine wpIn_wide (n := 1) |>.1 (regionIn_postsX (ia := 13) (x := (Value.slice A2 n2 c2).ownBlock) 14 (fun _ => trivial) (by kernel_rfl) (tblRd G gv m cap i i1 A2 n2 c2 x0 x1 wr.heap.size W3.heap.size j1 E3) (by kernel_rfl) (by kernel_rfl) ?_ ?_ ?_)
              · intro j v V V' hs hg hk hj
                match j, hj with
                | 0, _ | 1, _ | 2, _ | 3, _ | 4, _ | 5, _ | 6, _ | 7, _ | 8, _ | 9, _ | 10, _ | 11, _ => exact hk
                | 12, _ =>
                  obtain ⟨g, e, hge, ho⟩ := hk
                  exact ⟨g, e, hge, ho.grown hg (HNX.out g hge)⟩
                | 13, hj => exact absurd rfl hj
                | n + 14, _ => trivial
              · simp only [List.take_succ_cons, List.take_zero]
                skip
                refine .yes (by decide) rfl (fun a W Q hB hO hD => ?_) ?_
                · have e11 : a.tmps.getD 11 undef = .pointer (some ⟨G, 0, none⟩) := hO.slot 11 _ rfl rfl
                  clear hO hD
                  gi_wp2
                  exact ⟨_, rfl, Below.refl _ _, rfl⟩
                refine .yes (by decide) rfl (fun a W Q hB hO hD => ?_) ?_
                · have e69 : a.tmps.getD 69 undef = .pointer (some ⟨G, 1, none⟩) := hD 0 rfl
                  clear hO hD
                  have hO2 := CE.out W hB
                  have q := hO2.cell
                  have z := hO2.lt
                  gi_wp2
                  exact ⟨_, rfl, Below.refl _ _, rfl⟩
                refine .yes (by decide) rfl (fun a W Q hB hO hD => ?_) ?_
                · have e6 : a.tmps.getD 6 undef = .slice (some ⟨gv, 0, none⟩) m cap := hO.slot 6 _ rfl rfl
                  clear hO hD
                  go_wp2
                  exact ⟨_, rfl, Below.refl _ _, rfl⟩
                refine .yes (by decide) rfl (fun a W Q hB hO hD => ?_) ?_
                · have e12 : a.tmps.getD 12 undef = .int .i64 (i : Nat) := hO.slot 12 _ rfl rfl
                  clear hO hD
                  go_wp2
                  exact ⟨_, rfl, Below.refl _ _, rfl⟩
                refine .yes (by decide) rfl (fun a W Q hB hO hD => ?_) ?_
                · have e71 : a.tmps.getD 71 undef = .slice (some ⟨gv, 0, none⟩) m cap := hD 2 rfl
                  have e72 : a.tmps.getD 72 undef = .int .i64 (i : Nat) := hD 3 rfl
                  clear hO hD
                  have hh := HH.out
                  gi_wp2
                  exact ⟨_, rfl, Below.refl _ _, rfl⟩
                refine .yes (by decide) rfl (fun a W Q hB hO hD => ?_) ?_
                · have e73 : a.tmps.getD 73 undef = .pointer (some ⟨gv, i, none⟩) := hD 4 rfl
                  clear hO hD
                  have hO2 := CL.out W hB
                  have q := (hO2.cell _).trans HX0.out
                  have z := hO2.lt
                  gi_wp2
                  exact ⟨_, rfl, Below.refl _ _, rfl⟩
                refine .yes (by decide) rfl (fun a W Q hB hO hD => ?_) ?_
                · have e6 : a.tmps.getD 6 undef = .slice (some ⟨gv, 0, none⟩) m cap := hO.slot 6 _ rfl rfl
                  clear hO hD
                  go_wp2
                  exact ⟨_, rfl, Below.refl _ _, rfl⟩
                refine .yes (by decide) rfl (fun a W Q hB hO hD => ?_) ?_
                · have e12 : a.tmps.getD 12 undef = .int .i64 (i : Nat) := hO.slot 12 _ rfl rfl
                  clear hO hD
                  go_wp2
                  exact ⟨_, rfl, Below.refl _ _, rfl⟩
                refine .yes (by decide) rfl (fun a W Q hB hO hD => ?_) ?_
                · have e76 : a.tmps.getD 76 undef = .int .i64 (i : Nat) := hD 7 rfl
                  clear hO hD
                  have hi1 := HI1.out
                  gi_wp2
                  exact ⟨_, rfl, Below.refl _ _, rfl⟩
                refine .yes (by decide) rfl (fun a W Q hB hO hD => ?_) ?_
                · have e75 : a.tmps.getD 75 undef = .slice (some ⟨gv, 0, none⟩) m cap := hD 6 rfl
                  have e77 : a.tmps.getD 77 undef = .int .i64 (i1 : Nat) := hD 8 rfl
                  clear hO hD
                  have hh := HH.out
                  gi_wp2
                  exact ⟨_, rfl, Below.refl _ _, rfl⟩
                refine .yes (by decide) rfl (fun a W Q hB hO hD => ?_) ?_
                · have e78 : a.tmps.getD 78 undef = .pointer (some ⟨gv, i1, none⟩) := hD 9 rfl
                  clear hO hD
                  have hO2 := CL.out W hB
                  have q := (hO2.cell _).trans HX1.out
                  have z := hO2.lt
                  gi_wp2
                  exact ⟨_, rfl, Below.refl _ _, rfl⟩
                refine .yes (by decide) rfl (fun a W Q hB hO hD => ?_) ?_
                · have e74 : a.tmps.getD 74 undef = .int .i64 x0 := hD 5 rfl
                  have e79 : a.tmps.getD 79 undef = .int .i64 x1 := hD 10 rfl
                  clear hO hD
                  refine wpIn_build2 rfl (show a.eval (.tmp 74) = _ from e74) (show a.eval (.tmp 79) = _ from e79) ?_
                  exact ⟨_, rfl, Below.refl _ _, rfl⟩
                refine .yes (by decide) rfl (fun a W Q hB hO hD => ?_) ?_
                · have e80 : a.tmps.getD 80 undef = .agg #[.int .i64 x0, .int .i64 x1] := hD 11 rfl
                  clear hO hD
                  have f80 : a.tmps[80]?.getD undef = .agg #[.int .i64 x0, .int .i64 x1] := by rw [← Array.getD_eq_getD_getElem?]; exact e80
                  gi_wp2
                  exact ⟨_, rfl, alloc_below _ _, _, rfl, hB.size, Own.new' rfl⟩
                refine .app rfl rfl (fun a W Q hB hO hD => ?_) ?_
                · have e70 : a.tmps.getD 70 undef = .slice A2 n2 c2 := hD 1 rfl
                  obtain ⟨g81, e81, b81, h81⟩ : ∃ g, (a.tmps.getD 81 undef) = .slice (some ⟨g, 0, none⟩) 1 1 ∧ wr.heap.size ≤ g ∧ Own W g 49 [.int .i64 x0, .int .i64 x1] := hD 12 rfl
                  clear hO hD
                  refine wpIn_append_edge (k := [(x0, x1)]) rfl (show a.eval (.tmp 70) = _ from e70) (show a.eval (.tmp 81) = _ from e81) (HR.out.below hB) rfl h81.rd (by have := HE2.out; omega) (Nat.le_trans HWS.out hB.size) ?_
                  intro v' w' r1 r2
                  obtain ⟨A, c, rfl, _⟩ := r1.rd
                  have hlen : (E2 ++ [(x0, x1)]).length = j1 := by rw [List.length_append, HE2.out, HJ1.out]; rfl
                  rw [hlen, ← HED.out] at r1
                  exact ⟨_, rfl, r2, A, c, by rw [hlen], r1⟩
                exact .nil
              · intro f3 W4 hGr hR
                obtain ⟨A5, c5, e13, hr13⟩ : ∃ A c, f3 13 = .slice A j1 c ∧ RowE W3.heap.size W4 (.slice A j1 c) E3 := hR 13 (by decide)
                have ol := CE.out W4 hGr
                have q0 := ol.cell; have q1 := ol.frozen; have q2 := ol.lt
                have HG4 := Lib.hid (show Own (W4.setCell ⟨G, 1, none⟩ (.slice A5 j1 c5)) G 26 [.int .i64 a, .slice A5 j1 c5] from ol.set 1 (.slice A5 j1 c5))
                have HR4 := Lib.hid (rowE_box1 hr13 ol (.slice A5 j1 c5))
                have HB4 := Lib.hid (show Below W2.heap.size W2 (W4.setCell ⟨G, 1, none⟩ (.slice A5 j1 c5)) from (RowKit.Below.grown HB.out hGr HB.out.size (by
                  intro q hq
                  rcases HHO.out with e | ⟨g, e, hg⟩
                  · rw [e] at hq; cases hq
                  · rw [e] at hq; injection hq with hq; have := HW3.out; omega)).setCell (p := ⟨G, 1, none⟩) HGW.out _)
                clear hR hGr hr13 ol
                clear HR HG HB HNX HHO CE CL
                simp only [List.take_succ_cons, List.take_zero, List.drop_succ_cons, List.drop_zero, putAll, Nat.zero_add, Nat.reduceAdd, Act.put, List.setIfInBounds_toArray, List.set_cons_zero, List.set_cons_succ, e13]
                gi_wp2
                go_wp2
                refine ⟨⟨j + 1, _, by omega, by rw [HI2.out], HG4, by rw [HE3.out]; exact HR4, HB4⟩, ?_⟩
                simp [intOf]; omega
            · obtain rfl : j = k := by omega
              have hdc : decide ((2 : Int) + 2 * (j : Int) < (m : Int)) = false := decide_eq_false (by have := HM.out; omega)
              rw [List.take_of_length_le (by rw [HPL.out]; exact Nat.le_refl _)] at HR
              obtain ⟨A2, n2, c2, rfl⟩ := rowE_slice HR.out
              have hn2 : n2 = (pairsOf r).length := by obtain ⟨A, c, e, _⟩ := HR.out.rd; injection e
              have HEA := Lib.hid (HR.out.toArg (by rw [hn2, HPL.out]; omega))
              have CR := Lib.hid (rightR2_any a A2 n2 c2 (pairsOf r) wr HEA.out)
              obtain ⟨rr, hrr⟩ : ∃ x, rightG a (pairsOf r) = x := ⟨_, rfl⟩
              rw [hrr] at CR
              have HRR := Lib.hid hrr
              have q0 := HG.out.cell; have z0 := HG.out.lt
              clear hrr hn2
              go_wp2_with fail
              refine CR.out.mono ?_
              rintro e w7 ⟨rfl, hb7⟩
              have OBX := Lib.hid ((OB2.out.below' (below_chain HB2.out HB.out)).below' hb7)
              have HBF := Lib.hid (below_chain HBW.out (below_chain (below_chain HB2.out HB.out) hb7))
              have HG7 := Lib.hid (HG.out.below' hb7)
              have HR7 := Lib.hid (HR.out.below hb7)
              have hs7 := hb7.size
              have hs8 := HB.out.size
              clear hb7 CR q0 z0
              cases rr with
              | false =>
                have HX := Lib.hid (readX_none (f := f) (n := n) (by rw [HRO.out, HNE.out, if_neg (by rw [HRR.out]; simp)]))
                have yR := OBX.out.lt; have fR := OBX.out.frozen; have qR := OBX.out.cell
                go_wp2
                have hF := (OBX.out.set 0 (.int .i64 0)).set 1 (.slice none 0 0)
                have r0 := hF.cell 0
                have r1 := hF.cell 1
                simp only [List.set_cons_zero, List.set_cons_succ, List.getElem?_cons_zero, List.getElem?_cons_succ] at r0 r1
                exact bodyPost_ret (v := .tuple #[.agg #[.int .i64 0, .slice none 0 0], .int .i64 20]) (by simp [results, Tryd.results28, go_sem, r0, r1]) rfl (by show GrE w (readN f n) (readX f n) _ _; rw [HX.out]; exact ⟨rfl, (HBF.out.setCell (by simp; try omega) _).setCell (by simp; try omega) _⟩)
              | true =>
                have HX := Lib.hid (readX_some (f := f) (n := n) (N := a) (E := pairsOf r) (by rw [HRO.out, HNE.out, if_pos HRR.out]))
                have yR := OBX.out.lt; have fR := OBX.out.frozen; have qR := OBX.out.cell
                have q0 := HG7.out.cell; have z0 := HG7.out.lt
                go_wp2
                have hF := (OBX.out.set 0 (.int .i64 a)).set 1 (.slice A2 n2 c2)
                have r0 := hF.cell 0
                have r1 := hF.cell 1
                simp only [List.set_cons_zero, List.set_cons_succ, List.getElem?_cons_zero, List.getElem?_cons_succ] at r0 r1
                exact bodyPost_ret (v := .tuple #[.agg #[.int .i64 a, .slice A2 n2 c2], .int .i64 0]) (by simp [results, Tryd.results28, go_sem, r0, r1]) rfl (by
                  show GrE w (readN f n) (readX f n) _ _
                  rw [HX.out.1, HX.out.2]
                  exact ⟨_, rfl, (rowE_box2 HR7.out OBX.out _ _).base (by have := HW3.out; have := HBW.out.size; have := HB2.out.size; omega), (HBF.out.setCell (by simp; try omega) _).setCell (by simp; try omega) _⟩)
        · have dn : ((m : Int) != 2 + 2 * (k : Int)) = true := by have := HM'.out; simp; omega
          have HX := Lib.hid (readX_none (f := f) (n := n) (by rw [HRO.out, HNE.out, if_neg (by omega)]))
          clear h3
          have yR := OBX.out.lt; have fR := OBX.out.frozen; have qR := OBX.out.cell
          go_wp2
          have hF := (OBX.out.set 0 (.int .i64 0)).set 1 (.slice none 0 0)
          have r0 := hF.cell 0
          have r1 := hF.cell 1
          simp only [List.set_cons_zero, List.set_cons_succ, List.getElem?_cons_zero, List.getElem?_cons_succ] at r0 r1
          exact bodyPost_ret (v := .tuple #[.agg #[.int .i64 0, .slice none 0 0], .int .i64 20]) (by simp [results, Tryd.results28, go_sem, r0, r1]) rfl (by show GrE w (readN f n) (readX f n) _ _; rw [HX.out]; exact ⟨rfl, (HBF.out.setCell (by simp; try omega) _).setCell (by simp; try omega) _⟩)
  · have HX := Lib.hid (readX_none (f := f) (n := n) (if_neg (fun h => hcond ⟨h.2.1, h.2.2.1⟩)))
    have HU := Lib.hid (unpack_ref_zero A n c f _ HR.out hn (fun h0 => by
      by_cases h1 : byteF f (n - 1) = 0
      · exact h1
      · exact absurd ⟨h0, h1⟩ hcond))
    clear hcond
    go_enter Tryd.func28, Tryd.ntmps28
    go_wp2_with fail
    refine HU.out.mono ?_
    rintro e w1 ⟨rfl, hb⟩
    have OB1 := Lib.hid ((OB.out.below' hb).alloc (.cells #[.slice none 0 0, .int .i64 0] 63))
    have HB1 := Lib.hid ((HB0.out.trans (hb.mono HB0.out.size)).alloc (by have := HB0.out.size; have := hb.size; omega) (.cells #[.slice none 0 0, .int .i64 0] 63))
    clear hb
    have yR := OB1.out.lt; have fR := OB1.out.frozen; have qR := OB1.out.cell
    go_wp2
    have hF := (OB1.out.set 0 (.int .i64 0)).set 1 (.slice none 0 0)
    have r0 := hF.cell 0
    have r1 := hF.cell 1
    simp only [List.set_cons_zero, List.set_cons_succ, List.getElem?_cons_zero, List.getElem?_cons_succ] at r0 r1
    exact bodyPost_ret (v := .tuple #[.agg #[.int .i64 0, .slice none 0 0], .int .i64 20]) (by simp [results, Tryd.results28, go_sem, r0, r1]) rfl (by show GrE w (readN f n) (readX f n) _ _; rw [HX.out]; exact ⟨rfl, (HB1.out.setCell (by simp; try omega) _).setCell (by simp; try omega) _⟩)
end Go.Proofs.YtljihclpgpmfeaaDoor
