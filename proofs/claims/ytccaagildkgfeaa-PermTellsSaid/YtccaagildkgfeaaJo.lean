/- Rows of rows that grow from nothing; walk: fretworkref03.Cycles. -/
import Derived.Test.YtccaagildkgfeaaJn
import Derived.Test.YtccaagildkgfeaaPf
namespace Go.Proofs.Ytccaagildkgfeaa
open Go.RowKit

/-- Rows of numbers of the call's own, in a row of the call's own. -/
def RowLw (B : Nat) (V : World) (v : Value) (cs : List (List Int)) : Prop :=
  (cs = [] ∧ v = .slice none 0 0) ∨ ∃ g cap vs more, v = .slice (some ⟨g, 0, none⟩) cs.length cap ∧ B ≤ g ∧ Own V g 22 (vs ++ more) ∧ vs.length = cs.length ∧ cs.length ≤ cap ∧ cap ≤ maxLen ∧ (vs ++ more).length = cap ∧
    ∀ (i : Nat) (u : Value) (c : List Int), vs[i]? = some u → cs[i]? = some c → RowI B V u c
section
variable {B : Nat} {V V' : World} {v : Value} {cs : List (List Int)}
theorem RowLw.below (h : RowLw B V v cs) (hb : Below V.heap.size V V') : RowLw B V' v cs := by
  rcases h with h | ⟨g, cap, vs, more, e, hg, ho, h1, h2, h3, h4, h5⟩
  · exact .inl h
  · exact .inr ⟨g, cap, vs, more, e, hg, ho.below' hb, h1, h2, h3, h4, fun i u c hu hc => (h5 i u c hu hc).below hb⟩
theorem RowLw.base {B' : Nat} (h : RowLw B V v cs) (hB : B' ≤ B) : RowLw B' V v cs := by
  rcases h with h | ⟨g, cap, vs, more, e, hg, ho, h1, h2, h3, h4, h5⟩
  · exact .inl h
  · exact .inr ⟨g, cap, vs, more, e, Nat.le_trans hB hg, ho, h1, h2, h3, h4, fun i u c hu hc => (h5 i u c hu hc).base hB⟩
theorem RowLw.args (h : RowLw B V v cs) (hl : cs.length ≤ 100000) (hc : ∀ c ∈ cs, c.length ≤ 100000) : ∃ A k, v = .slice A cs.length k ∧ ArgL V A cs.length k cs := by
  rcases h with ⟨rfl, rfl⟩ | ⟨g, cap, vs, more, rfl, hg, ho, h1, h2, h3, h4, h5⟩
  · exact ⟨none, 0, rfl, ⟨[], rfl, Rd.nil, fun i v l hv => by simp at hv⟩, rfl, by decide⟩
  · refine ⟨_, cap, rfl, ⟨vs, h1, rd_front ho, fun i v l hv hl => ?_⟩, rfl, by omega⟩
    obtain ⟨A, c, e, ha⟩ := (h5 i v l hv hl).arg (hc l (List.mem_of_getElem? hl))
    exact ⟨A, c, e, ha⟩
/-- append of a row to rows. -/
theorem run_append_listw (ty : TypeId) {x : Value} {l : List Int} (g0 : Nat) (h1 : RowLw B V v cs) (hx : Own V g0 22 [x]) (hv : RowI B V x l) (hsz : cs.length ≤ 100000) (hB : B ≤ V.heap.size) :
    ∃ v' w', (Builtin.append_ #[25, 25] ty #[v, .slice (some ⟨g0, 0, none⟩) 1 1]).run Try.prog V = .ok v' w' ∧ RowLw B w' v' (cs ++ [l]) ∧ Below B V w' := by
  obtain ⟨i0, hi, hz0, hz1, hz2⟩ := info_parts infoS
  have hown : ∃ vs, vs.length = cs.length ∧ V.ownsRow B 22 1 v cs.length vs ∧ ∀ (i : Nat) (u : Value) (c : List Int), vs[i]? = some u → cs[i]? = some c → RowI B V u c := by
    rcases h1 with ⟨rfl, rfl⟩ | ⟨g, cap, vs, more, rfl, hg, ho, r1, r2, r3, r4, r5⟩
    · exact ⟨[], rfl, World.ownsRow_nil _ _ _ _, fun i u c hu => by simp at hu⟩
    · exact ⟨vs, r1, owns_of_own ho hg (by rw [r1, Nat.mul_one]) r2 r3 (by rw [r4, Nat.mul_one]), r5⟩
  obtain ⟨vs, r1, hown, r5⟩ := hown
  obtain ⟨v', w', e, hown', hgrow, hnil, hblk⟩ := run_append_own_at (P := Try.prog) V B 25 ty 22 i0 (.slice none 0 0) 1 24 Try.underlying25 hi hz0 hz1 hz2 rfl (by decide) v cs.length vs hown ⟨g0, 0, none⟩ 1 1 [x] rfl (fun j u hj => hx.add hj) (by simp [hv.one]) (by unfold maxLen; omega) (by omega) hB
  obtain ⟨g', cap', more', rfl, hg', hO, p1, p2, p3⟩ := row_own hown' (fun e => by have := (hnil.1 e).2; omega)
  have key : (∀ u k, RowI B V u k → RowI B w' u k) ∧ Below B V w' := by
    rcases h1 with ⟨_, rfl⟩ | ⟨g, cap, vs0, more, rfl, hg, ho, _⟩
    · have hb := below_none hgrow
      exact ⟨fun u k h => h.below hb, hb.mono hB⟩
    · have hgrow' : V.grownBy w' (some g) := hgrow
      refine ⟨fun u k h => ?_, grown_below hgrow' hg hB⟩
      rcases h with h | ⟨g1, cap1, more1, e, hg1, h1, h⟩
      · exact .inl h
      · exact .inr ⟨g1, cap1, more1, e, hg1, h1.grown' ho (by decide) hgrow', h⟩
  refine ⟨_, w', e, .inr ⟨g', cap', vs ++ [x], more', by rw [List.length_append]; rfl, hg', hO, by simp [r1], by simpa using p1, p2, by rw [p3, Nat.mul_one], fun i u c hu hc => ?_⟩, key.2⟩
  rcases Nat.lt_or_ge i cs.length with hlt | hge
  · rw [List.getElem?_append_left (by omega)] at hu
    rw [List.getElem?_append_left hlt] at hc
    exact key.1 _ _ (r5 i u c hu hc)
  · rw [List.getElem?_append_right (by omega)] at hu
    rw [List.getElem?_append_right hge] at hc
    have e1 : i - vs.length = 0 := by
      have := (List.getElem?_eq_some_iff.1 hu).1
      simp at this; omega
    have e2 : i - cs.length = 0 := by omega
    rw [e1] at hu; rw [e2] at hc
    simp at hu hc
    subst hu hc
    exact key.1 _ _ hv
theorem wpList_append_listw {x : Value} {l : List Int} {ops : Array Oper} {rest : List Oper} {o : Oper} {a : Act} {Q : Exit → Act → World → Prop} (hgd : o.guard = none) (s y : Operand)
    (hop : o.op = .call { callee := .builtin .append, args := #[s, y], argTypes := #[25, 25] }) (g0 : Nat) (hs : a.eval s = v) (hy : a.eval y = .slice (some ⟨g0, 0, none⟩) 1 1) (h1 : RowLw B V v cs) (hx : Own V g0 22 [x]) (hv : RowI B V x l) (hsz : cs.length ≤ 100000) (hB : B ≤ V.heap.size)
    (h : ∀ v' w', RowLw B w' v' (cs ++ [l]) → Below B V w' → wpList Try.prog ops Q rest (a.put o.dst v') w') : wpList Try.prog ops Q (o :: rest) a V := by
  obtain ⟨v', w', e, q1, q2⟩ := run_append_listw o.type g0 h1 hx hv hsz hB
  refine wpList_plain hgd fun K hK => ?_
  unfold Oper.wp execOp
  simp only [hop, resolve, invoke, builtin, Sem.run_bind, Sem.run_pure, Result.andThen_ok, List.map_toArray, List.map_cons, List.map_nil, hs, hy, e]
  exact hK _ _ (h v' w' q1 q2)
end
def ErrLw (w : World) (o : Option (List (List Int))) (e : Ending) (w' : World) : Prop := ∃ v, e = .returned (.tuple #[v, .int .i64 (if o.isSome then 0 else 30)]) ∧ RowLw w.heap.size w' v (o.getD []) ∧ Below w.heap.size w w'
/-- Is the first thing the least, so far? -/
def leastK (p : List Int) (x k : Nat) : Bool := ((cyc p x).take k).all fun y => decide ((x : Int) ≤ y)
theorem leastK_all {p : List Int} {x : Nat} : leastK p x (ord1 p x) = leastB p x := by
  unfold leastK leastB
  rw [List.take_of_length_le (by rw [length_cyc]; exact Nat.le_refl _)]
theorem leastK_step {p : List Int} {x k : Nat} (h : k < ord1 p x) : leastK p x (k + 1) = (leastK p x k && decide ((x : Int) ≤ ((it p k x : Nat) : Int))) := by
  unfold leastK
  rw [List.take_add_one, cyc_at h, List.all_append]
  simp
theorem leastK_one {p : List Int} {x : Nat} : leastK p x 1 = true := by
  rw [leastK_step (ord1_pos p x)]
  show (true && decide ((x : Int) ≤ ((x : Nat) : Int))) = true
  simp
set_option maxRecDepth 100000 in
set_option maxHeartbeats 4000000 in
theorem cyclesR_any (A : Option Addr) (n c : Nat) (p : List Int) (w : World) (h1 : ArgI w A n c p) :
    Calls Try.prog 25 #[.slice A n c] w (ErrLw w (cycO p)) := by
  have H1 := Lib.hid h1
  have hn0 := h1.le
  clear h1
  have HP := Lib.hid (rightR_any A n c p w H1.out)
  obtain ⟨r, hr⟩ : ∃ r, rightP p = r := ⟨_, rfl⟩
  rw [hr] at HP
  have RP := Lib.hid hr
  clear hr
  go_enter Try.func25, Try.ntmps25
  go_wp2_with fail
  refine HP.out.mono ?_
  rintro e w2 ⟨rfl, hb1⟩
  have HB2 := Lib.hid hb1
  clear hb1
  cases r with
  | false =>
    have HC := Lib.hid (show cycO p = none from if_neg (by rw [RP.out]; simp))
    go_wp2
    go_ret2
    exact ⟨.slice none 0 0, by rw [HC.out]; rfl, .inl ⟨by rw [HC.out]; rfl, rfl⟩, HB2.out⟩
  | true =>
    have HC := Lib.hid (show cycO p = some (cycs p p.length) from if_pos RP.out)
    have L1 := Lib.hid (show p.length = n from H1.out.len.symm)
    have hn : n ≤ 200 := by have := right_le RP.out; have := L1.out; omega
    have H1' := Lib.hid (H1.out.keep HB2.out)
    have HS0 := Lib.hid (show RowLw w2.heap.size w2 (.slice none 0 0) (cycs p 0) from .inl ⟨rfl, rfl⟩)
    go_wp2_with fail
    go_loopw [4, 5, 6, 7, 8] (fun v i _ _ _ wr => ∃ x : Nat, x ≤ n ∧ i = .int .i64 (x : Int) ∧ Hid (RowLw w2.heap.size wr v (cycs p x)) ∧ Hid (Below w2.heap.size w2 wr)) (fun _ i _ _ _ _ => n - (intOf i).toNat)
    case atStart => exact ⟨0, Nat.zero_le _, rfl, HS0, Lib.hid (Below.refl _ _)⟩
    case round =>
      obtain ⟨x, hx, rfl, HV0, HB0⟩ := hrel
      obtain ⟨wo, hwo⟩ : ∃ V, V = wr := ⟨_, rfl⟩
      subst hwo
      by_cases hlt : x < n
      · obtain ⟨b, off, rfl, hb, hc⟩ := rd_int H1'.out.rd (by have := L1.out; omega)
        have HC1 := Lib.hid hc
        have hxl : x < p.length := by have := L1.out; omega
        have q0 := hc (wo.alloc (.cells #[.int .i64 (x : Int)] 3)) (bel_alloc HB0.out _) x _ (at0_eq RP.out hxl)
        have HXL := Lib.hid hxl
        obtain ⟨Lx, hLx⟩ : ∃ L, ord1 p x = L := ⟨_, rfl⟩
        have hL0 := ord1_pos p x
        have hL2 := (ord1_spec RP.out hxl).2.1
        rw [hLx] at hL0 hL2
        have HLx := Lib.hid hLx
        have hL3 : Lx ≤ 200 := by have := right_le RP.out; omega
        have HX0 := Lib.hid (show RowI wo.heap.size (wo.alloc (.cells #[.int .i64 (x : Int)] 3)) (.slice (some ⟨wo.heap.size, 0, none⟩) 1 1) ((cyc p x).take (0 + 1)) from by
          have h := RowI.made (B := wo.heap.size) (l := [(x : Int)]) (Own.new' (w := wo) (t := 3) (vs := cellsI [(x : Int)]) rfl) (Nat.le_refl _) (by simp)
          rw [List.take_add_one, cyc_at (ord1_pos p x)]
          exact h)
        have HBa := Lib.hid (alloc_below wo (.cells #[.int .i64 (x : Int)] 3))
        have HLe := Lib.hid (show leastK p x (0 + 1) = true from leastK_one)
        have HIt := Lib.hid (show at0 p x = it p (0 + 1) x from rfl)
        clear hc hLx hL2 hxl
        go_wp2_with fail
        go_loopw [6, 7, 8] (fun s6 s7 s8 V => ∃ j : Nat, j < Lx ∧ s8 = .int .i64 ((it p (j + 1) x : Nat) : Int) ∧ s7 = .bool (leastK p x (j + 1)) ∧ Hid (RowI wo.heap.size V s6 ((cyc p x).take (j + 1))) ∧ Hid (Below wo.heap.size wo V) ∧ Hid (lenV s6 = j + 1)) (fun s6 _ _ _ => Lx - lenV s6)
        case atStart => exact ⟨0, hL0, rfl, by rw [HLe.out], HX0, HBa, Lib.hid rfl⟩
        case round =>
          obtain ⟨j, hj, rfl, rfl, HX, HBo, HLn⟩ := hrel
          have HB := Lib.hid (below_chain HB0.out HBo.out)
          have HV := Lib.hid (HV0.out.below HBo.out)
          have hsp := ord1_spec RP.out HXL.out
          by_cases hend : j + 1 = Lx
          · have ht : it p (j + 1) x = x := by rw [hend, ← HLx.out]; exact hsp.1
            rw [ht]
            have HXc := Lib.hid (show RowI w2.heap.size wr _ (cyc p x) from by have h := HX.out.base HB0.out.size; rw [hend, List.take_of_length_le (by rw [length_cyc, HLx.out]; exact Nat.le_refl _)] at h; exact h)
            obtain ⟨lb, hlb⟩ : ∃ l, leastB p x = l := ⟨_, rfl⟩
            have HLB := Lib.hid hlb
            rw [show leastK p x (j + 1) = lb from by rw [hend, ← HLx.out, leastK_all, hlb]]
            clear ht hsp hlb HX hend
            cases lb with
            | true =>
              have hxx : ((x : Int) != (x : Int)) = false := by simp
              obtain ⟨A6, c6, rfl, _, _⟩ := HXc.out.rd
              have HN := Lib.hid (fun v => Own.new' (w := wr) (t := 22) (g := wr.heap.size) (vs := [v]) rfl)
              have HB1 := Lib.hid (fun o => bel_alloc HB.out o)
              have HST := Lib.hid (cycs_step_yes HLB.out)
              have HCL := Lib.hid (show (cycs p x).length ≤ 100000 by have h1 := cycs_mono (p := p) (show x ≤ p.length from Nat.le_of_lt HXL.out); have h2 := cycs_le (p := p); have := L1.out; omega)
              go_wp2_with (at_builtin; refine wpList_append_listw rfl (.tmp 42) (.tmp 44) rfl wr.heap.size rfl rfl (HV.out.below (alloc_below _ _)) (HN.out _) (HXc.out.below (alloc_below _ _)) HCL.out (HB1.out _).size ?_; intro v' w' hr hb; have HR' := Lib.hid hr; have HB' := Lib.hid ((HB1.out _).trans hb); clear hr hb)
              go_roundw
              case rel => exact ⟨x + 1, by omega, by go_num, by rw [HST.out]; exact HR', HB'⟩
              case measure => simp [intOf]; omega
            | false =>
              have hxx : ((x : Int) != (x : Int)) = false := by simp
              have HST := Lib.hid (cycs_step_no HLB.out)
              go_wp2
              go_roundw
              case rel => exact ⟨x + 1, by omega, by go_num, by rw [HST.out]; exact HV, HB⟩
              case measure => simp [intOf]; omega
          · have hjl : j + 1 < ord1 p x := by rw [HLx.out]; omega
            have htx := hsp.2.2 (j + 1) (by omega) hjl
            have htl := it_lt RP.out HXL.out (j + 1)
            have HTK := Lib.hid (show (cyc p x).take (j + 1) ++ [((it p (j + 1) x : Nat) : Int)] = (cyc p x).take (j + 1 + 1) by rw [List.take_add_one (i := j + 1), cyc_at hjl]; rfl)
            have HLK := Lib.hid (leastK_step hjl)
            have q1 := at0_eq RP.out htl
            have HIT := Lib.hid (show at0 p (it p (j + 1) x) = it p (j + 1 + 1) x from rfl)
            obtain ⟨t, ht⟩ : ∃ t, it p (j + 1) x = t := ⟨_, rfl⟩
            rw [ht] at htx htl HTK HLK q1 HIT ⊢
            have HQ := Lib.hid (fun V (hV : Below w2.heap.size w2 V) => HC1.out V hV t _ q1)
            rw [HIT.out] at HQ
            have hne : ((t : Int) != (x : Int)) = true := by rw [bne_iff_ne]; omega
            have htn : t < n := by have := L1.out; omega
            have HTL := Lib.hid (show decide ((x : Int) ≤ (t : Int)) = decide (x < t) by rw [decide_eq_decide]; omega)
            have HTL1 := Lib.hid (show ((cyc p x).take (j + 1)).length ≤ 200 by rw [List.length_take]; omega)
            have HN := Lib.hid (Own.new' (w := wr) (t := 3) (g := wr.heap.size) (vs := cellsI [(t : Int)]) rfl)
            have HB1 := Lib.hid (bel_alloc HBo.out (.cells #[.int .i64 (t : Int)] 3))
            have HX1 := Lib.hid (HX.out.below (alloc_below wr (.cells #[.int .i64 (t : Int)] 3)))
            obtain ⟨lk, hlk⟩ : ∃ l, leastK p x (j + 1) = l := ⟨_, rfl⟩
            obtain ⟨dt, hdt⟩ : ∃ d, decide (x < t) = d := ⟨_, rfl⟩
            rw [hlk] at HLK ⊢
            rw [HTL.out, hdt] at HLK
            have HLN2 := Lib.hid (show (cyc p x).take (j + 1 + 1) = (cyc p x).take (j + 1 + 1) ∧ ((cyc p x).take (j + 1 + 1)).length = j + 1 + 1 from ⟨rfl, by rw [List.length_take, length_cyc]; omega⟩)
            clear ht hsp htx htl q1 hlk hjl HX HV
            cases lk with
            | true =>
              go_wp2_with (at_builtin; refine wpList_append_ints rfl (.tmp 31) (.tmp 33) rfl (some ⟨wr.heap.size, 0, none⟩) 1 1 (k := [(t : Int)]) rfl rfl HX1.out rfl HN.out.rd (by have := HTL1.out; omega) HB1.out.size ?_; intro v' w' hr hb; have HR' := Lib.hid hr; have HB' := Lib.hid (HB1.out.trans hb); have q2 := HQ.out w' (below_chain HB0.out HB'.out); clear hr hb)
              go_roundw
              case rel => exact ⟨j + 1, by omega, rfl, by rw [HLK.out, Bool.true_and], by rw [← HTK.out]; exact HR', HB', Lib.hid (by rw [HR'.out.lenV, HTK.out, HLN2.out.2])⟩
              case measure =>
                have e1 := HR'.out.lenV
                rw [HTK.out, HLN2.out.2] at e1
                have e2 := HLn.out
                show Lx - lenV v' < Lx - lenV _
                rw [e1, e2]
                omega
            | false =>
              go_wp2_with (at_builtin; refine wpList_append_ints rfl (.tmp 31) (.tmp 33) rfl (some ⟨wr.heap.size, 0, none⟩) 1 1 (k := [(t : Int)]) rfl rfl HX1.out rfl HN.out.rd (by have := HTL1.out; omega) HB1.out.size ?_; intro v' w' hr hb; have HR' := Lib.hid hr; have HB' := Lib.hid (HB1.out.trans hb); have q2 := HQ.out w' (below_chain HB0.out HB'.out); clear hr hb)
              go_roundw
              case rel => exact ⟨j + 1, by omega, rfl, by rw [HLK.out, Bool.false_and], by rw [← HTK.out]; exact HR', HB', Lib.hid (by rw [HR'.out.lenV, HTK.out, HLN2.out.2])⟩
              case measure =>
                have e1 := HR'.out.lenV
                rw [HTK.out, HLN2.out.2] at e1
                have e2 := HLn.out
                show Lx - lenV v' < Lx - lenV _
                rw [e1, e2]
                omega
      · obtain rfl : n = x := by omega
        have HB3 := Lib.hid (below_chain HB2.out HB0.out)
        go_wp2
        go_ret2
        refine ⟨_, by rw [HC.out]; rfl, ?_, HB3.out⟩
        rw [HC.out]
        have h := HV0.out
        rw [← L1.out] at h
        exact h.base HB2.out.size
end Go.Proofs.Ytccaagildkgfeaa
