/- Lists of numbers in memory; walk: perm.Cycles. -/
import Derived.Test.YtccaagildkgfeaaIf
namespace Go.Proofs.Ytccaagildkgfeaa
open Go.RowKit Go.Shelf
attribute [local go_sem] Oper.semAt_some

def blk : Value → Nat
  | .slice (some a) _ _ => a.block
  | _ => 0
/-- A row of rows of numbers of the call's own, each row in a block of its own. -/
structure RowL (B : Nat) (V : World) (v : Value) (cs : List (List Int)) : Prop where
  row : ∃ g cap vs more, v = .slice (some ⟨g, 0, none⟩) cs.length cap ∧ B ≤ g ∧ Own V g 22 (vs ++ more) ∧ vs.length = cs.length ∧ cs.length ≤ cap ∧ cap ≤ maxLen ∧ (vs ++ more).length = cap ∧
    (∀ (i : Nat) (u : Value) (c : List Int), vs[i]? = some u → cs[i]? = some c → RowI B V u c ∧ u ≠ .slice none 0 0) ∧ vs.Pairwise (fun u u' => blk u < blk u')
section
variable {B : Nat} {V V' : World} {v : Value} {cs : List (List Int)}
theorem RowI.kept {l : List Int} (h : RowI B V v l) (hk : ∀ (g : Nat) (t : TypeId) (vs : List Value), t ≠ 4 → Own V g t vs → Own V' g t vs) : RowI B V' v l := by
  rcases h with h | ⟨g, cap, more, e, hg, h1, h⟩
  · exact .inl h
  · exact .inr ⟨g, cap, more, e, hg, hk _ _ _ (by decide) h1, h⟩
theorem RowL.kept (h : RowL B V v cs) (hk : ∀ (g : Nat) (t : TypeId) (vs : List Value), t ≠ 4 → Own V g t vs → Own V' g t vs) : RowL B V' v cs := by
  obtain ⟨g, cap, vs, more, e, hg, ho, h1, h2, h3, h4, h5, h6⟩ := h.row
  exact ⟨g, cap, vs, more, e, hg, hk _ _ _ (by decide) ho, h1, h2, h3, h4, fun i u c hu hc => ⟨(h5 i u c hu hc).1.kept hk, (h5 i u c hu hc).2⟩, h6⟩
theorem RowL.below (h : RowL B V v cs) (hb : Below V.heap.size V V') : RowL B V' v cs := h.kept fun _ _ _ _ ho => ho.below' hb
theorem RowL.start (V : World) (hB : B ≤ V.heap.size) : RowL B (V.alloc (.cells #[] 22)) (.slice (some ⟨V.heap.size, 0, none⟩) 0 0) [] :=
  ⟨V.heap.size, 0, [], [], rfl, hB, Own.new' (vs := []) rfl, rfl, Nat.le_refl _, Nat.zero_le _, rfl, fun i u c hu => by simp at hu, List.Pairwise.nil⟩
theorem infoS : (Try.prog.info? 22).map (fun i => (i.zero, i.size, i.bytes)) = some (some (.slice none 0 0), 1, 24) := by kernel_rfl
theorem RowI.one {l : List Int} (h : RowI B V v l) : v.oneCell' = true := by
  rcases h with ⟨_, rfl⟩ | ⟨g, cap, more, rfl, _⟩ <;> rfl
/-- append of a row to rows. -/
theorem run_append_list (ty : TypeId) {x : Value} {l : List Int} (g0 : Nat) (h1 : RowL B V v cs) (hx : Own V g0 22 [x]) (hv : RowI B V x l) (hnn : x ≠ .slice none 0 0)
    (hlast : ∀ g cap vs more, v = .slice (some ⟨g, 0, none⟩) cs.length cap → Own V g 22 (vs ++ more) → vs.length = cs.length → ∀ u ∈ vs, blk u < blk x) (hsz : cs.length ≤ 100000) (hB : B ≤ V.heap.size) :
    ∃ v' w', (Builtin.append_ #[25, 25] ty #[v, .slice (some ⟨g0, 0, none⟩) 1 1]).run Try.prog V = .ok v' w' ∧ RowL B w' v' (cs ++ [l]) ∧ V.grownBy w' (some (blk v)) ∧ (blk v' = blk v ∨ blk v' = V.heap.size) := by
  obtain ⟨i0, hi, hz0, hz1, hz2⟩ := info_parts infoS
  obtain ⟨g, cap, vs, more, rfl, hg, ho, r1, r2, r3, r4, r5, r6⟩ := h1.row
  have hown := owns_of_own ho hg (by rw [r1, Nat.mul_one]) r2 r3 (by rw [r4, Nat.mul_one])
  obtain ⟨v', w', e, hown', hgrow, hnil, hblk⟩ := run_append_own_at (P := Try.prog) V B 25 ty 22 i0 (.slice none 0 0) 1 24 Try.underlying25 hi hz0 hz1 hz2 rfl (by decide) _ cs.length vs hown ⟨g0, 0, none⟩ 1 1 [x] rfl (fun j u hj => hx.add hj) (by simp [hv.one]) (by unfold maxLen; omega) (by omega) hB
  obtain ⟨g', cap', more', rfl, hg', hO, p1, p2, p3⟩ := row_own hown' (fun e => by have := (hnil.1 e).2; omega)
  have hgrow' : V.grownBy w' (some g) := hgrow
  have key : ∀ u k, RowI B V u k → RowI B w' u k := fun u k h => by
    rcases h with h | ⟨g1, cap1, more1, e, hg1, h1, h⟩
    · exact .inl h
    · exact .inr ⟨g1, cap1, more1, e, hg1, h1.grown' ho (by decide) hgrow', h⟩
  refine ⟨_, w', e, ⟨g', cap', vs ++ [x], more', by rw [List.length_append]; rfl, hg', hO, by simp [r1], by simpa using p1, p2, by rw [p3, Nat.mul_one], fun i u c hu hc => ?_, ?_⟩, hgrow', ?_⟩
  · rcases Nat.lt_or_ge i cs.length with hlt | hge
    · rw [List.getElem?_append_left (by omega)] at hu
      rw [List.getElem?_append_left hlt] at hc
      exact ⟨key _ _ (r5 i u c hu hc).1, (r5 i u c hu hc).2⟩
    · rw [List.getElem?_append_right (by omega)] at hu
      rw [List.getElem?_append_right hge] at hc
      have e1 : i - vs.length = 0 := by
        have := (List.getElem?_eq_some_iff.1 hu).1
        simp at this; omega
      have e2 : i - cs.length = 0 := by omega
      rw [e1] at hu; rw [e2] at hc
      simp at hu hc
      subst hu hc
      exact ⟨key _ _ hv, hnn⟩
  · rw [List.pairwise_append]
    exact ⟨r6, by simp, fun u hu u' hu' => by
      have : u' = x := by simpa using hu'
      subst this
      exact hlast g cap vs more rfl ho r1 u hu⟩
  · rcases hblk with h | h
    · left; simpa [Value.ownBlock, blk] using h
    · right; simpa [Value.ownBlock, blk] using h
theorem wpListIn_append_list {F : Fence} {nn : Nat} {x : Value} {l : List Int} {ops : Array Oper} {rest : List Oper} {o : Oper} {a : Act} {Q : Exit → Act → World → Prop} (hgd : o.guard = none) (s y : Operand)
    (ho : o.op = .call { callee := .builtin .append, args := #[s, y], argTypes := #[25, 25] }) (g0 : Nat) (hs : a.eval s = v) (hy : a.eval y = .slice (some ⟨g0, 0, none⟩) 1 1) (h1 : RowL B V v cs) (hx : Own V g0 22 [x]) (hv : RowI B V x l) (hnn : x ≠ .slice none 0 0)
    (hlast : ∀ g cap vs more, v = .slice (some ⟨g, 0, none⟩) cs.length cap → Own V g 22 (vs ++ more) → vs.length = cs.length → ∀ u ∈ vs, blk u < blk x) (hsz : cs.length ≤ 100000) (hB : B ≤ V.heap.size)
    (h : ∀ v' w', RowL B w' v' (cs ++ [l]) → V.grownBy w' (some (blk v)) → (blk v' = blk v ∨ blk v' = V.heap.size) → wpListIn F nn Try.prog ops Q rest (a.put o.dst v') w') : wpListIn F nn Try.prog ops Q (o :: rest) a V := by
  obtain ⟨v', w', e, q1, q2, q3⟩ := run_append_list o.type g0 h1 hx hv hnn hlast hsz hB
  refine wpListIn_plain hgd fun K hK => ?_
  unfold Oper.wpIn
  refine ⟨?_, ?_⟩
  · simp [Oper.about, ho, resolve, Target.leads, Sem.run_pure]
  · rw [Oper.semAt_plain F _ _ (by rw [ho]; intro c hc'; cases hc')]
    simp [execOp, ho, resolve, invoke, builtin, hs, hy, e, Result.andThen]
    exact hK _ _ (h v' w' q1 q2 q3)
end
/-- The maker of the iterator. -/
theorem cycles_make (A : Option Addr) (m c : Nat) (w : World) : Calls Try.prog 36 #[.slice A m c] w fun e w' => e = .returned (.func (.func 43) #[] #[.pointer (some ⟨w.heap.size, 0, none⟩)]) ∧ w.alloc (.cells #[.slice A m c] 22) = w' := by
  go_enter Try.func36, Try.ntmps36
  go_wp2
  go_ret
  exact ⟨rfl, rfl⟩
def ErrL (w : World) (o : Option (List (List Int))) (e : Ending) (w' : World) : Prop := ∃ v, e = .returned (.tuple #[v, .int .i64 (if o.isSome then 0 else 30)]) ∧ (∀ cs, o = some cs → RowL w.heap.size w' v cs) ∧ (o = none → v = .slice none 0 0) ∧ Below w.heap.size w w'
def cycO (p : List Int) : Option (List (List Int)) := if rightP p = true then some (cycs p p.length) else none
def CyI (w1 : World) (p : List Int) (j : Nat) (V : World) : Prop := ∃ v, Own V (w1.heap.size + 1) 25 [v] ∧ RowL w1.heap.size V v (cycs p j) ∧ (cycs p j).length ≤ j ∧ blk v ≠ w1.heap.size + 1 + 1
theorem RowL.far {B : Nat} {V : World} {v : Value} {cs : List (List Int)} (h : RowL B V v cs) {b : Nat} {us : List Value} (ho : Own V b 25 us) (i : Nat) (u : Value) : RowL B (V.setCell ⟨b, i, none⟩ u) v cs := by
  obtain ⟨g, cap, vs, more, e, hg, h0, h1, h2, h3, h4, h5, h6⟩ := h.row
  exact ⟨g, cap, vs, more, e, hg, h0.far (p := ⟨b, i, none⟩) (h0.ne ho (by decide)) u, h1, h2, h3, h4, fun i' u' c hu hc => ⟨(h5 i' u' c hu hc).1.far ho (by decide) i u, (h5 i' u' c hu hc).2⟩, h6⟩
theorem RowL.base {B B' : Nat} {V : World} {v : Value} {cs : List (List Int)} (h : RowL B V v cs) (hB : B' ≤ B) : RowL B' V v cs := by
  obtain ⟨g, cap, vs, more, e, hg, h0, h1, h2, h3, h4, h5, h6⟩ := h.row
  exact ⟨g, cap, vs, more, e, Nat.le_trans hB hg, h0, h1, h2, h3, h4, fun i' u' c hu hc => ⟨(h5 i' u' c hu hc).1.base hB, (h5 i' u' c hu hc).2⟩, h6⟩
theorem own_same {V : World} {g : Nat} {t : TypeId} {us vs : List Value} (h : Own V g t us) (k : Own V g t vs) : us = vs := by
  unfold Own at h k
  rw [h] at k
  injection k with k
  injection k with k
  simpa using k
/-- The rows that are there lie below the new one. -/
theorem last_lt {w1 V : World} {p : List Int} {j g : Nat} {v : Value} (h : Prev (CyI w1 p) j g V) (hv : Own V (w1.heap.size + 1) 25 [v]) : ∀ g' cap vs more, v = .slice (some ⟨g', 0, none⟩) (cycs p j).length cap → Own V g' 22 (vs ++ more) → vs.length = (cycs p j).length → ∀ u ∈ vs, blk u < g := by
  intro g' cap vs more e ho hl u hu
  obtain ⟨V1, ⟨v1, a1, a2, _, _⟩, hg, hk⟩ := h
  have e1 := own_same (hk _ _ _ (by decide) a1) hv
  injection e1 with e1
  subst e1
  obtain ⟨g1, cap1, vs1, more1, e1, hg1, h0, h1, h2, h3, h4, h5, h6⟩ := a2.row
  rw [e1] at e
  injection e with e
  injection e with e
  injection e with e
  subst e
  have e2 := own_same (hk _ _ _ (by decide) h0) ho
  obtain ⟨rfl, _⟩ := List.append_inj e2 (by omega)
  obtain ⟨i, hi⟩ := List.mem_iff_getElem?.1 hu
  have hil := (List.getElem?_eq_some_iff.1 hi).1
  obtain ⟨hr, hn⟩ := h5 i u _ hi (List.getElem?_eq_getElem (by omega))
  rcases hr with ⟨_, hx⟩ | ⟨gu, cu, mu, rfl, _, hou, _⟩
  · exact absurd hx hn
  · have := hou.lt
    show gu < g
    omega
theorem CyI.kept {w1 V V' : World} {p : List Int} {j : Nat} (h : CyI w1 p j V) (hk : ∀ (g : Nat) (t : TypeId) (vs : List Value), t ≠ 4 → Own V g t vs → Own V' g t vs) : CyI w1 p j V' := by
  obtain ⟨v, h1, h2, h3, h4⟩ := h
  exact ⟨v, hk _ _ _ (by decide) h1, h2.kept hk, h3, h4⟩
theorem CyI.skip {w1 V : World} {p : List Int} {j : Nat} (h : CyI w1 p j V) (hl : leastB p j = false) : CyI w1 p (j + 1) V := by
  unfold CyI at h ⊢
  rw [cycs_step_no hl]
  obtain ⟨v, h1, h2, h3, h4⟩ := h
  exact ⟨v, h1, h2, by omega, h4⟩
set_option maxRecDepth 100000 in
set_option maxHeartbeats 8000000 in
theorem cyclesP_any (A : Option Addr) (n c : Nat) (p : List Int) (w : World) (h1 : ArgI w A n c p) :
    Calls Try.prog 11 #[.slice A n c] w (ErrL w (cycO p)) := by
  have H1 := Lib.hid h1
  have hn0 := h1.le
  clear h1
  have HP := Lib.hid (right_any A n c p w H1.out)
  obtain ⟨r, hr⟩ : ∃ r, rightP p = r := ⟨_, rfl⟩
  rw [hr] at HP
  have RP := Lib.hid hr
  clear hr
  cases r with
  | false =>
    have HC := Lib.hid (show cycO p = none from if_neg (by rw [RP.out]; simp))
    go_enter Try.func11, Try.ntmps11
    go_wp2_with fail
    refine HP.out.mono ?_
    rintro e w2 ⟨rfl, hb1⟩
    have HB2 := Lib.hid hb1
    clear hb1
    go_wp2
    go_ret2
    exact ⟨.slice none 0 0, by rw [HC.out]; rfl, (fun cs h => by rw [HC.out] at h; cases h), fun _ => rfl, HB2.out⟩
  | true =>
    have HC := Lib.hid (show cycO p = some (cycs p p.length) from if_pos RP.out)
    have HL := Lib.hid H1.out.len
    refine (callsIn_wide (n := 3)).1 ?_
    refine callsIn_of_wp_marks Try.func11 rfl trivial ?_ rfl
    simp only [Try.ntmps11, List.size_toArray, List.length_cons, List.length_nil, Nat.reduceAdd, Nat.reduceSub, Array.replicate_succ, Array.replicate_zero, List.push_toArray, List.append_toArray, List.nil_append, List.cons_append]
    gi_wp2_with (refine ⟨trivial, ?_⟩; gi_at_call 9; refine (callsIn_wide.2 HP.out).mono ?_; rintro e w1 ⟨rfl, hb1⟩)
    refine ⟨trivial, (callsIn_wide.2 (cycles_make A n c _)).mono ?_⟩
    rintro e _ ⟨rfl, rfl⟩
    have HB1 := Lib.hid hb1
    clear hb1
    obtain ⟨w2, hw2⟩ : ∃ w2, ((w1.alloc (.cells #[] 22)).alloc (.cells #[.slice (some ⟨w1.heap.size, 0, none⟩) 0 0] 25)).alloc (.cells #[.slice A n c] 22) = w2 := ⟨_, rfl⟩
    have hz2 : w2.heap.size = w1.heap.size + 3 := by rw [← hw2]; simp
    have hb2 : Below w.heap.size w w2 := by
      have := HB1.out.size
      rw [← hw2]
      exact ((HB1.out.alloc this _).alloc (by simp; omega) _).alloc (by simp; omega) _
    have hx2 : Own w2 (w1.heap.size + 1 + 1) 22 [.slice A n c] := by rw [← hw2]; exact Own.new' (by simp)
    have hi0 : CyI w1 p 0 w2 := by
      refine ⟨.slice (some ⟨w1.heap.size, 0, none⟩) 0 0, ?_, ?_, by simp [cycs], by simp [blk]; omega⟩
      · rw [← hw2]; exact (Own.new' (w := w1.alloc (.cells #[] 22)) (by simp)).alloc _
      · rw [← hw2]; exact ((RowL.start w1 (Nat.le_refl _)).below (alloc_below _ _)).below (alloc_below _ _)
    have HZ := Lib.hid hz2; have HB2 := Lib.hid hb2; have HX2 := Lib.hid hx2; have HI0 := Lib.hid hi0
    gi_wp2
    clear hw2 hz2 hb2 hx2 hi0
    refine wpIn_cycles (nn := 1) (w1.heap.size + 1 + 1) n c A p w rfl rfl RP.out H1.out HB2.out HX2.out (CyI w1 p) ?hI ?hIp ?hIa ?hskip HI0.out ?a1 ?assign ?body ?done
    case hI => exact fun j V V' g vs h ho _ hg => h.kept fun b t us ht hb => hb.grown' ho ht hg
    case hIp => exact fun j V k o o' h _ hk hc => h.kept fun b t us ht hb => (own_put o' hb hk hc).2
    case hIa => exact fun j V o h => h.kept fun b t us ht hb => hb.alloc o
    case hskip => exact fun j V _ hl h => h.skip hl
    case assign =>
      intro l v W K hK
      gi_wp2
      exact hK
    case body =>
      intro l j V g cap more hj hl hI ho hg hc1 hc2 hc3 hB hx hprev
      obtain ⟨v, hv1, hv2, hv3, hv4⟩ := hI
      have hlast := last_lt hprev hv1
      obtain ⟨gv, cv, hev⟩ : ∃ gv cv, v = .slice (some ⟨gv, 0, none⟩) (cycs p j).length cv := by
        obtain ⟨gv, cv, _, _, e, _⟩ := hv2.row
        exact ⟨gv, cv, e⟩
      have hjl : j ≤ 200 := by have := (right_true RP.out).1; have := HL.out; omega
      have hz := HZ.out
      have hvs := hv2.row
      have hgvl : gv < V.heap.size := by
        obtain ⟨g2, _, _, _, e, _, ho2, _⟩ := hvs
        rw [hev] at e
        injection e with e
        injection e with e
        injection e with e
        subst e
        exact ho2.lt
      have hgc : ∃ us, Own V gv 22 us := by
        obtain ⟨g2, _, _, _, e, _, ho2, _⟩ := hvs
        rw [hev] at e
        injection e with e
        injection e with e
        injection e with e
        subst e
        exact ⟨_, ho2⟩
      obtain ⟨us, hgo⟩ := hgc
      have hgw1 : w1.heap.size ≤ gv := by
        obtain ⟨g2, _, _, _, e, hg2, _⟩ := hvs
        rw [hev] at e
        injection e with e
        injection e with e
        injection e with e
        subst e
        exact hg2
      have hw1s := HB1.out.size
      have hgne : gv ≠ w1.heap.size + 1 + 1 := by rw [hev] at hv4; exact hv4
      subst hev
      have hlen : (cyc p j).length = ord1 p j := length_cyc p j
      have HRx := Lib.hid (show RowI w1.heap.size (V.alloc (.cells #[.slice (some ⟨g, 0, none⟩) (ord1 p j) cap] 22)) (.slice (some ⟨g, 0, none⟩) (ord1 p j) cap) (cyc p j) from RowI.below (.inr ⟨g, cap, more, by rw [hlen], by omega, ho, by rw [hlen]; exact hc1, hc2, hc3⟩) (alloc_below _ _))
      have HLa := Lib.hid (hv2.below (alloc_below V (.cells #[.slice (some ⟨g, 0, none⟩) (ord1 p j) cap] 22)))
      have HNw := Lib.hid (Own.new' (g := V.heap.size) (w := V) (t := 22) (vs := [.slice (some ⟨g, 0, none⟩) (ord1 p j) cap]) rfl)
      have HBo := Lib.hid (hv1.alloc (.cells #[.slice (some ⟨g, 0, none⟩) (ord1 p j) cap] 22))
      have HGo := Lib.hid (hgo.alloc (.cells #[.slice (some ⟨g, 0, none⟩) (ord1 p j) cap] 22))
      have HXo := Lib.hid (hx.alloc (.cells #[.slice (some ⟨g, 0, none⟩) (ord1 p j) cap] 22))
      have HLs := Lib.hid (show ∀ g' cap' vs more', Value.slice (some ⟨gv, 0, none⟩) (cycs p j).length cv = .slice (some ⟨g', 0, none⟩) (cycs p j).length cap' → Own (V.alloc (.cells #[.slice (some ⟨g, 0, none⟩) (ord1 p j) cap] 22)) g' 22 (vs ++ more') → vs.length = (cycs p j).length → ∀ u ∈ vs, blk u < blk (.slice (some ⟨g, 0, none⟩) (ord1 p j) cap) from fun g' cap' vs more' e ho2 hl2 => by
        injection e with e1 e2 e3
        injection e1 with e1
        injection e1 with e1
        subst e1
        have e5 := own_same ho2 (hgo.alloc _)
        exact hlast gv cv vs more' rfl (by rw [e5]; exact hgo) hl2)
      have HCL := Lib.hid (show (cycs p j).length ≤ 100000 by omega)
      have HSB := Lib.hid (show w1.heap.size ≤ (V.alloc (.cells #[.slice (some ⟨g, 0, none⟩) (ord1 p j) cap] 22)).heap.size by simp; omega)
      have HX3 := Lib.hid hv3; have HST := Lib.hid (cycs_step_yes hl)
      have qb : V.cell? ⟨w1.heap.size + 1, 0, none⟩ = some (.slice (some ⟨gv, 0, none⟩) (cycs p j).length cv) := hv1.cell 0
      have zb := hv1.lt
      have HV1 := Lib.hid hv1; have HVx := Lib.hid hx; have HVB := Lib.hid hB
      clear hlast hvs hprev hv1 hv2 hv3 hv4 ho hc1 hc2 hc3 hlen hgo hx hB hl
      gi_wp2_with (gi_at_builtin; refine wpListIn_append_list rfl (.tmp 13) (.tmp 15) rfl V.heap.size rfl rfl HLa.out HNw.out HRx.out (by simp) HLs.out HCL.out HSB.out ?_)
      intro v' w3 hr3 hg3 hb3
      have hg3' : (V.alloc (.cells #[.slice (some ⟨g, 0, none⟩) (ord1 p j) cap] 22)).grownBy w3 (some gv) := hg3
      obtain ⟨g3, c3, e3⟩ : ∃ g3 c3, v' = .slice (some ⟨g3, 0, none⟩) (cycs p j ++ [cyc p j]).length c3 := by
        obtain ⟨g3, c3, _, _, e, _⟩ := hr3.row
        exact ⟨g3, c3, e⟩
      subst e3
      have hne3 : g3 ≠ w1.heap.size + 1 + 1 := by
        rcases hb3 with h | h
        · exact fun e => hgne (by rw [← e]; exact h.symm)
        · have h' : g3 = V.heap.size + 1 := by simpa [blk] using h
          have := HVx.out.lt
          omega
      have HB3 := Lib.hid (HBo.out.grown' HGo.out (by decide) hg3')
      have HX3b := Lib.hid (HXo.out.grown hg3' (by intro e; injection e with e; exact hgne e.symm))
      have q3 : w3.cell? ⟨w1.heap.size + 1, 0, none⟩ = some (.slice (some ⟨gv, 0, none⟩) (cycs p j).length cv) := HB3.out.cell 0
      have f3 := HB3.out.frozen 0
      have z3 := HB3.out.lt
      have HR3 := Lib.hid hr3; have HG3 := Lib.hid hg3'
      clear hr3 hg3 hg3' hb3 qb
      gi_wp2
      refine ⟨?_, ?_, ?_⟩
      · refine ((KeepsOthers.alloc V _).trans (KeepsOthers.of_grownBy HG3.out fun i o hi ho => ?_)).trans (KeepsOthers.setCell _ _ _)
        injection hi with hi
        subst hi
        have hgo := HGo.out
        unfold Own at hgo
        rw [ho] at hgo
        injection hgo with hgo
        subst hgo
        rfl
      · refine ⟨_, HB3.out.set 0 _, ?_, ?_, hne3⟩
        · rw [HST.out]; have h := HR3.out.far HB3.out 0 (.slice (some ⟨g3, 0, none⟩) ((cycs p j).length + 1) c3); rw [List.length_append] at h; exact h
        · rw [HST.out, List.length_append]; simp; exact HX3.out
      · refine ⟨?_, fun gb vs hob => ?_, ?_, ?_⟩
        · have := HG3.out.size
          simp at this ⊢; omega
        · have h1 := hob.alloc (.cells #[.slice (some ⟨g, 0, none⟩) (ord1 p j) cap] 22)
          have h2 := h1.grown' HGo.out (by decide) HG3.out
          exact h2.far (p := ⟨w1.heap.size + 1, 0, none⟩) (h2.ne HB3.out (by decide)) _
        · exact (show _ = _ from HX3b.out.far (p := ⟨w1.heap.size + 1, 0, none⟩) (by simp) (.slice (some ⟨g3, 0, none⟩) ((cycs p j).length + 1) c3)).trans HVx.out.symm
        · exact (((Below.refl _ V).alloc (by omega) _).trans (grown_below HG3.out (by omega) (by simp; omega))).setCell (p := ⟨w1.heap.size + 1, 0, none⟩) (by simp; omega) _
    case done =>
      intro W hI hB hD
      obtain ⟨v, hv1, hv2, hv3, hv4⟩ := hI
      have qb : W.cell? ⟨w1.heap.size + 1, 0, none⟩ = some v := hv1.cell 0
      have zb := hv1.lt
      have HD := Lib.hid hD; have HV2 := Lib.hid hv2; have HVB := Lib.hid hB
      clear hv1 hv2 hv3 hv4 hB hD
      gi_wp2
      refine ⟨by simp, .inl ⟨_, _, rfl, run_takeDeferred HD.out, ?_⟩⟩
      have hw1s := HB1.out.size
      have hz := HZ.out
      refine ⟨.tuple #[v, .int .i64 0], by simp [results, Try.f11, go_sem], v, by rw [HC.out]; rfl, fun cs hcs => ?_, fun hcs => ?_, HVB.out.trans (below_put _ (by omega) HD.out)⟩
      · rw [HC.out] at hcs
        injection hcs with hcs
        subst hcs
        rw [← HL.out]
        exact (HV2.out.kept fun b t us ht hb => (own_put _ hb HD.out rfl).2).base hw1s
      · rw [HC.out] at hcs; cases hcs
end Go.Proofs.Ytccaagildkgfeaa
