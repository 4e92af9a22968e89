/- What the walk of fretworklaw02.GraphMade asks: pairs that make no graph, plainly; fretworklow.Pick; append within a drawn region. -/
import Derived.Test.YtljihclpgpmfeaaDoorGm
import Derived.Test.YtljihclpgpmfeaaDoorPostW
namespace Go.Proofs.YtljihclpgpmfeaaDoor
set_option maxRecDepth 100000
open Go.RowKit

/-- The one of n things that a number stands for. -/
def pickZ (x n : Int) : Int := if n ≤ 0 then 0 else x % n
theorem pickZ_lt {x n : Int} (h : 0 < n) : 0 ≤ pickZ x n ∧ pickZ x n < n := by
  unfold pickZ
  rw [if_neg (by omega)]
  exact ⟨Int.emod_nonneg _ (by omega), Int.emod_lt_of_pos _ h⟩
theorem tmod_pick {x n : Int} (h : 0 < n) : (x.tmod n < 0 → x % n = x.tmod n + n ∧ -n < x.tmod n) ∧ (¬ x.tmod n < 0 → x % n = x.tmod n) := by
  have h1 := Int.emod_nonneg x (show n ≠ 0 by omega)
  have h2 := Int.emod_lt_of_pos x h
  have h3 := Int.tmod_eq_emod (a := x) (b := n)
  split at h3
  · omega
  · have : (n.natAbs : Int) = n := by omega
    rw [this] at h3
    omega
set_option maxRecDepth 100000 in
theorem pick_any (x n : Int) (w : World) (hn : n ≤ 100000) : Calls Tryd.prog 24 #[.int .i64 x, .int .i64 n] w fun e w' => e = .returned (.int .i64 (pickZ x n)) ∧ w = w' := by
  by_cases h0 : n ≤ 0
  · have HP := Lib.hid (show pickZ x n = 0 from if_pos h0)
    have d0 : decide (n ≤ 0) = true := decide_eq_true h0
    clear h0
    go_enter Tryd.func24, Tryd.ntmps24
    go_wp2
    go_ret
    exact ⟨by rw [HP.out]; rfl, rfl⟩
  · obtain ⟨h1, h2⟩ := tmod_pick (x := x) (n := n) (by omega)
    have HP := Lib.hid (show pickZ x n = x % n from if_neg h0)
    have d0 : decide (n ≤ 0) = false := decide_eq_false h0
    have hz : (n == 0) = false := by rw [beq_eq_false_iff_ne]; omega
    obtain ⟨t, ht⟩ : ∃ t, x.tmod n = t := ⟨_, rfl⟩
    rw [ht] at h1 h2
    by_cases h3 : t < 0
    · have HX := Lib.hid (h1 h3).1
      have h4 := (h1 h3).2
      have d1 : decide (t < 0) = true := decide_eq_true h3
      clear h1 h2
      go_enter Tryd.func24, Tryd.ntmps24
      go_wp2
      go_ret
      exact ⟨by rw [HP.out, HX.out]; rfl, rfl⟩
    · have HX := Lib.hid (h2 h3)
      have d1 : decide (t < 0) = false := decide_eq_false h3
      clear h1 h2
      go_enter Tryd.func24, Tryd.ntmps24
      go_wp2
      go_ret
      exact ⟨by rw [HP.out, HX.out]; rfl, rfl⟩
/-- A pair that may not be added. -/
def WrongE (N : Int) (E : List (Int × Int)) (x : Int × Int) : Prop := ¬ ValidE N (normE x) ∨ normE x ∈ E
theorem newO_wrong {N : Int} {E : List (Int × Int)} {x : Int × Int} (h : RightE N E) (hl : E.length < 594) (hx : WrongE N E x) : newO N (E ++ [x]) = .error 20 := by
  have h0 := h.n0; have h1 := h.n1
  have hno : okN N [] (E ++ [x]) = false := by
    rw [← Bool.not_eq_true, okN_iff]
    rintro ⟨v, nd, _⟩
    rcases hx with hx | hx
    · exact hx (v x (by simp))
    · rw [List.map_append, List.nodup_append] at nd
      refine nd.2.2 (normE x) ?_ (normE x) (by simp) rfl
      exact List.mem_map.2 ⟨normE x, hx, norm_valid (h.valid _ hx)⟩
  unfold newO
  rw [if_neg (by rw [List.length_append]; simp; omega), if_neg (by omega), hno]
  simp
def wrong4 (N p : Int) : List (Int × Int) := [(N, 0), (0, N), (-1, 0), (p, p)]
theorem wrong4_bad {N : Int} {E : List (Int × Int)} (h : RightE N E) (p : Int) : ∀ x ∈ wrong4 N p, WrongE N E x := by
  have h0 := h.n0
  intro x hx
  refine .inl ?_
  rintro ⟨v0, v1, v2⟩
  have v0 : 0 ≤ min x.1 x.2 := v0
  have v1 : min x.1 x.2 < max x.1 x.2 := v1
  have v2 : max x.1 x.2 < N := v2
  unfold wrong4 at hx
  simp only [List.mem_cons, List.not_mem_nil, or_false] at hx
  rcases hx with rfl | rfl | rfl | rfl <;> simp only at v0 v1 v2 <;> omega
theorem twice_bad {N : Int} {E : List (Int × Int)} (h : RightE N E) {e : Int × Int} (he : e ∈ E) : WrongE N E e ∧ WrongE N E (e.2, e.1) :=
  ⟨.inr (by rw [norm_valid (h.valid e he)]; exact he), .inr (by rw [norm_swap, show (e.1, e.2) = e from rfl, norm_valid (h.valid e he)]; exact he)⟩
theorem cells_wrong4 (N p : Int) : cellsE (wrong4 N p) = [.int .i64 N, .int .i64 0, .int .i64 0, .int .i64 N, .int .i64 (-1), .int .i64 0, .int .i64 p, .int .i64 p] := rfl
/-- A box for a graph, laid empty; edges of the region's own; a pair in a block of its own; four of them. -/
def Pst.gbox (B : Nat) : Pst := Pst.mk' (fun v W => ∃ g, v = .pointer (some ⟨g, 0, Option.none⟩) ∧ B ≤ g ∧ Own W g 26 [.int .i64 0, .slice Option.none 0 0]) (fun ⟨g, e, h0, h⟩ hb => ⟨g, e, h0, h.below' hb⟩)
def Pst.edg (B n : Nat) (E : List (Int × Int)) : Pst := Pst.mk' (fun v W => ∃ A c, v = .slice A n c ∧ RowE B W (.slice A n c) E) (fun ⟨A, c, e, h⟩ hb => ⟨A, c, e, h.below hb⟩)
def Pst.own2 (B n : Nat) (vs : List Value) : Pst := Pst.mk' (fun v W => ∃ g, v = .slice (some ⟨g, 0, Option.none⟩) n n ∧ B ≤ g ∧ Own W g 49 vs) (fun ⟨g, e, h0, h⟩ hb => ⟨g, e, h0, h.below' hb⟩)
def Pst.ebox (B : Nat) : Pst := Pst.mk' (fun v W => ∃ g, v = .pointer (some ⟨g, 0, Option.none⟩) ∧ B ≤ g ∧ Own W g 49 [.int .i64 0, .int .i64 0]) (fun ⟨g, e, h0, h⟩ hb => ⟨g, e, h0, h.below' hb⟩)
theorem RowE.toArg {B : Nat} {W : World} {A : Option Addr} {n c : Nat} {l : List (Int × Int)} (h : RowE B W (.slice A n c) l) (hl : n ≤ 100000) : ArgE W A n c l := by
  rcases h with ⟨rfl, e⟩ | ⟨g, cap, more, e, _, ho, h1, _⟩
  · injection e with e0 e1 e2
    subst e0 e1 e2
    exact ⟨Rd.nil, rfl, by omega, Nat.le_refl _⟩
  · injection e with e0 e1 e2
    subst e0 e1 e2
    exact ⟨rd_front ho, rfl, by omega, h1⟩
theorem wp_build2 {a : Act} {W : World} {K : Act → World → Prop} {Q : Exit → Act → World → Prop} {o : Oper} {x y : Operand} {p q : Int} (ho : o.op = .build 49 #[(0, x), (1, y)]) (hx : a.eval x = .int .i64 p) (hy : a.eval y = .int .i64 q)
    (h : K (a.put o.dst (.agg #[.int .i64 p, .int .i64 q])) W) : o.wp Tryd.prog a W K Q := by
  have hr : (Instr.build 49 #[(0, .int .i64 p), (1, .int .i64 q)]).run Tryd.prog W = .ok (.agg #[.int .i64 p, .int .i64 q]) W := run_build W 49 _ _ (by kernel_rfl)
  unfold Oper.wp execOp
  simp [ho, hx, hy, hr, Result.andThen]
  exact h
/-- A change of edges of the region's own: blocks of other kinds stay. -/
def ChgA (S : Nat) (V V' : World) : Prop := Below S V V' ∧ ∀ (g : Nat) (t : TypeId) (vs : List Value), t ≠ 49 → Own V g t vs → Own V' g t vs
/-- A box that is empty is laid empty. -/
def BoxZ (S : Nat) (V V' : World) : Prop := ∃ g, S ≤ g ∧ Own V g 26 [.int .i64 0, .slice none 0 0] ∧ V' = (V.setCell ⟨g, 0, none⟩ (.int .i64 0)).setCell ⟨g, 1, none⟩ (.slice none 0 0)
theorem wp_append_edges {a : Act} {W : World} {K : Act → World → Prop} {Q : Exit → Act → World → Prop} {o : Oper} {s x : Operand} {v : Value} {l k : List (Int × Int)} {B n c : Nat} {A : Option Addr}
    (ho : o.op = .call { callee := .builtin .append, args := #[s, x], argTypes := #[24, 24] }) (hs : a.eval s = v) (hx : a.eval x = .slice A n c) (h1 : RowE B W v l) (hn : n = k.length) (hr : Rd W A (cellsE k)) (hsz : l.length + n ≤ 1000000) (hB : B ≤ W.heap.size)
    (h : ∀ v' w', RowE B w' v' (l ++ k) → ChgA B W w' → K (a.put o.dst v') w') : o.wp Tryd.prog a W K Q := by
  obtain ⟨v', w', e, q1, q2, q3⟩ := run_append_edges o.type A n c h1 hn hr hsz hB
  unfold Oper.wp execOp
  simp only [ho, resolve, invoke, builtin, Sem.run_bind, Sem.run_pure, Result.andThen_ok, List.map_toArray, List.map_cons, List.map_nil, hs, hx, e]
  refine h v' w' q1 ⟨q2, fun g t vs ht hO => ?_⟩
  refine (q3 g hO.lt ?_).trans hO
  rcases h1 with ⟨_, rfl⟩ | ⟨g1, cap, more, rfl, _, ho1, _⟩
  · simp [Value.ownBlock]
  · intro e2
    have e2 : some g = some g1 := e2
    injection e2 with e2
    subst e2
    exact hO.ne ho1 ht rfl
end Go.Proofs.YtljihclpgpmfeaaDoor
