/- Answers of two that are asked the same; the region that copies a graph. -/
import Derived.Test.YtccaagildkgfeaaJq
import Derived.Test.YtccaagildkgfeaaJj
namespace Go.Proofs.Ytccaagildkgfeaa
open Go.RowKit
attribute [local go_sem] Oper.semAt_some

def errC {α : Type} (o : Option α) : Int := if o.isSome then 0 else 30
section
variable {w w' : World} {e : Ending} {x : Int} {n : Nat}
theorem ErrI.any {o : Option (List Int)} {l : List Int} (h : ErrI w o e w') (hx : errC o = x) (hl : o.getD [] = l) (hn : l.length = n) (hn1 : n ≤ 100000) : ∃ A c, e = .returned (.tuple #[.slice A n c, .int .i64 x]) ∧ ArgI w' A n c l ∧ Below w.heap.size w w' := by
  subst hn hl hx
  obtain ⟨v, rfl, hr, hb⟩ := h
  obtain ⟨A, c, rfl, ha⟩ := hr.arg hn1
  exact ⟨A, c, rfl, ha, hb⟩
theorem ErrL.any {o : Option (List (List Int))} {cs : List (List Int)} (h : ErrL w o e w') (hx : errC o = x) (hl : o.getD [] = cs) (hn : cs.length = n) (hn1 : n ≤ 100000) (hc : ∀ c ∈ cs, c.length ≤ 100000) : ∃ A c, e = .returned (.tuple #[.slice A n c, .int .i64 x]) ∧ ArgL w' A n c cs ∧ Below w.heap.size w w' := by
  subst hn hl hx
  obtain ⟨v, rfl, h1, h2, hb⟩ := h
  cases o with
  | none =>
    obtain rfl := h2 rfl
    exact ⟨none, 0, rfl, ⟨⟨[], rfl, Rd.nil, fun i v l hv => by simp at hv⟩, rfl, Nat.zero_le _⟩, hb⟩
  | some cs =>
    obtain ⟨g, k, rfl, ha⟩ := (h1 cs rfl).args hn1 hc
    exact ⟨_, k, rfl, ha, hb⟩
theorem ErrLw.any {o : Option (List (List Int))} {cs : List (List Int)} (h : ErrLw w o e w') (hx : errC o = x) (hl : o.getD [] = cs) (hn : cs.length = n) (hn1 : n ≤ 100000) (hc : ∀ c ∈ cs, c.length ≤ 100000) : ∃ A c, e = .returned (.tuple #[.slice A n c, .int .i64 x]) ∧ ArgL w' A n c cs ∧ Below w.heap.size w w' := by
  subst hn hl hx
  obtain ⟨v, rfl, h1, hb⟩ := h
  obtain ⟨A, k, rfl, ha⟩ := h1.args hn1 hc
  exact ⟨A, k, rfl, ha, hb⟩
def grN (N : Int) : Except Int (List (Int × Int)) → Int
  | .ok _ => N
  | .error _ => 0
def grL : Except Int (List (Int × Int)) → List (Int × Int)
  | .ok l => l
  | .error _ => []
def grX : Except Int (List (Int × Int)) → Int
  | .ok _ => 0
  | .error c => c
theorem GrE.any {N M : Int} {o : Except Int (List (Int × Int))} {l : List (Int × Int)} (h : GrE w N o e w') (hM : grN N o = M) (hx : grX o = x) (hl : grL o = l) (hn : l.length = n) (hn1 : n ≤ 100000) : ∃ A c, e = .returned (.tuple #[.agg #[.int .i64 M, .slice A n c], .int .i64 x]) ∧ ArgE w' A n c l ∧ Below w.heap.size w w' := by
  subst hn hl hx hM
  cases o with
  | error c =>
    obtain ⟨rfl, hb⟩ := h
    exact ⟨none, 0, rfl, ⟨Rd.nil, rfl, Nat.zero_le _, Nat.le_refl _⟩, hb⟩
  | ok l =>
    obtain ⟨v, rfl, hr, hb⟩ := h
    obtain ⟨A, c, rfl, ha⟩ := hr.arg hn1
    exact ⟨A, c, rfl, ha, hb⟩
end
theorem appO_len (N : Int) (E : List (Int × Int)) (p : List Int) (h : E.length ≤ 80) : (grL (appO N E p)).length ≤ 80 := by
  cases ho : appO N E p with
  | error c => simp [grL]
  | ok l =>
    show l.length ≤ 80
    unfold appO at ho
    split at ho
    · split at ho
      · obtain ⟨_, rfl⟩ := newO_right ho
        rw [length_rise, List.length_map, length_appE]
        exact h
      · cases ho
    · cases ho
theorem compO_len (p q : List Int) : ((compO p q).getD []).length ≤ p.length := by
  unfold compO
  split
  · show (compP p q).length ≤ _
    rw [length_compP]; exact Nat.le_refl _
  · simp
theorem invO_len (p : List Int) : ((invO p).getD []).length ≤ p.length := by
  unfold invO
  split
  · show (invP p).length ≤ _
    rw [length_invP]; exact Nat.le_refl _
  · simp
theorem powO_len (p : List Int) (k : Int) : ((powO p k).getD []).length ≤ p.length := by
  unfold powO
  split
  · show (powP p k).length ≤ _
    rw [length_powP]; exact Nat.le_refl _
  · simp
theorem cycO_len (p : List Int) : ((cycO p).getD []).length ≤ p.length ∧ ∀ c ∈ (cycO p).getD [], c.length ≤ p.length := by
  unfold cycO
  split
  · rename_i h
    refine ⟨cycs_le, fun c hc => ?_⟩
    obtain ⟨x, hx, rfl⟩ := List.mem_map.1 hc
    rw [length_cyc]
    exact (ord1_spec h (List.mem_range.1 (List.mem_filter.1 hx).1)).2.1
  · simp
theorem idL_len (k : Int) : (if 0 ≤ k ∧ k ≤ 200 then idP k.toNat else []).length ≤ 200 := by
  split
  · rw [length_idP]; omega
  · exact Nat.zero_le _
/-- A box for a graph, laid empty. -/
def Pst.gbox (B : Nat) : Pst := Pst.mk' (fun v W => ∃ g, v = .pointer (some ⟨g, 0, Option.none⟩) ∧ B ≤ g ∧ Own W g 34 [.int .i64 0, .slice Option.none 0 0]) (fun ⟨g, e, h0, h⟩ hb => ⟨g, e, h0, h.below' hb⟩)
def Pst.edg (B n : Nat) (E : List (Int × Int)) : Pst := Pst.mk' (fun v W => ∃ A c, v = .slice A n c ∧ RowE B W (.slice A n c) E) (fun ⟨A, c, e, h⟩ hb => ⟨A, c, e, h.below hb⟩)
def Pst.gra (B : Nat) (N : Int) (n : Nat) (E : List (Int × Int)) : Pst := Pst.mk' (fun v W => ∃ A c, v = .agg #[.int .i64 N, .slice A n c] ∧ RowE B W (.slice A n c) E) (fun ⟨A, c, e, h⟩ hb => ⟨A, c, e, h.below hb⟩)
theorem RowE.toArg {B : Nat} {W : World} {A : Option Addr} {n c : Nat} {l : List (Int × Int)} (h : RowE B W (.slice A n c) l) (hl : n ≤ 100000) : ArgE W A n c l := by
  rcases h with ⟨rfl, e⟩ | ⟨g, cap, more, e, _, ho, h1, _⟩
  · injection e with e0 e1 e2
    subst e0 e1 e2
    exact ⟨Rd.nil, rfl, by omega, Nat.le_refl _⟩
  · injection e with e0 e1 e2
    subst e0 e1 e2
    exact ⟨rd_front ho, rfl, by omega, h1⟩
theorem wpIn_buildG {F : Fence} {nn : Nat} {a : Act} {W : World} {K : Act → World → Prop} {Q : Exit → Act → World → Prop} {o : Oper} {x y : Operand} {N : Int} {A : Option Addr} {n c : Nat} (ho : o.op = .build 34 #[(0, x), (1, y)]) (hx : a.eval x = .int .i64 N) (hy : a.eval y = .slice A n c)
    (h : K (a.put o.dst (.agg #[.int .i64 N, .slice A n c])) W) : o.wpIn F nn Try.prog a W K Q := by
  unfold Oper.wpIn
  refine ⟨by simp [Oper.about, ho], ?_⟩
  rw [Oper.semAt_plain F _ _ (by rw [ho]; intro c hc'; cases hc')]
  have hr : (Instr.build 34 #[(0, .int .i64 N), (1, .slice A n c)]).run Try.prog W = .ok (.agg #[.int .i64 N, .slice A n c]) W := run_build W 34 _ _ (by kernel_rfl)
  simp [execOp, ho, hx, hy, hr, Result.andThen]
  exact h
end Go.Proofs.Ytccaagildkgfeaa
