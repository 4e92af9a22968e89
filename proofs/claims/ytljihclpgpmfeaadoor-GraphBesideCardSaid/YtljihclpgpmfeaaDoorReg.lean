/- A region that draws its order, whose operations only read (a chain of further operations may stand behind them), is walked once, in the order of the text, by the walk's own steps. -/
import Derived.WalkKit
import Derived.StillTailTactics
namespace Go.Proofs.YtljihclpgpmfeaaDoor
set_option maxRecDepth 100000
open Go.RowKit

/-- An operation that never calls a function of the program, and never defers. -/
def plainOp (o : Oper) : Bool :=
  match o.op with
  | .move _ | .assign _ | .pick .. | .load .. | .binOp .. | .unOp .. | .convert .. | .fieldAddr .. | .field .. | .indexAddr .. | .index .. | .extract .. | .slice .. | .lookup .. => true
  | .call { callee := .builtin b, .. } => match b with | .len | .cap | .min | .max => true | _ => false
  | _ => false

theorem run_v {P : Program} {w w' : World} {s : Sem Value} {r : Next} (h : (do pure (Next.value (← s)) : Sem Next).run P w = .ok r w') : ∃ v, r = .value v := by
  rw [Sem.run_bind] at h
  cases hr : s.run P w with
  | ok a w1 => rw [hr] at h; cases h; exact ⟨a, rfl⟩
  | halt e w1 => rw [hr] at h; cases h

theorem plain_value {P : Program} {o : Oper} (hp : plainOp o = true) {ρ : Operand → Value} {w w' : World} {r : Next} (h : (execOp ρ o).run P w = .ok r w') : ∃ v, r = .value v := by
  obtain ⟨dst, op, type, pos, after, guard⟩ := o
  cases op <;> simp only [plainOp, Bool.false_eq_true] at hp <;> simp only [execOp] at h
  case call c =>
    obtain ⟨callee, args, argTypes⟩ := c
    cases callee <;> simp only [Bool.false_eq_true] at hp
    case builtin b =>
      cases b <;> simp only [Bool.false_eq_true] at hp <;>
        (simp only [resolve, invoke, builtin, Sem.run_bind, Sem.run_pure, Result.andThen_ok] at h
         exact run_v (s := _) (by rw [Sem.run_bind]; exact h))
  all_goals first
    | exact run_v h
    | (simp only [Sem.run_pure] at h; cases h; exact ⟨_, rfl⟩)
    | (rw [Sem.run_bind] at h
       rename_i c a b
       cases hr : (asBool (ρ c)).run P w with
       | ok a w1 => rw [hr] at h; cases h; exact ⟨_, rfl⟩
       | halt e w1 => rw [hr] at h; cases h)

section
variable {P : Program} {ops : Array Oper} {w : World} {Q : Act → Prop} {a : Act} {o : Oper} {rest : List Oper}
theorem still_step (hw : Region.wanted o (yielded ops a.tmps) = true) (hp : plainOp o = true)
    (h : ∀ K : Act → World → Prop, (∀ a, wpStill P ops w Q rest a → K a w) → o.wp P a w K (fun _ _ _ => False)) : wpStill P ops w Q (o :: rest) a := by
  have h1 := h (fun a' w' => w' = w ∧ wpStill P ops w Q rest a') (fun a ha => ⟨rfl, ha⟩)
  unfold wpStill
  rw [if_pos hw]
  unfold Oper.still
  unfold Oper.wp at h1
  generalize hr : (execOp a.eval o).run P w = r at h1
  cases r with
  | halt e w1 =>
    cases e <;> simp only [Oper.upon] at h1
  | ok n w1 =>
    obtain ⟨v, rfl⟩ := plain_value hp hr
    exact h1
theorem still_skip (hw : Region.wanted o (yielded ops a.tmps) = false) (h : wpStill P ops w Q rest (a.put o.dst undef)) : wpStill P ops w Q (o :: rest) a := by
  unfold wpStill
  rw [if_neg (by rw [hw]; exact Bool.false_ne_true)]
  exact h
theorem still_move {x : Operand} {v : Value} (hg : o.guard = none) (ho : o.op = .move x) (hv : a.eval x = v) (h : wpStill P ops w Q rest (a.put o.dst v)) : wpStill P ops w Q (o :: rest) a := by
  refine still_step (by simp [Region.wanted, hg]) (by simp [plainOp, ho]) fun K hK => ?_
  unfold Oper.wp execOp
  simp only [ho, Sem.run_pure, hv]
  exact hK _ h
theorem still_call (hw : Region.wanted o (yielded ops a.tmps) = true) {f : FuncId} {args : Array Value} {v : Value} (hr : (execOp a.eval o).run P w = .ok (.enter f args) w)
    (hc : Calls P f args w (fun e w'' => e = .returned v ∧ w = w'')) (h : wpStill P ops w Q rest (a.put o.dst v)) : wpStill P ops w Q (o :: rest) a := by
  unfold wpStill
  rw [if_pos hw]
  unfold Oper.still
  rw [hr]
  exact ⟨rfl, v, hc.mono fun e w' ⟨h1, h2⟩ => ⟨h1, h2.symm⟩, h⟩
end
theorem region_tail {P : Program} {id : Nat} {Q : Exit → Act → World → Prop} {a : Act} {w : World} {l : List Oper} (n : Nat) (hm : P.follows .mixedOrders = true) (hB : Region.lexTailB .any l.toArray n = true)
    (h : wpStill P l.toArray w.drew (fun a' => wpList P l.toArray Q (l.drop n) a' w.drew) (l.take n) a) : (Code.region id l.toArray true).wp P Q a w :=
  wp_region_still_tail n hm hB h
end Go.Proofs.YtljihclpgpmfeaaDoor
