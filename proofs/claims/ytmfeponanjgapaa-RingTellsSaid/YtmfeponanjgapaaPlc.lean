/- Plain facts: the places of the least turn, one step behind the other. -/
import Derived.Test.YtmfeponanjgapaaTrn
import Derived.Test.YtmfeponanjgapaaWl
namespace Go.Proofs.Ytmfeponanjgapaa
open Go.RowKit

/-- The places below k, a number of steps from c on. -/
def plL (st c k : Nat) : List Nat := (List.range k).filter fun x => x % st == c
theorem plL_start {st c : Nat} (h : c < st) : plL st c c = [] := by
  unfold plL
  rw [List.filter_eq_nil_iff]
  intro x hx
  have hx := List.mem_range.1 hx
  rw [Nat.mod_eq_of_lt (by omega)]
  simp; omega
theorem plL_step {st c k : Nat} (h0 : 0 < st) (h : k % st = c) : plL st c (k + st) = plL st c k ++ [k] := by
  unfold plL
  rw [range_gap (a := k + 1) (by omega) (fun x h1 h2 => ?_), range_hit (by simpa using h)]
  rw [beq_eq_false_iff_ne]
  intro e
  have hd := Nat.dvd_of_mod_eq_zero (Nat.sub_mod_eq_zero_of_mod_eq (e.trans h.symm))
  have := Nat.le_of_dvd (by omega) hd
  omega
section
variable {ws : List (List UInt8)} {r : List Int} {st p k : Nat}
theorem plL_done (hR : RankOf ws r) (hls : LeastFP (circ (av r) ws.length) st) (hp : p < ws.length) (hk : ws.length ≤ k) (hk2 : k < ws.length + st) (hkm : k % st = p % st) :
    plL st (p % st) k = (List.range ws.length).filter fun x => turnW ws x == turnW ws p := by
  have hn : 0 < ws.length := by omega
  unfold plL
  rw [range_gap hk (fun x h1 h2 => ?_)]
  · refine List.filter_congr fun x hx => ?_
    have hx := List.mem_range.1 hx
    rw [Bool.eq_iff_iff, beq_iff_eq, beq_iff_eq, turn_eq hR hx hp]
    exact (eqv_step hn (circ_n _ _) hls).symm
  · rw [beq_eq_false_iff_ne]
    intro e
    have hd := Nat.dvd_of_mod_eq_zero (Nat.sub_mod_eq_zero_of_mod_eq (hkm.trans e.symm))
    have := Nat.le_of_dvd (by omega) hd
    omega
end
/-- A row of numbers of the call's own. -/
def RowI (B : Nat) (W : World) (v : Value) (l : List Int) : Prop :=
  (l = [] ∧ v = .slice none 0 0) ∨ ∃ g cap more, v = .slice (some ⟨g, 0, none⟩) l.length cap ∧ B ≤ g ∧ Own W g 3 (cellsI l ++ more) ∧ l.length ≤ cap ∧ cap ≤ maxLen ∧ (cellsI l ++ more).length = cap
section
variable {W W' : World} {v : Value} {l : List Int} {B : Nat}
theorem RowI.below (h : RowI B W v l) (hb : Below W.heap.size W W') : RowI B W' v l := by
  rcases h with h | ⟨g, cap, more, e, hg, ho, h⟩
  · exact .inl h
  · exact .inr ⟨g, cap, more, e, hg, ho.below' hb, h⟩
theorem RowI.rd (h : RowI B W v l) : ∃ A c, v = .slice A l.length c ∧ Rd W A (cellsI l) := by
  rcases h with ⟨rfl, rfl⟩ | ⟨g, cap, more, e, hg, ho, h⟩
  · exact ⟨none, 0, rfl, Rd.nil⟩
  · exact ⟨_, cap, e, rd_front ho⟩
theorem cellsI_append (a b : List Int) : cellsI (a ++ b) = cellsI a ++ cellsI b := by simp [cellsI]
/-- append of one number. -/
theorem wpList_append_int {ops : Array Oper} {rest : List Oper} {o : Oper} {a : Act} {Q : Exit → Act → World → Prop} (hgd : o.guard = none) (s x : Operand)
    (ho : o.op = .call { callee := .builtin .append, args := #[s, x], argTypes := #[25, 25] }) (k : Int) (g0 : Nat) (hs : a.eval s = v) (hx : a.eval x = .slice (some ⟨g0, 0, none⟩) 1 1) (h1 : RowI B W v l) (hr : Own W g0 3 [.int .i64 k]) (hsz : l.length ≤ 100000) (hB : B ≤ W.heap.size)
    (h : ∀ g cap w', RowI B w' (.slice (some ⟨g, 0, none⟩) (l.length + 1) cap) (l ++ [k]) → Below B W w' → wpList Try.prog ops Q rest (a.put o.dst (.slice (some ⟨g, 0, none⟩) (l.length + 1) cap)) w') : wpList Try.prog ops Q (o :: rest) a W := by
  obtain ⟨i0, hi, hz0, hz1, hz2⟩ := info_parts infoI
  have hown : W.ownsRow B 3 1 v l.length (cellsI l) := by
    rcases h1 with ⟨rfl, rfl⟩ | ⟨g, cap, more, rfl, hg, ho, r1, r2, r3⟩
    · exact World.ownsRow_nil _ _ _ _
    · exact owns_of_own ho hg (by rw [length_cellsI, Nat.mul_one]) r1 r2 (by rw [r3, Nat.mul_one])
  refine wpList_append_own_at W hgd s x 25 ho B 3 i0 (.int .i64 0) 1 8 Try.underlying25 hi hz0 hz1 hz2 rfl (by decide) v l.length (cellsI l) hs hown ⟨g0, 0, none⟩ 1 1 [.int .i64 k] hx rfl (fun j u hj => hr.add hj) (by simp [Value.oneCell']) (by unfold maxLen; omega) (by omega) hB ?_
  intro v' w' hown' hgrow hnil _
  obtain ⟨g, cap, more, rfl, hg, hO, p1, p2, p3⟩ := row_own hown' (fun e => by have := (hnil.1 e).2; omega)
  refine h g cap w' (.inr ⟨g, cap, more, by rw [List.length_append]; rfl, hg, by rw [cellsI_append]; exact hO, by rw [List.length_append]; exact p1, p2, by rw [cellsI_append, ← Nat.mul_one cap]; exact p3⟩) ?_
  rcases h1 with ⟨_, rfl⟩ | ⟨g1, cap1, more1, rfl, hg1, ho1, _⟩
  · exact (below_none hgrow).mono hB
  · exact grown_below hgrow hg1 hB
end
end Go.Proofs.Ytmfeponanjgapaa
