/- Answers of a known length; walk: fretworklaw03.both. -/
import Derived.Test.YtccaagildkgfeaaJd
import Derived.Test.YtccaagildkgfeaaPe
namespace Go.Proofs.Ytccaagildkgfeaa
open Go.RowKit

section
variable {w w' : World} {l : List Int} {e : Ending} {n : Nat}
theorem FreshI.at (h : FreshI w l e w') (hn : l.length = n) (hl : n ≤ 100000) : ∃ A c, e = .returned (.slice A n c) ∧ ArgI w' A n c l ∧ Below w.heap.size w w' := by
  subst hn
  obtain ⟨A, c, rfl, _, ha, hb⟩ := h.out hl
  exact ⟨A, c, rfl, ha, hb⟩
theorem ErrI.at {o : Option (List Int)} (h : ErrI w o e w') (ho : o = .some l) (hn : l.length = n) (hl : n ≤ 100000) : ∃ A c, e = .returned (.tuple #[.slice A n c, .int .i64 0]) ∧ ArgI w' A n c l ∧ Below w.heap.size w w' := by
  subst hn ho
  obtain ⟨A, c, rfl, _, ha, hb⟩ := h.some hl
  exact ⟨A, c, rfl, ha, hb⟩
def BothI (w : World) (o : Option (List Int)) (e : Ending) (w' : World) : Prop := ∃ v, e = .returned (.tuple #[v, .bool o.isSome]) ∧ RowI w.heap.size w' v (o.getD []) ∧ Below w.heap.size w w'
theorem BothI.at {o : Option (List Int)} (h : BothI w o e w') (ho : o = .some l) (hn : l.length = n) (hl : n ≤ 100000) : ∃ A c, e = .returned (.tuple #[.slice A n c, .bool true]) ∧ ArgI w' A n c l ∧ Below w.heap.size w w' := by
  subst hn ho
  obtain ⟨v, rfl, hr, hb⟩ := h
  obtain ⟨A, c, rfl, ha⟩ := RowI.arg (l := l) hr hl
  exact ⟨A, c, rfl, ha, hb⟩
end
theorem compO_some {p q : List Int} (hp : rightP p = true) (hq : rightP q = true) (hl : p.length = q.length) : compO p q = some (compP p q) := if_pos ⟨hp, hq, hl⟩
theorem invO_some {p : List Int} (hp : rightP p = true) : invO p = some (invP p) := if_pos hp
theorem powO_some {p : List Int} (hp : rightP p = true) (k : Int) : powO p k = some (powP p k) := if_pos hp
set_option maxRecDepth 100000 in
set_option maxHeartbeats 4000000 in
theorem both_any (A B : Option Addr) (n m c d : Nat) (p q : List Int) (w : World) (h1 : ArgI w A n c p) (h2 : ArgI w B m d q) :
    Calls Try.prog 31 #[.slice A n c, .slice B m d] w (BothI w (compO p q)) := by
  have HC := Lib.hid (compose_any A B n m c d p q w h1 h2)
  clear h1 h2
  obtain ⟨o, ho⟩ : ∃ o, compO p q = o := ⟨_, rfl⟩
  have HO := Lib.hid ho
  rw [ho] at HC ⊢
  clear ho
  go_enter Try.func31, Try.ntmps31
  go_wp2_with fail
  refine HC.out.mono ?_
  intro e w1 he
  have HE := Lib.hid he
  clear he
  cases o with
  | none =>
    obtain ⟨A1, c1, rfl, hr, ha, hb⟩ := HE.out.none
    have HR := Lib.hid hr; have HB := Lib.hid hb
    clear hr ha hb HE
    go_wp2
    go_ret2
    exact ⟨_, rfl, HR.out, HB.out⟩
  | some r =>
    have hc : rightP p = true ∧ rightP q = true ∧ p.length = q.length ∧ r = compP p q := by
      have h := HO.out
      unfold compO at h
      split at h
      · rename_i hh
        injection h with h
        exact ⟨hh.1, hh.2.1, hh.2.2, h.symm⟩
      · cases h
    have hl : r.length ≤ 200 := by rw [hc.2.2.2, length_compP]; exact right_le hc.1
    have hrr := right_compP hc.1 hc.2.1 hc.2.2.1
    rw [← hc.2.2.2] at hrr
    obtain ⟨A1, c1, rfl, hr, ha, hb⟩ := HE.out.some (by omega)
    have HR := Lib.hid hr; have HB := Lib.hid hb; have HA := Lib.hid ha; have HRR := Lib.hid hrr
    clear hr hb HE hc ha hrr
    go_wp2_with fail
    refine (right_any A1 _ c1 r _ HA.out).mono ?_
    rintro e w2 ⟨rfl, hb2⟩
    rw [HRR.out]
    have HB2 := Lib.hid (below_chain HB.out hb2)
    have HR2 := Lib.hid (HR.out.below hb2)
    clear hb2
    go_wp2
    go_ret2
    exact ⟨_, rfl, HR2.out, HB2.out⟩
end Go.Proofs.Ytccaagildkgfeaa
