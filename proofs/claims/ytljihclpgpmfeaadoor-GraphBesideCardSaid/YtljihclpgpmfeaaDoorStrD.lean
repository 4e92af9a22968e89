/- Walk: strand.Join. -/
import Derived.Test.YtljihclpgpmfeaaDoorStrC
namespace Go.Proofs.YtljihclpgpmfeaaDoor
set_option maxRecDepth 100000
open Go.RowKit

/-- An error: no strand. -/
def BadS (w : World) (k : Int) (e : Ending) (w' : World) : Prop :=
  e = .returned (.tuple #[.agg #[.slice none 0 0, .int .i64 0], .int .i64 k]) ∧ Below w.heap.size w w'
/-- A fresh strand of L bits f, and no error. -/
def GoodS (w : World) (L : Nat) (f : Nat → Bool) (e : Ending) (w' : World) : Prop :=
  ∃ g, e = .returned (.tuple #[.agg #[.slice (some ⟨g, 0, none⟩) ((L + 7) / 8) ((L + 7) / 8), .int .i64 L], .int .i64 0]) ∧ w.heap.size ≤ g ∧ Own w' g 5 (cellsF f ((L + 7) / 8)) ∧ Below w.heap.size w w'

end Go.Proofs.YtljihclpgpmfeaaDoor
