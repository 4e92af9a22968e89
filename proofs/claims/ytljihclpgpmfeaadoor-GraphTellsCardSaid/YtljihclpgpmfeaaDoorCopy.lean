/- Walks: fretworklow.CopyBytes, LentBytes, KeptBytes. -/
import Derived.Test.YtljihclpgpmfeaaDoorUb
import Derived.Test.YtljihclpgpmfeaaDoorUo
import Derived.Test.YtljihclpgpmfeaaDoorUa
namespace Go.Proofs.YtljihclpgpmfeaaDoor
set_option maxRecDepth 100000
open Go.RowKit

/-- Bytes in new memory, that has room behind them. -/
def FreshB (w : World) (n : Nat) (vs : List Value) (e : Ending) (w' : World) : Prop :=
  ∃ g cap more, e = .returned (.slice (some ⟨g, 0, none⟩) n cap) ∧ w.heap.size ≤ g ∧ Own w' g 5 (vs ++ more) ∧ n ≤ cap ∧ cap ≤ maxLen ∧ (vs ++ more).length = cap ∧ Below w.heap.size w w'

theorem conv_nums (A : Option Addr) (n c : Nat) (zs : List Int) (w : World) (hl : zs.length = n) (h0 : 0 < n) (hr : Rd w A (zs.map (Value.int .u8))) : (convert 22 9 (.slice A n c)).run Tryd.prog w = .ok (.string (strOfNums zs)) w := by
  obtain ⟨b, off, rfl, hb, hc⟩ := hr (by rw [List.length_map]; omega)
  exact run_convert_bytes_arg w 22 5 Tryd.underlying22 Tryd.underlying5 b off n c zs hl (fun i hi => hc i _ (by
    rw [List.getElem?_map, List.getD_eq_getElem?_getD, List.getElem?_eq_getElem (by omega)]; rfl)) 9 Tryd.underlying9
end Go.Proofs.YtljihclpgpmfeaaDoor
