/-
  No cell of these rows narrows 'for every input' (looked for: loops, veiled, ifaces, maps, wideKeys, modest, calm, conditions, laid).
  DERIVED. THE GIVEN ROWS OF THIS SEAT. 7 by the template 'for every input the law returns true; each argument reads behind the call as it read before'; 0 by the template 'total and deterministic' (their statements: YtnhlenagojbigaaTotals.lean).
  GIVEN WITH THE SEED: the statements are not yours to turn. If you find one false, say at which input.
  Laid BY PROGRAM, IN A SANDBOX (cutbox-rows.mjs): the forced cells as the released guide's own fill.sh prints them over the translation 108f5edf18ea934f… (all of the seat's roots in one cut). By AI agents, Wed Nov 11 2026. No macro, syntax, notation, axiom, sorry.
-/
import Derived.Test.YtnhlenagojbigaaChecked
import GoSem.Claim
import GoSem.ClaimJoined
import GoSem.ClaimMapViews
import Derived.JoinedTies
import Derived.KernelRfl
namespace Go.Proofs.Ytnhlenagojbigaa
/- THE CELL 'sum', in the pinned program and in every row, IS THE sha256 OF THE DUMP (.gsa) THAT YtnhlenagojbigaaProg.lean LOADS. Nothing in Lean hashes anything: it is a label: what it is worth is what the hold of that sum in a sandbox is worth. -/
noncomputable def Try.pinned : Pinned := { name := "ytnhlenagojbigaa", sum := "108f5edf18ea934f2c4d1af52df2bf2fe38586fd22cb5d2464c267dd6ba8c4ee", checked := Try.checked }
namespace Rows
def none {H : Type} : Left H := { results := [], args := [] }

/-- 'fretworklaw01.StrandPack': WHATEVER THE INPUT: true; the input reads as it did. -/
def strandPackSpec : ChangeSpec := { name := "strandPack", fn := fun _ => fun
  | [d1, d2, d3] => { results := [.lit (.bool true)], args := [d1, d2, d3] }
  | _ => none }
def strandPackRow : OpenClaim := { program := "ytnhlenagojbigaa", sum := "108f5edf18ea934f2c4d1af52df2bf2fe38586fd22cb5d2464c267dd6ba8c4ee", func := "fretwork/fretworklaw01.StrandPack", spec := "strandPack", apart := false }
def StrandPackSaid : Prop := strandPackRow.holds Try.pinned (OpenSpec.ofChange strandPackSpec)

/-- ITS FALSE NEIGHBOUR: 'it returns false'. Refute it at one input. -/
def strandPackWrong : ChangeSpec := { name := "strandPack", fn := fun _ => fun
  | [d1, d2, d3] => { results := [.lit (.bool false)], args := [d1, d2, d3] }
  | _ => none }
def StrandPackWrongFalsely : Prop := strandPackRow.holds Try.pinned (OpenSpec.ofChange strandPackWrong)

/-- 'fretworklaw01.StrandKnots': WHATEVER THE INPUT: true; the input reads as it did. -/
def strandKnotsSpec : ChangeSpec := { name := "strandKnots", fn := fun _ => fun
  | [d1, d2, d3] => { results := [.lit (.bool true)], args := [d1, d2, d3] }
  | _ => none }
def strandKnotsRow : OpenClaim := { program := "ytnhlenagojbigaa", sum := "108f5edf18ea934f2c4d1af52df2bf2fe38586fd22cb5d2464c267dd6ba8c4ee", func := "fretwork/fretworklaw01.StrandKnots", spec := "strandKnots", apart := false }
def StrandKnotsSaid : Prop := strandKnotsRow.holds Try.pinned (OpenSpec.ofChange strandKnotsSpec)

/-- ITS FALSE NEIGHBOUR: 'it returns false'. Refute it at one input. -/
def strandKnotsWrong : ChangeSpec := { name := "strandKnots", fn := fun _ => fun
  | [d1, d2, d3] => { results := [.lit (.bool false)], args := [d1, d2, d3] }
  | _ => none }
def StrandKnotsWrongFalsely : Prop := strandKnotsRow.holds Try.pinned (OpenSpec.ofChange strandKnotsWrong)

/-- 'fretworklaw01.StrandBack': WHATEVER THE INPUT: true; the input reads as it did. -/
def strandBackSpec : ChangeSpec := { name := "strandBack", fn := fun _ => fun
  | [d1, d2, d3] => { results := [.lit (.bool true)], args := [d1, d2, d3] }
  | _ => none }
def strandBackRow : OpenClaim := { program := "ytnhlenagojbigaa", sum := "108f5edf18ea934f2c4d1af52df2bf2fe38586fd22cb5d2464c267dd6ba8c4ee", func := "fretwork/fretworklaw01.StrandBack", spec := "strandBack", apart := false }
def StrandBackSaid : Prop := strandBackRow.holds Try.pinned (OpenSpec.ofChange strandBackSpec)

/-- ITS FALSE NEIGHBOUR: 'it returns false'. Refute it at one input. -/
def strandBackWrong : ChangeSpec := { name := "strandBack", fn := fun _ => fun
  | [d1, d2, d3] => { results := [.lit (.bool false)], args := [d1, d2, d3] }
  | _ => none }
def StrandBackWrongFalsely : Prop := strandBackRow.holds Try.pinned (OpenSpec.ofChange strandBackWrong)

/-- 'fretworklaw01.StrandParts': WHATEVER THE INPUT: true; the input reads as it did. -/
def strandPartsSpec : ChangeSpec := { name := "strandParts", fn := fun _ => fun
  | [d1, d2, d3, d4, d5] => { results := [.lit (.bool true)], args := [d1, d2, d3, d4, d5] }
  | _ => none }
def strandPartsRow : OpenClaim := { program := "ytnhlenagojbigaa", sum := "108f5edf18ea934f2c4d1af52df2bf2fe38586fd22cb5d2464c267dd6ba8c4ee", func := "fretwork/fretworklaw01.StrandParts", spec := "strandParts", apart := false }
def StrandPartsSaid : Prop := strandPartsRow.holds Try.pinned (OpenSpec.ofChange strandPartsSpec)

/-- ITS FALSE NEIGHBOUR: 'it returns false'. Refute it at one input. -/
def strandPartsWrong : ChangeSpec := { name := "strandParts", fn := fun _ => fun
  | [d1, d2, d3, d4, d5] => { results := [.lit (.bool false)], args := [d1, d2, d3, d4, d5] }
  | _ => none }
def StrandPartsWrongFalsely : Prop := strandPartsRow.holds Try.pinned (OpenSpec.ofChange strandPartsWrong)

/-- 'fretworklaw01.StrandLimits': WHATEVER THE INPUT: true; the input reads as it did. -/
def strandLimitsSpec : ChangeSpec := { name := "strandLimits", fn := fun _ => fun
  | [d1, d2] => { results := [.lit (.bool true)], args := [d1, d2] }
  | _ => none }
def strandLimitsRow : OpenClaim := { program := "ytnhlenagojbigaa", sum := "108f5edf18ea934f2c4d1af52df2bf2fe38586fd22cb5d2464c267dd6ba8c4ee", func := "fretwork/fretworklaw01.StrandLimits", spec := "strandLimits", apart := false }
def StrandLimitsSaid : Prop := strandLimitsRow.holds Try.pinned (OpenSpec.ofChange strandLimitsSpec)

/-- ITS FALSE NEIGHBOUR: 'it returns false'. Refute it at one input. -/
def strandLimitsWrong : ChangeSpec := { name := "strandLimits", fn := fun _ => fun
  | [d1, d2] => { results := [.lit (.bool false)], args := [d1, d2] }
  | _ => none }
def StrandLimitsWrongFalsely : Prop := strandLimitsRow.holds Try.pinned (OpenSpec.ofChange strandLimitsWrong)

/-- 'fretworklaw01.StrandOwn': WHATEVER THE INPUT: true; the input reads as it did. -/
def strandOwnSpec : ChangeSpec := { name := "strandOwn", fn := fun _ => fun
  | [d1, d2] => { results := [.lit (.bool true)], args := [d1, d2] }
  | _ => none }
def strandOwnRow : OpenClaim := { program := "ytnhlenagojbigaa", sum := "108f5edf18ea934f2c4d1af52df2bf2fe38586fd22cb5d2464c267dd6ba8c4ee", func := "fretwork/fretworklaw01.StrandOwn", spec := "strandOwn", apart := false }
def StrandOwnSaid : Prop := strandOwnRow.holds Try.pinned (OpenSpec.ofChange strandOwnSpec)

/-- ITS FALSE NEIGHBOUR: 'it returns false'. Refute it at one input. -/
def strandOwnWrong : ChangeSpec := { name := "strandOwn", fn := fun _ => fun
  | [d1, d2] => { results := [.lit (.bool false)], args := [d1, d2] }
  | _ => none }
def StrandOwnWrongFalsely : Prop := strandOwnRow.holds Try.pinned (OpenSpec.ofChange strandOwnWrong)

/-- 'fretworklaw01.StrandTells': WHATEVER THE INPUT: true; the input reads as it did. -/
def strandTellsSpec : ChangeSpec := { name := "strandTells", fn := fun _ => fun
  | [d1, d2, d3] => { results := [.lit (.bool true)], args := [d1, d2, d3] }
  | _ => none }
def strandTellsRow : OpenClaim := { program := "ytnhlenagojbigaa", sum := "108f5edf18ea934f2c4d1af52df2bf2fe38586fd22cb5d2464c267dd6ba8c4ee", func := "fretwork/fretworklaw01.StrandTells", spec := "strandTells", apart := false }
def StrandTellsSaid : Prop := strandTellsRow.holds Try.pinned (OpenSpec.ofChange strandTellsSpec)

/-- ITS FALSE NEIGHBOUR: 'it returns false'. Refute it at one input. -/
def strandTellsWrong : ChangeSpec := { name := "strandTells", fn := fun _ => fun
  | [d1, d2, d3] => { results := [.lit (.bool false)], args := [d1, d2, d3] }
  | _ => none }
def StrandTellsWrongFalsely : Prop := strandTellsRow.holds Try.pinned (OpenSpec.ofChange strandTellsWrong)

/- THE SECOND FORM. 'bulk': how many values and letters a reading holds, each counted each time it is reached (what is shared counts as often as it is met; a slice's spare places count too). A statement '..UptoSaid' is the law's where the arguments, and the package variables that the reading takes, are together of bulk at most 1048576: NARROWER than '..Said'. Prove '..Said' where nothing that the law and all that it calls make is longer than what came in: it says more and counts as full. Else prove '..UptoSaid'. A law counts once. -/
mutual
def uptoBulk {H : Type} : DataW H → Nat
  | .lit (.string bytes) => bytes.length + 1
  | .lit _ => 1
  | .nil => 1
  | .ptr d => uptoBulk d + 1
  | .slice elems spare => uptoBulkAll elems + uptoBulkAll spare + 1
  | .agg parts => uptoBulkAll parts + 1
  | .iface _ d => uptoBulk d + 1
  | .map entries => uptoBulkEntries entries + 1
  | .held _ => 1
def uptoBulkAll {H : Type} : List (DataW H) → Nat
  | [] => 0
  | d :: r => uptoBulk d + uptoBulkAll r
def uptoBulkEntries {H : Type} : List (Lit × DataW H) → Nat
  | [] => 0
  | x :: r => uptoBulkEntry x + uptoBulkEntries r
def uptoBulkEntry {H : Type} : Lit × DataW H → Nat
  | (.string bytes, d) => bytes.length + uptoBulk d + 1
  | (_, d) => uptoBulk d + 1
 end
def uptoSmall : (H : Type) → List (DataW H) → Bool := fun _ ds => decide (uptoBulkAll ds ≤ 1048576)
def OpenSpec.upto (s : _root_.Go.ChangeSpec) : _root_.Go.OpenSpec := { _root_.Go.OpenSpec.ofChange s with cond := some uptoSmall }

/-- 'fretworklaw01.StrandPack', WHERE WHAT IT READS IS OF BULK AT MOST 1048576: true; the input reads as it did. -/
def strandPackUptoRow : OpenClaim := { program := "ytnhlenagojbigaa", sum := "108f5edf18ea934f2c4d1af52df2bf2fe38586fd22cb5d2464c267dd6ba8c4ee", func := "fretwork/fretworklaw01.StrandPack", spec := "strandPack", apart := false, narrowed := true }
def StrandPackUptoSaid : Prop := strandPackUptoRow.holds Try.pinned (OpenSpec.upto strandPackSpec)

/-- 'fretworklaw01.StrandKnots', WHERE WHAT IT READS IS OF BULK AT MOST 1048576: true; the input reads as it did. -/
def strandKnotsUptoRow : OpenClaim := { program := "ytnhlenagojbigaa", sum := "108f5edf18ea934f2c4d1af52df2bf2fe38586fd22cb5d2464c267dd6ba8c4ee", func := "fretwork/fretworklaw01.StrandKnots", spec := "strandKnots", apart := false, narrowed := true }
def StrandKnotsUptoSaid : Prop := strandKnotsUptoRow.holds Try.pinned (OpenSpec.upto strandKnotsSpec)

/-- 'fretworklaw01.StrandBack', WHERE WHAT IT READS IS OF BULK AT MOST 1048576: true; the input reads as it did. -/
def strandBackUptoRow : OpenClaim := { program := "ytnhlenagojbigaa", sum := "108f5edf18ea934f2c4d1af52df2bf2fe38586fd22cb5d2464c267dd6ba8c4ee", func := "fretwork/fretworklaw01.StrandBack", spec := "strandBack", apart := false, narrowed := true }
def StrandBackUptoSaid : Prop := strandBackUptoRow.holds Try.pinned (OpenSpec.upto strandBackSpec)

/-- 'fretworklaw01.StrandParts', WHERE WHAT IT READS IS OF BULK AT MOST 1048576: true; the input reads as it did. -/
def strandPartsUptoRow : OpenClaim := { program := "ytnhlenagojbigaa", sum := "108f5edf18ea934f2c4d1af52df2bf2fe38586fd22cb5d2464c267dd6ba8c4ee", func := "fretwork/fretworklaw01.StrandParts", spec := "strandParts", apart := false, narrowed := true }
def StrandPartsUptoSaid : Prop := strandPartsUptoRow.holds Try.pinned (OpenSpec.upto strandPartsSpec)

/-- 'fretworklaw01.StrandLimits', WHERE WHAT IT READS IS OF BULK AT MOST 1048576: true; the input reads as it did. -/
def strandLimitsUptoRow : OpenClaim := { program := "ytnhlenagojbigaa", sum := "108f5edf18ea934f2c4d1af52df2bf2fe38586fd22cb5d2464c267dd6ba8c4ee", func := "fretwork/fretworklaw01.StrandLimits", spec := "strandLimits", apart := false, narrowed := true }
def StrandLimitsUptoSaid : Prop := strandLimitsUptoRow.holds Try.pinned (OpenSpec.upto strandLimitsSpec)

/-- 'fretworklaw01.StrandOwn', WHERE WHAT IT READS IS OF BULK AT MOST 1048576: true; the input reads as it did. -/
def strandOwnUptoRow : OpenClaim := { program := "ytnhlenagojbigaa", sum := "108f5edf18ea934f2c4d1af52df2bf2fe38586fd22cb5d2464c267dd6ba8c4ee", func := "fretwork/fretworklaw01.StrandOwn", spec := "strandOwn", apart := false, narrowed := true }
def StrandOwnUptoSaid : Prop := strandOwnUptoRow.holds Try.pinned (OpenSpec.upto strandOwnSpec)

/-- 'fretworklaw01.StrandTells', WHERE WHAT IT READS IS OF BULK AT MOST 1048576: true; the input reads as it did. -/
def strandTellsUptoRow : OpenClaim := { program := "ytnhlenagojbigaa", sum := "108f5edf18ea934f2c4d1af52df2bf2fe38586fd22cb5d2464c267dd6ba8c4ee", func := "fretwork/fretworklaw01.StrandTells", spec := "strandTells", apart := false, narrowed := true }
def StrandTellsUptoSaid : Prop := strandTellsUptoRow.holds Try.pinned (OpenSpec.upto strandTellsSpec)

end Rows
end Go.Proofs.Ytnhlenagojbigaa
