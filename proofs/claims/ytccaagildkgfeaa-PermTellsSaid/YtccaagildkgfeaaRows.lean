/-
  No cell of these rows narrows 'for every input' (looked for: loops, veiled, ifaces, maps, wideKeys, modest, calm, conditions, laid).
  DERIVED. THE GIVEN ROWS OF THIS SEAT. 6 by the template 'for every input the law returns true; each argument reads behind the call as it read before'; 0 by the template 'total and deterministic' (their statements: YtccaagildkgfeaaTotals.lean).
  GIVEN WITH THE SEED: the statements are not yours to turn. If you find one false, say at which input.
  Laid BY PROGRAM, IN A SANDBOX (cutbox-rows.mjs): the forced cells as the released guide's own fill.sh prints them over the translation 9828b975e9da33f2… (all of the seat's roots in one cut). By AI agents, Wed Nov 11 2026. No macro, syntax, notation, axiom, sorry.
-/
import Derived.Test.YtccaagildkgfeaaChecked
import GoSem.Claim
import GoSem.ClaimJoined
import GoSem.ClaimMapViews
import Derived.JoinedTies
import Derived.KernelRfl
namespace Go.Proofs.Ytccaagildkgfeaa
/- THE CELL 'sum', in the pinned program and in every row, IS THE sha256 OF THE DUMP (.gsa) THAT YtccaagildkgfeaaProg.lean LOADS. Nothing in Lean hashes anything: it is a label: what it is worth is what the hold of that sum in a sandbox is worth. -/
noncomputable def Try.pinned : Pinned := { name := "ytccaagildkgfeaa", sum := "9828b975e9da33f289f17367da0907171e3b8ae3a50830f9f8906a3f022e7d7c", checked := Try.checked }
namespace Rows
def none {H : Type} : Left H := { results := [], args := [] }

/-- 'fretworklaw03.PermCycles': WHATEVER THE INPUT: true; the input reads as it did. -/
def permCyclesSpec : ChangeSpec := { name := "permCycles", fn := fun _ => fun
  | [d] => { results := [.lit (.bool true)], args := [d] }
  | _ => none }
def permCyclesRow : OpenClaim := { program := "ytccaagildkgfeaa", sum := "9828b975e9da33f289f17367da0907171e3b8ae3a50830f9f8906a3f022e7d7c", func := "fretwork/fretworklaw03.PermCycles", spec := "permCycles", unfollowed := true, recurses := true, plainKeys := false, apart := false }
def PermCyclesSaid : Prop := permCyclesRow.holds Try.pinned (OpenSpec.ofChange permCyclesSpec)

/-- ITS FALSE NEIGHBOUR: 'it returns false'. Refute it at one input. -/
def permCyclesWrong : ChangeSpec := { name := "permCycles", fn := fun _ => fun
  | [d] => { results := [.lit (.bool false)], args := [d] }
  | _ => none }
def PermCyclesWrongFalsely : Prop := permCyclesRow.holds Try.pinned (OpenSpec.ofChange permCyclesWrong)

/-- 'fretworklaw03.PermTells': WHATEVER THE INPUT: true; the input reads as it did. -/
def permTellsSpec : ChangeSpec := { name := "permTells", fn := fun _ => fun
  | [d1, d2, d3, d4] => { results := [.lit (.bool true)], args := [d1, d2, d3, d4] }
  | _ => none }
def permTellsRow : OpenClaim := { program := "ytccaagildkgfeaa", sum := "9828b975e9da33f289f17367da0907171e3b8ae3a50830f9f8906a3f022e7d7c", func := "fretwork/fretworklaw03.PermTells", spec := "permTells", unfollowed := true, recurses := true, plainKeys := false, apart := false }
def PermTellsSaid : Prop := permTellsRow.holds Try.pinned (OpenSpec.ofChange permTellsSpec)

/-- ITS FALSE NEIGHBOUR: 'it returns false'. Refute it at one input. -/
def permTellsWrong : ChangeSpec := { name := "permTells", fn := fun _ => fun
  | [d1, d2, d3, d4] => { results := [.lit (.bool false)], args := [d1, d2, d3, d4] }
  | _ => none }
def PermTellsWrongFalsely : Prop := permTellsRow.holds Try.pinned (OpenSpec.ofChange permTellsWrong)

/-- 'fretworklaw03.PermGroup': WHATEVER THE INPUT: true; the input reads as it did. -/
def permGroupSpec : ChangeSpec := { name := "permGroup", fn := fun _ => fun
  | [d1, d2, d3] => { results := [.lit (.bool true)], args := [d1, d2, d3] }
  | _ => none }
def permGroupRow : OpenClaim := { program := "ytccaagildkgfeaa", sum := "9828b975e9da33f289f17367da0907171e3b8ae3a50830f9f8906a3f022e7d7c", func := "fretwork/fretworklaw03.PermGroup", spec := "permGroup", unfollowed := true, recurses := true, plainKeys := false, apart := false }
def PermGroupSaid : Prop := permGroupRow.holds Try.pinned (OpenSpec.ofChange permGroupSpec)

/-- ITS FALSE NEIGHBOUR: 'it returns false'. Refute it at one input. -/
def permGroupWrong : ChangeSpec := { name := "permGroup", fn := fun _ => fun
  | [d1, d2, d3] => { results := [.lit (.bool false)], args := [d1, d2, d3] }
  | _ => none }
def PermGroupWrongFalsely : Prop := permGroupRow.holds Try.pinned (OpenSpec.ofChange permGroupWrong)

/-- 'fretworklaw03.PermPowers': WHATEVER THE INPUT: true; the input reads as it did. -/
def permPowersSpec : ChangeSpec := { name := "permPowers", fn := fun _ => fun
  | [d1, d2, d3] => { results := [.lit (.bool true)], args := [d1, d2, d3] }
  | _ => none }
def permPowersRow : OpenClaim := { program := "ytccaagildkgfeaa", sum := "9828b975e9da33f289f17367da0907171e3b8ae3a50830f9f8906a3f022e7d7c", func := "fretwork/fretworklaw03.PermPowers", spec := "permPowers", unfollowed := true, recurses := true, plainKeys := false, apart := false }
def PermPowersSaid : Prop := permPowersRow.holds Try.pinned (OpenSpec.ofChange permPowersSpec)

/-- ITS FALSE NEIGHBOUR: 'it returns false'. Refute it at one input. -/
def permPowersWrong : ChangeSpec := { name := "permPowers", fn := fun _ => fun
  | [d1, d2, d3] => { results := [.lit (.bool false)], args := [d1, d2, d3] }
  | _ => none }
def PermPowersWrongFalsely : Prop := permPowersRow.holds Try.pinned (OpenSpec.ofChange permPowersWrong)

/-- 'fretworklaw03.PermOwn': WHATEVER THE INPUT: true; the input reads as it did. -/
def permOwnSpec : ChangeSpec := { name := "permOwn", fn := fun _ => fun
  | [d] => { results := [.lit (.bool true)], args := [d] }
  | _ => none }
def permOwnRow : OpenClaim := { program := "ytccaagildkgfeaa", sum := "9828b975e9da33f289f17367da0907171e3b8ae3a50830f9f8906a3f022e7d7c", func := "fretwork/fretworklaw03.PermOwn", spec := "permOwn", unfollowed := true, recurses := true, plainKeys := false, apart := false }
def PermOwnSaid : Prop := permOwnRow.holds Try.pinned (OpenSpec.ofChange permOwnSpec)

/-- ITS FALSE NEIGHBOUR: 'it returns false'. Refute it at one input. -/
def permOwnWrong : ChangeSpec := { name := "permOwn", fn := fun _ => fun
  | [d] => { results := [.lit (.bool false)], args := [d] }
  | _ => none }
def PermOwnWrongFalsely : Prop := permOwnRow.holds Try.pinned (OpenSpec.ofChange permOwnWrong)

/-- 'fretworklaw03.PermApply': WHATEVER THE INPUT: true; the input reads as it did. -/
def permApplySpec : ChangeSpec := { name := "permApply", fn := fun _ => fun
  | [d1, d2, d3] => { results := [.lit (.bool true)], args := [d1, d2, d3] }
  | _ => none }
def permApplyRow : OpenClaim := { program := "ytccaagildkgfeaa", sum := "9828b975e9da33f289f17367da0907171e3b8ae3a50830f9f8906a3f022e7d7c", func := "fretwork/fretworklaw03.PermApply", spec := "permApply", unfollowed := true, recurses := true, plainKeys := false, apart := false }
def PermApplySaid : Prop := permApplyRow.holds Try.pinned (OpenSpec.ofChange permApplySpec)

/-- ITS FALSE NEIGHBOUR: 'it returns false'. Refute it at one input. -/
def permApplyWrong : ChangeSpec := { name := "permApply", fn := fun _ => fun
  | [d1, d2, d3] => { results := [.lit (.bool false)], args := [d1, d2, d3] }
  | _ => none }
def PermApplyWrongFalsely : Prop := permApplyRow.holds Try.pinned (OpenSpec.ofChange permApplyWrong)

/- THE SECOND FORM. 'bulk': how many values and letters a reading holds, each counted each time it is reached (what is shared counts as often as it is met; a slice's spare places count too). A statement '..UptoSaid' is the law's where the arguments, and the package variables that the reading takes, are together of bulk at most 1048576: NARROWER than '..Said'. Prove '..Said' where nothing that the law and all that it calls make is longer than what came in: it says more and counts as full. Else prove '..UptoSaid'. A law counts once. -/
mutual
def uptoBulk {H : Type} : DataW H → Nat
  | .lit (.string bytes) => bytes.length + 1
  | .lit _ => 1
  | .nil => 1
  | .ptr d => uptoBulk d + 1
  | .slice elems spare => uptoBulkAll elems + uptoBulkAll spare + 1
  | .agg parts => uptoBulkAll parts + 1
  | .iface _ d => uptoBulk d + 1
  | .map entries => uptoBulkEntries entries + 1
  | .held _ => 1
def uptoBulkAll {H : Type} : List (DataW H) → Nat
  | [] => 0
  | d :: r => uptoBulk d + uptoBulkAll r
def uptoBulkEntries {H : Type} : List (Lit × DataW H) → Nat
  | [] => 0
  | x :: r => uptoBulkEntry x + uptoBulkEntries r
def uptoBulkEntry {H : Type} : Lit × DataW H → Nat
  | (.string bytes, d) => bytes.length + uptoBulk d + 1
  | (_, d) => uptoBulk d + 1
 end
def uptoSmall : (H : Type) → List (DataW H) → Bool := fun _ ds => decide (uptoBulkAll ds ≤ 1048576)
def OpenSpec.upto (s : _root_.Go.ChangeSpec) : _root_.Go.OpenSpec := { _root_.Go.OpenSpec.ofChange s with cond := some uptoSmall }

/-- 'fretworklaw03.PermCycles', WHERE WHAT IT READS IS OF BULK AT MOST 1048576: true; the input reads as it did. -/
def permCyclesUptoRow : OpenClaim := { program := "ytccaagildkgfeaa", sum := "9828b975e9da33f289f17367da0907171e3b8ae3a50830f9f8906a3f022e7d7c", func := "fretwork/fretworklaw03.PermCycles", spec := "permCycles", unfollowed := true, recurses := true, plainKeys := false, apart := false, narrowed := true }
def PermCyclesUptoSaid : Prop := permCyclesUptoRow.holds Try.pinned (OpenSpec.upto permCyclesSpec)

/-- 'fretworklaw03.PermTells', WHERE WHAT IT READS IS OF BULK AT MOST 1048576: true; the input reads as it did. -/
def permTellsUptoRow : OpenClaim := { program := "ytccaagildkgfeaa", sum := "9828b975e9da33f289f17367da0907171e3b8ae3a50830f9f8906a3f022e7d7c", func := "fretwork/fretworklaw03.PermTells", spec := "permTells", unfollowed := true, recurses := true, plainKeys := false, apart := false, narrowed := true }
def PermTellsUptoSaid : Prop := permTellsUptoRow.holds Try.pinned (OpenSpec.upto permTellsSpec)

/-- 'fretworklaw03.PermGroup', WHERE WHAT IT READS IS OF BULK AT MOST 1048576: true; the input reads as it did. -/
def permGroupUptoRow : OpenClaim := { program := "ytccaagildkgfeaa", sum := "9828b975e9da33f289f17367da0907171e3b8ae3a50830f9f8906a3f022e7d7c", func := "fretwork/fretworklaw03.PermGroup", spec := "permGroup", unfollowed := true, recurses := true, plainKeys := false, apart := false, narrowed := true }
def PermGroupUptoSaid : Prop := permGroupUptoRow.holds Try.pinned (OpenSpec.upto permGroupSpec)

/-- 'fretworklaw03.PermPowers', WHERE WHAT IT READS IS OF BULK AT MOST 1048576: true; the input reads as it did. -/
def permPowersUptoRow : OpenClaim := { program := "ytccaagildkgfeaa", sum := "9828b975e9da33f289f17367da0907171e3b8ae3a50830f9f8906a3f022e7d7c", func := "fretwork/fretworklaw03.PermPowers", spec := "permPowers", unfollowed := true, recurses := true, plainKeys := false, apart := false, narrowed := true }
def PermPowersUptoSaid : Prop := permPowersUptoRow.holds Try.pinned (OpenSpec.upto permPowersSpec)

/-- 'fretworklaw03.PermOwn', WHERE WHAT IT READS IS OF BULK AT MOST 1048576: true; the input reads as it did. -/
def permOwnUptoRow : OpenClaim := { program := "ytccaagildkgfeaa", sum := "9828b975e9da33f289f17367da0907171e3b8ae3a50830f9f8906a3f022e7d7c", func := "fretwork/fretworklaw03.PermOwn", spec := "permOwn", unfollowed := true, recurses := true, plainKeys := false, apart := false, narrowed := true }
def PermOwnUptoSaid : Prop := permOwnUptoRow.holds Try.pinned (OpenSpec.upto permOwnSpec)

/-- 'fretworklaw03.PermApply', WHERE WHAT IT READS IS OF BULK AT MOST 1048576: true; the input reads as it did. -/
def permApplyUptoRow : OpenClaim := { program := "ytccaagildkgfeaa", sum := "9828b975e9da33f289f17367da0907171e3b8ae3a50830f9f8906a3f022e7d7c", func := "fretwork/fretworklaw03.PermApply", spec := "permApply", unfollowed := true, recurses := true, plainKeys := false, apart := false, narrowed := true }
def PermApplyUptoSaid : Prop := permApplyUptoRow.holds Try.pinned (OpenSpec.upto permApplySpec)

end Rows
end Go.Proofs.Ytccaagildkgfeaa
