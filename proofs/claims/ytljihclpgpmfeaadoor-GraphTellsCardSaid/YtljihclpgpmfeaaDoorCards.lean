/-
  DERIVED. GIVEN WITH THE SEED: THE CARDS: each row of YtljihclpgpmfeaaDoorRows.lean that lists a variable, with what it lists TIED to the program's text (the seventh form; the later family's looks); each row that meets fmt, with fmt's text TOLD by the authors' own Lean function (tested against real Go, not proved from fmt's source: count such statements apart). THE CARD IS WHAT COUNTS. Prove the row's statement (the work); the ties are given (YtljihclpgpmfeaaDoorTie.lean); close each card by the builder's one call (the guide's Derived/Test/ToyasCard.lean, 'card_holds'). Laid BY PROGRAM, IN A SANDBOX (cutbox-door.mjs). By AI agents, Wed Nov 11 2026. No macro, syntax, notation, axiom, sorry.
-/
import Derived.Test.YtljihclpgpmfeaaDoorRows
import GoSem.ClaimSeven
namespace Go.Proofs.YtljihclpgpmfeaaDoor
namespace Rows

/-- THE TIED CARD OF 'fretworklaw02.GraphTotal'. -/
def graphTotalCard : Claim7 := { stood := { row := graphTotalRow, standIns := [], harness := (true, "dbc485575719917fc6444148edf3ee79e9e0d65652849b9bf00f3f4990e45118"), looks := false }, kinds := [], alts := [], laidByText := true, laidKinds := [.data, .data, .data], laidTests := true, laidLooks := .later }
def GraphTotalCardSaid : Prop := Claim7.holds Tryd.pinned (.plain (OpenSpec.ofChange graphTotalSpec)) graphTotalCard

/-- THE TIED CARD OF 'fretworklaw02.GraphBack'. -/
def graphBackCard : Claim7 := { stood := { row := graphBackRow, standIns := [], harness := (true, "dbc485575719917fc6444148edf3ee79e9e0d65652849b9bf00f3f4990e45118"), looks := false }, kinds := [], alts := [], laidByText := true, laidKinds := [.data, .data, .data], laidTests := true, laidLooks := .later }
def GraphBackCardSaid : Prop := Claim7.holds Tryd.pinned (.plain (OpenSpec.ofChange graphBackSpec)) graphBackCard

/-- THE TIED CARD OF 'fretworklaw02.GraphBeside'. -/
def graphBesideCard : Claim7 := { stood := { row := graphBesideRow, standIns := [], harness := (true, "dbc485575719917fc6444148edf3ee79e9e0d65652849b9bf00f3f4990e45118"), looks := false }, kinds := [], alts := [], laidByText := true, laidKinds := [.data, .data, .data], laidTests := true, laidLooks := .later }
def GraphBesideCardSaid : Prop := Claim7.holds Tryd.pinned (.plain (OpenSpec.ofChange graphBesideSpec)) graphBesideCard

/-- THE TIED CARD OF 'fretworklaw02.GraphOwn'. -/
def graphOwnCard : Claim7 := { stood := { row := graphOwnRow, standIns := [], harness := (true, "dbc485575719917fc6444148edf3ee79e9e0d65652849b9bf00f3f4990e45118"), looks := false }, kinds := [], alts := [], laidByText := true, laidKinds := [.data, .data, .data], laidTests := true, laidLooks := .later }
def GraphOwnCardSaid : Prop := Claim7.holds Tryd.pinned (.plain (OpenSpec.ofChange graphOwnSpec)) graphOwnCard

/-- THE TIED CARD OF 'fretworklaw02.GraphMade'. -/
def graphMadeCard : Claim7 := { stood := { row := graphMadeRow, standIns := [], harness := (true, "dbc485575719917fc6444148edf3ee79e9e0d65652849b9bf00f3f4990e45118"), looks := false }, kinds := [], alts := [], laidByText := true, laidKinds := [.data, .data, .data], laidTests := true, laidLooks := .later }
def GraphMadeCardSaid : Prop := Claim7.holds Tryd.pinned (.plain (OpenSpec.ofChange graphMadeSpec)) graphMadeCard

/-- THE TIED CARD OF 'fretworklaw02.GraphLimits'. -/
def graphLimitsCard : Claim7 := { stood := { row := graphLimitsRow, standIns := [], harness := (true, "dbc485575719917fc6444148edf3ee79e9e0d65652849b9bf00f3f4990e45118"), looks := false }, kinds := [], alts := [], laidByText := true, laidKinds := [.data, .data, .data], laidTests := true, laidLooks := .later }
def GraphLimitsCardSaid : Prop := Claim7.holds Tryd.pinned (.plain (OpenSpec.ofChange graphLimitsSpec)) graphLimitsCard

/-- THE TIED CARD OF 'fretworklaw02.GraphTells'. -/
def graphTellsCard : Claim7 := { stood := { row := graphTellsRow, standIns := [], harness := (true, "dbc485575719917fc6444148edf3ee79e9e0d65652849b9bf00f3f4990e45118"), looks := false }, kinds := [], alts := [], laidByText := true, laidKinds := [.data, .data, .data], laidTests := true, laidLooks := .later }
def GraphTellsCardSaid : Prop := Claim7.holds Tryd.pinned (.plain (OpenSpec.ofChange graphTellsSpec)) graphTellsCard

/-- THE SECOND FORM's CARD OF 'fretworklaw02.GraphTotal'. -/
def graphTotalUptoCard : Claim7 := { stood := { row := graphTotalUptoRow, standIns := [], harness := (true, "dbc485575719917fc6444148edf3ee79e9e0d65652849b9bf00f3f4990e45118"), looks := false }, kinds := [], alts := [], laidByText := true, laidKinds := [.data, .data, .data], laidTests := true, laidLooks := .later }
def GraphTotalUptoCardSaid : Prop := Claim7.holds Tryd.pinned (.plain (OpenSpec.upto graphTotalSpec)) graphTotalUptoCard

/-- THE SECOND FORM's CARD OF 'fretworklaw02.GraphBack'. -/
def graphBackUptoCard : Claim7 := { stood := { row := graphBackUptoRow, standIns := [], harness := (true, "dbc485575719917fc6444148edf3ee79e9e0d65652849b9bf00f3f4990e45118"), looks := false }, kinds := [], alts := [], laidByText := true, laidKinds := [.data, .data, .data], laidTests := true, laidLooks := .later }
def GraphBackUptoCardSaid : Prop := Claim7.holds Tryd.pinned (.plain (OpenSpec.upto graphBackSpec)) graphBackUptoCard

/-- THE SECOND FORM's CARD OF 'fretworklaw02.GraphBeside'. -/
def graphBesideUptoCard : Claim7 := { stood := { row := graphBesideUptoRow, standIns := [], harness := (true, "dbc485575719917fc6444148edf3ee79e9e0d65652849b9bf00f3f4990e45118"), looks := false }, kinds := [], alts := [], laidByText := true, laidKinds := [.data, .data, .data], laidTests := true, laidLooks := .later }
def GraphBesideUptoCardSaid : Prop := Claim7.holds Tryd.pinned (.plain (OpenSpec.upto graphBesideSpec)) graphBesideUptoCard

/-- THE SECOND FORM's CARD OF 'fretworklaw02.GraphOwn'. -/
def graphOwnUptoCard : Claim7 := { stood := { row := graphOwnUptoRow, standIns := [], harness := (true, "dbc485575719917fc6444148edf3ee79e9e0d65652849b9bf00f3f4990e45118"), looks := false }, kinds := [], alts := [], laidByText := true, laidKinds := [.data, .data, .data], laidTests := true, laidLooks := .later }
def GraphOwnUptoCardSaid : Prop := Claim7.holds Tryd.pinned (.plain (OpenSpec.upto graphOwnSpec)) graphOwnUptoCard

/-- THE SECOND FORM's CARD OF 'fretworklaw02.GraphMade'. -/
def graphMadeUptoCard : Claim7 := { stood := { row := graphMadeUptoRow, standIns := [], harness := (true, "dbc485575719917fc6444148edf3ee79e9e0d65652849b9bf00f3f4990e45118"), looks := false }, kinds := [], alts := [], laidByText := true, laidKinds := [.data, .data, .data], laidTests := true, laidLooks := .later }
def GraphMadeUptoCardSaid : Prop := Claim7.holds Tryd.pinned (.plain (OpenSpec.upto graphMadeSpec)) graphMadeUptoCard

/-- THE SECOND FORM's CARD OF 'fretworklaw02.GraphLimits'. -/
def graphLimitsUptoCard : Claim7 := { stood := { row := graphLimitsUptoRow, standIns := [], harness := (true, "dbc485575719917fc6444148edf3ee79e9e0d65652849b9bf00f3f4990e45118"), looks := false }, kinds := [], alts := [], laidByText := true, laidKinds := [.data, .data, .data], laidTests := true, laidLooks := .later }
def GraphLimitsUptoCardSaid : Prop := Claim7.holds Tryd.pinned (.plain (OpenSpec.upto graphLimitsSpec)) graphLimitsUptoCard

/-- THE SECOND FORM's CARD OF 'fretworklaw02.GraphTells'. -/
def graphTellsUptoCard : Claim7 := { stood := { row := graphTellsUptoRow, standIns := [], harness := (true, "dbc485575719917fc6444148edf3ee79e9e0d65652849b9bf00f3f4990e45118"), looks := false }, kinds := [], alts := [], laidByText := true, laidKinds := [.data, .data, .data], laidTests := true, laidLooks := .later }
def GraphTellsUptoCardSaid : Prop := Claim7.holds Tryd.pinned (.plain (OpenSpec.upto graphTellsSpec)) graphTellsUptoCard
end Rows
end Go.Proofs.YtljihclpgpmfeaaDoor
