/-
  DERIVED. GIVEN WITH THE SEED: THE CARDS: each row of YtbchkldhnjahaaaGreatDoorRows.lean that lists a variable, with what it lists TIED to the program's text (the seventh form; the later family's looks); each row that meets fmt, with fmt's text TOLD by the authors' own Lean function (tested against real Go, not proved from fmt's source: count such statements apart). THE CARD IS WHAT COUNTS. Prove the row's statement (the work); the ties are given (YtbchkldhnjahaaaGreatDoorTie.lean); close each card by the builder's one call (the guide's Derived/Test/ToyasCard.lean, 'card_holds'). Laid BY PROGRAM, IN A SANDBOX (cutbox-door.mjs). By AI agents, Wed Nov 11 2026. No macro, syntax, notation, axiom, sorry.
-/
import Derived.Test.YtbchkldhnjahaaaGreatDoorRows
import GoSem.ClaimSeven
namespace Go.Proofs.YtbchkldhnjahaaaGreatDoor
namespace Rows

/-- THE TIED CARD OF 'kilnlaw05.TreePrograms'. -/
def treeProgramsCard : Claim7 := { stood := { row := treeProgramsRow, standIns := [], harness := (true, "92383550f4e23bdba6b0213926b07e4d5c527c9d6f87b5a760ec16fdd7006f32"), looks := true }, kinds := [], alts := [], laidByText := true, laidKinds := [.data, .data, .data, .sentinel, .sentinel], laidTests := true, laidLooks := .later }
def TreeProgramsCardSaid : Prop := Claim7.holds Tryz.pinned (.plain (OpenSpec.ofChange treeProgramsSpec)) treeProgramsCard

/-- THE TIED CARD OF 'kilnlaw05.TreeOwn'. -/
def treeOwnCard : Claim7 := { stood := { row := treeOwnRow, standIns := [], harness := (true, "92383550f4e23bdba6b0213926b07e4d5c527c9d6f87b5a760ec16fdd7006f32"), looks := true }, kinds := [], alts := [], laidByText := true, laidKinds := [.data, .data, .data, .sentinel, .sentinel], laidTests := true, laidLooks := .later }
def TreeOwnCardSaid : Prop := Claim7.holds Tryz.pinned (.plain (OpenSpec.ofChange treeOwnSpec)) treeOwnCard

/-- THE TIED CARD OF 'kilnlaw05.TreeBelow'. -/
def treeBelowCard : Claim7 := { stood := { row := treeBelowRow, standIns := [], harness := (true, "92383550f4e23bdba6b0213926b07e4d5c527c9d6f87b5a760ec16fdd7006f32"), looks := true }, kinds := [], alts := [], laidByText := true, laidKinds := [.data, .data, .data, .sentinel, .sentinel], laidTests := true, laidLooks := .later }
def TreeBelowCardSaid : Prop := Claim7.holds Tryz.pinned (.plain (OpenSpec.ofChange treeBelowSpec)) treeBelowCard

/-- THE TIED CARD OF 'kilnlaw05.TreeSames'. -/
def treeSamesCard : Claim7 := { stood := { row := treeSamesRow, standIns := [], harness := (true, "92383550f4e23bdba6b0213926b07e4d5c527c9d6f87b5a760ec16fdd7006f32"), looks := true }, kinds := [], alts := [], laidByText := true, laidKinds := [.data, .data, .data, .sentinel, .sentinel], laidTests := true, laidLooks := .later }
def TreeSamesCardSaid : Prop := Claim7.holds Tryz.pinned (.plain (OpenSpec.ofChange treeSamesSpec)) treeSamesCard

/-- THE TIED CARD OF 'kilnlaw05.TreeHolds'. -/
def treeHoldsCard : Claim7 := { stood := { row := treeHoldsRow, standIns := [], harness := (true, "92383550f4e23bdba6b0213926b07e4d5c527c9d6f87b5a760ec16fdd7006f32"), looks := true }, kinds := [], alts := [], laidByText := true, laidKinds := [.data, .data, .data, .sentinel, .sentinel], laidTests := true, laidLooks := .later }
def TreeHoldsCardSaid : Prop := Claim7.holds Tryz.pinned (.plain (OpenSpec.ofChange treeHoldsSpec)) treeHoldsCard

/-- THE TIED CARD OF 'kilnlaw05.TreeScopes'. -/
def treeScopesCard : Claim7 := { stood := { row := treeScopesRow, standIns := [], harness := (true, "92383550f4e23bdba6b0213926b07e4d5c527c9d6f87b5a760ec16fdd7006f32"), looks := true }, kinds := [], alts := [], laidByText := true, laidKinds := [.data, .data, .data, .sentinel, .sentinel], laidTests := true, laidLooks := .later }
def TreeScopesCardSaid : Prop := Claim7.holds Tryz.pinned (.plain (OpenSpec.ofChange treeScopesSpec)) treeScopesCard

/-- THE SECOND FORM's CARD OF 'kilnlaw05.TreePrograms'. -/
def treeProgramsUptoCard : Claim7 := { stood := { row := treeProgramsUptoRow, standIns := [], harness := (true, "92383550f4e23bdba6b0213926b07e4d5c527c9d6f87b5a760ec16fdd7006f32"), looks := true }, kinds := [], alts := [], laidByText := true, laidKinds := [.data, .data, .data, .sentinel, .sentinel], laidTests := true, laidLooks := .later }
def TreeProgramsUptoCardSaid : Prop := Claim7.holds Tryz.pinned (.plain (OpenSpec.upto treeProgramsSpec)) treeProgramsUptoCard

/-- THE SECOND FORM's CARD OF 'kilnlaw05.TreeOwn'. -/
def treeOwnUptoCard : Claim7 := { stood := { row := treeOwnUptoRow, standIns := [], harness := (true, "92383550f4e23bdba6b0213926b07e4d5c527c9d6f87b5a760ec16fdd7006f32"), looks := true }, kinds := [], alts := [], laidByText := true, laidKinds := [.data, .data, .data, .sentinel, .sentinel], laidTests := true, laidLooks := .later }
def TreeOwnUptoCardSaid : Prop := Claim7.holds Tryz.pinned (.plain (OpenSpec.upto treeOwnSpec)) treeOwnUptoCard

/-- THE SECOND FORM's CARD OF 'kilnlaw05.TreeBelow'. -/
def treeBelowUptoCard : Claim7 := { stood := { row := treeBelowUptoRow, standIns := [], harness := (true, "92383550f4e23bdba6b0213926b07e4d5c527c9d6f87b5a760ec16fdd7006f32"), looks := true }, kinds := [], alts := [], laidByText := true, laidKinds := [.data, .data, .data, .sentinel, .sentinel], laidTests := true, laidLooks := .later }
def TreeBelowUptoCardSaid : Prop := Claim7.holds Tryz.pinned (.plain (OpenSpec.upto treeBelowSpec)) treeBelowUptoCard

/-- THE SECOND FORM's CARD OF 'kilnlaw05.TreeSames'. -/
def treeSamesUptoCard : Claim7 := { stood := { row := treeSamesUptoRow, standIns := [], harness := (true, "92383550f4e23bdba6b0213926b07e4d5c527c9d6f87b5a760ec16fdd7006f32"), looks := true }, kinds := [], alts := [], laidByText := true, laidKinds := [.data, .data, .data, .sentinel, .sentinel], laidTests := true, laidLooks := .later }
def TreeSamesUptoCardSaid : Prop := Claim7.holds Tryz.pinned (.plain (OpenSpec.upto treeSamesSpec)) treeSamesUptoCard

/-- THE SECOND FORM's CARD OF 'kilnlaw05.TreeHolds'. -/
def treeHoldsUptoCard : Claim7 := { stood := { row := treeHoldsUptoRow, standIns := [], harness := (true, "92383550f4e23bdba6b0213926b07e4d5c527c9d6f87b5a760ec16fdd7006f32"), looks := true }, kinds := [], alts := [], laidByText := true, laidKinds := [.data, .data, .data, .sentinel, .sentinel], laidTests := true, laidLooks := .later }
def TreeHoldsUptoCardSaid : Prop := Claim7.holds Tryz.pinned (.plain (OpenSpec.upto treeHoldsSpec)) treeHoldsUptoCard

/-- THE SECOND FORM's CARD OF 'kilnlaw05.TreeScopes'. -/
def treeScopesUptoCard : Claim7 := { stood := { row := treeScopesUptoRow, standIns := [], harness := (true, "92383550f4e23bdba6b0213926b07e4d5c527c9d6f87b5a760ec16fdd7006f32"), looks := true }, kinds := [], alts := [], laidByText := true, laidKinds := [.data, .data, .data, .sentinel, .sentinel], laidTests := true, laidLooks := .later }
def TreeScopesUptoCardSaid : Prop := Claim7.holds Tryz.pinned (.plain (OpenSpec.upto treeScopesSpec)) treeScopesUptoCard
end Rows
end Go.Proofs.YtbchkldhnjahaaaGreatDoor
