/-
  DERIVED. GIVEN WITH THE SEED: THE CARDS: each row of YtecangnmmbcbkaaDoorRows.lean that lists a variable, with what it lists TIED to the program's text (the seventh form; the later family's looks); each row that meets fmt, with fmt's text TOLD by the authors' own Lean function (tested against real Go, not proved from fmt's source: count such statements apart). THE CARD IS WHAT COUNTS. Prove the row's statement (the work); the ties are given (YtecangnmmbcbkaaDoorTie.lean); close each card by the builder's one call (the guide's Derived/Test/ToyasCard.lean, 'card_holds'). Laid BY PROGRAM, IN A SANDBOX (cutbox-door.mjs). By AI agents, Wed Nov 11 2026. No macro, syntax, notation, axiom, sorry.
-/
import Derived.Test.YtecangnmmbcbkaaDoorRows
import GoSem.ClaimSeven
namespace Go.Proofs.YtecangnmmbcbkaaDoor
namespace Rows

/-- THE TIED CARD OF 'rubriclaw06.PatchParts'. -/
def patchPartsCard : Claim7 := { stood := { row := patchPartsRow, standIns := [], harness := (true, "9adb3e21f01c92331f30f6653e618634e15684fcadab348d6a246fbef7864185"), looks := false }, kinds := [], alts := [], laidByText := true, laidKinds := [.data, .pinned], laidTests := true, laidLooks := .later }
def PatchPartsCardSaid : Prop := Claim7.holds Tryd.pinned (.plain (OpenSpec.ofChange patchPartsSpec)) patchPartsCard

/-- THE TIED CARD OF 'rubriclaw06.PatchMay'. -/
def patchMayCard : Claim7 := { stood := { row := patchMayRow, standIns := [], harness := (true, "9adb3e21f01c92331f30f6653e618634e15684fcadab348d6a246fbef7864185"), looks := false }, kinds := [], alts := [], laidByText := true, laidKinds := [.data, .pinned], laidTests := true, laidLooks := .later }
def PatchMayCardSaid : Prop := Claim7.holds Tryd.pinned (.plain (OpenSpec.ofChange patchMaySpec)) patchMayCard

/-- THE TIED CARD OF 'rubriclaw06.PatchStay'. -/
def patchStayCard : Claim7 := { stood := { row := patchStayRow, standIns := [], harness := (true, "9adb3e21f01c92331f30f6653e618634e15684fcadab348d6a246fbef7864185"), looks := false }, kinds := [], alts := [], laidByText := true, laidKinds := [.data, .pinned], laidTests := true, laidLooks := .later }
def PatchStayCardSaid : Prop := Claim7.holds Tryd.pinned (.plain (OpenSpec.ofChange patchStaySpec)) patchStayCard

/-- THE TIED CARD OF 'rubriclaw05.AttrsStay'. -/
def attrsStayCard : Claim7 := { stood := { row := attrsStayRow, standIns := [], harness := (true, "9adb3e21f01c92331f30f6653e618634e15684fcadab348d6a246fbef7864185"), looks := false }, kinds := [], alts := [], laidByText := true, laidKinds := [.data, .pinned], laidTests := true, laidLooks := .later }
def AttrsStayCardSaid : Prop := Claim7.holds Tryd.pinned (.plain (OpenSpec.ofChange attrsStaySpec)) attrsStayCard

/-- THE TIED CARD OF 'rubriclaw05.AttrsSets'. -/
def attrsSetsCard : Claim7 := { stood := { row := attrsSetsRow, standIns := [], harness := (true, "9adb3e21f01c92331f30f6653e618634e15684fcadab348d6a246fbef7864185"), looks := false }, kinds := [], alts := [], laidByText := true, laidKinds := [.data, .pinned], laidTests := true, laidLooks := .later }
def AttrsSetsCardSaid : Prop := Claim7.holds Tryd.pinned (.plain (OpenSpec.ofChange attrsSetsSpec)) attrsSetsCard

/-- THE TIED CARD OF 'rubriclaw05.AttrsParts'. -/
def attrsPartsCard : Claim7 := { stood := { row := attrsPartsRow, standIns := [], harness := (true, "9adb3e21f01c92331f30f6653e618634e15684fcadab348d6a246fbef7864185"), looks := false }, kinds := [], alts := [], laidByText := true, laidKinds := [.data, .pinned], laidTests := true, laidLooks := .later }
def AttrsPartsCardSaid : Prop := Claim7.holds Tryd.pinned (.plain (OpenSpec.ofChange attrsPartsSpec)) attrsPartsCard

/-- THE SECOND FORM's CARD OF 'rubriclaw06.PatchParts'. -/
def patchPartsUptoCard : Claim7 := { stood := { row := patchPartsUptoRow, standIns := [], harness := (true, "9adb3e21f01c92331f30f6653e618634e15684fcadab348d6a246fbef7864185"), looks := false }, kinds := [], alts := [], laidByText := true, laidKinds := [.data, .pinned], laidTests := true, laidLooks := .later }
def PatchPartsUptoCardSaid : Prop := Claim7.holds Tryd.pinned (.plain (OpenSpec.upto patchPartsSpec)) patchPartsUptoCard

/-- THE SECOND FORM's CARD OF 'rubriclaw06.PatchMay'. -/
def patchMayUptoCard : Claim7 := { stood := { row := patchMayUptoRow, standIns := [], harness := (true, "9adb3e21f01c92331f30f6653e618634e15684fcadab348d6a246fbef7864185"), looks := false }, kinds := [], alts := [], laidByText := true, laidKinds := [.data, .pinned], laidTests := true, laidLooks := .later }
def PatchMayUptoCardSaid : Prop := Claim7.holds Tryd.pinned (.plain (OpenSpec.upto patchMaySpec)) patchMayUptoCard

/-- THE SECOND FORM's CARD OF 'rubriclaw06.PatchStay'. -/
def patchStayUptoCard : Claim7 := { stood := { row := patchStayUptoRow, standIns := [], harness := (true, "9adb3e21f01c92331f30f6653e618634e15684fcadab348d6a246fbef7864185"), looks := false }, kinds := [], alts := [], laidByText := true, laidKinds := [.data, .pinned], laidTests := true, laidLooks := .later }
def PatchStayUptoCardSaid : Prop := Claim7.holds Tryd.pinned (.plain (OpenSpec.upto patchStaySpec)) patchStayUptoCard

/-- THE SECOND FORM's CARD OF 'rubriclaw05.AttrsStay'. -/
def attrsStayUptoCard : Claim7 := { stood := { row := attrsStayUptoRow, standIns := [], harness := (true, "9adb3e21f01c92331f30f6653e618634e15684fcadab348d6a246fbef7864185"), looks := false }, kinds := [], alts := [], laidByText := true, laidKinds := [.data, .pinned], laidTests := true, laidLooks := .later }
def AttrsStayUptoCardSaid : Prop := Claim7.holds Tryd.pinned (.plain (OpenSpec.upto attrsStaySpec)) attrsStayUptoCard

/-- THE SECOND FORM's CARD OF 'rubriclaw05.AttrsSets'. -/
def attrsSetsUptoCard : Claim7 := { stood := { row := attrsSetsUptoRow, standIns := [], harness := (true, "9adb3e21f01c92331f30f6653e618634e15684fcadab348d6a246fbef7864185"), looks := false }, kinds := [], alts := [], laidByText := true, laidKinds := [.data, .pinned], laidTests := true, laidLooks := .later }
def AttrsSetsUptoCardSaid : Prop := Claim7.holds Tryd.pinned (.plain (OpenSpec.upto attrsSetsSpec)) attrsSetsUptoCard

/-- THE SECOND FORM's CARD OF 'rubriclaw05.AttrsParts'. -/
def attrsPartsUptoCard : Claim7 := { stood := { row := attrsPartsUptoRow, standIns := [], harness := (true, "9adb3e21f01c92331f30f6653e618634e15684fcadab348d6a246fbef7864185"), looks := false }, kinds := [], alts := [], laidByText := true, laidKinds := [.data, .pinned], laidTests := true, laidLooks := .later }
def AttrsPartsUptoCardSaid : Prop := Claim7.holds Tryd.pinned (.plain (OpenSpec.upto attrsPartsSpec)) attrsPartsUptoCard
end Rows
end Go.Proofs.YtecangnmmbcbkaaDoor
