/-
  DERIVED. GIVEN WITH THE SEED: THE CARDS: each row of YtlcphnmkkilefaaDoorRows.lean that lists a variable, with what it lists TIED to the program's text (the seventh form; the later family's looks); each row that meets fmt, with fmt's text TOLD by the authors' own Lean function (tested against real Go, not proved from fmt's source: count such statements apart). THE CARD IS WHAT COUNTS. Prove the row's statement (the work); the ties are given (YtlcphnmkkilefaaDoorTie.lean); close each card by the builder's one call (the guide's Derived/Test/ToyasCard.lean, 'card_holds'). Laid BY PROGRAM, IN A SANDBOX (cutbox-door.mjs). By AI agents, Wed Nov 11 2026. No macro, syntax, notation, axiom, sorry.
-/
import Derived.Test.YtlcphnmkkilefaaDoorRows
import GoSem.ClaimSeven
namespace Go.Proofs.YtlcphnmkkilefaaDoor
namespace Rows

/-- THE TIED CARD OF 'rubriclaw14.RulesOne'. -/
def rulesOneCard : Claim7 := { stood := { row := rulesOneRow, standIns := [], harness := (true, "b6f0554d2ad510dabbf92c13a2cd5eb5cd18bec8ba2ccd9d3c83498316f13fe2"), looks := false }, kinds := [], alts := [], laidByText := true, laidKinds := [.data, .pinned], laidTests := true, laidLooks := .later }
def RulesOneCardSaid : Prop := Claim7.holds Tryd.pinned (.plain (OpenSpec.ofChange rulesOneSpec)) rulesOneCard

/-- THE SECOND FORM's CARD OF 'rubriclaw14.RulesOne'. -/
def rulesOneUptoCard : Claim7 := { stood := { row := rulesOneUptoRow, standIns := [], harness := (true, "b6f0554d2ad510dabbf92c13a2cd5eb5cd18bec8ba2ccd9d3c83498316f13fe2"), looks := false }, kinds := [], alts := [], laidByText := true, laidKinds := [.data, .pinned], laidTests := true, laidLooks := .later }
def RulesOneUptoCardSaid : Prop := Claim7.holds Tryd.pinned (.plain (OpenSpec.upto rulesOneSpec)) rulesOneUptoCard
end Rows
end Go.Proofs.YtlcphnmkkilefaaDoor
