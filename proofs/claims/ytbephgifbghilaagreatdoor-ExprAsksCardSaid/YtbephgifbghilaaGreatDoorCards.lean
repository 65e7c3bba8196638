/-
  DERIVED. GIVEN WITH THE SEED: THE CARDS: each row of YtbephgifbghilaaGreatDoorRows.lean that lists a variable, with what it lists TIED to the program's text (the seventh form; the later family's looks); each row that meets fmt, with fmt's text TOLD by the authors' own Lean function (tested against real Go, not proved from fmt's source: count such statements apart). THE CARD IS WHAT COUNTS. Prove the row's statement (the work); the ties are given (YtbephgifbghilaaGreatDoorTie.lean); close each card by the builder's one call (the guide's Derived/Test/ToyasCard.lean, 'card_holds'). Laid BY PROGRAM, IN A SANDBOX (cutbox-door.mjs). By AI agents, Wed Nov 11 2026. No macro, syntax, notation, axiom, sorry.
-/
import Derived.Test.YtbephgifbghilaaGreatDoorRows
import GoSem.ClaimSeven
namespace Go.Proofs.YtbephgifbghilaaGreatDoor
namespace Rows

/-- THE TIED CARD OF 'tollgatelaw10.ExprNames'. -/
def exprNamesCard : Claim7 := { stood := { row := exprNamesRow, standIns := [], harness := (true, "ccf4f349611c2f5f1ef4289f143feb73a2a725368c64e83e8b61564a4d04fffb"), looks := true }, kinds := [], alts := [], laidByText := true, laidKinds := [.data, .data, .data, .data, .sentinel, .sentinel, .pinned], laidTests := true, laidLooks := .later }
def ExprNamesCardSaid : Prop := Claim7.holds Tryz.pinned (.plain (OpenSpec.ofChange exprNamesSpec)) exprNamesCard

/-- THE TIED CARD OF 'tollgatelaw10.ExprBack'. -/
def exprBackCard : Claim7 := { stood := { row := exprBackRow, standIns := [], harness := (true, "ccf4f349611c2f5f1ef4289f143feb73a2a725368c64e83e8b61564a4d04fffb"), looks := true }, kinds := [], alts := [], laidByText := true, laidKinds := [.data, .data, .data, .data, .sentinel, .sentinel, .pinned], laidTests := true, laidLooks := .later }
def ExprBackCardSaid : Prop := Claim7.holds Tryz.pinned (.plain (OpenSpec.ofChange exprBackSpec)) exprBackCard

/-- THE TIED CARD OF 'tollgatelaw10.ExprBinds'. -/
def exprBindsCard : Claim7 := { stood := { row := exprBindsRow, standIns := [], harness := (true, "ccf4f349611c2f5f1ef4289f143feb73a2a725368c64e83e8b61564a4d04fffb"), looks := true }, kinds := [], alts := [], laidByText := true, laidKinds := [.data, .data, .data, .data, .sentinel, .sentinel, .pinned], laidTests := true, laidLooks := .later }
def ExprBindsCardSaid : Prop := Claim7.holds Tryz.pinned (.plain (OpenSpec.ofChange exprBindsSpec)) exprBindsCard

/-- THE TIED CARD OF 'tollgatelaw11.EvalNames'. -/
def evalNamesCard : Claim7 := { stood := { row := evalNamesRow, standIns := [], harness := (true, "ccf4f349611c2f5f1ef4289f143feb73a2a725368c64e83e8b61564a4d04fffb"), looks := true }, kinds := [], alts := [], laidByText := true, laidKinds := [.data, .data, .data, .data, .sentinel, .sentinel, .pinned], laidTests := true, laidLooks := .later }
def EvalNamesCardSaid : Prop := Claim7.holds Tryz.pinned (.plain (OpenSpec.ofChange evalNamesSpec)) evalNamesCard

/-- THE TIED CARD OF 'tollgatelaw10.ExprTypes'. -/
def exprTypesCard : Claim7 := { stood := { row := exprTypesRow, standIns := [], harness := (true, "ccf4f349611c2f5f1ef4289f143feb73a2a725368c64e83e8b61564a4d04fffb"), looks := true }, kinds := [], alts := [], laidByText := true, laidKinds := [.data, .data, .data, .data, .sentinel, .sentinel, .pinned], laidTests := true, laidLooks := .later }
def ExprTypesCardSaid : Prop := Claim7.holds Tryz.pinned (.plain (OpenSpec.ofChange exprTypesSpec)) exprTypesCard

/-- THE TIED CARD OF 'tollgatelaw10.ExprAsks'. -/
def exprAsksCard : Claim7 := { stood := { row := exprAsksRow, standIns := [], harness := (true, "ccf4f349611c2f5f1ef4289f143feb73a2a725368c64e83e8b61564a4d04fffb"), looks := true }, kinds := [], alts := [], laidByText := true, laidKinds := [.data, .data, .data, .data, .sentinel, .sentinel, .pinned], laidTests := true, laidLooks := .later }
def ExprAsksCardSaid : Prop := Claim7.holds Tryz.pinned (.plain (OpenSpec.ofChange exprAsksSpec)) exprAsksCard

/-- THE SECOND FORM's CARD OF 'tollgatelaw10.ExprNames'. -/
def exprNamesUptoCard : Claim7 := { stood := { row := exprNamesUptoRow, standIns := [], harness := (true, "ccf4f349611c2f5f1ef4289f143feb73a2a725368c64e83e8b61564a4d04fffb"), looks := true }, kinds := [], alts := [], laidByText := true, laidKinds := [.data, .data, .data, .data, .sentinel, .sentinel, .pinned], laidTests := true, laidLooks := .later }
def ExprNamesUptoCardSaid : Prop := Claim7.holds Tryz.pinned (.plain (OpenSpec.upto exprNamesSpec)) exprNamesUptoCard

/-- THE SECOND FORM's CARD OF 'tollgatelaw10.ExprBack'. -/
def exprBackUptoCard : Claim7 := { stood := { row := exprBackUptoRow, standIns := [], harness := (true, "ccf4f349611c2f5f1ef4289f143feb73a2a725368c64e83e8b61564a4d04fffb"), looks := true }, kinds := [], alts := [], laidByText := true, laidKinds := [.data, .data, .data, .data, .sentinel, .sentinel, .pinned], laidTests := true, laidLooks := .later }
def ExprBackUptoCardSaid : Prop := Claim7.holds Tryz.pinned (.plain (OpenSpec.upto exprBackSpec)) exprBackUptoCard

/-- THE SECOND FORM's CARD OF 'tollgatelaw10.ExprBinds'. -/
def exprBindsUptoCard : Claim7 := { stood := { row := exprBindsUptoRow, standIns := [], harness := (true, "ccf4f349611c2f5f1ef4289f143feb73a2a725368c64e83e8b61564a4d04fffb"), looks := true }, kinds := [], alts := [], laidByText := true, laidKinds := [.data, .data, .data, .data, .sentinel, .sentinel, .pinned], laidTests := true, laidLooks := .later }
def ExprBindsUptoCardSaid : Prop := Claim7.holds Tryz.pinned (.plain (OpenSpec.upto exprBindsSpec)) exprBindsUptoCard

/-- THE SECOND FORM's CARD OF 'tollgatelaw11.EvalNames'. -/
def evalNamesUptoCard : Claim7 := { stood := { row := evalNamesUptoRow, standIns := [], harness := (true, "ccf4f349611c2f5f1ef4289f143feb73a2a725368c64e83e8b61564a4d04fffb"), looks := true }, kinds := [], alts := [], laidByText := true, laidKinds := [.data, .data, .data, .data, .sentinel, .sentinel, .pinned], laidTests := true, laidLooks := .later }
def EvalNamesUptoCardSaid : Prop := Claim7.holds Tryz.pinned (.plain (OpenSpec.upto evalNamesSpec)) evalNamesUptoCard

/-- THE SECOND FORM's CARD OF 'tollgatelaw10.ExprTypes'. -/
def exprTypesUptoCard : Claim7 := { stood := { row := exprTypesUptoRow, standIns := [], harness := (true, "ccf4f349611c2f5f1ef4289f143feb73a2a725368c64e83e8b61564a4d04fffb"), looks := true }, kinds := [], alts := [], laidByText := true, laidKinds := [.data, .data, .data, .data, .sentinel, .sentinel, .pinned], laidTests := true, laidLooks := .later }
def ExprTypesUptoCardSaid : Prop := Claim7.holds Tryz.pinned (.plain (OpenSpec.upto exprTypesSpec)) exprTypesUptoCard

/-- THE SECOND FORM's CARD OF 'tollgatelaw10.ExprAsks'. -/
def exprAsksUptoCard : Claim7 := { stood := { row := exprAsksUptoRow, standIns := [], harness := (true, "ccf4f349611c2f5f1ef4289f143feb73a2a725368c64e83e8b61564a4d04fffb"), looks := true }, kinds := [], alts := [], laidByText := true, laidKinds := [.data, .data, .data, .data, .sentinel, .sentinel, .pinned], laidTests := true, laidLooks := .later }
def ExprAsksUptoCardSaid : Prop := Claim7.holds Tryz.pinned (.plain (OpenSpec.upto exprAsksSpec)) exprAsksUptoCard
end Rows
end Go.Proofs.YtbephgifbghilaaGreatDoor
