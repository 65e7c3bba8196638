/-
  DERIVED. GIVEN WITH THE SEED: THE CARDS: each row of YtjfiijbmkcfooaaDoorRows.lean that lists a variable, with what it lists TIED to the program's text (the seventh form; the later family's looks); each row that meets fmt, with fmt's text TOLD by the authors' own Lean function (tested against real Go, not proved from fmt's source: count such statements apart). THE CARD IS WHAT COUNTS. Prove the row's statement (the work); the ties are given (YtjfiijbmkcfooaaDoorTie.lean); close each card by the builder's one call (the guide's Derived/Test/ToyasCard.lean, 'card_holds'). Laid BY PROGRAM, IN A SANDBOX (cutbox-door.mjs). By AI agents, Wed Nov 11 2026. No macro, syntax, notation, axiom, sorry.
-/
import Derived.Test.YtjfiijbmkcfooaaDoorRows
import GoSem.ClaimSeven
namespace Go.Proofs.YtjfiijbmkcfooaaDoor
namespace Rows

/-- THE TIED CARD OF 'tollgatelaw11.EvalLaws'. -/
def evalLawsCard : Claim7 := { stood := { row := evalLawsRow, standIns := [], harness := (true, "749aa59c2cec8b09c41d1f9e7dd7f9754d68de81a538b26ada8a3a5151f66dc1"), looks := false }, kinds := [], alts := [], laidByText := true, laidKinds := [.data, .pinned], laidTests := true, laidLooks := .later }
def EvalLawsCardSaid : Prop := Claim7.holds Tryd.pinned (.plain (OpenSpec.ofChange evalLawsSpec)) evalLawsCard

/-- THE TIED CARD OF 'tollgatelaw11.EvalParts'. -/
def evalPartsCard : Claim7 := { stood := { row := evalPartsRow, standIns := [], harness := (true, "749aa59c2cec8b09c41d1f9e7dd7f9754d68de81a538b26ada8a3a5151f66dc1"), looks := false }, kinds := [], alts := [], laidByText := true, laidKinds := [.data, .pinned], laidTests := true, laidLooks := .later }
def EvalPartsCardSaid : Prop := Claim7.holds Tryd.pinned (.plain (OpenSpec.ofChange evalPartsSpec)) evalPartsCard

/-- THE TIED CARD OF 'tollgatelaw11.EvalTypes'. -/
def evalTypesCard : Claim7 := { stood := { row := evalTypesRow, standIns := [], harness := (true, "749aa59c2cec8b09c41d1f9e7dd7f9754d68de81a538b26ada8a3a5151f66dc1"), looks := false }, kinds := [], alts := [], laidByText := true, laidKinds := [.data, .pinned], laidTests := true, laidLooks := .later }
def EvalTypesCardSaid : Prop := Claim7.holds Tryd.pinned (.plain (OpenSpec.ofChange evalTypesSpec)) evalTypesCard

/-- THE TIED CARD OF 'tollgatelaw11.EvalRead'. -/
def evalReadCard : Claim7 := { stood := { row := evalReadRow, standIns := [], harness := (true, "749aa59c2cec8b09c41d1f9e7dd7f9754d68de81a538b26ada8a3a5151f66dc1"), looks := false }, kinds := [], alts := [], laidByText := true, laidKinds := [.data, .pinned], laidTests := true, laidLooks := .later }
def EvalReadCardSaid : Prop := Claim7.holds Tryd.pinned (.plain (OpenSpec.ofChange evalReadSpec)) evalReadCard

/-- THE SECOND FORM's CARD OF 'tollgatelaw11.EvalLaws'. -/
def evalLawsUptoCard : Claim7 := { stood := { row := evalLawsUptoRow, standIns := [], harness := (true, "749aa59c2cec8b09c41d1f9e7dd7f9754d68de81a538b26ada8a3a5151f66dc1"), looks := false }, kinds := [], alts := [], laidByText := true, laidKinds := [.data, .pinned], laidTests := true, laidLooks := .later }
def EvalLawsUptoCardSaid : Prop := Claim7.holds Tryd.pinned (.plain (OpenSpec.upto evalLawsSpec)) evalLawsUptoCard

/-- THE SECOND FORM's CARD OF 'tollgatelaw11.EvalParts'. -/
def evalPartsUptoCard : Claim7 := { stood := { row := evalPartsUptoRow, standIns := [], harness := (true, "749aa59c2cec8b09c41d1f9e7dd7f9754d68de81a538b26ada8a3a5151f66dc1"), looks := false }, kinds := [], alts := [], laidByText := true, laidKinds := [.data, .pinned], laidTests := true, laidLooks := .later }
def EvalPartsUptoCardSaid : Prop := Claim7.holds Tryd.pinned (.plain (OpenSpec.upto evalPartsSpec)) evalPartsUptoCard

/-- THE SECOND FORM's CARD OF 'tollgatelaw11.EvalTypes'. -/
def evalTypesUptoCard : Claim7 := { stood := { row := evalTypesUptoRow, standIns := [], harness := (true, "749aa59c2cec8b09c41d1f9e7dd7f9754d68de81a538b26ada8a3a5151f66dc1"), looks := false }, kinds := [], alts := [], laidByText := true, laidKinds := [.data, .pinned], laidTests := true, laidLooks := .later }
def EvalTypesUptoCardSaid : Prop := Claim7.holds Tryd.pinned (.plain (OpenSpec.upto evalTypesSpec)) evalTypesUptoCard

/-- THE SECOND FORM's CARD OF 'tollgatelaw11.EvalRead'. -/
def evalReadUptoCard : Claim7 := { stood := { row := evalReadUptoRow, standIns := [], harness := (true, "749aa59c2cec8b09c41d1f9e7dd7f9754d68de81a538b26ada8a3a5151f66dc1"), looks := false }, kinds := [], alts := [], laidByText := true, laidKinds := [.data, .pinned], laidTests := true, laidLooks := .later }
def EvalReadUptoCardSaid : Prop := Claim7.holds Tryd.pinned (.plain (OpenSpec.upto evalReadSpec)) evalReadUptoCard
end Rows
end Go.Proofs.YtjfiijbmkcfooaaDoor
