/-
  DERIVED. GIVEN WITH THE SEED: THE CARDS: each row of YtjcaaahbfkjipaaGreatDoorRows.lean that lists a variable, with what it lists TIED to the program's text (the seventh form; the later family's looks); each row that meets fmt, with fmt's text TOLD by the authors' own Lean function (tested against real Go, not proved from fmt's source: count such statements apart). THE CARD IS WHAT COUNTS. Prove the row's statement (the work); the ties are given (YtjcaaahbfkjipaaGreatDoorTie.lean); close each card by the builder's one call (the guide's Derived/Test/ToyasCard.lean, 'card_holds'). Laid BY PROGRAM, IN A SANDBOX (cutbox-door.mjs). By AI agents, Wed Nov 11 2026. No macro, syntax, notation, axiom, sorry.
-/
import Derived.Test.YtjcaaahbfkjipaaGreatDoorRows
import GoSem.ClaimSeven
namespace Go.Proofs.YtjcaaahbfkjipaaGreatDoor
namespace Rows

/-- THE TIED CARD OF 'tollgatelaw14.RuleChecks'. -/
def ruleChecksCard : Claim7 := { stood := { row := ruleChecksRow, standIns := [], harness := (true, "ebdfe853f3c0059c7ef483ae11190542f5e860436639e162b173dcbce1260707"), looks := true }, kinds := [], alts := [], laidByText := true, laidKinds := [.data, .data, .data, .data, .sentinel, .sentinel, .pinned], laidTests := true, laidLooks := .later }
def RuleChecksCardSaid : Prop := Claim7.holds Tryz.pinned (.plain (OpenSpec.ofChange ruleChecksSpec)) ruleChecksCard

/-- THE TIED CARD OF 'tollgatelaw14.RuleNames'. -/
def ruleNamesCard : Claim7 := { stood := { row := ruleNamesRow, standIns := [], harness := (true, "ebdfe853f3c0059c7ef483ae11190542f5e860436639e162b173dcbce1260707"), looks := true }, kinds := [], alts := [], laidByText := true, laidKinds := [.data, .data, .data, .data, .sentinel, .sentinel, .pinned], laidTests := true, laidLooks := .later }
def RuleNamesCardSaid : Prop := Claim7.holds Tryz.pinned (.plain (OpenSpec.ofChange ruleNamesSpec)) ruleNamesCard

/-- THE TIED CARD OF 'tollgatelaw14.RuleOrder'. -/
def ruleOrderCard : Claim7 := { stood := { row := ruleOrderRow, standIns := [], harness := (true, "ebdfe853f3c0059c7ef483ae11190542f5e860436639e162b173dcbce1260707"), looks := true }, kinds := [], alts := [], laidByText := true, laidKinds := [.data, .data, .data, .data, .sentinel, .sentinel, .pinned], laidTests := true, laidLooks := .later }
def RuleOrderCardSaid : Prop := Claim7.holds Tryz.pinned (.plain (OpenSpec.ofChange ruleOrderSpec)) ruleOrderCard

/-- THE TIED CARD OF 'tollgatelaw14.RuleNeeds'. -/
def ruleNeedsCard : Claim7 := { stood := { row := ruleNeedsRow, standIns := [], harness := (true, "ebdfe853f3c0059c7ef483ae11190542f5e860436639e162b173dcbce1260707"), looks := true }, kinds := [], alts := [], laidByText := true, laidKinds := [.data, .data, .data, .data, .sentinel, .sentinel, .pinned], laidTests := true, laidLooks := .later }
def RuleNeedsCardSaid : Prop := Claim7.holds Tryz.pinned (.plain (OpenSpec.ofChange ruleNeedsSpec)) ruleNeedsCard

/-- THE TIED CARD OF 'tollgatelaw14.RulePlaces'. -/
def rulePlacesCard : Claim7 := { stood := { row := rulePlacesRow, standIns := [], harness := (true, "ebdfe853f3c0059c7ef483ae11190542f5e860436639e162b173dcbce1260707"), looks := true }, kinds := [], alts := [], laidByText := true, laidKinds := [.data, .data, .data, .data, .sentinel, .sentinel, .pinned], laidTests := true, laidLooks := .later }
def RulePlacesCardSaid : Prop := Claim7.holds Tryz.pinned (.plain (OpenSpec.ofChange rulePlacesSpec)) rulePlacesCard

/-- THE SECOND FORM's CARD OF 'tollgatelaw14.RuleChecks'. -/
def ruleChecksUptoCard : Claim7 := { stood := { row := ruleChecksUptoRow, standIns := [], harness := (true, "ebdfe853f3c0059c7ef483ae11190542f5e860436639e162b173dcbce1260707"), looks := true }, kinds := [], alts := [], laidByText := true, laidKinds := [.data, .data, .data, .data, .sentinel, .sentinel, .pinned], laidTests := true, laidLooks := .later }
def RuleChecksUptoCardSaid : Prop := Claim7.holds Tryz.pinned (.plain (OpenSpec.upto ruleChecksSpec)) ruleChecksUptoCard

/-- THE SECOND FORM's CARD OF 'tollgatelaw14.RuleNames'. -/
def ruleNamesUptoCard : Claim7 := { stood := { row := ruleNamesUptoRow, standIns := [], harness := (true, "ebdfe853f3c0059c7ef483ae11190542f5e860436639e162b173dcbce1260707"), looks := true }, kinds := [], alts := [], laidByText := true, laidKinds := [.data, .data, .data, .data, .sentinel, .sentinel, .pinned], laidTests := true, laidLooks := .later }
def RuleNamesUptoCardSaid : Prop := Claim7.holds Tryz.pinned (.plain (OpenSpec.upto ruleNamesSpec)) ruleNamesUptoCard

/-- THE SECOND FORM's CARD OF 'tollgatelaw14.RuleOrder'. -/
def ruleOrderUptoCard : Claim7 := { stood := { row := ruleOrderUptoRow, standIns := [], harness := (true, "ebdfe853f3c0059c7ef483ae11190542f5e860436639e162b173dcbce1260707"), looks := true }, kinds := [], alts := [], laidByText := true, laidKinds := [.data, .data, .data, .data, .sentinel, .sentinel, .pinned], laidTests := true, laidLooks := .later }
def RuleOrderUptoCardSaid : Prop := Claim7.holds Tryz.pinned (.plain (OpenSpec.upto ruleOrderSpec)) ruleOrderUptoCard

/-- THE SECOND FORM's CARD OF 'tollgatelaw14.RuleNeeds'. -/
def ruleNeedsUptoCard : Claim7 := { stood := { row := ruleNeedsUptoRow, standIns := [], harness := (true, "ebdfe853f3c0059c7ef483ae11190542f5e860436639e162b173dcbce1260707"), looks := true }, kinds := [], alts := [], laidByText := true, laidKinds := [.data, .data, .data, .data, .sentinel, .sentinel, .pinned], laidTests := true, laidLooks := .later }
def RuleNeedsUptoCardSaid : Prop := Claim7.holds Tryz.pinned (.plain (OpenSpec.upto ruleNeedsSpec)) ruleNeedsUptoCard

/-- THE SECOND FORM's CARD OF 'tollgatelaw14.RulePlaces'. -/
def rulePlacesUptoCard : Claim7 := { stood := { row := rulePlacesUptoRow, standIns := [], harness := (true, "ebdfe853f3c0059c7ef483ae11190542f5e860436639e162b173dcbce1260707"), looks := true }, kinds := [], alts := [], laidByText := true, laidKinds := [.data, .data, .data, .data, .sentinel, .sentinel, .pinned], laidTests := true, laidLooks := .later }
def RulePlacesUptoCardSaid : Prop := Claim7.holds Tryz.pinned (.plain (OpenSpec.upto rulePlacesSpec)) rulePlacesUptoCard
end Rows
end Go.Proofs.YtjcaaahbfkjipaaGreatDoor
