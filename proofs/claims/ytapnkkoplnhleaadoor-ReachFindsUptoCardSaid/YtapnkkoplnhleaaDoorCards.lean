/-
  DERIVED. GIVEN WITH THE SEED: THE CARDS: each row of YtapnkkoplnhleaaDoorRows.lean that lists a variable, with what it lists TIED to the program's text (the seventh form; the later family's looks); each row that meets fmt, with fmt's text TOLD by the authors' own Lean function (tested against real Go, not proved from fmt's source: count such statements apart). THE CARD IS WHAT COUNTS. Prove the row's statement (the work); the ties are given (YtapnkkoplnhleaaDoorTie.lean); close each card by the builder's one call (the guide's Derived/Test/ToyasCard.lean, 'card_holds'). Laid BY PROGRAM, IN A SANDBOX (cutbox-door.mjs). By AI agents, Wed Nov 11 2026. No macro, syntax, notation, axiom, sorry.
-/
import Derived.Test.YtapnkkoplnhleaaDoorRows
import GoSem.ClaimSeven
namespace Go.Proofs.YtapnkkoplnhleaaDoor
namespace Rows

/-- THE TIED CARD OF 'tollgatelaw17.ReachFinds'. -/
def reachFindsCard : Claim7 := { stood := { row := reachFindsRow, standIns := [], harness := (true, "dd4a824277b4bff3a0d3b196f323c4c96fa3568f93b62a8db51bdcfcccea7078"), looks := false }, kinds := [], alts := [], laidByText := true, laidKinds := [.data, .data, .data], laidTests := true, laidLooks := .later }
def ReachFindsCardSaid : Prop := Claim7.holds Tryd.pinned (.plain (OpenSpec.ofChange reachFindsSpec)) reachFindsCard

/-- THE TIED CARD OF 'tollgatelaw17.ReachHomes'. -/
def reachHomesCard : Claim7 := { stood := { row := reachHomesRow, standIns := [], harness := (true, "dd4a824277b4bff3a0d3b196f323c4c96fa3568f93b62a8db51bdcfcccea7078"), looks := false }, kinds := [], alts := [], laidByText := true, laidKinds := [.data, .data, .data], laidTests := true, laidLooks := .later }
def ReachHomesCardSaid : Prop := Claim7.holds Tryd.pinned (.plain (OpenSpec.ofChange reachHomesSpec)) reachHomesCard

/-- THE TIED CARD OF 'tollgatelaw17.ReachHome'. -/
def reachHomeCard : Claim7 := { stood := { row := reachHomeRow, standIns := [], harness := (true, "dd4a824277b4bff3a0d3b196f323c4c96fa3568f93b62a8db51bdcfcccea7078"), looks := false }, kinds := [], alts := [], laidByText := true, laidKinds := [.data, .data, .data], laidTests := true, laidLooks := .later }
def ReachHomeCardSaid : Prop := Claim7.holds Tryd.pinned (.plain (OpenSpec.ofChange reachHomeSpec)) reachHomeCard

/-- THE TIED CARD OF 'tollgatelaw17.ReachNames'. -/
def reachNamesCard : Claim7 := { stood := { row := reachNamesRow, standIns := [], harness := (true, "dd4a824277b4bff3a0d3b196f323c4c96fa3568f93b62a8db51bdcfcccea7078"), looks := false }, kinds := [], alts := [], laidByText := true, laidKinds := [.data, .data, .data], laidTests := true, laidLooks := .later }
def ReachNamesCardSaid : Prop := Claim7.holds Tryd.pinned (.plain (OpenSpec.ofChange reachNamesSpec)) reachNamesCard

/-- THE TIED CARD OF 'tollgatelaw17.ReachShort'. -/
def reachShortCard : Claim7 := { stood := { row := reachShortRow, standIns := [], harness := (true, "dd4a824277b4bff3a0d3b196f323c4c96fa3568f93b62a8db51bdcfcccea7078"), looks := false }, kinds := [], alts := [], laidByText := true, laidKinds := [.data, .data, .data], laidTests := true, laidLooks := .later }
def ReachShortCardSaid : Prop := Claim7.holds Tryd.pinned (.plain (OpenSpec.ofChange reachShortSpec)) reachShortCard

/-- THE TIED CARD OF 'tollgatelaw17.ReachNils'. -/
def reachNilsCard : Claim7 := { stood := { row := reachNilsRow, standIns := [], harness := (true, "dd4a824277b4bff3a0d3b196f323c4c96fa3568f93b62a8db51bdcfcccea7078"), looks := false }, kinds := [], alts := [], laidByText := true, laidKinds := [.data, .data, .data], laidTests := true, laidLooks := .later }
def ReachNilsCardSaid : Prop := Claim7.holds Tryd.pinned (.plain (OpenSpec.ofChange reachNilsSpec)) reachNilsCard

/-- THE TIED CARD OF 'tollgatelaw17.ReachBudget'. -/
def reachBudgetCard : Claim7 := { stood := { row := reachBudgetRow, standIns := [], harness := (true, "dd4a824277b4bff3a0d3b196f323c4c96fa3568f93b62a8db51bdcfcccea7078"), looks := false }, kinds := [], alts := [], laidByText := true, laidKinds := [.data, .data, .data], laidTests := true, laidLooks := .later }
def ReachBudgetCardSaid : Prop := Claim7.holds Tryd.pinned (.plain (OpenSpec.ofChange reachBudgetSpec)) reachBudgetCard

/-- THE TIED CARD OF 'tollgatelaw17.ReachAll'. -/
def reachAllCard : Claim7 := { stood := { row := reachAllRow, standIns := [], harness := (true, "dd4a824277b4bff3a0d3b196f323c4c96fa3568f93b62a8db51bdcfcccea7078"), looks := false }, kinds := [], alts := [], laidByText := true, laidKinds := [.data, .data, .data], laidTests := true, laidLooks := .later }
def ReachAllCardSaid : Prop := Claim7.holds Tryd.pinned (.plain (OpenSpec.ofChange reachAllSpec)) reachAllCard

/-- THE SECOND FORM's CARD OF 'tollgatelaw17.ReachFinds'. -/
def reachFindsUptoCard : Claim7 := { stood := { row := reachFindsUptoRow, standIns := [], harness := (true, "dd4a824277b4bff3a0d3b196f323c4c96fa3568f93b62a8db51bdcfcccea7078"), looks := false }, kinds := [], alts := [], laidByText := true, laidKinds := [.data, .data, .data], laidTests := true, laidLooks := .later }
def ReachFindsUptoCardSaid : Prop := Claim7.holds Tryd.pinned (.plain (OpenSpec.upto reachFindsSpec)) reachFindsUptoCard

/-- THE SECOND FORM's CARD OF 'tollgatelaw17.ReachHomes'. -/
def reachHomesUptoCard : Claim7 := { stood := { row := reachHomesUptoRow, standIns := [], harness := (true, "dd4a824277b4bff3a0d3b196f323c4c96fa3568f93b62a8db51bdcfcccea7078"), looks := false }, kinds := [], alts := [], laidByText := true, laidKinds := [.data, .data, .data], laidTests := true, laidLooks := .later }
def ReachHomesUptoCardSaid : Prop := Claim7.holds Tryd.pinned (.plain (OpenSpec.upto reachHomesSpec)) reachHomesUptoCard

/-- THE SECOND FORM's CARD OF 'tollgatelaw17.ReachHome'. -/
def reachHomeUptoCard : Claim7 := { stood := { row := reachHomeUptoRow, standIns := [], harness := (true, "dd4a824277b4bff3a0d3b196f323c4c96fa3568f93b62a8db51bdcfcccea7078"), looks := false }, kinds := [], alts := [], laidByText := true, laidKinds := [.data, .data, .data], laidTests := true, laidLooks := .later }
def ReachHomeUptoCardSaid : Prop := Claim7.holds Tryd.pinned (.plain (OpenSpec.upto reachHomeSpec)) reachHomeUptoCard

/-- THE SECOND FORM's CARD OF 'tollgatelaw17.ReachNames'. -/
def reachNamesUptoCard : Claim7 := { stood := { row := reachNamesUptoRow, standIns := [], harness := (true, "dd4a824277b4bff3a0d3b196f323c4c96fa3568f93b62a8db51bdcfcccea7078"), looks := false }, kinds := [], alts := [], laidByText := true, laidKinds := [.data, .data, .data], laidTests := true, laidLooks := .later }
def ReachNamesUptoCardSaid : Prop := Claim7.holds Tryd.pinned (.plain (OpenSpec.upto reachNamesSpec)) reachNamesUptoCard

/-- THE SECOND FORM's CARD OF 'tollgatelaw17.ReachShort'. -/
def reachShortUptoCard : Claim7 := { stood := { row := reachShortUptoRow, standIns := [], harness := (true, "dd4a824277b4bff3a0d3b196f323c4c96fa3568f93b62a8db51bdcfcccea7078"), looks := false }, kinds := [], alts := [], laidByText := true, laidKinds := [.data, .data, .data], laidTests := true, laidLooks := .later }
def ReachShortUptoCardSaid : Prop := Claim7.holds Tryd.pinned (.plain (OpenSpec.upto reachShortSpec)) reachShortUptoCard

/-- THE SECOND FORM's CARD OF 'tollgatelaw17.ReachNils'. -/
def reachNilsUptoCard : Claim7 := { stood := { row := reachNilsUptoRow, standIns := [], harness := (true, "dd4a824277b4bff3a0d3b196f323c4c96fa3568f93b62a8db51bdcfcccea7078"), looks := false }, kinds := [], alts := [], laidByText := true, laidKinds := [.data, .data, .data], laidTests := true, laidLooks := .later }
def ReachNilsUptoCardSaid : Prop := Claim7.holds Tryd.pinned (.plain (OpenSpec.upto reachNilsSpec)) reachNilsUptoCard

/-- THE SECOND FORM's CARD OF 'tollgatelaw17.ReachBudget'. -/
def reachBudgetUptoCard : Claim7 := { stood := { row := reachBudgetUptoRow, standIns := [], harness := (true, "dd4a824277b4bff3a0d3b196f323c4c96fa3568f93b62a8db51bdcfcccea7078"), looks := false }, kinds := [], alts := [], laidByText := true, laidKinds := [.data, .data, .data], laidTests := true, laidLooks := .later }
def ReachBudgetUptoCardSaid : Prop := Claim7.holds Tryd.pinned (.plain (OpenSpec.upto reachBudgetSpec)) reachBudgetUptoCard

/-- THE SECOND FORM's CARD OF 'tollgatelaw17.ReachAll'. -/
def reachAllUptoCard : Claim7 := { stood := { row := reachAllUptoRow, standIns := [], harness := (true, "dd4a824277b4bff3a0d3b196f323c4c96fa3568f93b62a8db51bdcfcccea7078"), looks := false }, kinds := [], alts := [], laidByText := true, laidKinds := [.data, .data, .data], laidTests := true, laidLooks := .later }
def ReachAllUptoCardSaid : Prop := Claim7.holds Tryd.pinned (.plain (OpenSpec.upto reachAllSpec)) reachAllUptoCard
end Rows
end Go.Proofs.YtapnkkoplnhleaaDoor
