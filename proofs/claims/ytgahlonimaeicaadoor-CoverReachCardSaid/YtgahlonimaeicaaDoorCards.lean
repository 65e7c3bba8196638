/-
  DERIVED. GIVEN WITH THE SEED: THE CARDS: each row of YtgahlonimaeicaaDoorRows.lean that lists a variable, with what it lists TIED to the program's text (the seventh form; the later family's looks); each row that meets fmt, with fmt's text TOLD by the authors' own Lean function (tested against real Go, not proved from fmt's source: count such statements apart). THE CARD IS WHAT COUNTS. Prove the row's statement (the work); the ties are given (YtgahlonimaeicaaDoorTie.lean); close each card by the builder's one call (the guide's Derived/Test/ToyasCard.lean, 'card_holds'). Laid BY PROGRAM, IN A SANDBOX (cutbox-door.mjs). By AI agents, Wed Nov 11 2026. No macro, syntax, notation, axiom, sorry.
-/
import Derived.Test.YtgahlonimaeicaaDoorRows
import GoSem.ClaimSeven
namespace Go.Proofs.YtgahlonimaeicaaDoor
namespace Rows

/-- THE TIED CARD OF 'tollgatelaw19.CoverTree'. -/
def coverTreeCard : Claim7 := { stood := { row := coverTreeRow, standIns := [], harness := (true, "253bd564294cc1c5c231dd2539312fbf347fd38102d36a6fb635a7ea962971aa"), looks := false }, kinds := [], alts := [], laidByText := true, laidKinds := [.data, .data, .data], laidTests := true, laidLooks := .later }
def CoverTreeCardSaid : Prop := Claim7.holds Tryd.pinned (.plain (OpenSpec.ofChange coverTreeSpec)) coverTreeCard

/-- THE TIED CARD OF 'tollgatelaw19.CoverNames'. -/
def coverNamesCard : Claim7 := { stood := { row := coverNamesRow, standIns := [], harness := (true, "253bd564294cc1c5c231dd2539312fbf347fd38102d36a6fb635a7ea962971aa"), looks := false }, kinds := [], alts := [], laidByText := true, laidKinds := [.data, .data, .data], laidTests := true, laidLooks := .later }
def CoverNamesCardSaid : Prop := Claim7.holds Tryd.pinned (.plain (OpenSpec.ofChange coverNamesSpec)) coverNamesCard

/-- THE TIED CARD OF 'tollgatelaw19.CoverGrows'. -/
def coverGrowsCard : Claim7 := { stood := { row := coverGrowsRow, standIns := [], harness := (true, "253bd564294cc1c5c231dd2539312fbf347fd38102d36a6fb635a7ea962971aa"), looks := false }, kinds := [], alts := [], laidByText := true, laidKinds := [.data, .data, .data], laidTests := true, laidLooks := .later }
def CoverGrowsCardSaid : Prop := Claim7.holds Tryd.pinned (.plain (OpenSpec.ofChange coverGrowsSpec)) coverGrowsCard

/-- THE TIED CARD OF 'tollgatelaw19.CoverBudget'. -/
def coverBudgetCard : Claim7 := { stood := { row := coverBudgetRow, standIns := [], harness := (true, "253bd564294cc1c5c231dd2539312fbf347fd38102d36a6fb635a7ea962971aa"), looks := false }, kinds := [], alts := [], laidByText := true, laidKinds := [.data, .data, .data], laidTests := true, laidLooks := .later }
def CoverBudgetCardSaid : Prop := Claim7.holds Tryd.pinned (.plain (OpenSpec.ofChange coverBudgetSpec)) coverBudgetCard

/-- THE TIED CARD OF 'tollgatelaw19.CoverAll'. -/
def coverAllCard : Claim7 := { stood := { row := coverAllRow, standIns := [], harness := (true, "253bd564294cc1c5c231dd2539312fbf347fd38102d36a6fb635a7ea962971aa"), looks := false }, kinds := [], alts := [], laidByText := true, laidKinds := [.data, .data, .data], laidTests := true, laidLooks := .later }
def CoverAllCardSaid : Prop := Claim7.holds Tryd.pinned (.plain (OpenSpec.ofChange coverAllSpec)) coverAllCard

/-- THE TIED CARD OF 'tollgatelaw19.CoverPumps'. -/
def coverPumpsCard : Claim7 := { stood := { row := coverPumpsRow, standIns := [], harness := (true, "253bd564294cc1c5c231dd2539312fbf347fd38102d36a6fb635a7ea962971aa"), looks := false }, kinds := [], alts := [], laidByText := true, laidKinds := [.data, .data, .data], laidTests := true, laidLooks := .later }
def CoverPumpsCardSaid : Prop := Claim7.holds Tryd.pinned (.plain (OpenSpec.ofChange coverPumpsSpec)) coverPumpsCard

/-- THE TIED CARD OF 'tollgatelaw19.CoverReach'. -/
def coverReachCard : Claim7 := { stood := { row := coverReachRow, standIns := [], harness := (true, "253bd564294cc1c5c231dd2539312fbf347fd38102d36a6fb635a7ea962971aa"), looks := false }, kinds := [], alts := [], laidByText := true, laidKinds := [.data, .data, .data], laidTests := true, laidLooks := .later }
def CoverReachCardSaid : Prop := Claim7.holds Tryd.pinned (.plain (OpenSpec.ofChange coverReachSpec)) coverReachCard

/-- THE SECOND FORM's CARD OF 'tollgatelaw19.CoverTree'. -/
def coverTreeUptoCard : Claim7 := { stood := { row := coverTreeUptoRow, standIns := [], harness := (true, "253bd564294cc1c5c231dd2539312fbf347fd38102d36a6fb635a7ea962971aa"), looks := false }, kinds := [], alts := [], laidByText := true, laidKinds := [.data, .data, .data], laidTests := true, laidLooks := .later }
def CoverTreeUptoCardSaid : Prop := Claim7.holds Tryd.pinned (.plain (OpenSpec.upto coverTreeSpec)) coverTreeUptoCard

/-- THE SECOND FORM's CARD OF 'tollgatelaw19.CoverNames'. -/
def coverNamesUptoCard : Claim7 := { stood := { row := coverNamesUptoRow, standIns := [], harness := (true, "253bd564294cc1c5c231dd2539312fbf347fd38102d36a6fb635a7ea962971aa"), looks := false }, kinds := [], alts := [], laidByText := true, laidKinds := [.data, .data, .data], laidTests := true, laidLooks := .later }
def CoverNamesUptoCardSaid : Prop := Claim7.holds Tryd.pinned (.plain (OpenSpec.upto coverNamesSpec)) coverNamesUptoCard

/-- THE SECOND FORM's CARD OF 'tollgatelaw19.CoverGrows'. -/
def coverGrowsUptoCard : Claim7 := { stood := { row := coverGrowsUptoRow, standIns := [], harness := (true, "253bd564294cc1c5c231dd2539312fbf347fd38102d36a6fb635a7ea962971aa"), looks := false }, kinds := [], alts := [], laidByText := true, laidKinds := [.data, .data, .data], laidTests := true, laidLooks := .later }
def CoverGrowsUptoCardSaid : Prop := Claim7.holds Tryd.pinned (.plain (OpenSpec.upto coverGrowsSpec)) coverGrowsUptoCard

/-- THE SECOND FORM's CARD OF 'tollgatelaw19.CoverBudget'. -/
def coverBudgetUptoCard : Claim7 := { stood := { row := coverBudgetUptoRow, standIns := [], harness := (true, "253bd564294cc1c5c231dd2539312fbf347fd38102d36a6fb635a7ea962971aa"), looks := false }, kinds := [], alts := [], laidByText := true, laidKinds := [.data, .data, .data], laidTests := true, laidLooks := .later }
def CoverBudgetUptoCardSaid : Prop := Claim7.holds Tryd.pinned (.plain (OpenSpec.upto coverBudgetSpec)) coverBudgetUptoCard

/-- THE SECOND FORM's CARD OF 'tollgatelaw19.CoverAll'. -/
def coverAllUptoCard : Claim7 := { stood := { row := coverAllUptoRow, standIns := [], harness := (true, "253bd564294cc1c5c231dd2539312fbf347fd38102d36a6fb635a7ea962971aa"), looks := false }, kinds := [], alts := [], laidByText := true, laidKinds := [.data, .data, .data], laidTests := true, laidLooks := .later }
def CoverAllUptoCardSaid : Prop := Claim7.holds Tryd.pinned (.plain (OpenSpec.upto coverAllSpec)) coverAllUptoCard

/-- THE SECOND FORM's CARD OF 'tollgatelaw19.CoverPumps'. -/
def coverPumpsUptoCard : Claim7 := { stood := { row := coverPumpsUptoRow, standIns := [], harness := (true, "253bd564294cc1c5c231dd2539312fbf347fd38102d36a6fb635a7ea962971aa"), looks := false }, kinds := [], alts := [], laidByText := true, laidKinds := [.data, .data, .data], laidTests := true, laidLooks := .later }
def CoverPumpsUptoCardSaid : Prop := Claim7.holds Tryd.pinned (.plain (OpenSpec.upto coverPumpsSpec)) coverPumpsUptoCard

/-- THE SECOND FORM's CARD OF 'tollgatelaw19.CoverReach'. -/
def coverReachUptoCard : Claim7 := { stood := { row := coverReachUptoRow, standIns := [], harness := (true, "253bd564294cc1c5c231dd2539312fbf347fd38102d36a6fb635a7ea962971aa"), looks := false }, kinds := [], alts := [], laidByText := true, laidKinds := [.data, .data, .data], laidTests := true, laidLooks := .later }
def CoverReachUptoCardSaid : Prop := Claim7.holds Tryd.pinned (.plain (OpenSpec.upto coverReachSpec)) coverReachUptoCard
end Rows
end Go.Proofs.YtgahlonimaeicaaDoor
