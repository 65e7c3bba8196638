/-
  DERIVED. GIVEN WITH THE SEED: THE CARDS: each row of YtbolacnpljkpbaaDoorRows.lean that lists a variable, with what it lists TIED to the program's text (the seventh form; the later family's looks); each row that meets fmt, with fmt's text TOLD by the authors' own Lean function (tested against real Go, not proved from fmt's source: count such statements apart). THE CARD IS WHAT COUNTS. Prove the row's statement (the work); the ties are given (YtbolacnpljkpbaaDoorTie.lean); close each card by the builder's one call (the guide's Derived/Test/ToyasCard.lean, 'card_holds'). Laid BY PROGRAM, IN A SANDBOX (cutbox-door.mjs). By AI agents, Wed Nov 11 2026. No macro, syntax, notation, axiom, sorry.
-/
import Derived.Test.YtbolacnpljkpbaaDoorRows
import GoSem.ClaimSeven
namespace Go.Proofs.YtbolacnpljkpbaaDoor
namespace Rows

/-- THE TIED CARD OF 'tollgatelaw18.StubSets'. -/
def stubSetsCard : Claim7 := { stood := { row := stubSetsRow, standIns := [], harness := (true, "abcfa9635722cbefdeb48612e4f52595c6dae7ad2b6b600395062f9e069698d9"), looks := false }, kinds := [], alts := [], laidByText := true, laidKinds := [.data, .data, .data], laidTests := true, laidLooks := .later }
def StubSetsCardSaid : Prop := Claim7.holds Tryd.pinned (.plain (OpenSpec.ofChange stubSetsSpec)) stubSetsCard

/-- THE TIED CARD OF 'tollgatelaw18.StubHolds'. -/
def stubHoldsCard : Claim7 := { stood := { row := stubHoldsRow, standIns := [], harness := (true, "abcfa9635722cbefdeb48612e4f52595c6dae7ad2b6b600395062f9e069698d9"), looks := false }, kinds := [], alts := [], laidByText := true, laidKinds := [.data, .data, .data], laidTests := true, laidLooks := .later }
def StubHoldsCardSaid : Prop := Claim7.holds Tryd.pinned (.plain (OpenSpec.ofChange stubHoldsSpec)) stubHoldsCard

/-- THE TIED CARD OF 'tollgatelaw18.StubNames'. -/
def stubNamesCard : Claim7 := { stood := { row := stubNamesRow, standIns := [], harness := (true, "abcfa9635722cbefdeb48612e4f52595c6dae7ad2b6b600395062f9e069698d9"), looks := false }, kinds := [], alts := [], laidByText := true, laidKinds := [.data, .data, .data], laidTests := true, laidLooks := .later }
def StubNamesCardSaid : Prop := Claim7.holds Tryd.pinned (.plain (OpenSpec.ofChange stubNamesSpec)) stubNamesCard

/-- THE TIED CARD OF 'tollgatelaw18.StubDeadlocks'. -/
def stubDeadlocksCard : Claim7 := { stood := { row := stubDeadlocksRow, standIns := [], harness := (true, "abcfa9635722cbefdeb48612e4f52595c6dae7ad2b6b600395062f9e069698d9"), looks := false }, kinds := [], alts := [], laidByText := true, laidKinds := [.data, .data, .data], laidTests := true, laidLooks := .later }
def StubDeadlocksCardSaid : Prop := Claim7.holds Tryd.pinned (.plain (OpenSpec.ofChange stubDeadlocksSpec)) stubDeadlocksCard

/-- THE SECOND FORM's CARD OF 'tollgatelaw18.StubSets'. -/
def stubSetsUptoCard : Claim7 := { stood := { row := stubSetsUptoRow, standIns := [], harness := (true, "abcfa9635722cbefdeb48612e4f52595c6dae7ad2b6b600395062f9e069698d9"), looks := false }, kinds := [], alts := [], laidByText := true, laidKinds := [.data, .data, .data], laidTests := true, laidLooks := .later }
def StubSetsUptoCardSaid : Prop := Claim7.holds Tryd.pinned (.plain (OpenSpec.upto stubSetsSpec)) stubSetsUptoCard

/-- THE SECOND FORM's CARD OF 'tollgatelaw18.StubHolds'. -/
def stubHoldsUptoCard : Claim7 := { stood := { row := stubHoldsUptoRow, standIns := [], harness := (true, "abcfa9635722cbefdeb48612e4f52595c6dae7ad2b6b600395062f9e069698d9"), looks := false }, kinds := [], alts := [], laidByText := true, laidKinds := [.data, .data, .data], laidTests := true, laidLooks := .later }
def StubHoldsUptoCardSaid : Prop := Claim7.holds Tryd.pinned (.plain (OpenSpec.upto stubHoldsSpec)) stubHoldsUptoCard

/-- THE SECOND FORM's CARD OF 'tollgatelaw18.StubNames'. -/
def stubNamesUptoCard : Claim7 := { stood := { row := stubNamesUptoRow, standIns := [], harness := (true, "abcfa9635722cbefdeb48612e4f52595c6dae7ad2b6b600395062f9e069698d9"), looks := false }, kinds := [], alts := [], laidByText := true, laidKinds := [.data, .data, .data], laidTests := true, laidLooks := .later }
def StubNamesUptoCardSaid : Prop := Claim7.holds Tryd.pinned (.plain (OpenSpec.upto stubNamesSpec)) stubNamesUptoCard

/-- THE SECOND FORM's CARD OF 'tollgatelaw18.StubDeadlocks'. -/
def stubDeadlocksUptoCard : Claim7 := { stood := { row := stubDeadlocksUptoRow, standIns := [], harness := (true, "abcfa9635722cbefdeb48612e4f52595c6dae7ad2b6b600395062f9e069698d9"), looks := false }, kinds := [], alts := [], laidByText := true, laidKinds := [.data, .data, .data], laidTests := true, laidLooks := .later }
def StubDeadlocksUptoCardSaid : Prop := Claim7.holds Tryd.pinned (.plain (OpenSpec.upto stubDeadlocksSpec)) stubDeadlocksUptoCard
end Rows
end Go.Proofs.YtbolacnpljkpbaaDoor
