/-
  No cell of these rows narrows 'for every input' (looked for: loops, veiled, ifaces, maps, wideKeys, modest, calm, conditions, laid).
  DERIVED. THE GIVEN ROWS OF THIS SEAT. 5 by the template 'for every input the law returns true; each argument reads behind the call as it read before'; 0 by the template 'total and deterministic' (their statements: YtggnheekkbideaaTotals.lean).
  GIVEN WITH THE SEED: the statements are not yours to turn. If you find one false, say at which input.
  Laid BY PROGRAM, IN A SANDBOX (cutbox-rows.mjs): the forced cells as the released guide's own fill.sh prints them over the translation 1db47c89b99aa840… (all of the seat's roots in one cut). By AI agents, Wed Nov 11 2026. No macro, syntax, notation, axiom, sorry.
-/
import Derived.Test.YtggnheekkbideaaChecked
import GoSem.Claim
import GoSem.ClaimJoined
import GoSem.ClaimMapViews
import Derived.JoinedTies
import Derived.KernelRfl
namespace Go.Proofs.Ytggnheekkbideaa
/- THE CELL 'sum', in the pinned program and in every row, IS THE sha256 OF THE DUMP (.gsa) THAT YtggnheekkbideaaProg.lean LOADS. Nothing in Lean hashes anything: it is a label: what it is worth is what the hold of that sum in a sandbox is worth. -/
noncomputable def Try.pinned : Pinned := { name := "ytggnheekkbideaa", sum := "1db47c89b99aa84063457b6cdb9e70997340c3db3e1446f6ea74105453bd683e", checked := Try.checked }
namespace Rows
def none {H : Type} : Left H := { results := [], args := [] }

/-- 'tollgatelaw24.JobOne': WHATEVER THE INPUT: true; the input reads as it did. -/
def jobOneSpec : ChangeSpec := { name := "jobOne", fn := fun _ => fun
  | [d1, d2] => { results := [.lit (.bool true)], args := [d1, d2] }
  | _ => none }
def jobOneRow : OpenClaim := { program := "ytggnheekkbideaa", sum := "1db47c89b99aa84063457b6cdb9e70997340c3db3e1446f6ea74105453bd683e", func := "tollgate/tollgatelaw24.JobOne", spec := "jobOne", unfollowed := true, recurses := true, apart := false }
def JobOneSaid : Prop := jobOneRow.holds Try.pinned (OpenSpec.ofChange jobOneSpec)

/-- ITS FALSE NEIGHBOUR: 'it returns false'. Refute it at one input. -/
def jobOneWrong : ChangeSpec := { name := "jobOne", fn := fun _ => fun
  | [d1, d2] => { results := [.lit (.bool false)], args := [d1, d2] }
  | _ => none }
def JobOneWrongFalsely : Prop := jobOneRow.holds Try.pinned (OpenSpec.ofChange jobOneWrong)

/-- 'tollgatelaw24.JobTells': WHATEVER THE INPUT: true; the input reads as it did. -/
def jobTellsSpec : ChangeSpec := { name := "jobTells", fn := fun _ => fun
  | [d1, d2, d3, d4] => { results := [.lit (.bool true)], args := [d1, d2, d3, d4] }
  | _ => none }
def jobTellsRow : OpenClaim := { program := "ytggnheekkbideaa", sum := "1db47c89b99aa84063457b6cdb9e70997340c3db3e1446f6ea74105453bd683e", func := "tollgate/tollgatelaw24.JobTells", spec := "jobTells", unfollowed := true, recurses := true, apart := false }
def JobTellsSaid : Prop := jobTellsRow.holds Try.pinned (OpenSpec.ofChange jobTellsSpec)

/-- ITS FALSE NEIGHBOUR: 'it returns false'. Refute it at one input. -/
def jobTellsWrong : ChangeSpec := { name := "jobTells", fn := fun _ => fun
  | [d1, d2, d3, d4] => { results := [.lit (.bool false)], args := [d1, d2, d3, d4] }
  | _ => none }
def JobTellsWrongFalsely : Prop := jobTellsRow.holds Try.pinned (OpenSpec.ofChange jobTellsWrong)

/-- 'tollgatelaw24.JobPlays': WHATEVER THE INPUT: true; the input reads as it did. -/
def jobPlaysSpec : ChangeSpec := { name := "jobPlays", fn := fun _ => fun
  | [d1, d2] => { results := [.lit (.bool true)], args := [d1, d2] }
  | _ => none }
def jobPlaysRow : OpenClaim := { program := "ytggnheekkbideaa", sum := "1db47c89b99aa84063457b6cdb9e70997340c3db3e1446f6ea74105453bd683e", func := "tollgate/tollgatelaw24.JobPlays", spec := "jobPlays", unfollowed := true, recurses := true, apart := false }
def JobPlaysSaid : Prop := jobPlaysRow.holds Try.pinned (OpenSpec.ofChange jobPlaysSpec)

/-- ITS FALSE NEIGHBOUR: 'it returns false'. Refute it at one input. -/
def jobPlaysWrong : ChangeSpec := { name := "jobPlays", fn := fun _ => fun
  | [d1, d2] => { results := [.lit (.bool false)], args := [d1, d2] }
  | _ => none }
def JobPlaysWrongFalsely : Prop := jobPlaysRow.holds Try.pinned (OpenSpec.ofChange jobPlaysWrong)

/-- 'tollgatelaw24.JobNames': WHATEVER THE INPUT: true; the input reads as it did. -/
def jobNamesSpec : ChangeSpec := { name := "jobNames", fn := fun _ => fun
  | [] => { results := [.lit (.bool true)], args := [] }
  | _ => none }
def jobNamesRow : OpenClaim := { program := "ytggnheekkbideaa", sum := "1db47c89b99aa84063457b6cdb9e70997340c3db3e1446f6ea74105453bd683e", func := "tollgate/tollgatelaw24.JobNames", spec := "jobNames", unfollowed := true, recurses := true, apart := false }
def JobNamesSaid : Prop := jobNamesRow.holds Try.pinned (OpenSpec.ofChange jobNamesSpec)

/-- ITS FALSE NEIGHBOUR: 'it returns false'. Refute it at one input. -/
def jobNamesWrong : ChangeSpec := { name := "jobNames", fn := fun _ => fun
  | [] => { results := [.lit (.bool false)], args := [] }
  | _ => none }
def JobNamesWrongFalsely : Prop := jobNamesRow.holds Try.pinned (OpenSpec.ofChange jobNamesWrong)

/-- 'tollgatelaw24.JobTries': WHATEVER THE INPUT: true; the input reads as it did. -/
def jobTriesSpec : ChangeSpec := { name := "jobTries", fn := fun _ => fun
  | [d1, d2] => { results := [.lit (.bool true)], args := [d1, d2] }
  | _ => none }
def jobTriesRow : OpenClaim := { program := "ytggnheekkbideaa", sum := "1db47c89b99aa84063457b6cdb9e70997340c3db3e1446f6ea74105453bd683e", func := "tollgate/tollgatelaw24.JobTries", spec := "jobTries", unfollowed := true, recurses := true, apart := false }
def JobTriesSaid : Prop := jobTriesRow.holds Try.pinned (OpenSpec.ofChange jobTriesSpec)

/-- ITS FALSE NEIGHBOUR: 'it returns false'. Refute it at one input. -/
def jobTriesWrong : ChangeSpec := { name := "jobTries", fn := fun _ => fun
  | [d1, d2] => { results := [.lit (.bool false)], args := [d1, d2] }
  | _ => none }
def JobTriesWrongFalsely : Prop := jobTriesRow.holds Try.pinned (OpenSpec.ofChange jobTriesWrong)

/- THE SECOND FORM. 'bulk': how many values and letters a reading holds, each counted each time it is reached (what is shared counts as often as it is met; a slice's spare places count too). A statement '..UptoSaid' is the law's where the arguments, and the package variables that the reading takes, are together of bulk at most 1048576: NARROWER than '..Said'. Prove '..Said' where nothing that the law and all that it calls make is longer than what came in: it says more and counts as full. Else prove '..UptoSaid'. A law counts once. -/
mutual
def uptoBulk {H : Type} : DataW H → Nat
  | .lit (.string bytes) => bytes.length + 1
  | .lit _ => 1
  | .nil => 1
  | .ptr d => uptoBulk d + 1
  | .slice elems spare => uptoBulkAll elems + uptoBulkAll spare + 1
  | .agg parts => uptoBulkAll parts + 1
  | .iface _ d => uptoBulk d + 1
  | .map entries => uptoBulkEntries entries + 1
  | .held _ => 1
def uptoBulkAll {H : Type} : List (DataW H) → Nat
  | [] => 0
  | d :: r => uptoBulk d + uptoBulkAll r
def uptoBulkEntries {H : Type} : List (Lit × DataW H) → Nat
  | [] => 0
  | x :: r => uptoBulkEntry x + uptoBulkEntries r
def uptoBulkEntry {H : Type} : Lit × DataW H → Nat
  | (.string bytes, d) => bytes.length + uptoBulk d + 1
  | (_, d) => uptoBulk d + 1
 end
def uptoSmall : (H : Type) → List (DataW H) → Bool := fun _ ds => decide (uptoBulkAll ds ≤ 1048576)
def OpenSpec.upto (s : _root_.Go.ChangeSpec) : _root_.Go.OpenSpec := { _root_.Go.OpenSpec.ofChange s with cond := some uptoSmall }

/-- 'tollgatelaw24.JobOne', WHERE WHAT IT READS IS OF BULK AT MOST 1048576: true; the input reads as it did. -/
def jobOneUptoRow : OpenClaim := { program := "ytggnheekkbideaa", sum := "1db47c89b99aa84063457b6cdb9e70997340c3db3e1446f6ea74105453bd683e", func := "tollgate/tollgatelaw24.JobOne", spec := "jobOne", unfollowed := true, recurses := true, apart := false, narrowed := true }
def JobOneUptoSaid : Prop := jobOneUptoRow.holds Try.pinned (OpenSpec.upto jobOneSpec)

/-- 'tollgatelaw24.JobTells', WHERE WHAT IT READS IS OF BULK AT MOST 1048576: true; the input reads as it did. -/
def jobTellsUptoRow : OpenClaim := { program := "ytggnheekkbideaa", sum := "1db47c89b99aa84063457b6cdb9e70997340c3db3e1446f6ea74105453bd683e", func := "tollgate/tollgatelaw24.JobTells", spec := "jobTells", unfollowed := true, recurses := true, apart := false, narrowed := true }
def JobTellsUptoSaid : Prop := jobTellsUptoRow.holds Try.pinned (OpenSpec.upto jobTellsSpec)

/-- 'tollgatelaw24.JobPlays', WHERE WHAT IT READS IS OF BULK AT MOST 1048576: true; the input reads as it did. -/
def jobPlaysUptoRow : OpenClaim := { program := "ytggnheekkbideaa", sum := "1db47c89b99aa84063457b6cdb9e70997340c3db3e1446f6ea74105453bd683e", func := "tollgate/tollgatelaw24.JobPlays", spec := "jobPlays", unfollowed := true, recurses := true, apart := false, narrowed := true }
def JobPlaysUptoSaid : Prop := jobPlaysUptoRow.holds Try.pinned (OpenSpec.upto jobPlaysSpec)

/-- 'tollgatelaw24.JobNames', WHERE WHAT IT READS IS OF BULK AT MOST 1048576: true; the input reads as it did. -/
def jobNamesUptoRow : OpenClaim := { program := "ytggnheekkbideaa", sum := "1db47c89b99aa84063457b6cdb9e70997340c3db3e1446f6ea74105453bd683e", func := "tollgate/tollgatelaw24.JobNames", spec := "jobNames", unfollowed := true, recurses := true, apart := false, narrowed := true }
def JobNamesUptoSaid : Prop := jobNamesUptoRow.holds Try.pinned (OpenSpec.upto jobNamesSpec)

/-- 'tollgatelaw24.JobTries', WHERE WHAT IT READS IS OF BULK AT MOST 1048576: true; the input reads as it did. -/
def jobTriesUptoRow : OpenClaim := { program := "ytggnheekkbideaa", sum := "1db47c89b99aa84063457b6cdb9e70997340c3db3e1446f6ea74105453bd683e", func := "tollgate/tollgatelaw24.JobTries", spec := "jobTries", unfollowed := true, recurses := true, apart := false, narrowed := true }
def JobTriesUptoSaid : Prop := jobTriesUptoRow.holds Try.pinned (OpenSpec.upto jobTriesSpec)

end Rows
end Go.Proofs.Ytggnheekkbideaa
