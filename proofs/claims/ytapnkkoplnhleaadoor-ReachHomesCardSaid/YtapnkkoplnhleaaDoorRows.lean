/-
  NARROWER THAN 'FOR EVERY INPUT', by the rows' own cells (each row's printed sentence says how): ReachFinds: laid · ReachHomes: laid · ReachHome: laid · ReachNames: laid · ReachShort: laid · ReachNils: laid · ReachBudget: laid · ReachAll: laid.
  DERIVED. THE GIVEN ROWS OF THIS SEAT. 8 by the template 'for every input the law returns true; each argument reads behind the call as it read before'; 0 by the template 'total and deterministic' (their statements: YtapnkkoplnhleaaDoorTotals.lean).
  GIVEN WITH THE SEED: the statements are not yours to turn. If you find one false, say at which input.
  Laid BY PROGRAM, IN A SANDBOX (cutbox-rows.mjs): the forced cells as the released guide's own fill.sh prints them over the translation 124957484a247835… (all of the seat's roots in one cut). By AI agents, Wed Nov 11 2026. No macro, syntax, notation, axiom, sorry.
-/
import Derived.Test.YtapnkkoplnhleaaDoorChecked
import GoSem.Claim
import GoSem.ClaimJoined
import GoSem.ClaimMapViews
import Derived.JoinedTies
import Derived.KernelRfl
namespace Go.Proofs.YtapnkkoplnhleaaDoor
/- THE CELL 'sum', in the pinned program and in every row, IS THE sha256 OF THE DUMP (.gsa) THAT YtapnkkoplnhleaaDoorProg.lean LOADS. Nothing in Lean hashes anything: it is a label: what it is worth is what the hold of that sum in a sandbox is worth. -/
noncomputable def Tryd.pinned : Pinned := { name := "ytapnkkoplnhleaadoor", sum := "124957484a247835c43f084a3ea18fd52d83fdee63a54c8c1b8320bec407040c", checked := Tryd.checked }
namespace Rows
def none {H : Type} : Left H := { results := [], args := [] }

/- WHAT THE LISTED PACKAGE-LEVEL VARIABLES READ AS WHEN THE CALL BEGINS. Each datum BY PROGRAM (the guide's laid-datum.mjs) off the statement by which the dump's own 'gosem.cut.vars' lays the variable. In a bare row this is a premise. The card (YtapnkkoplnhleaaDoorCards.lean) ties it to the program's text. -/
def laid_math_bits_deBruijn32tab {H : Type} : DataW H := .agg [.lit (.int .u8 0), .lit (.int .u8 1), .lit (.int .u8 28), .lit (.int .u8 2), .lit (.int .u8 29), .lit (.int .u8 14), .lit (.int .u8 24), .lit (.int .u8 3), .lit (.int .u8 30), .lit (.int .u8 22), .lit (.int .u8 20), .lit (.int .u8 15), .lit (.int .u8 25), .lit (.int .u8 17), .lit (.int .u8 4), .lit (.int .u8 8), .lit (.int .u8 31), .lit (.int .u8 27), .lit (.int .u8 13), .lit (.int .u8 23), .lit (.int .u8 21), .lit (.int .u8 19), .lit (.int .u8 16), .lit (.int .u8 7), .lit (.int .u8 26), .lit (.int .u8 12), .lit (.int .u8 18), .lit (.int .u8 6), .lit (.int .u8 11), .lit (.int .u8 5), .lit (.int .u8 10), .lit (.int .u8 9)]
def laid_math_bits_deBruijn64tab {H : Type} : DataW H := .agg [.lit (.int .u8 0), .lit (.int .u8 1), .lit (.int .u8 56), .lit (.int .u8 2), .lit (.int .u8 57), .lit (.int .u8 49), .lit (.int .u8 28), .lit (.int .u8 3), .lit (.int .u8 61), .lit (.int .u8 58), .lit (.int .u8 42), .lit (.int .u8 50), .lit (.int .u8 38), .lit (.int .u8 29), .lit (.int .u8 17), .lit (.int .u8 4), .lit (.int .u8 62), .lit (.int .u8 47), .lit (.int .u8 59), .lit (.int .u8 36), .lit (.int .u8 45), .lit (.int .u8 43), .lit (.int .u8 51), .lit (.int .u8 22), .lit (.int .u8 53), .lit (.int .u8 39), .lit (.int .u8 33), .lit (.int .u8 30), .lit (.int .u8 24), .lit (.int .u8 18), .lit (.int .u8 12), .lit (.int .u8 5), .lit (.int .u8 63), .lit (.int .u8 55), .lit (.int .u8 48), .lit (.int .u8 27), .lit (.int .u8 60), .lit (.int .u8 41), .lit (.int .u8 37), .lit (.int .u8 16), .lit (.int .u8 46), .lit (.int .u8 35), .lit (.int .u8 44), .lit (.int .u8 21), .lit (.int .u8 52), .lit (.int .u8 32), .lit (.int .u8 23), .lit (.int .u8 11), .lit (.int .u8 54), .lit (.int .u8 26), .lit (.int .u8 40), .lit (.int .u8 15), .lit (.int .u8 34), .lit (.int .u8 20), .lit (.int .u8 31), .lit (.int .u8 10), .lit (.int .u8 25), .lit (.int .u8 14), .lit (.int .u8 19), .lit (.int .u8 9), .lit (.int .u8 13), .lit (.int .u8 8), .lit (.int .u8 7), .lit (.int .u8 6)]
def laid_internal_strconv_uint64pow10 {H : Type} : DataW H := .agg [.lit (.int .u64 1), .lit (.int .u64 10), .lit (.int .u64 100), .lit (.int .u64 1000), .lit (.int .u64 10000), .lit (.int .u64 100000), .lit (.int .u64 1000000), .lit (.int .u64 10000000), .lit (.int .u64 100000000), .lit (.int .u64 1000000000), .lit (.int .u64 10000000000), .lit (.int .u64 100000000000), .lit (.int .u64 1000000000000), .lit (.int .u64 10000000000000), .lit (.int .u64 100000000000000), .lit (.int .u64 1000000000000000), .lit (.int .u64 10000000000000000), .lit (.int .u64 100000000000000000), .lit (.int .u64 1000000000000000000), .lit (.int .u64 10000000000000000000)]

/-- 'tollgatelaw17.ReachFinds': WHATEVER THE INPUT: true; the input reads as it did. -/
def reachFindsSpec : ChangeSpec := { name := "reachFinds", fn := fun _ => fun
  | [d1, d2, d3] => { results := [.lit (.bool true)], args := [d1, d2, d3] }
  | _ => none }
def reachFindsRow : OpenClaim := { program := "ytapnkkoplnhleaadoor", sum := "124957484a247835c43f084a3ea18fd52d83fdee63a54c8c1b8320bec407040c", func := "tollgate/tollgatelaw17.ReachFinds", spec := "reachFinds", unfollowed := true, recurses := true, named := ["internal/strconv.uint64pow10", "math/bits.deBruijn32tab", "math/bits.deBruijn64tab"], apart := false, laid := [("math/bits.deBruijn32tab", laid_math_bits_deBruijn32tab), ("math/bits.deBruijn64tab", laid_math_bits_deBruijn64tab), ("internal/strconv.uint64pow10", laid_internal_strconv_uint64pow10)] }
def ReachFindsSaid : Prop := reachFindsRow.holds Tryd.pinned (OpenSpec.ofChange reachFindsSpec)

/-- ITS FALSE NEIGHBOUR: 'it returns false'. Refute it at one input. -/
def reachFindsWrong : ChangeSpec := { name := "reachFinds", fn := fun _ => fun
  | [d1, d2, d3] => { results := [.lit (.bool false)], args := [d1, d2, d3] }
  | _ => none }
def ReachFindsWrongFalsely : Prop := reachFindsRow.holds Tryd.pinned (OpenSpec.ofChange reachFindsWrong)

/-- 'tollgatelaw17.ReachHomes': WHATEVER THE INPUT: true; the input reads as it did. -/
def reachHomesSpec : ChangeSpec := { name := "reachHomes", fn := fun _ => fun
  | [d1, d2] => { results := [.lit (.bool true)], args := [d1, d2] }
  | _ => none }
def reachHomesRow : OpenClaim := { program := "ytapnkkoplnhleaadoor", sum := "124957484a247835c43f084a3ea18fd52d83fdee63a54c8c1b8320bec407040c", func := "tollgate/tollgatelaw17.ReachHomes", spec := "reachHomes", unfollowed := true, recurses := true, named := ["internal/strconv.uint64pow10", "math/bits.deBruijn32tab", "math/bits.deBruijn64tab"], apart := false, laid := [("math/bits.deBruijn32tab", laid_math_bits_deBruijn32tab), ("math/bits.deBruijn64tab", laid_math_bits_deBruijn64tab), ("internal/strconv.uint64pow10", laid_internal_strconv_uint64pow10)] }
def ReachHomesSaid : Prop := reachHomesRow.holds Tryd.pinned (OpenSpec.ofChange reachHomesSpec)

/-- ITS FALSE NEIGHBOUR: 'it returns false'. Refute it at one input. -/
def reachHomesWrong : ChangeSpec := { name := "reachHomes", fn := fun _ => fun
  | [d1, d2] => { results := [.lit (.bool false)], args := [d1, d2] }
  | _ => none }
def ReachHomesWrongFalsely : Prop := reachHomesRow.holds Tryd.pinned (OpenSpec.ofChange reachHomesWrong)

/-- 'tollgatelaw17.ReachHome': WHATEVER THE INPUT: true; the input reads as it did. -/
def reachHomeSpec : ChangeSpec := { name := "reachHome", fn := fun _ => fun
  | [d1, d2] => { results := [.lit (.bool true)], args := [d1, d2] }
  | _ => none }
def reachHomeRow : OpenClaim := { program := "ytapnkkoplnhleaadoor", sum := "124957484a247835c43f084a3ea18fd52d83fdee63a54c8c1b8320bec407040c", func := "tollgate/tollgatelaw17.ReachHome", spec := "reachHome", unfollowed := true, recurses := true, named := ["internal/strconv.uint64pow10", "math/bits.deBruijn32tab", "math/bits.deBruijn64tab"], apart := false, laid := [("math/bits.deBruijn32tab", laid_math_bits_deBruijn32tab), ("math/bits.deBruijn64tab", laid_math_bits_deBruijn64tab), ("internal/strconv.uint64pow10", laid_internal_strconv_uint64pow10)] }
def ReachHomeSaid : Prop := reachHomeRow.holds Tryd.pinned (OpenSpec.ofChange reachHomeSpec)

/-- ITS FALSE NEIGHBOUR: 'it returns false'. Refute it at one input. -/
def reachHomeWrong : ChangeSpec := { name := "reachHome", fn := fun _ => fun
  | [d1, d2] => { results := [.lit (.bool false)], args := [d1, d2] }
  | _ => none }
def ReachHomeWrongFalsely : Prop := reachHomeRow.holds Tryd.pinned (OpenSpec.ofChange reachHomeWrong)

/-- 'tollgatelaw17.ReachNames': WHATEVER THE INPUT: true; the input reads as it did. -/
def reachNamesSpec : ChangeSpec := { name := "reachNames", fn := fun _ => fun
  | [] => { results := [.lit (.bool true)], args := [] }
  | _ => none }
def reachNamesRow : OpenClaim := { program := "ytapnkkoplnhleaadoor", sum := "124957484a247835c43f084a3ea18fd52d83fdee63a54c8c1b8320bec407040c", func := "tollgate/tollgatelaw17.ReachNames", spec := "reachNames", unfollowed := true, recurses := true, named := ["internal/strconv.uint64pow10", "math/bits.deBruijn32tab", "math/bits.deBruijn64tab"], apart := false, laid := [("math/bits.deBruijn32tab", laid_math_bits_deBruijn32tab), ("math/bits.deBruijn64tab", laid_math_bits_deBruijn64tab), ("internal/strconv.uint64pow10", laid_internal_strconv_uint64pow10)] }
def ReachNamesSaid : Prop := reachNamesRow.holds Tryd.pinned (OpenSpec.ofChange reachNamesSpec)

/-- ITS FALSE NEIGHBOUR: 'it returns false'. Refute it at one input. -/
def reachNamesWrong : ChangeSpec := { name := "reachNames", fn := fun _ => fun
  | [] => { results := [.lit (.bool false)], args := [] }
  | _ => none }
def ReachNamesWrongFalsely : Prop := reachNamesRow.holds Tryd.pinned (OpenSpec.ofChange reachNamesWrong)

/-- 'tollgatelaw17.ReachShort': WHATEVER THE INPUT: true; the input reads as it did. -/
def reachShortSpec : ChangeSpec := { name := "reachShort", fn := fun _ => fun
  | [d1, d2, d3] => { results := [.lit (.bool true)], args := [d1, d2, d3] }
  | _ => none }
def reachShortRow : OpenClaim := { program := "ytapnkkoplnhleaadoor", sum := "124957484a247835c43f084a3ea18fd52d83fdee63a54c8c1b8320bec407040c", func := "tollgate/tollgatelaw17.ReachShort", spec := "reachShort", unfollowed := true, recurses := true, named := ["internal/strconv.uint64pow10", "math/bits.deBruijn32tab", "math/bits.deBruijn64tab"], apart := false, laid := [("math/bits.deBruijn32tab", laid_math_bits_deBruijn32tab), ("math/bits.deBruijn64tab", laid_math_bits_deBruijn64tab), ("internal/strconv.uint64pow10", laid_internal_strconv_uint64pow10)] }
def ReachShortSaid : Prop := reachShortRow.holds Tryd.pinned (OpenSpec.ofChange reachShortSpec)

/-- ITS FALSE NEIGHBOUR: 'it returns false'. Refute it at one input. -/
def reachShortWrong : ChangeSpec := { name := "reachShort", fn := fun _ => fun
  | [d1, d2, d3] => { results := [.lit (.bool false)], args := [d1, d2, d3] }
  | _ => none }
def ReachShortWrongFalsely : Prop := reachShortRow.holds Tryd.pinned (OpenSpec.ofChange reachShortWrong)

/-- 'tollgatelaw17.ReachNils': WHATEVER THE INPUT: true; the input reads as it did. -/
def reachNilsSpec : ChangeSpec := { name := "reachNils", fn := fun _ => fun
  | [d1, d2] => { results := [.lit (.bool true)], args := [d1, d2] }
  | _ => none }
def reachNilsRow : OpenClaim := { program := "ytapnkkoplnhleaadoor", sum := "124957484a247835c43f084a3ea18fd52d83fdee63a54c8c1b8320bec407040c", func := "tollgate/tollgatelaw17.ReachNils", spec := "reachNils", unfollowed := true, recurses := true, named := ["internal/strconv.uint64pow10", "math/bits.deBruijn32tab", "math/bits.deBruijn64tab"], apart := false, laid := [("math/bits.deBruijn32tab", laid_math_bits_deBruijn32tab), ("math/bits.deBruijn64tab", laid_math_bits_deBruijn64tab), ("internal/strconv.uint64pow10", laid_internal_strconv_uint64pow10)] }
def ReachNilsSaid : Prop := reachNilsRow.holds Tryd.pinned (OpenSpec.ofChange reachNilsSpec)

/-- ITS FALSE NEIGHBOUR: 'it returns false'. Refute it at one input. -/
def reachNilsWrong : ChangeSpec := { name := "reachNils", fn := fun _ => fun
  | [d1, d2] => { results := [.lit (.bool false)], args := [d1, d2] }
  | _ => none }
def ReachNilsWrongFalsely : Prop := reachNilsRow.holds Tryd.pinned (OpenSpec.ofChange reachNilsWrong)

/-- 'tollgatelaw17.ReachBudget': WHATEVER THE INPUT: true; the input reads as it did. -/
def reachBudgetSpec : ChangeSpec := { name := "reachBudget", fn := fun _ => fun
  | [d1, d2, d3] => { results := [.lit (.bool true)], args := [d1, d2, d3] }
  | _ => none }
def reachBudgetRow : OpenClaim := { program := "ytapnkkoplnhleaadoor", sum := "124957484a247835c43f084a3ea18fd52d83fdee63a54c8c1b8320bec407040c", func := "tollgate/tollgatelaw17.ReachBudget", spec := "reachBudget", unfollowed := true, recurses := true, named := ["internal/strconv.uint64pow10", "math/bits.deBruijn32tab", "math/bits.deBruijn64tab"], apart := false, laid := [("math/bits.deBruijn32tab", laid_math_bits_deBruijn32tab), ("math/bits.deBruijn64tab", laid_math_bits_deBruijn64tab), ("internal/strconv.uint64pow10", laid_internal_strconv_uint64pow10)] }
def ReachBudgetSaid : Prop := reachBudgetRow.holds Tryd.pinned (OpenSpec.ofChange reachBudgetSpec)

/-- ITS FALSE NEIGHBOUR: 'it returns false'. Refute it at one input. -/
def reachBudgetWrong : ChangeSpec := { name := "reachBudget", fn := fun _ => fun
  | [d1, d2, d3] => { results := [.lit (.bool false)], args := [d1, d2, d3] }
  | _ => none }
def ReachBudgetWrongFalsely : Prop := reachBudgetRow.holds Tryd.pinned (OpenSpec.ofChange reachBudgetWrong)

/-- 'tollgatelaw17.ReachAll': WHATEVER THE INPUT: true; the input reads as it did. -/
def reachAllSpec : ChangeSpec := { name := "reachAll", fn := fun _ => fun
  | [d1, d2] => { results := [.lit (.bool true)], args := [d1, d2] }
  | _ => none }
def reachAllRow : OpenClaim := { program := "ytapnkkoplnhleaadoor", sum := "124957484a247835c43f084a3ea18fd52d83fdee63a54c8c1b8320bec407040c", func := "tollgate/tollgatelaw17.ReachAll", spec := "reachAll", unfollowed := true, recurses := true, named := ["internal/strconv.uint64pow10", "math/bits.deBruijn32tab", "math/bits.deBruijn64tab"], apart := false, laid := [("math/bits.deBruijn32tab", laid_math_bits_deBruijn32tab), ("math/bits.deBruijn64tab", laid_math_bits_deBruijn64tab), ("internal/strconv.uint64pow10", laid_internal_strconv_uint64pow10)] }
def ReachAllSaid : Prop := reachAllRow.holds Tryd.pinned (OpenSpec.ofChange reachAllSpec)

/-- ITS FALSE NEIGHBOUR: 'it returns false'. Refute it at one input. -/
def reachAllWrong : ChangeSpec := { name := "reachAll", fn := fun _ => fun
  | [d1, d2] => { results := [.lit (.bool false)], args := [d1, d2] }
  | _ => none }
def ReachAllWrongFalsely : Prop := reachAllRow.holds Tryd.pinned (OpenSpec.ofChange reachAllWrong)

/- THE SECOND FORM. 'bulk': how many values and letters a reading holds, each counted each time it is reached (what is shared counts as often as it is met; a slice's spare places count too). A statement '..UptoSaid' is the law's where the arguments, and the package variables that the reading takes, are together of bulk at most 1048576: NARROWER than '..Said'. Prove '..Said' where nothing that the law and all that it calls make is longer than what came in: it says more and counts as full. Else prove '..UptoSaid'. A law counts once. -/
mutual
def uptoBulk {H : Type} : DataW H → Nat
  | .lit (.string bytes) => bytes.length + 1
  | .lit _ => 1
  | .nil => 1
  | .ptr d => uptoBulk d + 1
  | .slice elems spare => uptoBulkAll elems + uptoBulkAll spare + 1
  | .agg parts => uptoBulkAll parts + 1
  | .iface _ d => uptoBulk d + 1
  | .map entries => uptoBulkEntries entries + 1
  | .held _ => 1
def uptoBulkAll {H : Type} : List (DataW H) → Nat
  | [] => 0
  | d :: r => uptoBulk d + uptoBulkAll r
def uptoBulkEntries {H : Type} : List (Lit × DataW H) → Nat
  | [] => 0
  | x :: r => uptoBulkEntry x + uptoBulkEntries r
def uptoBulkEntry {H : Type} : Lit × DataW H → Nat
  | (.string bytes, d) => bytes.length + uptoBulk d + 1
  | (_, d) => uptoBulk d + 1
 end
def uptoSmall : (H : Type) → List (DataW H) → Bool := fun _ ds => decide (uptoBulkAll ds ≤ 1048576)
def OpenSpec.upto (s : _root_.Go.ChangeSpec) : _root_.Go.OpenSpec := { _root_.Go.OpenSpec.ofChange s with cond := some uptoSmall }

/-- 'tollgatelaw17.ReachFinds', WHERE WHAT IT READS IS OF BULK AT MOST 1048576: true; the input reads as it did. -/
def reachFindsUptoRow : OpenClaim := { program := "ytapnkkoplnhleaadoor", sum := "124957484a247835c43f084a3ea18fd52d83fdee63a54c8c1b8320bec407040c", func := "tollgate/tollgatelaw17.ReachFinds", spec := "reachFinds", unfollowed := true, recurses := true, named := ["internal/strconv.uint64pow10", "math/bits.deBruijn32tab", "math/bits.deBruijn64tab"], apart := false, laid := [("math/bits.deBruijn32tab", laid_math_bits_deBruijn32tab), ("math/bits.deBruijn64tab", laid_math_bits_deBruijn64tab), ("internal/strconv.uint64pow10", laid_internal_strconv_uint64pow10)], narrowed := true }
def ReachFindsUptoSaid : Prop := reachFindsUptoRow.holds Tryd.pinned (OpenSpec.upto reachFindsSpec)

/-- 'tollgatelaw17.ReachHomes', WHERE WHAT IT READS IS OF BULK AT MOST 1048576: true; the input reads as it did. -/
def reachHomesUptoRow : OpenClaim := { program := "ytapnkkoplnhleaadoor", sum := "124957484a247835c43f084a3ea18fd52d83fdee63a54c8c1b8320bec407040c", func := "tollgate/tollgatelaw17.ReachHomes", spec := "reachHomes", unfollowed := true, recurses := true, named := ["internal/strconv.uint64pow10", "math/bits.deBruijn32tab", "math/bits.deBruijn64tab"], apart := false, laid := [("math/bits.deBruijn32tab", laid_math_bits_deBruijn32tab), ("math/bits.deBruijn64tab", laid_math_bits_deBruijn64tab), ("internal/strconv.uint64pow10", laid_internal_strconv_uint64pow10)], narrowed := true }
def ReachHomesUptoSaid : Prop := reachHomesUptoRow.holds Tryd.pinned (OpenSpec.upto reachHomesSpec)

/-- 'tollgatelaw17.ReachHome', WHERE WHAT IT READS IS OF BULK AT MOST 1048576: true; the input reads as it did. -/
def reachHomeUptoRow : OpenClaim := { program := "ytapnkkoplnhleaadoor", sum := "124957484a247835c43f084a3ea18fd52d83fdee63a54c8c1b8320bec407040c", func := "tollgate/tollgatelaw17.ReachHome", spec := "reachHome", unfollowed := true, recurses := true, named := ["internal/strconv.uint64pow10", "math/bits.deBruijn32tab", "math/bits.deBruijn64tab"], apart := false, laid := [("math/bits.deBruijn32tab", laid_math_bits_deBruijn32tab), ("math/bits.deBruijn64tab", laid_math_bits_deBruijn64tab), ("internal/strconv.uint64pow10", laid_internal_strconv_uint64pow10)], narrowed := true }
def ReachHomeUptoSaid : Prop := reachHomeUptoRow.holds Tryd.pinned (OpenSpec.upto reachHomeSpec)

/-- 'tollgatelaw17.ReachNames', WHERE WHAT IT READS IS OF BULK AT MOST 1048576: true; the input reads as it did. -/
def reachNamesUptoRow : OpenClaim := { program := "ytapnkkoplnhleaadoor", sum := "124957484a247835c43f084a3ea18fd52d83fdee63a54c8c1b8320bec407040c", func := "tollgate/tollgatelaw17.ReachNames", spec := "reachNames", unfollowed := true, recurses := true, named := ["internal/strconv.uint64pow10", "math/bits.deBruijn32tab", "math/bits.deBruijn64tab"], apart := false, laid := [("math/bits.deBruijn32tab", laid_math_bits_deBruijn32tab), ("math/bits.deBruijn64tab", laid_math_bits_deBruijn64tab), ("internal/strconv.uint64pow10", laid_internal_strconv_uint64pow10)], narrowed := true }
def ReachNamesUptoSaid : Prop := reachNamesUptoRow.holds Tryd.pinned (OpenSpec.upto reachNamesSpec)

/-- 'tollgatelaw17.ReachShort', WHERE WHAT IT READS IS OF BULK AT MOST 1048576: true; the input reads as it did. -/
def reachShortUptoRow : OpenClaim := { program := "ytapnkkoplnhleaadoor", sum := "124957484a247835c43f084a3ea18fd52d83fdee63a54c8c1b8320bec407040c", func := "tollgate/tollgatelaw17.ReachShort", spec := "reachShort", unfollowed := true, recurses := true, named := ["internal/strconv.uint64pow10", "math/bits.deBruijn32tab", "math/bits.deBruijn64tab"], apart := false, laid := [("math/bits.deBruijn32tab", laid_math_bits_deBruijn32tab), ("math/bits.deBruijn64tab", laid_math_bits_deBruijn64tab), ("internal/strconv.uint64pow10", laid_internal_strconv_uint64pow10)], narrowed := true }
def ReachShortUptoSaid : Prop := reachShortUptoRow.holds Tryd.pinned (OpenSpec.upto reachShortSpec)

/-- 'tollgatelaw17.ReachNils', WHERE WHAT IT READS IS OF BULK AT MOST 1048576: true; the input reads as it did. -/
def reachNilsUptoRow : OpenClaim := { program := "ytapnkkoplnhleaadoor", sum := "124957484a247835c43f084a3ea18fd52d83fdee63a54c8c1b8320bec407040c", func := "tollgate/tollgatelaw17.ReachNils", spec := "reachNils", unfollowed := true, recurses := true, named := ["internal/strconv.uint64pow10", "math/bits.deBruijn32tab", "math/bits.deBruijn64tab"], apart := false, laid := [("math/bits.deBruijn32tab", laid_math_bits_deBruijn32tab), ("math/bits.deBruijn64tab", laid_math_bits_deBruijn64tab), ("internal/strconv.uint64pow10", laid_internal_strconv_uint64pow10)], narrowed := true }
def ReachNilsUptoSaid : Prop := reachNilsUptoRow.holds Tryd.pinned (OpenSpec.upto reachNilsSpec)

/-- 'tollgatelaw17.ReachBudget', WHERE WHAT IT READS IS OF BULK AT MOST 1048576: true; the input reads as it did. -/
def reachBudgetUptoRow : OpenClaim := { program := "ytapnkkoplnhleaadoor", sum := "124957484a247835c43f084a3ea18fd52d83fdee63a54c8c1b8320bec407040c", func := "tollgate/tollgatelaw17.ReachBudget", spec := "reachBudget", unfollowed := true, recurses := true, named := ["internal/strconv.uint64pow10", "math/bits.deBruijn32tab", "math/bits.deBruijn64tab"], apart := false, laid := [("math/bits.deBruijn32tab", laid_math_bits_deBruijn32tab), ("math/bits.deBruijn64tab", laid_math_bits_deBruijn64tab), ("internal/strconv.uint64pow10", laid_internal_strconv_uint64pow10)], narrowed := true }
def ReachBudgetUptoSaid : Prop := reachBudgetUptoRow.holds Tryd.pinned (OpenSpec.upto reachBudgetSpec)

/-- 'tollgatelaw17.ReachAll', WHERE WHAT IT READS IS OF BULK AT MOST 1048576: true; the input reads as it did. -/
def reachAllUptoRow : OpenClaim := { program := "ytapnkkoplnhleaadoor", sum := "124957484a247835c43f084a3ea18fd52d83fdee63a54c8c1b8320bec407040c", func := "tollgate/tollgatelaw17.ReachAll", spec := "reachAll", unfollowed := true, recurses := true, named := ["internal/strconv.uint64pow10", "math/bits.deBruijn32tab", "math/bits.deBruijn64tab"], apart := false, laid := [("math/bits.deBruijn32tab", laid_math_bits_deBruijn32tab), ("math/bits.deBruijn64tab", laid_math_bits_deBruijn64tab), ("internal/strconv.uint64pow10", laid_internal_strconv_uint64pow10)], narrowed := true }
def ReachAllUptoSaid : Prop := reachAllUptoRow.holds Tryd.pinned (OpenSpec.upto reachAllSpec)

end Rows
end Go.Proofs.YtapnkkoplnhleaaDoor
