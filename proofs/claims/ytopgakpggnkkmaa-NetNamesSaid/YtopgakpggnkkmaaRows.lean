/-
  No cell of these rows narrows 'for every input' (looked for: loops, veiled, ifaces, maps, wideKeys, modest, calm, conditions, laid).
  DERIVED. THE GIVEN ROWS OF THIS SEAT. 7 by the template 'for every input the law returns true; each argument reads behind the call as it read before'; 0 by the template 'total and deterministic' (their statements: YtopgakpggnkkmaaTotals.lean).
  GIVEN WITH THE SEED: the statements are not yours to turn. If you find one false, say at which input.
  Laid BY PROGRAM, IN A SANDBOX (cutbox-rows.mjs): the forced cells as the released guide's own fill.sh prints them over the translation 2a1c7775ec365240… (all of the seat's roots in one cut). By AI agents, Wed Nov 11 2026. No macro, syntax, notation, axiom, sorry.
-/
import Derived.Test.YtopgakpggnkkmaaChecked
import GoSem.Claim
import GoSem.ClaimJoined
import GoSem.ClaimMapViews
import Derived.JoinedTies
import Derived.KernelRfl
namespace Go.Proofs.Ytopgakpggnkkmaa
/- THE CELL 'sum', in the pinned program and in every row, IS THE sha256 OF THE DUMP (.gsa) THAT YtopgakpggnkkmaaProg.lean LOADS. Nothing in Lean hashes anything: it is a label: what it is worth is what the hold of that sum in a sandbox is worth. -/
noncomputable def Try.pinned : Pinned := { name := "ytopgakpggnkkmaa", sum := "2a1c7775ec3652408d087161ba3c520c5a49d5597dbafed6788e0ef4c8df4c07", checked := Try.checked }
namespace Rows
def none {H : Type} : Left H := { results := [], args := [] }

/-- 'tollgatelaw19.CoverOrders': WHATEVER THE INPUT: true; the input reads as it did. -/
def coverOrdersSpec : ChangeSpec := { name := "coverOrders", fn := fun _ => fun
  | [d1, d2] => { results := [.lit (.bool true)], args := [d1, d2] }
  | _ => none }
def coverOrdersRow : OpenClaim := { program := "ytopgakpggnkkmaa", sum := "2a1c7775ec3652408d087161ba3c520c5a49d5597dbafed6788e0ef4c8df4c07", func := "tollgate/tollgatelaw19.CoverOrders", spec := "coverOrders", apart := false }
def CoverOrdersSaid : Prop := coverOrdersRow.holds Try.pinned (OpenSpec.ofChange coverOrdersSpec)

/-- ITS FALSE NEIGHBOUR: 'it returns false'. Refute it at one input. -/
def coverOrdersWrong : ChangeSpec := { name := "coverOrders", fn := fun _ => fun
  | [d1, d2] => { results := [.lit (.bool false)], args := [d1, d2] }
  | _ => none }
def CoverOrdersWrongFalsely : Prop := coverOrdersRow.holds Try.pinned (OpenSpec.ofChange coverOrdersWrong)

/-- 'tollgatelaw15.NetOrders': WHATEVER THE INPUT: true; the input reads as it did. -/
def netOrdersSpec : ChangeSpec := { name := "netOrders", fn := fun _ => fun
  | [d1, d2] => { results := [.lit (.bool true)], args := [d1, d2] }
  | _ => none }
def netOrdersRow : OpenClaim := { program := "ytopgakpggnkkmaa", sum := "2a1c7775ec3652408d087161ba3c520c5a49d5597dbafed6788e0ef4c8df4c07", func := "tollgate/tollgatelaw15.NetOrders", spec := "netOrders", apart := false }
def NetOrdersSaid : Prop := netOrdersRow.holds Try.pinned (OpenSpec.ofChange netOrdersSpec)

/-- ITS FALSE NEIGHBOUR: 'it returns false'. Refute it at one input. -/
def netOrdersWrong : ChangeSpec := { name := "netOrders", fn := fun _ => fun
  | [d1, d2] => { results := [.lit (.bool false)], args := [d1, d2] }
  | _ => none }
def NetOrdersWrongFalsely : Prop := netOrdersRow.holds Try.pinned (OpenSpec.ofChange netOrdersWrong)

/-- 'tollgatelaw15.NetMore': WHATEVER THE INPUT: true; the input reads as it did. -/
def netMoreSpec : ChangeSpec := { name := "netMore", fn := fun _ => fun
  | [d1, d2, d3, d4] => { results := [.lit (.bool true)], args := [d1, d2, d3, d4] }
  | _ => none }
def netMoreRow : OpenClaim := { program := "ytopgakpggnkkmaa", sum := "2a1c7775ec3652408d087161ba3c520c5a49d5597dbafed6788e0ef4c8df4c07", func := "tollgate/tollgatelaw15.NetMore", spec := "netMore", unfollowed := true, recurses := true, apart := false }
def NetMoreSaid : Prop := netMoreRow.holds Try.pinned (OpenSpec.ofChange netMoreSpec)

/-- ITS FALSE NEIGHBOUR: 'it returns false'. Refute it at one input. -/
def netMoreWrong : ChangeSpec := { name := "netMore", fn := fun _ => fun
  | [d1, d2, d3, d4] => { results := [.lit (.bool false)], args := [d1, d2, d3, d4] }
  | _ => none }
def NetMoreWrongFalsely : Prop := netMoreRow.holds Try.pinned (OpenSpec.ofChange netMoreWrong)

/-- 'tollgatelaw15.NetRows': WHATEVER THE INPUT: true; the input reads as it did. -/
def netRowsSpec : ChangeSpec := { name := "netRows", fn := fun _ => fun
  | [d1, d2, d3, d4, d5, d6] => { results := [.lit (.bool true)], args := [d1, d2, d3, d4, d5, d6] }
  | _ => none }
def netRowsRow : OpenClaim := { program := "ytopgakpggnkkmaa", sum := "2a1c7775ec3652408d087161ba3c520c5a49d5597dbafed6788e0ef4c8df4c07", func := "tollgate/tollgatelaw15.NetRows", spec := "netRows", unfollowed := true, recurses := true, apart := false }
def NetRowsSaid : Prop := netRowsRow.holds Try.pinned (OpenSpec.ofChange netRowsSpec)

/-- ITS FALSE NEIGHBOUR: 'it returns false'. Refute it at one input. -/
def netRowsWrong : ChangeSpec := { name := "netRows", fn := fun _ => fun
  | [d1, d2, d3, d4, d5, d6] => { results := [.lit (.bool false)], args := [d1, d2, d3, d4, d5, d6] }
  | _ => none }
def NetRowsWrongFalsely : Prop := netRowsRow.holds Try.pinned (OpenSpec.ofChange netRowsWrong)

/-- 'tollgatelaw15.NetOrder': WHATEVER THE INPUT: true; the input reads as it did. -/
def netOrderSpec : ChangeSpec := { name := "netOrder", fn := fun _ => fun
  | [d1, d2, d3] => { results := [.lit (.bool true)], args := [d1, d2, d3] }
  | _ => none }
def netOrderRow : OpenClaim := { program := "ytopgakpggnkkmaa", sum := "2a1c7775ec3652408d087161ba3c520c5a49d5597dbafed6788e0ef4c8df4c07", func := "tollgate/tollgatelaw15.NetOrder", spec := "netOrder", unfollowed := true, recurses := true, apart := false }
def NetOrderSaid : Prop := netOrderRow.holds Try.pinned (OpenSpec.ofChange netOrderSpec)

/-- ITS FALSE NEIGHBOUR: 'it returns false'. Refute it at one input. -/
def netOrderWrong : ChangeSpec := { name := "netOrder", fn := fun _ => fun
  | [d1, d2, d3] => { results := [.lit (.bool false)], args := [d1, d2, d3] }
  | _ => none }
def NetOrderWrongFalsely : Prop := netOrderRow.holds Try.pinned (OpenSpec.ofChange netOrderWrong)

/-- 'tollgatelaw15.NetEffect': WHATEVER THE INPUT: true; the input reads as it did. -/
def netEffectSpec : ChangeSpec := { name := "netEffect", fn := fun _ => fun
  | [d1, d2, d3] => { results := [.lit (.bool true)], args := [d1, d2, d3] }
  | _ => none }
def netEffectRow : OpenClaim := { program := "ytopgakpggnkkmaa", sum := "2a1c7775ec3652408d087161ba3c520c5a49d5597dbafed6788e0ef4c8df4c07", func := "tollgate/tollgatelaw15.NetEffect", spec := "netEffect", unfollowed := true, recurses := true, apart := false }
def NetEffectSaid : Prop := netEffectRow.holds Try.pinned (OpenSpec.ofChange netEffectSpec)

/-- ITS FALSE NEIGHBOUR: 'it returns false'. Refute it at one input. -/
def netEffectWrong : ChangeSpec := { name := "netEffect", fn := fun _ => fun
  | [d1, d2, d3] => { results := [.lit (.bool false)], args := [d1, d2, d3] }
  | _ => none }
def NetEffectWrongFalsely : Prop := netEffectRow.holds Try.pinned (OpenSpec.ofChange netEffectWrong)

/-- 'tollgatelaw15.NetNames': WHATEVER THE INPUT: true; the input reads as it did. -/
def netNamesSpec : ChangeSpec := { name := "netNames", fn := fun _ => fun
  | [] => { results := [.lit (.bool true)], args := [] }
  | _ => none }
def netNamesRow : OpenClaim := { program := "ytopgakpggnkkmaa", sum := "2a1c7775ec3652408d087161ba3c520c5a49d5597dbafed6788e0ef4c8df4c07", func := "tollgate/tollgatelaw15.NetNames", spec := "netNames", unfollowed := true, recurses := true, apart := false }
def NetNamesSaid : Prop := netNamesRow.holds Try.pinned (OpenSpec.ofChange netNamesSpec)

/-- ITS FALSE NEIGHBOUR: 'it returns false'. Refute it at one input. -/
def netNamesWrong : ChangeSpec := { name := "netNames", fn := fun _ => fun
  | [] => { results := [.lit (.bool false)], args := [] }
  | _ => none }
def NetNamesWrongFalsely : Prop := netNamesRow.holds Try.pinned (OpenSpec.ofChange netNamesWrong)

/- THE SECOND FORM. 'bulk': how many values and letters a reading holds, each counted each time it is reached (what is shared counts as often as it is met; a slice's spare places count too). A statement '..UptoSaid' is the law's where the arguments, and the package variables that the reading takes, are together of bulk at most 1048576: NARROWER than '..Said'. Prove '..Said' where nothing that the law and all that it calls make is longer than what came in: it says more and counts as full. Else prove '..UptoSaid'. A law counts once. -/
mutual
def uptoBulk {H : Type} : DataW H → Nat
  | .lit (.string bytes) => bytes.length + 1
  | .lit _ => 1
  | .nil => 1
  | .ptr d => uptoBulk d + 1
  | .slice elems spare => uptoBulkAll elems + uptoBulkAll spare + 1
  | .agg parts => uptoBulkAll parts + 1
  | .iface _ d => uptoBulk d + 1
  | .map entries => uptoBulkEntries entries + 1
  | .held _ => 1
def uptoBulkAll {H : Type} : List (DataW H) → Nat
  | [] => 0
  | d :: r => uptoBulk d + uptoBulkAll r
def uptoBulkEntries {H : Type} : List (Lit × DataW H) → Nat
  | [] => 0
  | x :: r => uptoBulkEntry x + uptoBulkEntries r
def uptoBulkEntry {H : Type} : Lit × DataW H → Nat
  | (.string bytes, d) => bytes.length + uptoBulk d + 1
  | (_, d) => uptoBulk d + 1
 end
def uptoSmall : (H : Type) → List (DataW H) → Bool := fun _ ds => decide (uptoBulkAll ds ≤ 1048576)
def OpenSpec.upto (s : _root_.Go.ChangeSpec) : _root_.Go.OpenSpec := { _root_.Go.OpenSpec.ofChange s with cond := some uptoSmall }

/-- 'tollgatelaw19.CoverOrders', WHERE WHAT IT READS IS OF BULK AT MOST 1048576: true; the input reads as it did. -/
def coverOrdersUptoRow : OpenClaim := { program := "ytopgakpggnkkmaa", sum := "2a1c7775ec3652408d087161ba3c520c5a49d5597dbafed6788e0ef4c8df4c07", func := "tollgate/tollgatelaw19.CoverOrders", spec := "coverOrders", apart := false, narrowed := true }
def CoverOrdersUptoSaid : Prop := coverOrdersUptoRow.holds Try.pinned (OpenSpec.upto coverOrdersSpec)

/-- 'tollgatelaw15.NetOrders', WHERE WHAT IT READS IS OF BULK AT MOST 1048576: true; the input reads as it did. -/
def netOrdersUptoRow : OpenClaim := { program := "ytopgakpggnkkmaa", sum := "2a1c7775ec3652408d087161ba3c520c5a49d5597dbafed6788e0ef4c8df4c07", func := "tollgate/tollgatelaw15.NetOrders", spec := "netOrders", apart := false, narrowed := true }
def NetOrdersUptoSaid : Prop := netOrdersUptoRow.holds Try.pinned (OpenSpec.upto netOrdersSpec)

/-- 'tollgatelaw15.NetMore', WHERE WHAT IT READS IS OF BULK AT MOST 1048576: true; the input reads as it did. -/
def netMoreUptoRow : OpenClaim := { program := "ytopgakpggnkkmaa", sum := "2a1c7775ec3652408d087161ba3c520c5a49d5597dbafed6788e0ef4c8df4c07", func := "tollgate/tollgatelaw15.NetMore", spec := "netMore", unfollowed := true, recurses := true, apart := false, narrowed := true }
def NetMoreUptoSaid : Prop := netMoreUptoRow.holds Try.pinned (OpenSpec.upto netMoreSpec)

/-- 'tollgatelaw15.NetRows', WHERE WHAT IT READS IS OF BULK AT MOST 1048576: true; the input reads as it did. -/
def netRowsUptoRow : OpenClaim := { program := "ytopgakpggnkkmaa", sum := "2a1c7775ec3652408d087161ba3c520c5a49d5597dbafed6788e0ef4c8df4c07", func := "tollgate/tollgatelaw15.NetRows", spec := "netRows", unfollowed := true, recurses := true, apart := false, narrowed := true }
def NetRowsUptoSaid : Prop := netRowsUptoRow.holds Try.pinned (OpenSpec.upto netRowsSpec)

/-- 'tollgatelaw15.NetOrder', WHERE WHAT IT READS IS OF BULK AT MOST 1048576: true; the input reads as it did. -/
def netOrderUptoRow : OpenClaim := { program := "ytopgakpggnkkmaa", sum := "2a1c7775ec3652408d087161ba3c520c5a49d5597dbafed6788e0ef4c8df4c07", func := "tollgate/tollgatelaw15.NetOrder", spec := "netOrder", unfollowed := true, recurses := true, apart := false, narrowed := true }
def NetOrderUptoSaid : Prop := netOrderUptoRow.holds Try.pinned (OpenSpec.upto netOrderSpec)

/-- 'tollgatelaw15.NetEffect', WHERE WHAT IT READS IS OF BULK AT MOST 1048576: true; the input reads as it did. -/
def netEffectUptoRow : OpenClaim := { program := "ytopgakpggnkkmaa", sum := "2a1c7775ec3652408d087161ba3c520c5a49d5597dbafed6788e0ef4c8df4c07", func := "tollgate/tollgatelaw15.NetEffect", spec := "netEffect", unfollowed := true, recurses := true, apart := false, narrowed := true }
def NetEffectUptoSaid : Prop := netEffectUptoRow.holds Try.pinned (OpenSpec.upto netEffectSpec)

/-- 'tollgatelaw15.NetNames', WHERE WHAT IT READS IS OF BULK AT MOST 1048576: true; the input reads as it did. -/
def netNamesUptoRow : OpenClaim := { program := "ytopgakpggnkkmaa", sum := "2a1c7775ec3652408d087161ba3c520c5a49d5597dbafed6788e0ef4c8df4c07", func := "tollgate/tollgatelaw15.NetNames", spec := "netNames", unfollowed := true, recurses := true, apart := false, narrowed := true }
def NetNamesUptoSaid : Prop := netNamesUptoRow.holds Try.pinned (OpenSpec.upto netNamesSpec)

end Rows
end Go.Proofs.Ytopgakpggnkkmaa
