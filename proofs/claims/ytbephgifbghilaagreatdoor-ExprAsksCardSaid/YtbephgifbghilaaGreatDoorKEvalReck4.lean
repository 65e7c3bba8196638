/- Of EvalReck4: what XFAs uses (shake.py). -/
import Derived.Test.YtbephgifbghilaaGreatDoorKEvalReck2
/- (*reckoner).eval: both parts are reached; printed by gen_evalreck4.py. -/
set_option maxRecDepth 100000
namespace Go.Proofs.YtbephgifbghilaaGreatDoor
open Go.RowKit
theorem RawM.drew {w : World} {b : Nat} {F : List (Int × Value)} (h : RawM w b F) : RawM w.drew b F := h.sameB rfl
section
variable {w0 : World} {B0 B1 : Nat} {S : List (Option Nat)} {J : List ByteArray → World → Prop} {rp mb fid : Nat} {caps : Array Value} {vv : Value} {l : List Bd}
end
end Go.Proofs.YtbephgifbghilaaGreatDoor
