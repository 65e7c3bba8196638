/- Of EvalLawQ: what XFAs uses (shake.py). -/
import Derived.Test.YtbephgifbghilaaGreatDoorKEvalLawP
/- The statements EvalLaws and EvalParts on plain data. -/
set_option maxRecDepth 100000
namespace Go.Proofs.YtbephgifbghilaaGreatDoor
section
variable {l : List Bd} {a b : Nd}
/-- The names that stand for what the parts come to. -/
def q1 : ByteArray := ⟨#[113, 49]⟩
def q2 : ByteArray := ⟨#[113, 50]⟩
end
end Go.Proofs.YtbephgifbghilaaGreatDoor
