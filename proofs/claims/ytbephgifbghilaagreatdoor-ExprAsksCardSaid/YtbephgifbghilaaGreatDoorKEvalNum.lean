/- Of EvalNum: what XFAs uses (shake.py). -/
import Derived.Test.YtbephgifbghilaaGreatDoorKEvalVal2
/- value.numbers, answer. -/
set_option maxRecDepth 100000
namespace Go.Proofs.YtbephgifbghilaaGreatDoor
open Go.RowKit
/-- A value's own block at w2, and what is stored into it: what stands. -/
abbrev chainV (w : World) (p : Nat) (v : Vl) : World := (((w.setCell ⟨p, 0, none⟩ (.int .u8 v.kind)).setCell ⟨p, 1, none⟩ (.int .i64 v.num)).setCell ⟨p, 2, none⟩ (.bool v.tr)).setCell ⟨p, 3, none⟩ (.string v.text)
theorem chain_below {B p : Nat} {w w2 : World} (h : Below B w w2) (hp : B ≤ p) (v : Vl) : Below B w (chainV w2 p v) :=
  (((h.setCell (p := ⟨p, 0, none⟩) hp _).setCell (p := ⟨p, 1, none⟩) hp _).setCell (p := ⟨p, 2, none⟩) hp _).setCell (p := ⟨p, 3, none⟩) hp _
end Go.Proofs.YtbephgifbghilaaGreatDoor
