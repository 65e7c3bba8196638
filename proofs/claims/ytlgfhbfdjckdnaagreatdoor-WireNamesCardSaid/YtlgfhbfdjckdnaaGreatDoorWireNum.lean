/- Numbers as texts: word.Number, wire.number, the document's Number (seat wire). -/
import Derived.Test.YtlgfhbfdjckdnaaGreatDoorWireTok
import Derived.Test.YtlgfhbfdjckdnaaGreatDoorWireNumP
import Derived.Test.YtlgfhbfdjckdnaaGreatDoorShelf
import Derived.Laws.BytesString
import Derived.Laws.NewBlocks
import Derived.Lib.AppendIntMem
set_option maxRecDepth 100000
namespace Go.Proofs.YtlgfhbfdjckdnaaGreatDoor
open Go.RowKit

abbrev Pow10 (B : Nat) (w : World) : Prop := Lib.TabBelow Tryz.prog B w "internal/strconv.uint64pow10" .u64 Lib.pow10Tab
/-- A number's text. -/
def numB (n : Int) : ByteArray := ⟨(Lib.itoa n).toArray⟩

theorem wnumber_any (w : World) (htab : Pow10 w.heap.size w) (n : Int) (h0 : -9223372036854775808 ≤ n) (h1 : n ≤ 9223372036854775807) :
    Calls Tryz.prog 41 #[.int .i64 n] w fun e w' => e = .returned (.string (numB n)) ∧ Below w.heap.size w w' := by
  have HC := Lib.hid (Tryz.strconv_FormatInt_10 n h0 h1 w (htab w (Below.refl _ _)))
  clear htab
  go_enter Tryz.func41, Tryz.ntmps41
  go_wp2_with (go_at_call 62; refine HC.out.mono ?_; rintro e w2 ⟨rfl, k, os, rfl⟩)
  go_ret
  exact ⟨rfl, Lib.below_grow _ _ (Nat.le_refl _) k os⟩
theorem winumber_any (w : World) (htab : Pow10 w.heap.size w) (n : Int) (h0 : -9223372036854775808 ≤ n) (h1 : n ≤ 9223372036854775807) :
    Calls Tryz.prog 26 #[.int .i64 n] w fun e w' => e = .returned (.string (numB n)) ∧ Below w.heap.size w w' := by
  have HC := Lib.hid (wnumber_any w htab n h0 h1)
  clear htab
  go_enter Tryz.func26, Tryz.ntmps26
  go_wp2_with (go_at_call 41; refine HC.out.mono ?_; rintro e w2 ⟨rfl, hb⟩)
  go_ret
  exact ⟨rfl, hb⟩
end Go.Proofs.YtlgfhbfdjckdnaaGreatDoor
