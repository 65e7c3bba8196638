/- What a reading of a list of numbers gives (a seat without nets). -/
import Derived.Test.YtlgfhbfdjckdnaaGreatDoorOpen
import Derived.Lib.SmallJoins
set_option maxRecDepth 100000
namespace Go.Proofs.YtlgfhbfdjckdnaaGreatDoor
open Go.RowKit Go.Deep Go.ChangeShapes Go.WideShapes Go.Joins

section
variable {H : Type} {enc : TypeId × Value → H} {W : World} {spare : Nat → Bool} {held : Bool}
theorem open_ints {v : Value} {d : DataW H} {ps : List MemPlace} {r : Reach} {b0 : Nat} (hv : Value.okWide Tryz.prog W r b0 22 v) (h : DataW.Trod enc Tryz.prog W 0 spare held 22 v d ps) (hfit : Fits Tryz.prog 22 d) :
    ∃ l, Ints W W.heap.size v l ∧ ∀ x ∈ l, (Lit.int .i64 x).wf = true := by
  obtain ⟨fuel, h⟩ := h
  obtain ⟨a, len, cap, rfl⟩ := okWide_slice Tryz.underlying22 hv
  obtain ⟨v, l, hvl, hc, hw⟩ := open_ints_col (L := 17592186044416) Tryz.underlying22 Tryz.underlying3 (by kernel_rfl) (by rw [show Tryz.prog.bytesOf 3 = 8 by kernel_rfl]; decide) (by rw [show Tryz.prog.bytesOf 3 = 8 by kernel_rfl]; decide) h hfit
  simp [Value.cells] at hvl
  subst hvl
  exact ⟨l, hc, hw⟩
end
end Go.Proofs.YtlgfhbfdjckdnaaGreatDoor
