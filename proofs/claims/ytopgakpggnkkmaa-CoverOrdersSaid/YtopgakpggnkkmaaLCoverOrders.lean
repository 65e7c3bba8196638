/- The walk of the law CoverOrders. -/
import Derived.Test.YtopgakpggnkkmaaCoverCmp
import Derived.Test.YtopgakpggnkkmaaOpenNet
namespace Go.Proofs.Ytopgakpggnkkmaa
open Go.RowKit

theorem coverOrders_walk (W : World) (va : Value) (a : List Int) (ha : Ints W W.heap.size va a) (_ga : I64s a) (vb : Value) (b : List Int) (hb : Ints W W.heap.size vb b) (_gb : I64s b) :
    Calls Try.prog 3 #[va, vb] W fun e w' => e = .returned (.bool true) ∧ Below W.heap.size W w' := by
  go_enter Try.func3, Try.ntmps3
  go_wp2_with (first | (go_at_call 10; go_must (refine (wcovers_any _ _ _ _ _ _ ha hb).mono ?_; rintro e w2 ⟨rfl, n, rfl⟩)) | (go_at_call 11; go_must (refine (refwcovers_any _ _ _ _ _ _ (ha.drewN _) (hb.drewN _)).mono ?_; rintro e w2 ⟨rfl, n, rfl⟩)))
  go_ret
  exact ⟨ret_bool (by simp), below_drewN' _⟩
end Go.Proofs.Ytopgakpggnkkmaa
