/- long: has a net more than a statement looks at? -/
import Derived.Test.YtgahlonimaeicaaDoorCoverWorks2
set_option maxRecDepth 100000
namespace Go.Proofs.YtgahlonimaeicaaDoor
open Go.RowKit

def longB (n : Nt) : Bool := decide (40 < n.places.length) || decide (40 < n.trans.length)
theorem long_is (w : World) (vp vt : Value) (n : Nt) (B : Nat) (hn : NtR w B vp vt n) {t : Bool} (ht : longB n = t) :
    Calls Tryd.prog 11 #[.agg #[vp, vt, .int .i64 n.init, .int .i64 n.final]] w fun e w' => e = .returned (.bool t) ∧ Below w.heap.size w w' := by
  obtain ⟨ap, cp, rfl⟩ := hn.1.val
  obtain ⟨at_, ct, rfl⟩ := hn.2.val
  have hb := (Below.refl w.heap.size w).alloc (Nat.le_refl _) (.cells #[.slice ap n.places.length cp, .slice at_ n.trans.length ct, .int .i64 n.init, .int .i64 n.final] 25)
  unfold longB at ht
  by_cases h1 : 40 < n.places.length
  · obtain rfl : t = true := by rw [← ht]; simp [h1]
    have d1 : decide ((40 : Int) < (n.places.length : Int)) = true := decide_eq_true (by omega)
    clear ht
    go_enter Tryd.func11, Tryd.ntmps11
    go_wp2_with fail
    go_ret
    exact ⟨rfl, hb⟩
  · have d1 : decide ((40 : Int) < (n.places.length : Int)) = false := decide_eq_false (by omega)
    by_cases h2 : 40 < n.trans.length
    · have d2 : decide ((40 : Int) < (n.trans.length : Int)) = true := decide_eq_true (by omega)
      obtain rfl : t = true := by rw [← ht]; simp [h2]
      clear ht
      go_enter Tryd.func11, Tryd.ntmps11
      go_wp2_with fail
      go_ret
      exact ⟨rfl, hb⟩
    · have d2 : decide ((40 : Int) < (n.trans.length : Int)) = false := decide_eq_false (by omega)
      obtain rfl : t = false := by rw [← ht]; simp [h1, h2]
      clear ht
      go_enter Tryd.func11, Tryd.ntmps11
      go_wp2_with fail
      go_ret
      exact ⟨rfl, hb⟩

end Go.Proofs.YtgahlonimaeicaaDoor
