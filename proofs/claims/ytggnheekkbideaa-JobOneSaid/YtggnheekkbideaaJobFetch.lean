/- job.Fetch. -/
import Derived.Test.YtggnheekkbideaaJobList
import Derived.Test.YtggnheekkbideaaJobMarkP
import Derived.Test.YtggnheekkbideaaJobTwin4
import Derived.Test.YtggnheekkbideaaWordName
set_option maxRecDepth 100000
namespace Go.Proofs.Ytggnheekkbideaa
open Go.RowKit

def fetchOk (clock : Int) (wk : ByteArray) (n ticks : Int) : Prop := 0 ≤ clock ∧ clock ≤ 1099511627776 ∧ nameB wk = true ∧ 1 ≤ n ∧ n ≤ 64 ∧ 1 ≤ ticks ∧ ticks ≤ 1048576
theorem fetchOk_not {clock : Int} {wk : ByteArray} {n ticks : Int} (h : ¬ fetchOk clock wk n ticks) :
    clock < 0 ∨ (0 ≤ clock ∧ 1099511627776 < clock) ∨ (0 ≤ clock ∧ clock ≤ 1099511627776 ∧ (nameB wk = false ∨ (nameB wk = true ∧ (n < 1 ∨ (1 ≤ n ∧ 64 < n) ∨ (1 ≤ n ∧ n ≤ 64 ∧ ticks < 1) ∨ (1 ≤ n ∧ n ≤ 64 ∧ 1 ≤ ticks ∧ 1048576 < ticks))))) := by
  unfold fetchOk at h
  cases hn : nameB wk with
  | false => rw [hn] at h; simp only [true_or, and_true]; omega
  | true =>
    rw [hn] at h
    simp only [true_and, Bool.true_eq_false, false_or] at h ⊢
    omega

set_option maxHeartbeats 4000000 in
theorem fetch_no (w : World) (a : Option Addr) (len cap : Nat) (clock : Int) (wk : ByteArray) (n ticks : Int) (h : ¬ fetchOk clock wk n ticks) :
    Calls Try.prog 12 #[.slice a len cap, .int .i64 clock, .string wk, .int .i64 n, .int .i64 ticks] w fun e w' => e = .returned (.tuple #[.slice none 0 0, .slice none 0 0, .int .i64 1]) ∧ Below w.heap.size w w' := by
  have S1 := Lib.hid (fun W => name_any W wk)
  rcases fetchOk_not h with h1 | ⟨h1, h2⟩ | ⟨h1, h2, h3 | ⟨h3, h4 | ⟨h4, h5⟩ | ⟨h4, h5, h6⟩ | ⟨h4, h5, h6, h7⟩⟩⟩
  · have d1 : decide (clock < 0) = true := decide_eq_true h1
    clear h h1
    go_enter Try.func12, Try.ntmps12
    go_wp2_with fail
    go_ret3
    exact ⟨rfl, (Below.refl _ _).alloc (Nat.le_refl _) _⟩
  · have d1 : decide (clock < 0) = false := decide_eq_false (by omega)
    have d2 : decide (1099511627776 < clock) = true := decide_eq_true h2
    clear h h1 h2
    go_enter Try.func12, Try.ntmps12
    go_wp2_with fail
    go_ret3
    exact ⟨rfl, (Below.refl _ _).alloc (Nat.le_refl _) _⟩
  all_goals
    have d1 : decide (clock < 0) = false := decide_eq_false (by omega)
    have d2 : decide (1099511627776 < clock) = false := decide_eq_false (by omega)
    have hb0 := (Below.refl w.heap.size w).alloc (Nat.le_refl _) (.cells #[.int .i64 clock] 3)
    have HB0 := Lib.hid hb0
    clear hb0 h h1 h2
  · rw [h3] at S1
    clear h3
    go_enter Try.func12, Try.ntmps12
    go_wp2_with (go_at_call 33; refine (S1.out _).mono ?_; rintro e w1 ⟨rfl, hb1⟩; have HB1 := Lib.hid hb1; clear hb1)
    go_ret3
    exact ⟨rfl, HB0.out.trans (HB1.out.mono HB0.out.size)⟩
  · rw [h3] at S1
    have d3 : decide (n < 1) = true := decide_eq_true h4
    clear h3 h4
    go_enter Try.func12, Try.ntmps12
    go_wp2_with (go_at_call 33; refine (S1.out _).mono ?_; rintro e w1 ⟨rfl, hb1⟩; have HB1 := Lib.hid hb1; clear hb1)
    go_ret3
    exact ⟨rfl, HB0.out.trans (HB1.out.mono HB0.out.size)⟩
  · rw [h3] at S1
    have d3 : decide (n < 1) = false := decide_eq_false (by omega)
    have d4 : decide (64 < n) = true := decide_eq_true h5
    clear h3 h4 h5
    go_enter Try.func12, Try.ntmps12
    go_wp2_with (go_at_call 33; refine (S1.out _).mono ?_; rintro e w1 ⟨rfl, hb1⟩; have HB1 := Lib.hid hb1; clear hb1)
    go_ret3
    exact ⟨rfl, HB0.out.trans (HB1.out.mono HB0.out.size)⟩
  · rw [h3] at S1
    have d3 : decide (n < 1) = false := decide_eq_false (by omega)
    have d4 : decide (64 < n) = false := decide_eq_false (by omega)
    have d5 : decide (ticks < 1) = true := decide_eq_true h6
    clear h3 h4 h5 h6
    go_enter Try.func12, Try.ntmps12
    go_wp2_with (go_at_call 33; refine (S1.out _).mono ?_; rintro e w1 ⟨rfl, hb1⟩; have HB1 := Lib.hid hb1; clear hb1)
    go_ret3
    exact ⟨rfl, HB0.out.trans (HB1.out.mono HB0.out.size)⟩
  · rw [h3] at S1
    have d3 : decide (n < 1) = false := decide_eq_false (by omega)
    have d4 : decide (64 < n) = false := decide_eq_false (by omega)
    have d5 : decide (ticks < 1) = false := decide_eq_false (by omega)
    have d6 : decide (1048576 < ticks) = true := decide_eq_true h7
    clear h3 h4 h5 h6 h7
    go_enter Try.func12, Try.ntmps12
    go_wp2_with (go_at_call 33; refine (S1.out _).mono ?_; rintro e w1 ⟨rfl, hb1⟩; have HB1 := Lib.hid hb1; clear hb1)
    go_ret3
    exact ⟨rfl, HB0.out.trans (HB1.out.mono HB0.out.size)⟩

end Go.Proofs.Ytggnheekkbideaa
