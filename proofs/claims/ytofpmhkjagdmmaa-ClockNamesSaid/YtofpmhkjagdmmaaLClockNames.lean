/- The walk of the law ClockNames (closed). -/
import Derived.Test.YtofpmhkjagdmmaaClockAwake
set_option maxRecDepth 100000
namespace Go.Proofs.Ytofpmhkjagdmmaa
open Go.RowKit

theorem next_nil (w : World) : Calls Try.prog 21 #[.pointer none] w fun r w' => r = .returned (.tuple #[.int .i64 0, .bool false]) ∧ w = w' := by
  go_enter Try.func21, Try.ntmps21
  go_wp2_with fail
  go_ret2
  exact ⟨rfl, rfl⟩
theorem tick_nil (w : World) (n : Int) : Calls Try.prog 11 #[.pointer none, .int .i64 n] w fun r w' => r = .returned (.tuple #[.slice none 0 0, .int .i64 2]) ∧ w = w' := by
  go_enter Try.func11, Try.ntmps11
  go_wp2_with fail
  go_ret2
  exact ⟨rfl, rfl⟩
theorem now_nil (w : World) : Calls Try.prog 13 #[.pointer none] w fun r w' => r = .returned (.int .i64 0) ∧ w = w' := by
  go_enter Try.func13, Try.ntmps13
  go_wp2_with fail
  go_ret
  exact ⟨rfl, rfl⟩
theorem clen_nil (w : World) : Calls Try.prog 14 #[.pointer none] w fun r w' => r = .returned (.int .i64 0) ∧ w = w' := by
  go_enter Try.func14, Try.ntmps14
  go_wp2_with fail
  go_ret
  exact ⟨rfl, rfl⟩
theorem set_nil (w : World) (a : Al) : Calls Try.prog 9 #[.pointer none, valA a] w fun r w' => r = .returned (.int .i64 2) ∧ Below w.heap.size w w' := by
  obtain ⟨ad, at_, av, ai⟩ := a
  have HB := Lib.hid ((Below.refl w.heap.size w).alloc (Nat.le_refl _) (.cells #[.int .i64 ad, .int .i64 at_, .string av, .int .i64 ai] 33))
  go_enter Try.func9, Try.ntmps9
  go_wp2_with fail
  go_ret
  exact ⟨rfl, HB.out⟩
theorem drop_nil (w : World) (t : Int) : Calls Try.prog 12 #[.pointer none, .int .i64 t] w fun r w' => r = .returned (.int .i64 0) ∧ Below w.heap.size w w' := by
  have HB := Lib.hid ((Below.refl w.heap.size w).alloc (Nat.le_refl _) (.cells #[.int .i64 t] 3))
  go_enter Try.func12, Try.ntmps12
  go_wp2_with fail
  go_ret
  exact ⟨rfl, HB.out⟩
theorem all_nil (w : World) : Calls Try.prog 23 #[.pointer none] w fun r w' => r = .returned (.slice none 0 0) ∧ w = w' := by
  go_enter Try.func23, Try.ntmps23
  go_wp2_with fail
  go_ret
  exact ⟨rfl, rfl⟩
theorem new_bad (w : World) (now : Int) (h : 1099511627776 < now) : Calls Try.prog 8 #[.int .i64 now] w fun r w' => r = .returned (.tuple #[.pointer none, .int .i64 1]) ∧ w = w' :=
  (new_any w now).mono fun r w' hh => by
    rcases hh with ⟨_, h⟩ | ⟨h, _⟩
    · exact h
    · omega

def D1 : Al := ⟨1099512676352, 1, default, 0⟩
def D2 : Al := ⟨1099512676353, 2, default, 0⟩
def D3 : Al := ⟨1, 1, default, 0⟩

set_option maxHeartbeats 8000000 in
theorem clockNames_walk (W : World) : Calls Try.prog 6 #[] W fun e w' => e = .returned (.bool true) ∧ Below W.heap.size W w' := by
  have N0 := Lib.hid (new_ok W 1099511627776 (by omega) (by omega))
  go_enter Try.func6, Try.ntmps6
  go_wp2_with (first | (go_at_call 21; refine (next_nil _).mono ?_; rintro e w1 ⟨rfl, rfl⟩) | (go_at_call 11; refine (tick_nil _ _).mono ?_; rintro e w1 ⟨rfl, rfl⟩) | (go_at_call 8; refine N0.out.mono ?_; rintro e w1 ⟨p, rfl, hp, hc1, hb1⟩; refine Hid.out ?_))
  refine Lib.hid ?_
  have z1 := hb1.size
  have hr1 := row_nil w1 W.heap.size
  have T1 := Lib.hid (tick_bad w1 p 1099511627776 0 1 _ hc1 (by omega) (by omega) (by unfold badT; omega))
  have S1 := Lib.hid (set_new w1 W.heap.size p 1099511627776 0 _ [] D1 hc1 hr1 z1 (by simp) (by omega) (by omega) (by rfl) (by rfl))
  clear N0
  have tok1 : True := trivial
  go_wp2_with (first | (go_at_call 11; have _t := tok1; refine T1.out.mono ?_; rintro e w2 ⟨rfl, rfl⟩) | (go_at_call 9; have _t := tok1; refine S1.out.mono ?_; rintro e w2 ⟨rfl, v2, hk2⟩; refine Hid.out ?_))
  refine Lib.hid ?_
  have B2 := hb1.trans (hk2.toBelow hr1 hp (Nat.le_refl _) z1)
  have z2 := B2.size
  have hk2 : Kept w1 w2 W.heap.size p 1099511627776 _ v2 [⟨D1, 1⟩] 1 := hk2
  have S2 := Lib.hid (set_bad w2 p 1099511627776 1 v2 D2 hk2.clk (by rfl))
  clear tok1 S1 T1
  have tok2 : True := trivial
  go_wp2_with (first | (go_at_call 9; have _t := tok2; refine S2.out.mono ?_; rintro e w3 ⟨rfl, hb3⟩; refine Hid.out ?_))
  refine Lib.hid ?_
  clear tok2 S2
  have B3 := B2.trans (hb3.mono z2)
  have z3 := B3.size
  have hc3 := hk2.clk.below hb3 (Nat.le_refl _)
  have hr3 := hk2.row.kept hb3 (Nat.le_refl _)
  have N3 := Lib.hid (new_bad w3 1099511627777 (by omega))
  have T3 := Lib.hid (tick_any w3 W.heap.size p 1099511627776 1 0 v2 _ hc3 hr3 z3 (by simp) (by omega) (by unfold badT; omega))
  have tok3 : True := trivial
  go_wp2_with (first | (go_at_call 8; have _t := tok3; refine N3.out.mono ?_; rintro e w4 ⟨rfl, rfl⟩) | (go_at_call 11; have _t := tok3; refine T3.out.mono ?_; rintro e w4 ⟨x4, v4, rfl, -, hk4⟩; refine Hid.out ?_))
  refine Lib.hid ?_
  clear tok3 T3 N3
  have B4 := B3.trans (hk4.toBelow hr3 hp (Nat.le_refl _) z3)
  have z4 := B4.size
  have T4 := Lib.hid (tick_bad w4 p _ 1 (-1) _ hk4.clk (by omega) (by omega) (by unfold badT; omega))
  have S4 := Lib.hid (set_nil w4 D3)
  have tok4 : True := trivial
  go_wp2_with (first | (go_at_call 11; have _t := tok4; refine T4.out.mono ?_; rintro e w5 ⟨rfl, rfl⟩) | (go_at_call 13; refine (now_nil _).mono ?_; rintro e w5 ⟨rfl, rfl⟩) | (go_at_call 14; refine (clen_nil _).mono ?_; rintro e w5 ⟨rfl, rfl⟩) | (go_at_call 9; refine S4.out.mono ?_; rintro e w5 ⟨rfl, hb5⟩; refine Hid.out ?_))
  refine Lib.hid ?_
  clear tok4 T4
  have B5 := B4.trans (hb5.mono z4)
  have z5 := B5.size
  go_wp2_with (first | (go_at_call 12; refine (drop_nil _ _).mono ?_; rintro e w6 ⟨rfl, hb6⟩; refine Hid.out ?_))
  refine Lib.hid ?_
  have B6 := B5.trans (hb6.mono z5)
  have z6 := B6.size
  go_wp2_with (first | (go_at_call 23; refine (all_nil _).mono ?_; rintro e w7 ⟨rfl, rfl⟩) | (go_at_call 7; refine (awake_any _).mono ?_; rintro e w7 ⟨rfl, hb7⟩))
  go_ret
  exact ⟨rfl, B6.trans (hb7.mono z6)⟩

end Go.Proofs.Ytofpmhkjagdmmaa
