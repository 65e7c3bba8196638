/- works: what each statement on nets asks first. -/
import Derived.Test.YtopgakpggnkkmaaNetSmall
set_option maxRecDepth 100000
namespace Go.Proofs.Ytopgakpggnkkmaa
open Go.RowKit

theorem covers_is {t : Bool} (w : World) (B : Nat) (va vb : Value) (a b : List Int) (ha : Ints w B va a) (hb : Ints w B vb b) (h : coversB a b = t) :
    Calls Try.prog 12 #[va, vb] w fun e w' => e = .returned (.bool t) ∧ w = w' := by
  rw [← h]; exact covers_any w B va vb a b ha hb

theorem cmp_is {x : Int} (w : World) (B : Nat) (va vb : Value) (a b : List Int) (ha : Ints w B va a) (hb : Ints w B vb b) (h : cmpL a b = x) :
    Calls Try.prog 13 #[va, vb] w fun e w' => e = .returned (.int .i64 x) ∧ w = w' := by
  rw [← h]; exact cmp_any w B va vb a b ha hb

theorem first_small (w : World) (vp vt : Value) (h : NtR w w.heap.size vp vt smallN) : Calls Try.prog 23 #[.agg #[vp, vt, .int .i64 smallN.init, .int .i64 smallN.final]] w (ListPost w [1, 0, 0] 0) :=
  first_any w vp vt smallN _ (Nat.le_refl _) h
theorem last_small (w : World) (vp vt : Value) (h : NtR w w.heap.size vp vt smallN) : Calls Try.prog 29 #[.agg #[vp, vt, .int .i64 smallN.init, .int .i64 smallN.final]] w (ListPost w [0, 0, 1] 0) :=
  last_any w vp vt smallN _ (Nat.le_refl _) h
theorem enabled_small (w : World) (vp vt vm : Value) (h : NtR w w.heap.size vp vt smallN) (hm : Ints w w.heap.size vm [1, 0, 0]) : Calls Try.prog 19 #[.agg #[vp, vt, .int .i64 smallN.init, .int .i64 smallN.final], vm] w (ListPost w [0] 0) :=
  enabledNet_any w vp vt vm smallN [1, 0, 0] _ (Nat.le_refl _) h hm
theorem row_small (w : World) (vp vt vm vr : Value) (h : NtR w w.heap.size vp vt smallN) (hm : Ints w w.heap.size vm [1, 0, 0]) (hr : Ints w w.heap.size vr [0, 1]) : Calls Try.prog 16 #[.agg #[vp, vt, .int .i64 smallN.init, .int .i64 smallN.final], vm, vr] w (RowPost w ([0, 0, 1], 2, 0)) :=
  row_any w vp vt vm vr smallN [1, 0, 0] [0, 1] _ (Nat.le_refl _) h hm hr

/-- An own list of one element or more, in the form of the walk. -/
theorem OwnI.some {w : World} {base : Nat} {v : Value} {x : Int} {l : List Int} (h : OwnI w base v (x :: l)) : ∃ g cap, v = .slice (some ⟨g, 0, none⟩) (l.length + 1) cap ∧ base ≤ g ∧ g < w.heap.size := by
  rcases h.val with ⟨_, h0⟩ | h
  · cases h0
  · exact h

set_option maxHeartbeats 2000000 in
theorem works_any (w : World) : Calls Try.prog 15 #[] w fun e w' => e = .returned (.bool true) ∧ Below w.heap.size w w' := by
  go_enter Try.func15, Try.ntmps15
  go_wp2_with fail
  refine (small_any _).mono ?_
  rintro e w1 ⟨vp, vt, rfl, hn1, hb1⟩
  go_wp2_with fail
  refine (first_small _ _ _ hn1).mono ?_
  rintro e w2 ⟨vm, rfl, hm2, hb2⟩
  have B2 := hb1.trans (hb2.mono hb1.size)
  obtain ⟨gm, cm, rfl, hgm1, hgm2⟩ := hm2.some
  have hmI := hm2.col (by simp) (Nat.le_refl _)
  clear hn1
  go_wp2_with fail
  refine (small_any _).mono ?_
  rintro e w3 ⟨vp3, vt3, rfl, hn3, hb3⟩
  have B3 := B2.trans (hb3.mono B2.size)
  have hm3 := hmI.mono hb3 (hb3.size)
  go_wp2_with fail
  refine (enabled_small _ _ _ _ hn3 hm3).mono ?_
  rintro e w4 ⟨vl, rfl, hl4, hb4⟩
  have B4 := B3.trans (hb4.mono B3.size)
  obtain ⟨gl, cl, rfl, hgl1, hgl2⟩ := hl4.some
  have hlc := (hl4.at (i := 0) (by simp)).1
  have hm4 := hm3.mono hb4 (Nat.le_refl _)
  clear hn3 hl4
  go_wp2_with fail
  refine (small_any _).mono ?_
  rintro e w5 ⟨vp5, vt5, rfl, hn5, hb5⟩
  have B5 := B4.trans (hb5.mono B4.size)
  have hz5 := hb5.size
  rw [← Below.cellB hb5 hgl2] at hlc
  have hm5 := hm4.mono (hb5.mono hb4.size) (show w3.heap.size ≤ w5.heap.size by have := hb4.size; omega)
  have hA := (Below.refl w5.heap.size w5).alloc (Nat.le_refl _) (.cells #[.int .i64 0, .int .i64 1] 3)
  have hr5 : Ints (w5.alloc (.cells #[.int .i64 0, .int .i64 1] 3)) (w5.heap.size + 1) (.slice (some ⟨w5.heap.size, 0, none⟩) 2 2) [0, 1] := ints_lit (l := [0, 1]) (heap_alloc_new _ _) (by simp) (by omega)
  have hm6 := hm5.mono hA (show w5.heap.size ≤ w5.heap.size + 1 by omega)
  have hn6 := hn5.mono hA (show w5.heap.size ≤ w5.heap.size + 1 by omega)
  go_wp2_with fail
  refine (row_small _ _ _ _ _ (by simpa using hn6) (by simpa using hm6) (by simpa using hr5)).mono ?_
  rintro e w7 ⟨vo, rfl, ho7, hb7⟩
  have ho : OwnI w7 (w5.heap.size + 1) vo [0, 0, 1] := by simpa using ho7
  clear ho7 hn5 hn6 hr5 hm5 hm6
  have hA7 : Below w5.heap.size w5 w7 := hA.trans (hb7.mono (by simp))
  have B7 := B5.trans (hA7.mono B5.size)
  have hz7 := hA7.size
  rw [← Below.cellB hA7 (by omega)] at hlc
  obtain ⟨go, co, rfl, hgo1, hgo2⟩ := ho.some
  have hoc := (ho.at (i := 2) (by simp)).1
  have hoI := ho.col (by simp) (Nat.le_refl _)
  clear hA hA7 ho
  go_wp2_with fail
  refine (small_any _).mono ?_
  rintro e w8 ⟨vp8, vt8, rfl, hn8, hb8⟩
  have B8 := B7.trans (hb8.mono B7.size)
  have hz8 := hb8.size
  rw [← Below.cellB hb8 (by omega)] at hlc
  rw [← Below.cellB hb8 hgo2] at hoc
  have hoI8 := hoI.mono hb8 hb8.size
  go_wp2_with fail
  refine (last_small _ _ _ hn8).mono ?_
  rintro e w9 ⟨vq, rfl, hq9, hb9⟩
  have B9 := B8.trans (hb9.mono B8.size)
  have hz9 := hb9.size
  rw [← Below.cellB hb9 (by omega)] at hlc
  rw [← Below.cellB hb9 (by omega)] at hoc
  have hoI9 := hoI8.mono hb9 hb9.size
  have hqI := hq9.col (by simp) (Nat.le_refl _)
  obtain ⟨gq, cq, rfl, hgq1, hgq2⟩ := hq9.some
  clear hn8 hq9
  go_wp2_with fail
  refine (cmp_any _ _ _ _ [0, 0, 1] [0, 0, 1] hoI9 hqI).mono ?_
  rintro e w10 ⟨rfl, rfl⟩
  go_wp2_with fail
  have hb12 := ((Below.refl w9.heap.size w9).alloc (Nat.le_refl _) (.cells #[.int .i64 1, .int .i64 1] 3)).alloc (by simp) (.cells #[.int .i64 1, .int .i64 0] 3)
  refine (covers_is (t := true) _ (w9.heap.size + 2) _ _ [1, 1] [1, 0] (ints_lit (l := [1, 1]) (heap_alloc2_old _ _ _) (by simp) (by omega)) (ints_lit (l := [1, 0]) (heap_alloc2_new _ _ _) (by simp) (by omega)) rfl).mono ?_
  rintro e w10 ⟨rfl, rfl⟩
  go_wp2_with fail
  refine (covers_is (t := false) _ (w9.heap.size + 4) _ _ [0, 1] [1, 0] (ints_lit (t := 3) (fr := (0, 0)) (l := [0, 1]) ?_ (by simp) (by omega)) (ints_lit (t := 3) (fr := (0, 0)) (l := [1, 0]) ?_ (by simp) (by omega)) rfl).mono ?_
  · simp only [alloc_get, World.size_alloc]; repeat (first | rfl | rw [if_pos trivial] | rw [if_pos (by omega)] | rw [if_neg (by omega)])
  · simp only [alloc_get, World.size_alloc]; repeat (first | rfl | rw [if_pos trivial] | rw [if_pos (by omega)] | rw [if_neg (by omega)])
  rintro e w10 ⟨rfl, rfl⟩
  go_wp2_with fail
  go_ret
  refine ⟨rfl, B9.trans ?_⟩
  exact (((hb12.alloc (by simp <;> omega) _).alloc (by simp <;> omega) _).mono B9.size)

end Go.Proofs.Ytopgakpggnkkmaa
