/- net.Covers, net.Cmp and the reference's Cmp. -/
import Derived.Test.YtapnkkoplnhleaaDoorBase
import Derived.Test.YtapnkkoplnhleaaDoorLists
set_option maxRecDepth 100000
namespace Go.Proofs.YtapnkkoplnhleaaDoor
open Go.RowKit

theorem cmp1 (x y : Int) (w : World) : Calls Tryd.prog 71 #[.int .i64 x, .int .i64 y] w fun e w' => e = .returned (.int .i64 (if x < y then -1 else if y < x then 1 else 0)) ∧ w = w' := by
  have hx : (x != x) = false := by simp
  have hy : (y != y) = false := by simp
  by_cases h1 : x < y
  · go_enter Tryd.func71, Tryd.ntmps71
    go_wp2
    go_ret
    exact ⟨rfl, rfl⟩
  · by_cases h2 : y < x
    · go_enter Tryd.func71, Tryd.ntmps71
      go_wp2
      go_ret
      exact ⟨rfl, rfl⟩
    · go_enter Tryd.func71, Tryd.ntmps71
      go_wp2
      go_ret
      exact ⟨rfl, rfl⟩

set_option maxHeartbeats 400000 in
theorem compare_any (w : World) (B : Nat) (va vb : Value) (a b : List Int) (ha : Ints w B va a) (hb : Ints w B vb b) :
    Calls Tryd.prog 57 #[va, vb] w fun e w' => e = .returned (.int .i64 (cmpL a b)) ∧ w = w' := by
  obtain ⟨aa, ca, rfl⟩ := ha.val
  obtain ⟨ab, cb, rfl⟩ := hb.val
  have hla := ha.len
  have hlb := hb.len
  go_enter Tryd.func57, Tryd.ntmps57
  go_wp2_with fail
  go_loopg [11] a.length (fun g s11 wr => ∃ k : Nat, k + g = a.length ∧ k ≤ b.length ∧ s11 = .int .i64 k ∧ Hid (cmpL (a.drop k) (b.drop k) = cmpL a b) ∧ w = wr)
  case atStart => exact ⟨0, by omega, by omega, rfl, rfl, rfl⟩
  case round =>
    obtain ⟨k, hkg, hkb, rfl, hcov, rfl⟩ := hrel
    by_cases hk : k < a.length
    · obtain ⟨ba, oa, rfl, _, hca⟩ := ha.col k hk
      by_cases hk2 : k < b.length
      · obtain ⟨bb, ob, rfl, _, hcb⟩ := hb.col k hk2
        have hdr := Lib.hid (cmpL_drop (a := a) (b := b) (k := k) hk hk2)
        by_cases h1 : a[k] < b[k]
        · have Hf : Hid (-1 = cmpL a b) := by rw [← hcov.out, hdr.out, if_pos h1]; exact rfl
          have hc1 : Calls Tryd.prog 71 #[.int .i64 a[k], .int .i64 b[k]] w fun e w' => e = .returned (.int .i64 (-1)) ∧ w = w' := (cmp1 a[k] b[k] w).mono (by rw [if_pos h1]; exact fun _ _ h => h)
          go_wp2_with (go_at_call 71; go_must (refine hc1.mono ?_; rintro e w2 ⟨rfl, rfl⟩))
          go_ret
          exact ⟨ret_int Hf.out, rfl⟩
        · by_cases h2 : b[k] < a[k]
          · have Hf : Hid (1 = cmpL a b) := by rw [← hcov.out, hdr.out, if_neg h1, if_pos h2]; exact rfl
            have hc1 : Calls Tryd.prog 71 #[.int .i64 a[k], .int .i64 b[k]] w fun e w' => e = .returned (.int .i64 1) ∧ w = w' := (cmp1 a[k] b[k] w).mono (by rw [if_neg h1, if_pos h2]; exact fun _ _ h => h)
            go_wp2_with (go_at_call 71; go_must (refine hc1.mono ?_; rintro e w2 ⟨rfl, rfl⟩))
            go_ret
            exact ⟨ret_int Hf.out, rfl⟩
          · have Hf : Hid (cmpL (a.drop (k + 1)) (b.drop (k + 1)) = cmpL a b) := by rw [← hcov.out, hdr.out, if_neg h1, if_neg h2]; exact rfl
            have hc1 : Calls Tryd.prog 71 #[.int .i64 a[k], .int .i64 b[k]] w fun e w' => e = .returned (.int .i64 0) ∧ w = w' := (cmp1 a[k] b[k] w).mono (by rw [if_neg h1, if_neg h2]; exact fun _ _ h => h)
            go_wp2_with (go_at_call 71; go_must (refine hc1.mono ?_; rintro e w2 ⟨rfl, rfl⟩))
            go_roundg (gk - 1)
            case measure => omega
            case rel => exact ⟨k + 1, by omega, by omega, by go_num, Hf, rfl⟩
      · have hk3 : ¬ ((k : Int) < (b.length : Int)) := by omega
        have Hf : Hid (1 = cmpL a b) := by rw [← hcov.out, cmpL_long hk (by omega)]; exact rfl
        go_wp2_with fail
        go_ret
        exact ⟨ret_int Hf.out, rfl⟩
    · have hk' : ¬ ((k : Int) < (a.length : Int)) := by omega
      by_cases hl : a.length < b.length
      · have Hf : Hid (-1 = cmpL a b) := by rw [← hcov.out, cmpL_short (by omega) (by omega)]; exact rfl
        go_wp2_with fail
        go_ret
        exact ⟨ret_int Hf.out, rfl⟩
      · have Hf : Hid (0 = cmpL a b) := by rw [← hcov.out, cmpL_end (by omega) (by omega)]; exact rfl
        go_wp2_with fail
        go_ret
        exact ⟨ret_int Hf.out, rfl⟩

theorem cmp_any (w : World) (B : Nat) (va vb : Value) (a b : List Int) (ha : Ints w B va a) (hb : Ints w B vb b) :
    Calls Tryd.prog 36 #[va, vb] w fun e w' => e = .returned (.int .i64 (cmpL a b)) ∧ w = w' := by
  go_enter Tryd.func36, Tryd.ntmps36
  go_wp2_with (go_at_call 57; go_must (refine (compare_any _ _ _ _ _ _ ha hb).mono ?_; rintro e w2 ⟨rfl, rfl⟩))
  go_ret
  exact ⟨rfl, rfl⟩

set_option maxHeartbeats 400000 in
theorem refcmp_any (w : World) (B : Nat) (va vb : Value) (a b : List Int) (ha : Ints w B va a) (hb : Ints w B vb b) :
    Calls Tryd.prog 22 #[va, vb] w fun e w' => e = .returned (.int .i64 (cmpL a b)) ∧ ∃ n, w' = w.drewN n := by
  obtain ⟨aa, ca, rfl⟩ := ha.val
  obtain ⟨ab, cb, rfl⟩ := hb.val
  have hla := ha.len
  have hlb := hb.len
  go_enter Tryd.func22, Tryd.ntmps22
  go_wp2_with fail
  go_loopg [5] a.length (fun g s5 wr => ∃ k : Nat, k + g = a.length ∧ k ≤ b.length ∧ s5 = .int .i64 k ∧ Hid (cmpL (a.drop k) (b.drop k) = cmpL a b) ∧ Hid (∃ n, wr = w.drewN n))
  case atStart => exact ⟨0, by omega, by omega, rfl, rfl, 0, rfl⟩
  case round =>
    obtain ⟨k, hkg, hkb, rfl, hcov, hw⟩ := hrel
    obtain ⟨n, rfl⟩ := hw.out
    by_cases hk : k < a.length
    · obtain ⟨ba, oa, rfl, _, hca⟩ := ha.col k hk
      by_cases hk2 : k < b.length
      · obtain ⟨bb, ob, rfl, _, hcb⟩ := hb.col k hk2
        have hdr := Lib.hid (cmpL_drop (a := a) (b := b) (k := k) hk hk2)
        by_cases h1 : a[k] < b[k]
        · have Hf : Hid (-1 = cmpL a b) := by rw [← hcov.out, hdr.out, if_pos h1]; exact rfl
          go_wp2_with fail
          go_quiet (fail)
          go_wp2_with fail
          go_ret
          exact ⟨ret_int Hf.out, drewN2 _ _ _⟩
        · by_cases h2 : b[k] < a[k]
          · have Hf : Hid (1 = cmpL a b) := by rw [← hcov.out, hdr.out, if_neg h1, if_pos h2]; exact rfl
            go_wp2_with fail
            go_quiet (fail)
            go_wp2_with fail
            go_quiet (fail)
            go_wp2_with fail
            go_ret
            exact ⟨ret_int Hf.out, drewN3 _ _ _ _⟩
          · have Hf : Hid (cmpL (a.drop (k + 1)) (b.drop (k + 1)) = cmpL a b) := by rw [← hcov.out, hdr.out, if_neg h1, if_neg h2]; exact rfl
            go_wp2_with fail
            go_quiet (fail)
            go_wp2_with fail
            go_quiet (fail)
            go_wp2_with fail
            go_roundg (gk - 1)
            case measure => omega
            case rel => exact ⟨k + 1, by omega, by omega, by go_num, Hf, Lib.hid ⟨_, rfl⟩⟩
      · have hk3 : ¬ ((k : Int) < (b.length : Int)) := by omega
        have Hf : Hid (1 = cmpL a b) := by rw [← hcov.out, cmpL_long hk (by omega)]; exact rfl
        go_wp2_with fail
        go_ret
        exact ⟨ret_int Hf.out, n, rfl⟩
    · have hk' : ¬ ((k : Int) < (a.length : Int)) := by omega
      by_cases hl : a.length < b.length
      · have Hf : Hid (-1 = cmpL a b) := by rw [← hcov.out, cmpL_short (by omega) (by omega)]; exact rfl
        go_wp2_with fail
        go_ret
        exact ⟨ret_int Hf.out, n, rfl⟩
      · have Hf : Hid (0 = cmpL a b) := by rw [← hcov.out, cmpL_end (by omega) (by omega)]; exact rfl
        go_wp2_with fail
        go_ret
        exact ⟨ret_int Hf.out, n, rfl⟩

end Go.Proofs.YtapnkkoplnhleaaDoor
