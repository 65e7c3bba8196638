/- net.Covers, net.Cmp and the reference's Cmp. -/
import Derived.Test.YtbolacnpljkpbaaDoorBase
import Derived.Test.YtbolacnpljkpbaaDoorLists
set_option maxRecDepth 100000
namespace Go.Proofs.YtbolacnpljkpbaaDoor
open Go.RowKit

set_option maxHeartbeats 400000 in
theorem refcmp_any (w : World) (B : Nat) (va vb : Value) (a b : List Int) (ha : Ints w B va a) (hb : Ints w B vb b) :
    Calls Tryd.prog 32 #[va, vb] w fun e w' => e = .returned (.int .i64 (cmpL a b)) ∧ ∃ n, w' = w.drewN n := by
  obtain ⟨aa, ca, rfl⟩ := ha.val
  obtain ⟨ab, cb, rfl⟩ := hb.val
  have hla := ha.len
  have hlb := hb.len
  go_enter Tryd.func32, Tryd.ntmps32
  go_wp2_with fail
  go_loopg [5] a.length (fun g s5 wr => ∃ k : Nat, k + g = a.length ∧ k ≤ b.length ∧ s5 = .int .i64 k ∧ Hid (cmpL (a.drop k) (b.drop k) = cmpL a b) ∧ Hid (∃ n, wr = w.drewN n))
  case atStart => exact ⟨0, by omega, by omega, rfl, rfl, 0, rfl⟩
  case round =>
    obtain ⟨k, hkg, hkb, rfl, hcov, hw⟩ := hrel
    obtain ⟨n, rfl⟩ := hw.out
    by_cases hk : k < a.length
    · obtain ⟨ba, oa, rfl, _, hca⟩ := ha.col k hk
      by_cases hk2 : k < b.length
      · obtain ⟨bb, ob, rfl, _, hcb⟩ := hb.col k hk2
        have hdr := Lib.hid (cmpL_drop (a := a) (b := b) (k := k) hk hk2)
        by_cases h1 : a[k] < b[k]
        · have Hf : Hid (-1 = cmpL a b) := by rw [← hcov.out, hdr.out, if_pos h1]; exact rfl
          go_wp2_with fail
          go_quiet (fail)
          go_wp2_with fail
          go_ret
          exact ⟨ret_int Hf.out, drewN2 _ _ _⟩
        · by_cases h2 : b[k] < a[k]
          · have Hf : Hid (1 = cmpL a b) := by rw [← hcov.out, hdr.out, if_neg h1, if_pos h2]; exact rfl
            go_wp2_with fail
            go_quiet (fail)
            go_wp2_with fail
            go_quiet (fail)
            go_wp2_with fail
            go_ret
            exact ⟨ret_int Hf.out, drewN3 _ _ _ _⟩
          · have Hf : Hid (cmpL (a.drop (k + 1)) (b.drop (k + 1)) = cmpL a b) := by rw [← hcov.out, hdr.out, if_neg h1, if_neg h2]; exact rfl
            go_wp2_with fail
            go_quiet (fail)
            go_wp2_with fail
            go_quiet (fail)
            go_wp2_with fail
            go_roundg (gk - 1)
            case measure => omega
            case rel => exact ⟨k + 1, by omega, by omega, by go_num, Hf, Lib.hid ⟨_, rfl⟩⟩
      · have hk3 : ¬ ((k : Int) < (b.length : Int)) := by omega
        have Hf : Hid (1 = cmpL a b) := by rw [← hcov.out, cmpL_long hk (by omega)]; exact rfl
        go_wp2_with fail
        go_ret
        exact ⟨ret_int Hf.out, n, rfl⟩
    · have hk' : ¬ ((k : Int) < (a.length : Int)) := by omega
      by_cases hl : a.length < b.length
      · have Hf : Hid (-1 = cmpL a b) := by rw [← hcov.out, cmpL_short (by omega) (by omega)]; exact rfl
        go_wp2_with fail
        go_ret
        exact ⟨ret_int Hf.out, n, rfl⟩
      · have Hf : Hid (0 = cmpL a b) := by rw [← hcov.out, cmpL_end (by omega) (by omega)]; exact rfl
        go_wp2_with fail
        go_ret
        exact ⟨ret_int Hf.out, n, rfl⟩

end Go.Proofs.YtbolacnpljkpbaaDoor
