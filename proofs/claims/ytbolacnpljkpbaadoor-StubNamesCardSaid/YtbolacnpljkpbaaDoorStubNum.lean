/- numbers: are two lists the same? -/
import Derived.Test.YtbolacnpljkpbaaDoorReachRead3
set_option maxRecDepth 100000
namespace Go.Proofs.YtbolacnpljkpbaaDoor
open Go.RowKit

set_option maxHeartbeats 2000000 in
theorem numbers_any (w : World) (va vb : Value) (a b : List Int) (ha : Ints w w.heap.size va a) (hb : Ints w w.heap.size vb b) :
    Calls Tryd.prog 12 #[va, vb] w fun e w' => e = .returned (.bool (a == b)) ∧ ∃ n, w' = w.drewN n := by
  obtain ⟨aa, ca, rfl⟩ := ha.val
  obtain ⟨ab, cb, rfl⟩ := hb.val
  have hla := ha.len
  have hlb := hb.len
  have HA := Lib.hid ha.col
  have HB := Lib.hid hb.col
  clear ha hb
  by_cases hl : a.length = b.length
  · obtain ⟨n, hn⟩ : ∃ n, a.length = n := ⟨_, rfl⟩
    have hnb : b.length = n := by rw [← hl]; exact hn
    have d1 : decide (n = n) = true := by simp
    rw [hn] at hla
    rw [hn, hnb]
    have HN := Lib.hid hn
    have HNb := Lib.hid hnb
    clear hn hnb hl hlb
    go_enter Tryd.func12, Tryd.ntmps12
    go_wp2_with fail
    go_loopg [5] n (fun gh s5 wx => ∃ i : Nat, i + gh = n ∧ s5 = .int .i64 (i : Int) ∧ Hid (a.take i = b.take i) ∧ ∃ k, wx = w.drewN k)
    case atStart => exact ⟨0, by omega, rfl, Lib.hid (by simp), 0, rfl⟩
    case round =>
      obtain ⟨i, hig, rfl, he, nd, rfl⟩ := hrel
      by_cases hi : i < n
      · obtain ⟨b1, o1, rfl, _, c1⟩ := HA.out i (by rw [HN.out]; exact hi)
        obtain ⟨b2, o2, rfl, _, c2⟩ := HB.out i (by rw [HNb.out]; exact hi)
        obtain ⟨x, hx⟩ : ∃ x, a[i]'(by rw [HN.out]; exact hi) = x := ⟨_, rfl⟩
        obtain ⟨y, hy⟩ : ∃ y, b[i]'(by rw [HNb.out]; exact hi) = y := ⟨_, rfl⟩
        rw [hx] at c1
        rw [hy] at c2
        have i1 : (0 : Int) ≤ (i : Int) := by omega
        have i2 : (i : Int) < (n : Int) := by omega
        have HX := Lib.hid hx
        have HY := Lib.hid hy
        clear hx hy
        by_cases hxy : x = y
        · have d2 : (x != y) = false := by simp [hxy]
          have hE : Hid (a.take (i + 1) = b.take (i + 1)) := Lib.hid (by
            rw [List.take_succ_eq_append_getElem (by rw [HN.out]; exact hi), List.take_succ_eq_append_getElem (by rw [HNb.out]; exact hi), HX.out, HY.out, he.out, hxy])
          clear hxy
          go_wp2_with fail
          go_quiet (fail)
          go_wp2_with fail
          go_roundg (n - (i + 1))
          case measure => omega
          case rel => exact ⟨i + 1, by omega, by go_num, hE, _, rfl⟩
        · have d2 : (x != y) = true := by simpa using hxy
          have hE : Hid ((a == b) = false) := Lib.hid (by
            rw [beq_eq_false_iff_ne]
            intro e
            subst e
            exact hxy (HX.out.symm.trans HY.out))
          clear hxy
          go_wp2_with fail
          go_quiet (fail)
          go_wp2_with fail
          go_ret
          exact ⟨ret_bool hE.out.symm, drewN2 _ _ _⟩
      · have e : i = n := by omega
        subst e
        have hE : Hid ((a == b) = true) := Lib.hid (by
          have := he.out
          rw [List.take_of_length_le (by rw [HN.out]; omega), List.take_of_length_le (by rw [HNb.out]; omega)] at this
          rw [this]; simp)
        go_wp2_with fail
        go_ret
        exact ⟨ret_bool hE.out.symm, _, rfl⟩
  · have hE : Hid ((a == b) = false) := Lib.hid (by
      rw [beq_eq_false_iff_ne]
      intro e
      subst e
      exact hl rfl)
    have d1 : ((a.length : Int) != (b.length : Int)) = true := by simp; omega
    clear hl
    go_enter Tryd.func12, Tryd.ntmps12
    go_wp2_with fail
    go_ret
    exact ⟨ret_bool hE.out.symm, 0, rfl⟩
end Go.Proofs.YtbolacnpljkpbaaDoor
