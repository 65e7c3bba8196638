/- The document's nets (tollgateref15): lists of places, Check, One; tollgateref19's has. -/
import Derived.Test.YtapnkkoplnhleaaDoorNetRow
import Derived.Test.YtapnkkoplnhleaaDoorNetOne
import Derived.Test.YtapnkkoplnhleaaDoorBoxes
set_option maxRecDepth 100000
namespace Go.Proofs.YtapnkkoplnhleaaDoor
open Go.RowKit

set_option maxHeartbeats 1000000 in
theorem reflist_any (w : World) (B : Nat) (v : Value) (l : List Int) (many : Int) (h : Ints w B v l) :
    Calls Tryd.prog 64 #[v, .int .i64 many] w fun e w' => e = .returned (.bool (listOk many l)) ∧ ∃ n, w' = w.drewN n := by
  obtain ⟨a, c, rfl⟩ := h.val
  have hl := h.len
  go_enter Tryd.func64, Tryd.ntmps64
  go_wp2_with fail
  go_loopg [5] l.length (fun g s5 wr => ∃ (k n : Nat), k + g = l.length ∧ s5 = .int .i64 (k : Int) ∧ Hid (∀ m, m < k → listOkAt many l m = true) ∧ wr = w.drewN n)
  case atStart => exact ⟨0, 0, by omega, rfl, fun m h => by omega, rfl⟩
  case round =>
    obtain ⟨k, n, hkg, rfl, hall, rfl⟩ := hrel
    by_cases hk : k < l.length
    · obtain ⟨b, o, rfl, _, hc⟩ := h.col k hk
      have hno := Lib.hid (fun e => (listOk_no (many := many) hk e).symm)
      have hatp := Lib.hid (fun e => at_place (many := many) hk e)
      cases k with
      | zero =>
        have hz := Lib.hid (fun e => at_zero (many := many) hk e)
        rw [Nat.add_zero] at hc
        obtain ⟨x, hx⟩ : ∃ x, l[0] = x := ⟨_, rfl⟩
        rw [hx] at hc hatp hz
        clear hx
        by_cases h1 : x < 0
        · have hd1 : decide (x < 0) = true := decide_eq_true h1
          have Hf : Hid (false = listOk many l) := hno.out (hatp.out (by simp [placeB]; omega))
          go_wp2_with fail
          go_quiet (fail)
          go_wp2_with fail
          go_ret
          exact ⟨ret_bool Hf.out, drewN2 _ _ _⟩
        · have hd1 : decide (x < 0) = false := decide_eq_false h1
          by_cases h2 : many ≤ x
          · have hd2 : decide (many ≤ x) = true := decide_eq_true h2
            have Hf : Hid (false = listOk many l) := hno.out (hatp.out (by simp [placeB]; omega))
            go_wp2_with fail
            go_quiet (fail)
            go_wp2_with fail
            go_ret
            exact ⟨ret_bool Hf.out, drewN2 _ _ _⟩
          · have hd2 : decide (many ≤ x) = false := decide_eq_false h2
            have Hn : Hid (∀ m, m < 1 → listOkAt many l m = true) := fun m hm => by
              obtain rfl : m = 0 := by omega
              exact hz.out (by simp [placeB]; omega)
            go_wp2_with fail
            go_quiet (fail)
            go_wp2_with fail
            go_roundg (gk - 1)
            case measure => omega
            case rel => exact ⟨1, _, by omega, by go_num, Hn, rfl⟩
      | succ j =>
        obtain ⟨b2, o2, hb2, _, hc2⟩ := h.col j (by omega)
        cases hb2
        have hz := Lib.hid (fun e e2 => at_succ (many := many) hk e e2)
        have hdn := Lib.hid (fun e => at_down (many := many) hk e)
        obtain ⟨x, hx⟩ : ∃ x, l[j + 1] = x := ⟨_, rfl⟩
        obtain ⟨y, hy⟩ : ∃ y, l[j] = y := ⟨_, rfl⟩
        rw [hx] at hc hatp
        rw [hy] at hc2
        rw [hx, hy] at hz hdn
        clear hx hy
        have hk0 : (0 : Int) < ((j + 1 : Nat) : Int) := by omega
        have hdk : decide ((0 : Int) < ((j + 1 : Nat) : Int)) = true := decide_eq_true hk0
        by_cases h1 : x < 0
        · have hd1 : decide (x < 0) = true := decide_eq_true h1
          have Hf : Hid (false = listOk many l) := hno.out (hatp.out (by simp [placeB]; omega))
          go_wp2_with fail
          go_quiet (fail)
          go_wp2_with fail
          go_ret
          exact ⟨ret_bool Hf.out, drewN2 _ _ _⟩
        · have hd1 : decide (x < 0) = false := decide_eq_false h1
          by_cases h2 : many ≤ x
          · have hd2 : decide (many ≤ x) = true := decide_eq_true h2
            have Hf : Hid (false = listOk many l) := hno.out (hatp.out (by simp [placeB]; omega))
            go_wp2_with fail
            go_quiet (fail)
            go_wp2_with fail
            go_ret
            exact ⟨ret_bool Hf.out, drewN2 _ _ _⟩
          · have hd2 : decide (many ≤ x) = false := decide_eq_false h2
            by_cases h3 : x ≤ y
            · have hd3 : decide (x ≤ y) = true := decide_eq_true h3
              have Hf : Hid (false = listOk many l) := hno.out (hdn.out h3)
              go_wp2_with fail
              go_quiet (fail)
              go_wp2_with fail
              go_ret
              exact ⟨ret_bool Hf.out, drewN2 _ _ _⟩
            · have hd3 : decide (x ≤ y) = false := decide_eq_false h3
              have Hn : Hid (∀ m, m < j + 2 → listOkAt many l m = true) := fun m hm => by
                by_cases e : m < j + 1
                · exact hall.out m e
                · obtain rfl : m = j + 1 := by omega
                  exact hz.out (by simp [placeB]; omega) (by omega)
              go_wp2_with fail
              go_quiet (fail)
              go_wp2_with fail
              go_roundg (gk - 1)
              case measure => omega
              case rel => exact ⟨j + 2, _, by omega, by go_num, Hn, rfl⟩
    · have hk' : ¬ ((k : Int) < (l.length : Int)) := by omega
      have Hf : Hid (true = listOk many l) := (listOk_of fun m hm => hall.out m (by omega)).symm
      go_wp2_with fail
      go_ret
      exact ⟨ret_bool Hf.out, _, rfl⟩

theorem reflist_is {t : Bool} (w : World) (B : Nat) (v : Value) (l : List Int) (many : Int) (h : Ints w B v l) (ht : listOk many l = t) :
    Calls Tryd.prog 64 #[v, .int .i64 many] w fun e w' => e = .returned (.bool t) ∧ ∃ n, w' = w.drewN n := by
  rw [← ht]; exact reflist_any w B v l many h

end Go.Proofs.YtapnkkoplnhleaaDoor
