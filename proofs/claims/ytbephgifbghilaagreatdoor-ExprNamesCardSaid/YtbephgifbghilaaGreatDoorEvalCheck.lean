/- expr.Check. -/
import Derived.Test.YtbephgifbghilaaGreatDoorEvalReck7
import Derived.Test.YtbephgifbghilaaGreatDoorShelf
set_option maxRecDepth 100000
namespace Go.Proofs.YtbephgifbghilaaGreatDoor
open Go.RowKit

theorem kids_any (w : World) (op : Int) : Calls Tryz.prog 46 #[.int .u8 op] w fun e w' => e = .returned (.int .i64 (kidsN op)) ∧ w = w' := by
  by_cases h1 : op < 1
  · have d1 : decide (op < 1) = true := decide_eq_true h1
    rw [show kidsN op = -1 by unfold kidsN; rw [if_pos (Or.inl h1)]]
    go_enter Tryz.func46, Tryz.ntmps46
    go_wp2_with fail
    go_ret
    exact ⟨rfl, rfl⟩
  · have d1 : decide (op < 1) = false := decide_eq_false h1
    by_cases h2 : 17 < op
    · have d2 : decide (17 < op) = true := decide_eq_true h2
      rw [show kidsN op = -1 by unfold kidsN; rw [if_pos (Or.inr h2)]]
      go_enter Tryz.func46, Tryz.ntmps46
      go_wp2_with fail
      go_ret
      exact ⟨rfl, rfl⟩
    · have d2 : decide (17 < op) = false := decide_eq_false h2
      have h12 : ¬ (op < 1 ∨ 17 < op) := by omega
      by_cases h3 : op ≤ 2
      · have d3 : decide (op ≤ 2) = true := decide_eq_true h3
        rw [show kidsN op = 0 by unfold kidsN; rw [if_neg h12, if_pos h3]]
        clear h12
        go_enter Tryz.func46, Tryz.ntmps46
        go_wp2_with fail
        go_ret
        exact ⟨rfl, rfl⟩
      · have d3 : decide (op ≤ 2) = false := decide_eq_false h3
        by_cases h4 : op ≤ 4
        · have d4 : decide (op ≤ 4) = true := decide_eq_true h4
          rw [show kidsN op = 1 by unfold kidsN; rw [if_neg h12, if_neg h3, if_pos h4]]
          clear h12
          go_enter Tryz.func46, Tryz.ntmps46
          go_wp2_with fail
          go_ret
          exact ⟨rfl, rfl⟩
        · have d4 : decide (op ≤ 4) = false := decide_eq_false h4
          rw [show kidsN op = 2 by unfold kidsN; rw [if_neg h12, if_neg h3, if_neg h4]]
          clear h12
          go_enter Tryz.func46, Tryz.ntmps46
          go_wp2_with fail
          go_ret
          exact ⟨rfl, rfl⟩

def keyZ : List ByteArray := [⟨#[97, 110, 100]⟩, ⟨#[111, 114]⟩, ⟨#[110, 111, 116]⟩, ⟨#[116, 114, 117, 101]⟩, ⟨#[102, 97, 108, 115, 101]⟩]
theorem keyZ_is (s : ByteArray) : Lib.containsS keyZ s = keyWord s := by
  rw [Bool.eq_iff_iff, Lib.containsS_iff]
  unfold keyWord
  rw [List.contains_iff_mem]
  have hb : ∀ (a : ByteArray) (b : Array UInt8), a = ⟨b⟩ ↔ a.data.toList = b.toList := fun a b => ⟨fun h => by rw [h], fun h => by cases a; exact congrArg ByteArray.mk (Array.ext' h)⟩
  simp only [keyZ, keyL, List.mem_cons, List.not_mem_nil, or_false, hb]
theorem keyword_any (w : World) (s : ByteArray) : Calls Tryz.prog 49 #[.string s] w fun e w' => e = .returned (.bool (keyWord s)) ∧ Below w.heap.size w w' := by
  obtain ⟨w1, p0, hp0, hw1, l1, n1, b1⟩ := box_new w (.cells #[.string ⟨#[97, 110, 100]⟩, .string ⟨#[111, 114]⟩, .string ⟨#[110, 111, 116]⟩, .string ⟨#[116, 114, 117, 101]⟩, .string ⟨#[102, 97, 108, 115, 101]⟩] 9)
  have hc := Tryz.slices_Contains_string p0 0 5 5 keyZ s w1 (by decide) (by decide) (by
    intro j hj
    rw [cell_of_block n1, Nat.zero_add]
    have : j = 0 ∨ j = 1 ∨ j = 2 ∨ j = 3 ∨ j = 4 := by simp [keyZ] at hj; omega
    rcases this with rfl | rfl | rfl | rfl | rfl <;> rfl)
  rw [show keyZ.take 5 = keyZ from rfl, keyZ_is] at hc
  have HC := Lib.hid hc
  have HB := Lib.hid b1
  obtain ⟨r, hr⟩ : ∃ r, keyWord s = r := ⟨_, rfl⟩
  rw [hr] at HC ⊢
  clear hc b1 n1 hr
  go_enter Tryz.func49, Tryz.ntmps49
  go_wp2_with (go_at_call 84; refine HC.out.mono ?_; rintro e w2 ⟨rfl, rfl⟩; refine Hid.out ?_)
  refine Lib.hid ?_
  go_wp2_with fail
  go_ret
  exact ⟨rfl, by first | exact HB.out | (rw [hp0]; exact HB.out)⟩
end Go.Proofs.YtbephgifbghilaaGreatDoor
