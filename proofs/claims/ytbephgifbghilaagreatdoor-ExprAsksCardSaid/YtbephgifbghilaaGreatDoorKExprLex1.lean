/- Of ExprLex1: what XFAs uses (shake.py). -/
import Derived.Test.YtbephgifbghilaaGreatDoorKExprParseP
import Derived.Test.YtbephgifbghilaaGreatDoorKBase
/- expr.digit, letter, inName (seat expr). -/
set_option maxRecDepth 100000
namespace Go.Proofs.YtbephgifbghilaaGreatDoor
open Go.RowKit
theorem edigit_any (w : World) (x : Nat) (hx : x < 256) : Calls Tryz.prog 71 #[.int .u8 (x : Int)] w fun e w' => e = .returned (.bool (digE x)) ∧ w = w' := by
  by_cases h1 : 48 ≤ x
  · have e1 : decide ((48 : Int) ≤ (x : Int)) = true := decide_eq_true (by omega)
    have e1' : decide (48 ≤ x) = true := decide_eq_true h1
    have hf : Hid (decide (x ≤ 57) = digE x) := by refine Lib.hid ?_; unfold digE; rw [decide_eq_true h1]; rfl
    have hf2 : Hid (decide ((x : Int) ≤ 57) = digE x) := by refine Lib.hid ?_; rw [← hf.out]; exact decide_eq_decide.2 (by omega)
    clear h1
    go_enter Tryz.func71, Tryz.ntmps71
    go_wp2_with fail
    go_ret
    exact ⟨ret_bool (by first | exact hf.out | exact hf2.out), rfl⟩
  · have e1 : decide ((48 : Int) ≤ (x : Int)) = false := decide_eq_false (by omega)
    have e1' : decide (48 ≤ x) = false := decide_eq_false h1
    have hf : Hid (false = digE x) := by refine Lib.hid ?_; unfold digE; rw [decide_eq_false h1]; rfl
    clear h1
    go_enter Tryz.func71, Tryz.ntmps71
    go_wp2_with fail
    go_ret
    exact ⟨ret_bool hf.out, rfl⟩
theorem let_fin : ∀ x : Fin 256, (decide ((97 : Int) ≤ bits BinOp.or .u8 (x.val : Int) 32) && decide (bits BinOp.or .u8 (x.val : Int) 32 ≤ 122)) = letE x.val := by decide +kernel
theorem eletter_any (w : World) (x : Nat) (hx : x < 256) : Calls Tryz.prog 74 #[.int .u8 (x : Int)] w fun e w' => e = .returned (.bool (letE x)) ∧ w = w' := by
  have hf := let_fin ⟨x, hx⟩
  simp only at hf
  have HF := Lib.hid hf
  clear hf
  by_cases h1 : (97 : Int) ≤ bits BinOp.or .u8 (x : Int) 32
  · have e1 : decide ((97 : Int) ≤ bits BinOp.or .u8 (x : Int) 32) = true := decide_eq_true h1
    go_enter Tryz.func74, Tryz.ntmps74
    go_wp2_with fail
    go_ret
    refine ⟨ret_bool ?_, rfl⟩
    rw [← HF.out, e1]
    rfl
  · have e1 : decide ((97 : Int) ≤ bits BinOp.or .u8 (x : Int) 32) = false := decide_eq_false h1
    go_enter Tryz.func74, Tryz.ntmps74
    go_wp2_with fail
    go_ret
    refine ⟨ret_bool ?_, rfl⟩
    rw [← HF.out, e1]
    rfl
theorem einName_any (w : World) (x : Nat) (hx : x < 256) : Calls Tryz.prog 75 #[.int .u8 (x : Int)] w fun e w' => e = .returned (.bool (inNm x)) ∧ w = w' := by
  have HL := Lib.hid (eletter_any w x hx)
  have HD := Lib.hid (edigit_any w x hx)
  have hf : Hid (inNm x = (letE x || digE x || x == 45 || x == 95 || x == 46)) := Lib.hid rfl
  have i1 : ((x : Int) == 45) = (x == 45) := Bool.eq_iff_iff.2 ⟨fun h => beq_iff_eq.2 (by have := beq_iff_eq.1 h; omega), fun h => beq_iff_eq.2 (by have := beq_iff_eq.1 h; omega)⟩
  have i2 : ((x : Int) == 95) = (x == 95) := Bool.eq_iff_iff.2 ⟨fun h => beq_iff_eq.2 (by have := beq_iff_eq.1 h; omega), fun h => beq_iff_eq.2 (by have := beq_iff_eq.1 h; omega)⟩
  have i3 : ((x : Int) == 46) = (x == 46) := Bool.eq_iff_iff.2 ⟨fun h => beq_iff_eq.2 (by have := beq_iff_eq.1 h; omega), fun h => beq_iff_eq.2 (by have := beq_iff_eq.1 h; omega)⟩
  obtain ⟨b1, h1⟩ : ∃ b, letE x = b := ⟨_, rfl⟩
  obtain ⟨b2, h2⟩ : ∃ b, digE x = b := ⟨_, rfl⟩
  obtain ⟨b3, h3⟩ : ∃ b, (x == 45) = b := ⟨_, rfl⟩
  obtain ⟨b4, h4⟩ : ∃ b, (x == 95) = b := ⟨_, rfl⟩
  obtain ⟨b5, h5⟩ : ∃ b, (x == 46) = b := ⟨_, rfl⟩
  rw [h1] at HL
  rw [h2] at HD
  rw [h1, h2, h3, h4, h5] at hf
  rw [h3] at i1
  rw [h4] at i2
  rw [h5] at i3
  clear h1 h2
  have hor : b1 = true ∨ (b1 = false ∧ b2 = true) ∨ (b1 = false ∧ b2 = false ∧ b3 = true) ∨ (b1 = false ∧ b2 = false ∧ b3 = false ∧ b4 = true) ∨ (b1 = false ∧ b2 = false ∧ b3 = false ∧ b4 = false ∧ b5 = true) ∨ (b1 = false ∧ b2 = false ∧ b3 = false ∧ b4 = false ∧ b5 = false) := by
    cases b1 <;> cases b2 <;> cases b3 <;> cases b4 <;> cases b5 <;> simp
  rcases hor with rfl | ⟨rfl, rfl⟩ | ⟨rfl, rfl, rfl⟩ | ⟨rfl, rfl, rfl, rfl⟩ | ⟨rfl, rfl, rfl, rfl, rfl⟩ | ⟨rfl, rfl, rfl, rfl, rfl⟩
  all_goals
    go_enter Tryz.func75, Tryz.ntmps75
    go_wp2_with (first
      | (go_at_call 74; refine HL.out.mono ?_; rintro e w2 ⟨rfl, rfl⟩)
      | (go_at_call 71; refine HD.out.mono ?_; rintro e w2 ⟨rfl, rfl⟩))
    go_ret
    refine ⟨ret_bool ?_, rfl⟩
    rw [hf.out]
    simp
end Go.Proofs.YtbephgifbghilaaGreatDoor
