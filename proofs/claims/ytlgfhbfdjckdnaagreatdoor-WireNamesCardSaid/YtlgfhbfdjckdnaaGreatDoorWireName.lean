/- wire.name; the predicates of name, length and read (printed by gen_wirename.py; seat wire). -/
import Derived.Test.YtlgfhbfdjckdnaaGreatDoorWireFirst
set_option maxRecDepth 100000
namespace Go.Proofs.YtlgfhbfdjckdnaaGreatDoor
open Go.RowKit

set_option maxHeartbeats 1000000 in
theorem nm1_any (W : World) (x : Nat) (hx : x < 256) : Calls Tryz.prog 86 (#[.int .u8 (x : Int)] ++ #[]) W fun e w' => e = .returned (.bool (nmC x)) ∧ W = w' := by
  have hc : (0 ≤ x ∧ x ≤ 44) ∨ (45 ≤ x ∧ x ≤ 45) ∨ (46 ≤ x ∧ x ≤ 47) ∨ (48 ≤ x ∧ x ≤ 57) ∨ (58 ≤ x ∧ x ≤ 64) ∨ (65 ≤ x ∧ x ≤ 90) ∨ (91 ≤ x ∧ x ≤ 96) ∨ (97 ≤ x ∧ x ≤ 122) ∨ (123 ≤ x ∧ x ≤ 255) := by omega
  rcases hc with ⟨h1, h2⟩ | ⟨h1, h2⟩ | ⟨h1, h2⟩ | ⟨h1, h2⟩ | ⟨h1, h2⟩ | ⟨h1, h2⟩ | ⟨h1, h2⟩ | ⟨h1, h2⟩ | ⟨h1, h2⟩
  · have e0 : decide ((97 : Int) ≤ (x : Int)) = false := decide_eq_false (by omega)
    have e1 : decide ((x : Int) ≤ 122) = true := decide_eq_true (by omega)
    have e2 : decide ((65 : Int) ≤ (x : Int)) = false := decide_eq_false (by omega)
    have e3 : decide ((x : Int) ≤ 90) = true := decide_eq_true (by omega)
    have e4 : decide ((48 : Int) ≤ (x : Int)) = false := decide_eq_false (by omega)
    have e5 : decide ((x : Int) ≤ 57) = true := decide_eq_true (by omega)
    have e6 : ((x : Int) == 45) = false := beq_eq_false_iff_ne.2 (by omega)
    have hf : Hid (false = nmC x) := by refine Lib.hid ?_; unfold nmC; simp; omega
    clear h1 h2
    go_enter Tryz.func86, Tryz.ntmps86
    go_wp2_with fail
    go_ret
    exact ⟨ret_bool hf.out, rfl⟩
  · have e0 : decide ((97 : Int) ≤ (x : Int)) = false := decide_eq_false (by omega)
    have e1 : decide ((x : Int) ≤ 122) = true := decide_eq_true (by omega)
    have e2 : decide ((65 : Int) ≤ (x : Int)) = false := decide_eq_false (by omega)
    have e3 : decide ((x : Int) ≤ 90) = true := decide_eq_true (by omega)
    have e4 : decide ((48 : Int) ≤ (x : Int)) = false := decide_eq_false (by omega)
    have e5 : decide ((x : Int) ≤ 57) = true := decide_eq_true (by omega)
    have e6 : ((x : Int) == 45) = true := beq_iff_eq.2 (by omega)
    have hf : Hid (true = nmC x) := by refine Lib.hid ?_; unfold nmC; simp; omega
    clear h1 h2
    go_enter Tryz.func86, Tryz.ntmps86
    go_wp2_with fail
    go_ret
    exact ⟨ret_bool hf.out, rfl⟩
  · have e0 : decide ((97 : Int) ≤ (x : Int)) = false := decide_eq_false (by omega)
    have e1 : decide ((x : Int) ≤ 122) = true := decide_eq_true (by omega)
    have e2 : decide ((65 : Int) ≤ (x : Int)) = false := decide_eq_false (by omega)
    have e3 : decide ((x : Int) ≤ 90) = true := decide_eq_true (by omega)
    have e4 : decide ((48 : Int) ≤ (x : Int)) = false := decide_eq_false (by omega)
    have e5 : decide ((x : Int) ≤ 57) = true := decide_eq_true (by omega)
    have e6 : ((x : Int) == 45) = false := beq_eq_false_iff_ne.2 (by omega)
    have hf : Hid (false = nmC x) := by refine Lib.hid ?_; unfold nmC; simp; omega
    clear h1 h2
    go_enter Tryz.func86, Tryz.ntmps86
    go_wp2_with fail
    go_ret
    exact ⟨ret_bool hf.out, rfl⟩
  · have e0 : decide ((97 : Int) ≤ (x : Int)) = false := decide_eq_false (by omega)
    have e1 : decide ((x : Int) ≤ 122) = true := decide_eq_true (by omega)
    have e2 : decide ((65 : Int) ≤ (x : Int)) = false := decide_eq_false (by omega)
    have e3 : decide ((x : Int) ≤ 90) = true := decide_eq_true (by omega)
    have e4 : decide ((48 : Int) ≤ (x : Int)) = true := decide_eq_true (by omega)
    have e5 : decide ((x : Int) ≤ 57) = true := decide_eq_true (by omega)
    have e6 : ((x : Int) == 45) = false := beq_eq_false_iff_ne.2 (by omega)
    have hf : Hid (true = nmC x) := by refine Lib.hid ?_; unfold nmC; simp; omega
    clear h1 h2
    go_enter Tryz.func86, Tryz.ntmps86
    go_wp2_with fail
    go_ret
    exact ⟨ret_bool hf.out, rfl⟩
  · have e0 : decide ((97 : Int) ≤ (x : Int)) = false := decide_eq_false (by omega)
    have e1 : decide ((x : Int) ≤ 122) = true := decide_eq_true (by omega)
    have e2 : decide ((65 : Int) ≤ (x : Int)) = false := decide_eq_false (by omega)
    have e3 : decide ((x : Int) ≤ 90) = true := decide_eq_true (by omega)
    have e4 : decide ((48 : Int) ≤ (x : Int)) = true := decide_eq_true (by omega)
    have e5 : decide ((x : Int) ≤ 57) = false := decide_eq_false (by omega)
    have e6 : ((x : Int) == 45) = false := beq_eq_false_iff_ne.2 (by omega)
    have hf : Hid (false = nmC x) := by refine Lib.hid ?_; unfold nmC; simp; omega
    clear h1 h2
    go_enter Tryz.func86, Tryz.ntmps86
    go_wp2_with fail
    go_ret
    exact ⟨ret_bool hf.out, rfl⟩
  · have e0 : decide ((97 : Int) ≤ (x : Int)) = false := decide_eq_false (by omega)
    have e1 : decide ((x : Int) ≤ 122) = true := decide_eq_true (by omega)
    have e2 : decide ((65 : Int) ≤ (x : Int)) = true := decide_eq_true (by omega)
    have e3 : decide ((x : Int) ≤ 90) = true := decide_eq_true (by omega)
    have e4 : decide ((48 : Int) ≤ (x : Int)) = true := decide_eq_true (by omega)
    have e5 : decide ((x : Int) ≤ 57) = false := decide_eq_false (by omega)
    have e6 : ((x : Int) == 45) = false := beq_eq_false_iff_ne.2 (by omega)
    have hf : Hid (true = nmC x) := by refine Lib.hid ?_; unfold nmC; simp; omega
    clear h1 h2
    go_enter Tryz.func86, Tryz.ntmps86
    go_wp2_with fail
    go_ret
    exact ⟨ret_bool hf.out, rfl⟩
  · have e0 : decide ((97 : Int) ≤ (x : Int)) = false := decide_eq_false (by omega)
    have e1 : decide ((x : Int) ≤ 122) = true := decide_eq_true (by omega)
    have e2 : decide ((65 : Int) ≤ (x : Int)) = true := decide_eq_true (by omega)
    have e3 : decide ((x : Int) ≤ 90) = false := decide_eq_false (by omega)
    have e4 : decide ((48 : Int) ≤ (x : Int)) = true := decide_eq_true (by omega)
    have e5 : decide ((x : Int) ≤ 57) = false := decide_eq_false (by omega)
    have e6 : ((x : Int) == 45) = false := beq_eq_false_iff_ne.2 (by omega)
    have hf : Hid (false = nmC x) := by refine Lib.hid ?_; unfold nmC; simp; omega
    clear h1 h2
    go_enter Tryz.func86, Tryz.ntmps86
    go_wp2_with fail
    go_ret
    exact ⟨ret_bool hf.out, rfl⟩
  · have e0 : decide ((97 : Int) ≤ (x : Int)) = true := decide_eq_true (by omega)
    have e1 : decide ((x : Int) ≤ 122) = true := decide_eq_true (by omega)
    have e2 : decide ((65 : Int) ≤ (x : Int)) = true := decide_eq_true (by omega)
    have e3 : decide ((x : Int) ≤ 90) = false := decide_eq_false (by omega)
    have e4 : decide ((48 : Int) ≤ (x : Int)) = true := decide_eq_true (by omega)
    have e5 : decide ((x : Int) ≤ 57) = false := decide_eq_false (by omega)
    have e6 : ((x : Int) == 45) = false := beq_eq_false_iff_ne.2 (by omega)
    have hf : Hid (true = nmC x) := by refine Lib.hid ?_; unfold nmC; simp; omega
    clear h1 h2
    go_enter Tryz.func86, Tryz.ntmps86
    go_wp2_with fail
    go_ret
    exact ⟨ret_bool hf.out, rfl⟩
  · have e0 : decide ((97 : Int) ≤ (x : Int)) = true := decide_eq_true (by omega)
    have e1 : decide ((x : Int) ≤ 122) = false := decide_eq_false (by omega)
    have e2 : decide ((65 : Int) ≤ (x : Int)) = true := decide_eq_true (by omega)
    have e3 : decide ((x : Int) ≤ 90) = false := decide_eq_false (by omega)
    have e4 : decide ((48 : Int) ≤ (x : Int)) = true := decide_eq_true (by omega)
    have e5 : decide ((x : Int) ≤ 57) = false := decide_eq_false (by omega)
    have e6 : ((x : Int) == 45) = false := beq_eq_false_iff_ne.2 (by omega)
    have hf : Hid (false = nmC x) := by refine Lib.hid ?_; unfold nmC; simp; omega
    clear h1 h2
    go_enter Tryz.func86, Tryz.ntmps86
    go_wp2_with fail
    go_ret
    exact ⟨ret_bool hf.out, rfl⟩
theorem eg_nm1_any : ∀ args (w : World), (callFunc 86 args).run Tryz.prog w = .ok (.enter 86 args) w := enters_of Tryz.func86 (by kernel_rfl) rfl

set_option maxHeartbeats 1000000 in
theorem rd1_any (W : World) (x : Nat) (hx : x < 256) : Calls Tryz.prog 52 (#[.int .u8 (x : Int)] ++ #[]) W fun e w' => e = .returned (.bool (okC x)) ∧ W = w' := by
  have hc : (0 ≤ x ∧ x ≤ 8) ∨ (9 ≤ x ∧ x ≤ 9) ∨ (10 ≤ x ∧ x ≤ 31) ∨ (32 ≤ x ∧ x ≤ 126) ∨ (127 ≤ x ∧ x ≤ 255) := by omega
  rcases hc with ⟨h1, h2⟩ | ⟨h1, h2⟩ | ⟨h1, h2⟩ | ⟨h1, h2⟩ | ⟨h1, h2⟩
  · have e0 : decide ((32 : Int) ≤ (x : Int)) = false := decide_eq_false (by omega)
    have e1 : decide ((x : Int) < 127) = true := decide_eq_true (by omega)
    have e2 : ((x : Int) == 9) = false := beq_eq_false_iff_ne.2 (by omega)
    have hf : Hid (false = okC x) := by refine Lib.hid ?_; unfold okC; simp; omega
    clear h1 h2
    go_enter Tryz.func52, Tryz.ntmps52
    go_wp2_with fail
    go_ret
    exact ⟨ret_bool hf.out, rfl⟩
  · have e0 : decide ((32 : Int) ≤ (x : Int)) = false := decide_eq_false (by omega)
    have e1 : decide ((x : Int) < 127) = true := decide_eq_true (by omega)
    have e2 : ((x : Int) == 9) = true := beq_iff_eq.2 (by omega)
    have hf : Hid (true = okC x) := by refine Lib.hid ?_; unfold okC; simp; omega
    clear h1 h2
    go_enter Tryz.func52, Tryz.ntmps52
    go_wp2_with fail
    go_ret
    exact ⟨ret_bool hf.out, rfl⟩
  · have e0 : decide ((32 : Int) ≤ (x : Int)) = false := decide_eq_false (by omega)
    have e1 : decide ((x : Int) < 127) = true := decide_eq_true (by omega)
    have e2 : ((x : Int) == 9) = false := beq_eq_false_iff_ne.2 (by omega)
    have hf : Hid (false = okC x) := by refine Lib.hid ?_; unfold okC; simp; omega
    clear h1 h2
    go_enter Tryz.func52, Tryz.ntmps52
    go_wp2_with fail
    go_ret
    exact ⟨ret_bool hf.out, rfl⟩
  · have e0 : decide ((32 : Int) ≤ (x : Int)) = true := decide_eq_true (by omega)
    have e1 : decide ((x : Int) < 127) = true := decide_eq_true (by omega)
    have e2 : ((x : Int) == 9) = false := beq_eq_false_iff_ne.2 (by omega)
    have hf : Hid (true = okC x) := by refine Lib.hid ?_; unfold okC; simp; omega
    clear h1 h2
    go_enter Tryz.func52, Tryz.ntmps52
    go_wp2_with fail
    go_ret
    exact ⟨ret_bool hf.out, rfl⟩
  · have e0 : decide ((32 : Int) ≤ (x : Int)) = true := decide_eq_true (by omega)
    have e1 : decide ((x : Int) < 127) = false := decide_eq_false (by omega)
    have e2 : ((x : Int) == 9) = false := beq_eq_false_iff_ne.2 (by omega)
    have hf : Hid (false = okC x) := by refine Lib.hid ?_; unfold okC; simp; omega
    clear h1 h2
    go_enter Tryz.func52, Tryz.ntmps52
    go_wp2_with fail
    go_ret
    exact ⟨ret_bool hf.out, rfl⟩
theorem eg_rd1_any : ∀ args (w : World), (callFunc 52 args).run Tryz.prog w = .ok (.enter 52 args) w := enters_of Tryz.func52 (by kernel_rfl) rfl

set_option maxHeartbeats 1000000 in
theorem lg1_any (W : World) (x : Nat) (hx : x < 256) : Calls Tryz.prog 100 (#[.int .u8 (x : Int)] ++ #[]) W fun e w' => e = .returned (.bool (digC x)) ∧ W = w' := by
  have hc : (0 ≤ x ∧ x ≤ 47) ∨ (48 ≤ x ∧ x ≤ 57) ∨ (58 ≤ x ∧ x ≤ 255) := by omega
  rcases hc with ⟨h1, h2⟩ | ⟨h1, h2⟩ | ⟨h1, h2⟩
  · have e0 : decide ((48 : Int) ≤ (x : Int)) = false := decide_eq_false (by omega)
    have e1 : decide ((x : Int) ≤ 57) = true := decide_eq_true (by omega)
    have hf : Hid (false = digC x) := by refine Lib.hid ?_; unfold digC; simp; omega
    clear h1 h2
    go_enter Tryz.func100, Tryz.ntmps100
    go_wp2_with fail
    go_ret
    exact ⟨ret_bool hf.out, rfl⟩
  · have e0 : decide ((48 : Int) ≤ (x : Int)) = true := decide_eq_true (by omega)
    have e1 : decide ((x : Int) ≤ 57) = true := decide_eq_true (by omega)
    have hf : Hid (true = digC x) := by refine Lib.hid ?_; unfold digC; simp; omega
    clear h1 h2
    go_enter Tryz.func100, Tryz.ntmps100
    go_wp2_with fail
    go_ret
    exact ⟨ret_bool hf.out, rfl⟩
  · have e0 : decide ((48 : Int) ≤ (x : Int)) = true := decide_eq_true (by omega)
    have e1 : decide ((x : Int) ≤ 57) = false := decide_eq_false (by omega)
    have hf : Hid (false = digC x) := by refine Lib.hid ?_; unfold digC; simp; omega
    clear h1 h2
    go_enter Tryz.func100, Tryz.ntmps100
    go_wp2_with fail
    go_ret
    exact ⟨ret_bool hf.out, rfl⟩
theorem eg_lg1_any : ∀ args (w : World), (callFunc 100 args).run Tryz.prog w = .ok (.enter 100 args) w := enters_of Tryz.func100 (by kernel_rfl) rfl

theorem name_any (w : World) (s : ByteArray) (hs : s.size ≤ 140737488355328) : Calls Tryz.prog 72 #[.string s] w fun e w' => e = .returned (.bool (decide (s.data.toList ≠ []) && allL nmC s.data.toList)) ∧ w = w' := by
  have HA := Lib.hid (wall_any w s hs _ nmC eg_nm1_any nm1_any)
  by_cases h0 : s.size = 0
  · have e1 : s.toList.isEmpty = true := by rw [isEmpty_size, decide_eq_true h0]
    have hf : Hid (false = (decide (s.data.toList ≠ []) && allL nmC s.data.toList)) := by
      refine Lib.hid ?_
      have : s.data.toList = [] := List.eq_nil_of_length_eq_zero (by simpa using h0)
      rw [this]; rfl
    clear h0
    go_enter Tryz.func72, Tryz.ntmps72
    go_wp2_with (go_at_call 38; refine HA.out.mono ?_; rintro e w7 ⟨rfl, rfl⟩)
    go_ret
    exact ⟨ret_bool hf.out, rfl⟩
  · have e1 : s.toList.isEmpty = false := by rw [isEmpty_size, decide_eq_false h0]
    have hf : Hid (allB nmC s = (decide (s.data.toList ≠ []) && allL nmC s.data.toList)) := by
      refine Lib.hid ?_
      have : s.data.toList ≠ [] := fun e => h0 (by have := congrArg List.length e; simpa using this)
      rw [decide_eq_true this, allB_list]; rfl
    clear h0
    go_enter Tryz.func72, Tryz.ntmps72
    go_wp2_with (go_at_call 38; refine HA.out.mono ?_; rintro e w7 ⟨rfl, rfl⟩)
    go_ret
    exact ⟨ret_bool hf.out, rfl⟩
end Go.Proofs.YtlgfhbfdjckdnaaGreatDoor
