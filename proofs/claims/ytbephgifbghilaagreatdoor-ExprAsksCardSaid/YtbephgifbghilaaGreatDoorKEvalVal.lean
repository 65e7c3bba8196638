/- Of EvalVal: what XFAs uses (shake.py). -/
import Derived.Test.YtbephgifbghilaaGreatDoorKEvalMem
/- package value: Number, Truth, Words, Same. -/
set_option maxRecDepth 100000
namespace Go.Proofs.YtbephgifbghilaaGreatDoor
open Go.RowKit
theorem number_any (w : World) (n : Int) : Calls Tryz.prog 25 #[.int .i64 n] w fun e w' => e = .returned (valV (numV n)) ∧ Below w.heap.size w w' := by
  have HB := Lib.hid (show ∀ o, Below w.heap.size w (w.alloc o) from fun o => (Below.refl _ _).alloc (Nat.le_refl _) o)
  go_enter Tryz.func25, Tryz.ntmps25
  go_wp2_with fail
  exact bodyPost_ret (v := valV (numV n)) (by simp [results, Tryz.results25, go_sem, numV]) rfl ⟨rfl, HB.out _⟩
theorem truthV_any (w : World) (b : Bool) : Calls Tryz.prog 54 #[.bool b] w fun e w' => e = .returned (valV (trV b)) ∧ Below w.heap.size w w' := by
  have HB := Lib.hid (show ∀ o, Below w.heap.size w (w.alloc o) from fun o => (Below.refl _ _).alloc (Nat.le_refl _) o)
  go_enter Tryz.func54, Tryz.ntmps54
  go_wp2_with fail
  exact bodyPost_ret (v := valV (trV b)) (by simp [results, Tryz.results54, go_sem, trV]) rfl ⟨rfl, HB.out _⟩
theorem words_any (w : World) (s : ByteArray) : Calls Tryz.prog 20 #[.string s] w fun e w' => e = .returned (valV (txV s)) ∧ Below w.heap.size w w' := by
  have HB := Lib.hid (show ∀ o, Below w.heap.size w (w.alloc o) from fun o => (Below.refl _ _).alloc (Nat.le_refl _) o)
  go_enter Tryz.func20, Tryz.ntmps20
  go_wp2_with fail
  exact bodyPost_ret (v := valV (txV s)) (by simp [results, Tryz.results20, go_sem, txV]) rfl ⟨rfl, HB.out _⟩
/-- What '==' makes of two values. -/
theorem run_eql_val (w : World) (a b : Vl) : (binOp .eql 26 (valV a) (valV b)).run Tryz.prog w = .ok (.bool (vlEq a b)) w := by
  have h : (Op.equalIn 10000 26 (valV a) (valV b)).run Tryz.prog w = .ok (vlEq a b) w := by
    rw [show (10000 : Nat) = 9999 + 1 from rfl, run_equalIn_struct w 9999 26 _ _ (by kernel_rfl) (by kernel_rfl)]
    simp [go_sem, Op.eqFields]
    unfold vlEq
    by_cases h1 : a.kind = b.kind <;> by_cases h2 : a.num = b.num <;> by_cases h3 : a.tr = b.tr <;> by_cases h4 : a.text.toList = b.text.toList <;> simp [h1, h2, h3, h4]
  rw [run_eql_struct, h]; rfl
end Go.Proofs.YtbephgifbghilaaGreatDoor
