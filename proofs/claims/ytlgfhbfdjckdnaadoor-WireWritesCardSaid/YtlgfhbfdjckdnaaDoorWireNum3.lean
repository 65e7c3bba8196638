/- The document's Number (seat wire): of nothing, and of what is less. -/
import Derived.Test.YtlgfhbfdjckdnaaDoorWireNum2
import Derived.Laws.Bits64
set_option maxRecDepth 100000
namespace Go.Proofs.YtlgfhbfdjckdnaaDoor
open Go.RowKit

theorem rnumber_zero (w : World) : Calls Tryd.prog 17 #[.int .i64 0] w fun e w' => e = .returned (.string (numB 0)) ∧ Below w.heap.size w w' := by
  have hf : Hid (Ending.returned (Value.string (ByteArray.mk #[48])) = .returned (.string (numB 0))) := by refine Lib.hid ?_; unfold numB Lib.itoa; rw [if_neg (by omega), Int.toNat_zero, Lib.decDigits_one (by omega)]; rfl
  go_enter Tryd.func17, Tryd.ntmps17
  go_wp2_with fail
  go_ret
  exact ⟨hf.out, Below.refl _ _⟩

theorem xor_all (a : Nat) (h : a < 18446744073709551616) : 18446744073709551615 ^^^ a = 18446744073709551615 - a := by
  have e := congrArg BitVec.toNat (BitVec.allOnes_xor (x := BitVec.ofNat 64 a))
  rw [BitVec.toNat_xor, BitVec.toNat_not, BitVec.toNat_allOnes, BitVec.toNat_ofNat, Nat.mod_eq_of_lt h] at e
  exact e
theorem wrap_u64 (x : Int) : IntKind.u64.wrap x = x % 18446744073709551616 := by
  unfold IntKind.wrap
  simp [IntKind.signed, IntKind.bits]
theorem neg_u64 (n : Nat) (h0 : n ≠ 0) (h1 : (n : Int) ≤ 9223372036854775808) : IntKind.u64.wrap (1 + bits BinOp.xor IntKind.u64 IntKind.u64.max (IntKind.u64.wrap (-(n : Int)))) = (n : Int) := by
  have e1 : IntKind.u64.wrap (-(n : Int)) = ((18446744073709551616 - n : Nat) : Int) := by rw [wrap_u64]; omega
  have e2 : IntKind.u64.max = ((18446744073709551615 : Nat) : Int) := by rfl
  rw [e1, e2, bits_xor_u64_nat _ _ (by omega) (by omega), xor_all _ (by omega), wrap_u64]
  omega

set_option maxHeartbeats 2000000 in
theorem rnumber_neg (w : World) (n : Nat) (h0 : n ≠ 0) (h1 : (n : Int) ≤ 9223372036854775808) :
    Calls Tryd.prog 17 #[.int .i64 (-(n : Int))] w fun e w' => e = .returned (.string (numB (-(n : Int)))) ∧ Below w.heap.size w w' := by
  have d1 : (-(n : Int) == 0) = false := beq_eq_false_iff_ne.2 (by omega)
  have d2 : decide (-(n : Int) < 0) = true := decide_eq_true (by omega)
  have HD : Hid (digsL n ++ (ByteArray.mk #[]).data.toList = Lib.decDigits n) := by refine Lib.hid ?_; unfold digsL; rw [if_neg h0]; exact List.append_nil _
  go_enter Tryd.func17, Tryd.ntmps17
  go_wp2_with fail
  go_loopg [3, 5] n (fun g s3 s5 wr => ∃ (u : Nat) (acc : ByteArray), u = g ∧ s3 = .int .u64 (u : Int) ∧ s5 = .string acc ∧ Hid (digsL u ++ acc.data.toList = Lib.decDigits n) ∧ acc.size ≤ 100 ∧ u ≤ n ∧ Below w.heap.size w wr)
  case atStart => exact ⟨n, ⟨#[]⟩, rfl, congrArg (Value.int .u64) (neg_u64 n h0 h1), rfl, HD, by show (0 : Nat) ≤ 100; omega, Nat.le_refl _, Below.refl _ _⟩
  case round =>
    obtain ⟨u, acc, rfl, rfl, rfl, hD, hacc, hun, hbel⟩ := hrel
    by_cases hu : u = 0
    · have d3 : decide ((0 : Int) < (u : Int)) = false := decide_eq_false (by omega)
      have d3' : decide (0 < u) = false := decide_eq_false (by omega)
      have hr : Hid (Value.string (ByteArray.mk #[45] ++ acc) = .string (numB (-(n : Int)))) := by
        refine Lib.hid ?_
        have e := hD.out
        rw [hu] at e
        have e2 : (ByteArray.mk #[45] ++ acc) = numB (-(n : Int)) := by
          unfold numB Lib.itoa
          rw [if_pos (by omega), Int.natAbs_neg, Int.natAbs_natCast, ← e]
          cases acc with | mk d => exact ByteArray.ext (by simp [digsL])
        rw [e2]
      go_wp2_with fail
      go_ret
      exact ⟨congrArg Ending.returned hr.out, hbel⟩
    · have d3 : decide ((0 : Int) < (u : Int)) = true := decide_eq_true (by omega)
      have d3' : decide (0 < u) = true := decide_eq_true (by omega)
      have hconv := run_convert_bytes_arg (P := Tryd.prog) (wr.alloc (.cells #[.int .u8 (48 + (u : Int) % 10)] 5)) 55 5 Tryd.underlying55 Tryd.underlying5 wr.heap.size 0 1 1 [48 + (u : Int) % 10] rfl (fun i hi => by
        obtain rfl : i = 0 := by omega
        exact cell_one_new _ _ _ 0 _ rfl) 9 Tryd.underlying9
      have hsx0 : strOfNums [48 + (u : Int) % 10] = ⟨#[UInt8.ofNat (48 + u % 10)]⟩ := by
        unfold strOfNums
        rw [List.map_cons, List.map_nil, show (48 + (u : Int) % 10).toNat = 48 + u % 10 by omega]
      rw [hsx0] at hconv
      have HD2 : Hid (digsL (u / 10) ++ (ByteArray.mk #[UInt8.ofNat (48 + u % 10)] ++ acc).data.toList = Lib.decDigits n) := by
        refine Lib.hid ?_
        rw [← hD.out, digsL_step hu]
        simp
      obtain ⟨sx, hsx⟩ : ∃ sx, ByteArray.mk #[UInt8.ofNat (48 + u % 10)] = sx := ⟨_, rfl⟩
      rw [hsx] at hconv HD2
      have hsz : sx.size ≤ 1 := by rw [← hsx]; exact Nat.le_refl _
      have hlen : (sx ++ acc).size ≤ 100 := by
        have e := congrArg List.length HD2.out
        rw [List.length_append, Lib.decDigits_length] at e
        have h19 := nDigits_le 18 n (by simp; omega)
        have e4 : (sx ++ acc).data.toList.length = (sx ++ acc).size := rfl
        omega
      have hb := hbel.alloc hbel.size (.cells #[.int .u8 (48 + (u : Int) % 10)] 5)
      have HL := Lib.hid hlen
      clear hsx hsx0 hlen hD
      go_wp2_with fail
      go_roundg (u / 10)
      case measure => omega
      case rel => exact ⟨u / 10, sx ++ acc, rfl, by go_num, rfl, HD2, HL.out, by omega, hb⟩
end Go.Proofs.YtlgfhbfdjckdnaaDoor
