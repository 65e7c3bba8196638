/- The law's 'jobs' at rows of jobs that are the same. -/
import Derived.Test.YtggnheekkbideaaJobTellP
import Derived.Test.YtggnheekkbideaaJobTwin2
import Derived.Laws.StructEq
set_option maxRecDepth 100000
namespace Go.Proofs.Ytggnheekkbideaa
open Go.RowKit

/-- Jobs that may be read. -/
abbrev JbR (w : World) (B : Nat) (v : Value) (A : List Jb) : Prop := SlF cellJ 7 1048576 w B v A
theorem jbR_at {w : World} {B b o n cap : Nat} {l : List Jb} (h : JbR w B (.slice (some ⟨b, o, none⟩) n cap) l) {i : Nat} (hi : i < l.length) {x : Jb} (hx : l[i] = x) :
    w.cell? ⟨b, o + i * 7, none⟩ = some (.int .i64 x.inst) ∧ w.cell? ⟨b, o + i * 7 + 1, none⟩ = some (.int .i64 x.tok) ∧ w.cell? ⟨b, o + i * 7 + 2, none⟩ = some (.string x.here) ∧ w.cell? ⟨b, o + i * 7 + 3, none⟩ = some (.int .i64 x.tries) ∧
    w.cell? ⟨b, o + i * 7 + 4, none⟩ = some (.string x.worker) ∧ w.cell? ⟨b, o + i * 7 + 5, none⟩ = some (.int .i64 x.til) ∧ w.cell? ⟨b, o + i * 7 + 6, none⟩ = some (.int .u8 x.inc) := by
  subst hx
  obtain ⟨_, hc⟩ := SlF.at h hi
  exact ⟨hc 0 (by omega), hc 1 (by omega), hc 2 (by omega), hc 3 (by omega), hc 4 (by omega), hc 5 (by omega), hc 6 (by omega)⟩

set_option maxHeartbeats 4000000 in
theorem jobs_any (w : World) (va vb : Value) (A : List Jb) (ha : JbR w w.heap.size va A) (hb : JbR w w.heap.size vb A) :
    Calls Try.prog 18 #[va, vb] w fun e w' => e = .returned (.bool true) ∧ Below w.heap.size w w' := by
  obtain ⟨aa, ca, rfl⟩ := ha.val
  obtain ⟨ab, cb, rfl⟩ := hb.val
  have hll := ha.len
  have HA := Lib.hid ha
  have HBb := Lib.hid hb
  have d0 : ((A.length : Int) != (A.length : Int)) = false := by simp
  clear ha hb
  go_enter Try.func18, Try.ntmps18
  go_wp2_with fail
  go_loopg [5] A.length (fun gh s5 wx => ∃ i : Nat, i + gh = A.length ∧ s5 = .int .i64 (i : Int) ∧ Below w.heap.size w wx)
  case atStart => exact ⟨0, by omega, rfl, Below.refl _ _⟩
  case round =>
    obtain ⟨i, hig, rfl, hB⟩ := hrel
    obtain ⟨wo, rfl⟩ : ∃ wo : World, wo = wr := ⟨_, rfl⟩
    have HB := Lib.hid hB
    have hzB := hB.size
    by_cases hi : i < A.length
    · have hBb := HBb.out.mono hB (Nat.le_refl _)
      obtain ⟨b2, o2, rfl, _⟩ := hBb.addr (by omega)
      obtain ⟨x, hx⟩ : ∃ x, A[i] = x := ⟨_, rfl⟩
      obtain ⟨r0, r1, r2, r3, r4, r5, r6⟩ := jbR_at hBb hi hx
      obtain ⟨p0, hp0⟩ : ∃ p0, wo.heap.size = p0 := ⟨_, rfl⟩
      obtain ⟨wb, s, hwb, hs, es, hb0, hn0⟩ := alloc_named wo (.cells #[.int .i64 x.inst, .int .i64 x.tok, .string x.here, .int .i64 x.tries, .string x.worker, .int .i64 x.til, .int .u8 x.inc] 81) hp0
      have hBw : Below w.heap.size w wb := hB.trans (hb0.mono (by omega))
      have hA := HA.out.mono hBw (Nat.le_refl _)
      obtain ⟨b1, o1, rfl, _⟩ := hA.addr (by omega)
      obtain ⟨q0, q1, q2, q3, q4, q5, q6⟩ := jbR_at hA hi hx
      have m0 : wb.cell? ⟨p0, 0, none⟩ = some (.int .i64 x.inst) := (cell_of_block hn0 0).trans rfl
      have m1 : wb.cell? ⟨p0, 1, none⟩ = some (.int .i64 x.tok) := (cell_of_block hn0 1).trans rfl
      have m2 : wb.cell? ⟨p0, 2, none⟩ = some (.string x.here) := (cell_of_block hn0 2).trans rfl
      have m3 : wb.cell? ⟨p0, 3, none⟩ = some (.int .i64 x.tries) := (cell_of_block hn0 3).trans rfl
      have m4 : wb.cell? ⟨p0, 4, none⟩ = some (.string x.worker) := (cell_of_block hn0 4).trans rfl
      have m5 : wb.cell? ⟨p0, 5, none⟩ = some (.int .i64 x.til) := (cell_of_block hn0 5).trans rfl
      have m6 : wb.cell? ⟨p0, 6, none⟩ = some (.int .u8 x.inc) := (cell_of_block hn0 6).trans rfl
      have di : decide ((i : Int) < (A.length : Int)) = true := decide_eq_true (by omega)
      have i1 : (0 : Int) ≤ (i : Int) := by omega
      have i2 : (i : Int) < (A.length : Int) := by omega
      have HBw := Lib.hid hBw
      clear hx hA hBb hB hBw hb0 hn0 es
      go_wp2_with fail
      go_quiet (fail)
      go_wp2_with fail
      go_roundg (A.length - (i + 1))
      case measure => omega
      case rel => exact ⟨i + 1, by omega, by go_num, below_drewN HBw.out _⟩
    · have di : decide ((i : Int) < (A.length : Int)) = false := decide_eq_false (by omega)
      go_wp2_with fail
      go_ret
      exact ⟨ret_bool rfl, HB.out⟩

end Go.Proofs.Ytggnheekkbideaa
