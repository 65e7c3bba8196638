/- The law 'WireWrites' (seat wire). -/
import Derived.Test.YtlgfhbfdjckdnaaDoorWireRTold
import Derived.Test.YtlgfhbfdjckdnaaDoorWireTold
set_option maxRecDepth 100000
namespace Go.Proofs.YtlgfhbfdjckdnaaDoor
open Go.RowKit

theorem told_same {s : ByteArray} : ∃ (a : Int) (bd : ByteArray) (en : Int) (tk : Bool), ∀ yes no r, ToldV s yes no r → r = .tuple #[.agg #[.int .i64 a, .string bd], .int .i64 en, if tk then yes else no] := by
  by_cases h : ∃ st n, ToldIs s.data.toList st n
  · obtain ⟨st, n, hI⟩ := h
    refine ⟨st, s.extract (aheadL st n).length ((aheadL st n).length + n.toNat), (((aheadL st n).length + n.toNat : Nat) : Int), true, fun yes no r hr => ?_⟩
    rcases hr with ⟨st', n', hI', rfl⟩ | ⟨hno, _⟩
    · obtain ⟨rfl, rfl⟩ := told_uniq hI hI'
      rfl
    · exact absurd hI (hno _ _)
  · refine ⟨0, ⟨#[]⟩, 0, false, fun yes no r hr => ?_⟩
    rcases hr with ⟨st', n', hI', _⟩ | ⟨_, rfl⟩
    · exact absurd ⟨_, _, hI'⟩ h
    · rfl

set_option maxHeartbeats 4000000 in
theorem wireWrites_walk (W : World) (hg : Gnd W) (m p k b : ByteArray) (hm : m.size ≤ 140737488355328 ∧ p.size ≤ 140737488355328 ∧ k.size ≤ 140737488355328 ∧ b.size ≤ 140737488355328) (st : Int) (ab : ByteArray) (hst : (Lit.int .i64 st).wf = true ∧ I64n st ∧ ab.size ≤ 140737488355328) (s : ByteArray) (_ : s.size ≤ maxLen) :
    Calls Tryd.prog 3 #[.agg #[.string m, .string p, .string k, .string b], .agg #[.int .i64 st, .string ab], .string s] W fun e w' => e = .returned (.bool true) ∧ Below W.heap.size W w' := by
  obtain ⟨hm, hp, hk, hb⟩ := hm
  obtain ⟨hwf, hst, hab⟩ := hst
  obtain ⟨W1, hW1⟩ : ∃ W1, (W.alloc (.cells #[.string m, .string p, .string k, .string b] 23)).alloc (.cells #[.int .i64 st, .string ab] 25) = W1 := ⟨_, rfl⟩
  have BW : Hid (Below W.heap.size W W1) := by refine Lib.hid ?_; rw [← hW1]; exact ((Below.refl _ _).alloc (Nat.le_refl _) _).alloc (by simp) _
  have hx0 : W1.heap[W.heap.size]? = some (.cells #[.string m, .string p, .string k, .string b] 23) := by rw [← hW1]; exact heap_alloc2_old _ _ _
  have hx1 : W1.heap[W.heap.size + 1]? = some (.cells #[.int .i64 st, .string ab] 25) := by rw [← hW1]; exact heap_alloc2_new _ _ _
  have l0 := lt_of_block hx0
  have l1 := lt_of_block hx1
  have hcells : Hid (∀ W', Below W1.heap.size W1 W' → W'.cell? ⟨W.heap.size, 0, none⟩ = some (.string m) ∧ W'.cell? ⟨W.heap.size, 1, none⟩ = some (.string p) ∧ W'.cell? ⟨W.heap.size, 2, none⟩ = some (.string k) ∧ W'.cell? ⟨W.heap.size, 3, none⟩ = some (.string b) ∧ W'.cell? ⟨W.heap.size + 1, 0, none⟩ = some (.int .i64 st) ∧ W'.cell? ⟨W.heap.size + 1, 1, none⟩ = some (.string ab)) := by
    refine Lib.hid (fun W' h => ?_)
    refine ⟨?_, ?_, ?_, ?_, ?_, ?_⟩
    · rw [Below.cellB h l0, cell_of_block hx0]; rfl
    · rw [Below.cellB h l0, cell_of_block hx0]; rfl
    · rw [Below.cellB h l0, cell_of_block hx0]; rfl
    · rw [Below.cellB h l0, cell_of_block hx0]; rfl
    · rw [Below.cellB h l1, cell_of_block hx1]; rfl
    · rw [Below.cellB h l1, cell_of_block hx1]; rfl
  have hg1 := hg.up BW.out
  have cur : Below W1.heap.size W1 W1 := Below.refl _ _
  obtain ⟨c0, c1, c2, c3, d0, d1⟩ := hcells.out _ cur
  clear hx0 hx1 hg
  by_cases hbig : 200000 < s.size ∨ 200000 < b.size ∨ 200000 < ab.size
  · rcases Nat.lt_or_ge 200000 s.size with h1 | h1
    · have e1 : decide ((200000 : Int) < (s.size : Int)) = true := decide_eq_true (by omega)
      go_enter Tryd.func3, Tryd.ntmps3
      go_wp2_with fail
      go_ret
      exact ⟨rfl, BW.out⟩
    · have e1 : decide ((200000 : Int) < (s.size : Int)) = false := decide_eq_false (by omega)
      rcases Nat.lt_or_ge 200000 b.size with h2 | h2
      · have e2 : decide ((200000 : Int) < (b.size : Int)) = true := decide_eq_true (by omega)
        go_enter Tryd.func3, Tryd.ntmps3
        go_wp2_with fail
        go_ret
        exact ⟨rfl, BW.out⟩
      · have e2 : decide ((200000 : Int) < (b.size : Int)) = false := decide_eq_false (by omega)
        have e3 : decide ((200000 : Int) < (ab.size : Int)) = true := decide_eq_true (by omega)
        go_enter Tryd.func3, Tryd.ntmps3
        go_wp2_with fail
        go_ret
        exact ⟨rfl, BW.out⟩
  · have e1 : decide ((200000 : Int) < (s.size : Int)) = false := decide_eq_false (by omega)
    have e2 : decide ((200000 : Int) < (b.size : Int)) = false := decide_eq_false (by omega)
    have e3 : decide ((200000 : Int) < (ab.size : Int)) = false := decide_eq_false (by omega)
    obtain ⟨mb, x, HWr, HRr⟩ : ∃ (mb : Bool) (x : ByteArray), Hid (∀ W', Below W1.heap.size W1 W' → Calls Tryd.prog 4 #[.agg #[.string m, .string p, .string k, .string b]] W' fun e w' => e = .returned (.tuple #[.string x, .int .i64 (if mb then 0 else 1)]) ∧ Below W'.heap.size W' w') ∧
        Hid (∀ W', Below W1.heap.size W1 W' → Calls Tryd.prog 5 #[.agg #[.string m, .string p, .string k, .string b]] W' fun e w' => e = .returned (.tuple #[.string x, .bool mb]) ∧ Below W'.heap.size W' w') := by
      cases hmb : mayB m p k b with
      | true => exact ⟨true, writeB m p k b, Lib.hid (fun W' h => (write_any W' (hg1.up h) m p k b hm hp hk (by omega)).mono (by rintro e w' ⟨rfl, hb⟩; rw [hmb]; exact ⟨rfl, hb⟩)), Lib.hid (fun W' _ => (rwrite_any W' m p k b hm hp hk (by omega)).mono (by rintro e w' ⟨rfl, hb⟩; rw [hmb]; exact ⟨rfl, hb⟩))⟩
      | false => exact ⟨false, ⟨#[]⟩, Lib.hid (fun W' h => (write_any W' (hg1.up h) m p k b hm hp hk (by omega)).mono (by rintro e w' ⟨rfl, hb⟩; rw [hmb]; exact ⟨rfl, hb⟩)), Lib.hid (fun W' _ => (rwrite_any W' m p k b hm hp hk (by omega)).mono (by rintro e w' ⟨rfl, hb⟩; rw [hmb]; exact ⟨rfl, hb⟩))⟩
    obtain ⟨ok, y, HAr, HRa⟩ : ∃ (ok : Bool) (y : ByteArray), Hid (∀ W', Below W1.heap.size W1 W' → Calls Tryd.prog 6 #[.agg #[.int .i64 st, .string ab]] W' fun e w' => e = .returned (.tuple #[.string y, .int .i64 (if ok then 0 else 1)]) ∧ Below W'.heap.size W' w') ∧
        Hid (∀ W', Below W1.heap.size W1 W' → Calls Tryd.prog 7 #[.agg #[.int .i64 st, .string ab]] W' fun e w' => e = .returned (.tuple #[.string y, .bool ok]) ∧ Below W'.heap.size W' w') := by
      cases hok : decide ((wordB st).size ≠ 0) with
      | true => exact ⟨true, answerB st ab, Lib.hid (fun W' h => (answer_any W' (hg1.up h) st hwf hst ab (by omega)).mono (by rintro e w' ⟨rfl, hb⟩; unfold ansV; rw [hok]; exact ⟨rfl, hb⟩)), Lib.hid (fun W' _ => (ranswer_any W' st hst ab (by omega)).mono (by rintro e w' ⟨rfl, hb⟩; unfold ansV; rw [hok]; exact ⟨rfl, hb⟩))⟩
      | false => exact ⟨false, ⟨#[]⟩, Lib.hid (fun W' h => (answer_any W' (hg1.up h) st hwf hst ab (by omega)).mono (by rintro e w' ⟨rfl, hb⟩; unfold ansV; rw [hok]; exact ⟨rfl, hb⟩)), Lib.hid (fun W' _ => (ranswer_any W' st hst ab (by omega)).mono (by rintro e w' ⟨rfl, hb⟩; unfold ansV; rw [hok]; exact ⟨rfl, hb⟩))⟩
    obtain ⟨a, bd, en, tk, HTv⟩ := told_same (s := s)
    have HT1 : Hid (∀ W', Below W1.heap.size W1 W' → Calls Tryd.prog 8 #[.string s] W' fun e w' => e = .returned (.tuple #[.agg #[.int .i64 a, .string bd], .int .i64 en, if tk then .int .i64 0 else .int .i64 4]) ∧ Below W'.heap.size W' w') := Lib.hid (fun W' h => (told_any W' (hg1.up h) s (by omega)).mono (by rintro e w' ⟨r, rfl, hv, hb⟩; rw [HTv _ _ _ hv]; exact ⟨rfl, hb⟩))
    have HT2 : Hid (∀ W', Below W1.heap.size W1 W' → Calls Tryd.prog 9 #[.string s] W' fun e w' => e = .returned (.tuple #[.agg #[.int .i64 a, .string bd], .int .i64 en, if tk then .bool true else .bool false]) ∧ Below W'.heap.size W' w') := Lib.hid (fun W' _ => (rtold_any W' s (by omega)).mono (by rintro e w' ⟨r, rfl, hv, hb⟩; rw [HTv _ _ _ hv]; exact ⟨rfl, hb⟩))
    have sx : (x.toList == x.toList) = true := beq_self_eq_true _
    have sy : (y.toList == y.toList) = true := beq_self_eq_true _
    have sb : (bd.toList == bd.toList) = true := beq_self_eq_true _
    have sa : (a == a) = true := beq_self_eq_true _
    have se : (en == en) = true := beq_self_eq_true _
    clear hbig HTv hg1 hm hp hk hb hwf hst hab
    cases mb <;> cases ok <;> cases tk
    all_goals
      go_enter Tryd.func3, Tryd.ntmps3
      go_wp2_with (first
        | (go_at_call 4; refine (HWr.out _ cur).mono ?_; rintro e w5 ⟨rfl, hb5⟩; have cur := cur.trans (hb5.mono cur.size); obtain ⟨c0, c1, c2, c3, d0, d1⟩ := hcells.out _ cur)
        | (go_at_call 5; refine (HRr.out _ cur).mono ?_; rintro e w5 ⟨rfl, hb5⟩; have cur := cur.trans (hb5.mono cur.size); obtain ⟨c0, c1, c2, c3, d0, d1⟩ := hcells.out _ cur)
        | (go_at_call 6; refine (HAr.out _ cur).mono ?_; rintro e w5 ⟨rfl, hb5⟩; have cur := cur.trans (hb5.mono cur.size); obtain ⟨c0, c1, c2, c3, d0, d1⟩ := hcells.out _ cur)
        | (go_at_call 7; refine (HRa.out _ cur).mono ?_; rintro e w5 ⟨rfl, hb5⟩; have cur := cur.trans (hb5.mono cur.size))
        | (go_at_call 8; refine (HT1.out _ cur).mono ?_; rintro e w5 ⟨rfl, hb5⟩; have cur := cur.trans (hb5.mono cur.size); obtain ⟨W5, hW5⟩ : ∃ W5, w5.alloc (.cells #[.int .i64 a, .string bd] 25) = W5 := ⟨_, rfl⟩; have hB5 : Hid (W5.heap[w5.heap.size]? = some (.cells #[.int .i64 a, .string bd] 25)) := (by refine Lib.hid ?_; rw [← hW5]; exact (MapKept.heap_alloc w5 _).1); have hl5 := lt_of_block hB5.out; have curT : Below W1.heap.size W1 W5 := (by rw [← hW5]; exact cur.alloc cur.size _))
        | (go_at_call 9; refine (HT2.out _ curT).mono ?_; rintro e w6 ⟨rfl, hb6⟩; have curE := curT.trans (hb6.mono curT.size); have r0 : w6.cell? ⟨w5.heap.size, 0, none⟩ = some (.int .i64 a) := (by rw [Below.cellB hb6 hl5, cell_of_block hB5.out]; rfl); have r1 : w6.cell? ⟨w5.heap.size, 1, none⟩ = some (.string bd) := (by rw [Below.cellB hb6 hl5, cell_of_block hB5.out]; rfl); have hl6 : w5.heap.size < w6.heap.size := Nat.lt_of_lt_of_le hl5 hb6.size))
      go_ret
      exact ⟨rfl, (BW.out.trans (curE.mono BW.out.size)).alloc (Nat.le_trans BW.out.size curE.size) _⟩
end Go.Proofs.YtlgfhbfdjckdnaaDoor
