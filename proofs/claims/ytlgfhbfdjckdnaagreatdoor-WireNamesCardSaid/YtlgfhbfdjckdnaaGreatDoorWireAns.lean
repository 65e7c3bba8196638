/- wire.ahead, the document's Statuses and Words (seat wire). -/
import Derived.Test.YtlgfhbfdjckdnaaGreatDoorWireWords
import Derived.Test.YtlgfhbfdjckdnaaGreatDoorWireWrite
import Derived.Test.YtlgfhbfdjckdnaaGreatDoorWireToldP
import Derived.Deep.WholeRow
set_option maxRecDepth 100000
namespace Go.Proofs.YtlgfhbfdjckdnaaGreatDoor
open Go.RowKit

def aheadB (st n : Int) : ByteArray := ⟨(aheadL st n).toArray⟩
theorem numB_list (n : Int) : (numB n).data.toList = Lib.itoa n := by unfold numB; simp
theorem wordB_list (st : Int) : (wordB st).data.toList = wordL st := by unfold wordB; simp
theorem wordL_le (st : Int) : (wordL st).length ≤ 31 := by
  by_cases h : wordL st = []
  · rw [h]; exact Nat.zero_le _
  · exact (wordL_sts h).2.2.2.1
theorem app_list (a b : ByteArray) : (a ++ b).data.toList = a.data.toList ++ b.data.toList := by simp
theorem zero_str (w : World) : (zeroValue 9).run Tryz.prog w = .ok (.string ⟨#[]⟩) w :=
  (zero_of_info (P := Tryz.prog) (t := 9) (v := .string ⟨#[]⟩) (n := 1) (by kernel_rfl)).1 w

set_option maxHeartbeats 2000000 in
theorem ahead_any (w : World) (hg : Gnd w) (st n : Int) (hs : I64n st) (hn : I64n n) :
    Calls Tryz.prog 28 #[.int .i64 st, .string (wordB st), .int .i64 n] w fun e w' => e = .returned (.string (aheadB st n)) ∧ Below w.heap.size w w' := by
  have h1 := hs
  have h2 := hn
  unfold I64n at h1 h2
  have HN1 := Lib.hid (winumber_any w hg.tab st h1.1 h1.2)
  have HN2 : Hid (∀ W, Below w.heap.size w W → Calls Tryz.prog 26 #[.int .i64 n] W fun e w' => e = .returned (.string (numB n)) ∧ Below W.heap.size W w') := Lib.hid (fun W hW => winumber_any W (hg.up hW).tab n h2.1 h2.2)
  have y1 := numB_size st hs
  have y2 := numB_size n hn
  have y3 : (wordB st).size ≤ 31 := by rw [wordB_size]; exact wordL_le st
  have f1 := Lib.hid (numB_list st)
  have f2 := Lib.hid (numB_list n)
  have f3 := Lib.hid (wordB_list st)
  obtain ⟨x1, hx1⟩ : ∃ x, numB st = x := ⟨_, rfl⟩
  obtain ⟨x2, hx2⟩ : ∃ x, numB n = x := ⟨_, rfl⟩
  obtain ⟨x3, hx3⟩ : ∃ x, wordB st = x := ⟨_, rfl⟩
  rw [hx1] at HN1 y1 f1
  rw [hx2] at HN2 y2 f2
  rw [hx3] at y3 f3
  rw [hx3]
  clear hx1 hx2 hx3 h1 h2 hs hn hg
  obtain ⟨a1, e1, z1, q1⟩ := cat_run ⟨#[72, 84, 84, 80, 47, 49, 46, 49, 32]⟩ x1 (by show 9 + x1.size ≤ _; omega)
  have z1' : a1.size = 9 + x1.size := z1
  obtain ⟨a2, e2, z2, q2⟩ := cat_run a1 ⟨#[32]⟩ (by show a1.size + 1 ≤ _; omega)
  have z2' : a2.size = a1.size + 1 := z2
  obtain ⟨a3, e3, z3, q3⟩ := cat_run a2 x3 (by omega)
  obtain ⟨a4, e4, z4, q4⟩ := cat_run a3 ⟨#[13, 10, 99, 111, 110, 116, 101, 110, 116, 45, 108, 101, 110, 103, 116, 104, 58, 32]⟩ (by show a3.size + 18 ≤ _; omega)
  have z4' : a4.size = a3.size + 18 := z4
  obtain ⟨a5, e5, z5, q5⟩ := cat_run a4 x2 (by omega)
  obtain ⟨a6, e6, z6, q6⟩ := cat_run a5 ⟨#[13, 10, 99, 111, 110, 116, 101, 110, 116, 45, 116, 121, 112, 101, 58, 32, 97, 112, 112, 108, 105, 99, 97, 116, 105, 111, 110, 47, 106, 115, 111, 110, 13, 10, 13, 10]⟩ (by show a5.size + 36 ≤ _; omega)
  have hfin : Hid (a6 = aheadB st n) := by
    refine Lib.hid (bytes_ext ?_)
    rw [← e6.out, app_list, ← e5.out, app_list, ← e4.out, app_list, ← e3.out, app_list, ← e2.out, app_list, ← e1.out, app_list, f1.out, f2.out, f3.out]
    unfold aheadB aheadL leadL
    simp [httpL, clenL, ctypL]
  clear z1 z2 z4 z6
  go_enter Tryz.func28, Tryz.ntmps28
  go_wp2_with (first
    | (go_at_call 26; refine HN1.out.mono ?_; rintro e w2 ⟨rfl, hb2⟩; clear HN1)
    | (go_at_call 26; refine (HN2.out _ hb2).mono ?_; rintro e w3 ⟨rfl, hb3⟩))
  go_ret
  exact ⟨congrArg (fun x => Ending.returned (Value.string x)) hfin.out, hb2.trans (hb3.mono hb2.size)⟩

end Go.Proofs.YtlgfhbfdjckdnaaGreatDoor
