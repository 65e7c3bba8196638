/- Which tokens are jobs, which are free, who holds them: job.Is, free, Holds and the document's. -/
import Derived.Test.YtggnheekkbideaaJobSome
set_option maxRecDepth 100000
namespace Go.Proofs.Ytggnheekkbideaa
open Go.RowKit

def isB (t : Tok) : Bool := !t.here.toList.isEmpty && (decide (0 < t.tries) || (t.inc == 2))
def freeB (c : Int) (t : Tok) : Bool := isB t && (t.inc == 0) && decide (t.til ≤ c)
def holdsB (wk : ByteArray) (c : Int) (t : Tok) : Bool := isB t && (t.inc == 0) && (t.worker.toList == wk.toList) && decide (c < t.til)

/-- A token's own block, and what lies in it. -/
theorem tok_new (w : World) (t : Tok) : ∃ W, w.alloc (.cells (tokA t) 41) = W ∧ Below w.heap.size w W ∧ w.heap.size < W.heap.size ∧ W.heap[w.heap.size]? = some (.cells (tokA t) 41) :=
  ⟨_, rfl, (Below.refl w.heap.size w).alloc (Nat.le_refl _) _, by simp, heap_alloc_new w _⟩
theorem tok_cells {w : World} {b : Nat} {t : Tok} {fr : Nat × Nat} (h : w.heap[b]? = some (.cells (tokA t) 41 fr)) :
    w.cell? ⟨b, 0, none⟩ = some (.int .i64 t.id) ∧ w.cell? ⟨b, 1, none⟩ = some (.string t.here) ∧ w.cell? ⟨b, 2, none⟩ = some (.string t.on) ∧ w.cell? ⟨b, 3, none⟩ = some (.int .i64 t.born) ∧ w.cell? ⟨b, 4, none⟩ = some (.int .i64 t.tries) ∧
    w.cell? ⟨b, 5, none⟩ = some (.string t.worker) ∧ w.cell? ⟨b, 6, none⟩ = some (.int .i64 t.til) ∧ w.cell? ⟨b, 7, none⟩ = some (.int .u8 t.inc) ∧ w.cell? ⟨b, 8, none⟩ = some (.int .i64 t.err) :=
  ⟨by rw [cell_of_block h]; rfl, by rw [cell_of_block h]; rfl, by rw [cell_of_block h]; rfl, by rw [cell_of_block h]; rfl, by rw [cell_of_block h]; rfl, by rw [cell_of_block h]; rfl, by rw [cell_of_block h]; rfl, by rw [cell_of_block h]; rfl, by rw [cell_of_block h]; rfl⟩

set_option maxHeartbeats 2000000 in
theorem is_any (w : World) (t : Tok) : Calls Try.prog 22 #[valT t] w fun e w' => e = .returned (.bool (isB t)) ∧ Below w.heap.size w w' := by
  obtain ⟨W, hW, hB, hs, hn⟩ := tok_new w t
  obtain ⟨-, t1, -, -, t4, -, -, t7, -⟩ := tok_cells hn
  have HB := Lib.hid hB
  clear hn hB
  go_enter Try.func22, Try.ntmps22
  go_wp2_with fail
  all_goals go_ret
  all_goals exact ⟨ret_bool (by simp [isB, *]), HB.out⟩

set_option maxHeartbeats 2000000 in
theorem ris_any (w : World) (t : Tok) : Calls Try.prog 23 #[valT t] w fun e w' => e = .returned (.bool (isB t)) ∧ Below w.heap.size w w' := by
  obtain ⟨W, hW, hB, hs, hn⟩ := tok_new w t
  obtain ⟨-, t1, -, -, t4, -, -, t7, -⟩ := tok_cells hn
  have HB := Lib.hid hB
  clear hn hB
  go_enter Try.func23, Try.ntmps23
  go_wp2_with fail
  all_goals go_ret
  all_goals exact ⟨ret_bool (by simp [isB, *]), HB.out⟩

set_option maxHeartbeats 2000000 in
theorem free_any (w : World) (t : Tok) (c : Int) : Calls Try.prog 37 #[valT t, .int .i64 c] w fun e w' => e = .returned (.bool (freeB c t)) ∧ Below w.heap.size w w' := by
  obtain ⟨W, hW, hB, hs, hn⟩ := tok_new w t
  obtain ⟨t0, t1, t2, t3, t4, t5, t6, t7, t8⟩ := tok_cells hn
  have S1 := Lib.hid (is_any W t)
  have HB := Lib.hid hB
  have HN := Lib.hid hn
  clear hn hB
  cases hb : isB t with
  | false =>
    rw [hb] at S1
    have HI := Lib.hid hb
    clear hb
    go_enter Try.func37, Try.ntmps37
    go_wp2_with (go_at_call 22; refine S1.out.mono ?_; rintro e W2 ⟨rfl, hb2⟩)
    go_ret
    exact ⟨ret_bool (by simp [freeB, HI.out]), HB.out.trans (hb2.mono HB.out.size)⟩
  | true =>
    rw [hb] at S1
    have HI := Lib.hid hb
    clear hb
    go_enter Try.func37, Try.ntmps37
    go_wp2_with (go_at_call 22; refine S1.out.mono ?_; rintro e W2 ⟨rfl, hb2⟩; obtain ⟨t0, t1, t2, t3, t4, t5, t6, t7, t8⟩ := tok_cells ((hb2.block _ hs).trans HN.out))
    all_goals go_ret
    all_goals exact ⟨ret_bool (by simp [freeB, HI.out, *]), HB.out.trans (hb2.mono HB.out.size)⟩

set_option maxHeartbeats 2000000 in
theorem rfree_any (w : World) (t : Tok) (c : Int) : Calls Try.prog 45 #[valT t, .int .i64 c] w fun e w' => e = .returned (.bool (freeB c t)) ∧ Below w.heap.size w w' := by
  obtain ⟨W, hW, hB, hs, hn⟩ := tok_new w t
  obtain ⟨t0, t1, t2, t3, t4, t5, t6, t7, t8⟩ := tok_cells hn
  have S1 := Lib.hid (ris_any W t)
  have HB := Lib.hid hB
  have HN := Lib.hid hn
  clear hn hB
  cases hb : isB t with
  | false =>
    rw [hb] at S1
    have HI := Lib.hid hb
    clear hb
    go_enter Try.func45, Try.ntmps45
    go_wp2_with (go_at_call 23; refine S1.out.mono ?_; rintro e W2 ⟨rfl, hb2⟩)
    go_ret
    exact ⟨ret_bool (by simp [freeB, HI.out]), HB.out.trans (hb2.mono HB.out.size)⟩
  | true =>
    rw [hb] at S1
    have HI := Lib.hid hb
    clear hb
    go_enter Try.func45, Try.ntmps45
    go_wp2_with (go_at_call 23; refine S1.out.mono ?_; rintro e W2 ⟨rfl, hb2⟩; obtain ⟨t0, t1, t2, t3, t4, t5, t6, t7, t8⟩ := tok_cells ((hb2.block _ hs).trans HN.out))
    all_goals go_ret
    all_goals exact ⟨ret_bool (by simp [freeB, HI.out, *]), HB.out.trans (hb2.mono HB.out.size)⟩

set_option maxHeartbeats 2000000 in
theorem holds_any (w : World) (t : Tok) (wk : ByteArray) (c : Int) : Calls Try.prog 14 #[valT t, .string wk, .int .i64 c] w fun e w' => e = .returned (.bool (holdsB wk c t)) ∧ Below w.heap.size w w' := by
  obtain ⟨W, hW, hB, hs, hn⟩ := tok_new w t
  obtain ⟨t0, t1, t2, t3, t4, t5, t6, t7, t8⟩ := tok_cells hn
  have S1 := Lib.hid (is_any W t)
  have HB := Lib.hid hB
  have HN := Lib.hid hn
  clear hn hB
  cases hb : isB t with
  | false =>
    rw [hb] at S1
    have HI := Lib.hid hb
    clear hb
    go_enter Try.func14, Try.ntmps14
    go_wp2_with (go_at_call 22; refine S1.out.mono ?_; rintro e W2 ⟨rfl, hb2⟩)
    go_ret
    exact ⟨ret_bool (by simp [holdsB, HI.out]), HB.out.trans (hb2.mono HB.out.size)⟩
  | true =>
    rw [hb] at S1
    have HI := Lib.hid hb
    clear hb
    go_enter Try.func14, Try.ntmps14
    go_wp2_with (go_at_call 22; refine S1.out.mono ?_; rintro e W2 ⟨rfl, hb2⟩; obtain ⟨t0, t1, t2, t3, t4, t5, t6, t7, t8⟩ := tok_cells ((hb2.block _ hs).trans HN.out))
    all_goals go_ret
    all_goals exact ⟨ret_bool (by simp [holdsB, HI.out, *]), HB.out.trans (hb2.mono HB.out.size)⟩

set_option maxHeartbeats 2000000 in
theorem rholds_any (w : World) (t : Tok) (wk : ByteArray) (c : Int) : Calls Try.prog 24 #[valT t, .string wk, .int .i64 c] w fun e w' => e = .returned (.bool (holdsB wk c t)) ∧ Below w.heap.size w w' := by
  obtain ⟨W, hW, hB, hs, hn⟩ := tok_new w t
  obtain ⟨t0, t1, t2, t3, t4, t5, t6, t7, t8⟩ := tok_cells hn
  have S1 := Lib.hid (ris_any W t)
  have HB := Lib.hid hB
  have HN := Lib.hid hn
  clear hn hB
  cases hb : isB t with
  | false =>
    rw [hb] at S1
    have HI := Lib.hid hb
    clear hb
    go_enter Try.func24, Try.ntmps24
    go_wp2_with (go_at_call 23; refine S1.out.mono ?_; rintro e W2 ⟨rfl, hb2⟩)
    go_ret
    exact ⟨ret_bool (by simp [holdsB, HI.out]), HB.out.trans (hb2.mono HB.out.size)⟩
  | true =>
    rw [hb] at S1
    have HI := Lib.hid hb
    clear hb
    go_enter Try.func24, Try.ntmps24
    go_wp2_with (go_at_call 23; refine S1.out.mono ?_; rintro e W2 ⟨rfl, hb2⟩; obtain ⟨t0, t1, t2, t3, t4, t5, t6, t7, t8⟩ := tok_cells ((hb2.block _ hs).trans HN.out))
    all_goals go_ret
    all_goals exact ⟨ret_bool (by simp [holdsB, HI.out, *]), HB.out.trans (hb2.mono HB.out.size)⟩

theorem free1_any (w : World) (t : Tok) (b : Nat) (c : Int) (hb : w.cell? ⟨b, 0, none⟩ = some (.int .i64 c)) (hbl : b < w.heap.size) : Calls Try.prog 43 #[valT t, .pointer (some ⟨b, 0, none⟩)] w fun e w' => e = .returned (.bool (freeB c t)) ∧ Below w.heap.size w w' := by
  obtain ⟨W, hW, hB, hs, hn⟩ := tok_new w t
  obtain ⟨t0, t1, t2, t3, t4, t5, t6, t7, t8⟩ := tok_cells hn
  have S1 := Lib.hid (free_any W t c)
  have cb : W.cell? ⟨b, 0, none⟩ = some (.int .i64 c) := (Below.cellB hB hbl).trans hb
  have HB := Lib.hid hB
  clear hn hB hb
  go_enter Try.func43, Try.ntmps43
  go_wp2_with (go_at_call 37; refine S1.out.mono ?_; rintro e W2 ⟨rfl, hb2⟩)
  go_ret
  exact ⟨rfl, HB.out.trans (hb2.mono HB.out.size)⟩

theorem fetch1_any (w : World) (t : Tok) (b : Nat) (c : Int) (hb : w.cell? ⟨b, 0, none⟩ = some (.int .i64 c)) (hbl : b < w.heap.size) : Calls Try.prog 36 #[valT t, .pointer (some ⟨b, 0, none⟩)] w fun e w' => e = .returned (.bool (freeB c t)) ∧ Below w.heap.size w w' := by
  obtain ⟨W, hW, hB, hs, hn⟩ := tok_new w t
  obtain ⟨t0, t1, t2, t3, t4, t5, t6, t7, t8⟩ := tok_cells hn
  have S1 := Lib.hid (free_any W t c)
  have cb : W.cell? ⟨b, 0, none⟩ = some (.int .i64 c) := (Below.cellB hB hbl).trans hb
  have HB := Lib.hid hB
  clear hn hB hb
  go_enter Try.func36, Try.ntmps36
  go_wp2_with (go_at_call 37; refine S1.out.mono ?_; rintro e W2 ⟨rfl, hb2⟩)
  go_ret
  exact ⟨rfl, HB.out.trans (hb2.mono HB.out.size)⟩

end Go.Proofs.Ytggnheekkbideaa
