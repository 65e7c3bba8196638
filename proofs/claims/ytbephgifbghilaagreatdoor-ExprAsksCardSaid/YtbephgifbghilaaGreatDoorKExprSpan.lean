/- Of ExprSpan: what XFAs uses (shake.py). -/
import Derived.Test.YtbephgifbghilaaGreatDoorKExprSpanP
import Derived.Test.YtbephgifbghilaaGreatDoorKExprLex1
import Derived.Test.YtbephgifbghilaaGreatDoorKShelf
import Derived.Shelf.Abstract
/- expr.span (seat expr). -/
set_option maxRecDepth 100000
namespace Go.Proofs.YtbephgifbghilaaGreatDoor
open Go.RowKit
set_option maxHeartbeats 1000000 in
theorem span1_any (W : World) (b g : Nat) (p : Nat → Bool) (hc : W.cell? ⟨b, 0, none⟩ = some (.func (.func g) #[] #[])) (eg : ∀ args w, (callFunc g args).run Tryz.prog w = .ok (.enter g args) w) (hq : ∀ (W : World) (x : Nat), x < 256 → Calls Tryz.prog g (#[.int .u8 (x : Int)] ++ #[]) W fun e w' => e = .returned (.bool (p x)) ∧ W = w') (x : Nat) :
    Calls Tryz.prog 105 #[.int .i32 (x : Int), .pointer (some ⟨b, 0, none⟩)] W fun e w' => e = .returned (.bool (spanP p x)) ∧ W = w' := by
  by_cases h : 127 < x
  · have e1 : decide ((127 : Int) < (x : Int)) = true := decide_eq_true (by omega)
    have e1' : decide (127 < x) = true := decide_eq_true h
    have hf : Hid (spanP p x = true) := by refine Lib.hid ?_; unfold spanP; rw [decide_eq_true h]; rfl
    clear h
    go_enter Tryz.func105, Tryz.ntmps105
    go_wp2_with fail
    go_ret
    exact ⟨ret_bool hf.out.symm, rfl⟩
  · have e1 : decide ((127 : Int) < (x : Int)) = false := decide_eq_false (by omega)
    have e1' : decide (127 < x) = false := decide_eq_false h
    have hf : Hid (spanP p x = !p x) := by refine Lib.hid ?_; unfold spanP; rw [decide_eq_false h]; rfl
    have HQ := Lib.hid (hq W x (by omega))
    have q1 : IntKind.u8.wrap (x : Int) = (x : Int) := by rw [IntKind.wrap_u8]; omega
    have hx : x ≤ 127 := by omega
    clear h hq
    go_enter Tryz.func105, Tryz.ntmps105
    go_wp2_with (go_at_fn g; refine HQ.out.mono ?_; rintro e w2 ⟨rfl, rfl⟩)
    go_ret
    exact ⟨ret_bool (by rw [hf.out]), rfl⟩
theorem eg_span1 : ∀ args (w : World), (callFunc 105 args).run Tryz.prog w = .ok (.enter 105 args) w := enters_of Tryz.func105 (by kernel_rfl) rfl
theorem ixfunc_of (w : World) (s : ByteArray) (fv : Value) (r : Int) (h : Calls Tryz.prog 146 #[.string s, fv, .bool true] w fun e w' => e = .returned (.int .i64 r) ∧ Below w.heap.size w w') :
    Calls Tryz.prog 104 #[.string s, fv] w fun e w' => e = .returned (.int .i64 r) ∧ Below w.heap.size w w' := by
  have H := Lib.hid h
  clear h
  go_enter Tryz.func104, Tryz.ntmps104
  go_wp2_with (go_at_call 146; refine H.out.mono ?_; rintro e w2 ⟨rfl, hb2⟩)
  go_ret
  exact ⟨rfl, hb2⟩
set_option maxHeartbeats 1000000 in
theorem span_any (w : World) (s : ByteArray) (hs : s.size ≤ 140737488355328) (g : Nat) (p : Nat → Bool) (hp : ∀ x, 127 < x → p x = false) (eg : ∀ args w, (callFunc g args).run Tryz.prog w = .ok (.enter g args) w) (hq : ∀ (W : World) (x : Nat), x < 256 → Calls Tryz.prog g (#[.int .u8 (x : Int)] ++ #[]) W fun e w' => e = .returned (.bool (p x)) ∧ W = w') :
    Calls Tryz.prog 72 #[.string s, .func (.func g) #[] #[]] w fun e w' => e = .returned (.int .i64 (spanE p s.data.toList : Int)) ∧ Below w.heap.size w w' := by
  obtain ⟨W1, hW1⟩ : ∃ W1, w.alloc (.cells #[.func (.func g) #[] #[]] 110) = W1 := ⟨_, rfl⟩
  have BW : Hid (Below w.heap.size w W1) := by refine Lib.hid ?_; rw [← hW1]; exact (Below.refl _ _).alloc (Nat.le_refl _) _
  have hblk : W1.heap[w.heap.size]? = some (.cells #[.func (.func g) #[] #[]] 110) := by rw [← hW1]; exact (MapKept.heap_alloc w _).1
  have hlt := lt_of_block hblk
  have hc : W1.cell? ⟨w.heap.size, 0, none⟩ = some (.func (.func g) #[] #[]) := cell_of_block hblk 0
  have HP : PredAt Tryz.prog 105 #[.pointer (some ⟨w.heap.size, 0, none⟩)] encR (spanP p) W1 := fun W x hb => (span1_any W w.heap.size g p ((Below.cellB hb hlt).trans hc) eg hq x).mono (by rintro e w' ⟨rfl, rfl⟩; exact ⟨rfl, 0, rfl⟩)
  have HI := Lib.hid (Tryz.strings_indexFunc 105 #[.pointer (some ⟨w.heap.size, 0, none⟩)] eg_span1 (spanP p) true s W1 HP)
  have hv := spanE_idx p hp s s.size 0 (by omega) (by omega)
  have hle := spanE_le p s.data.toList
  rw [List.drop_zero, Nat.zero_add] at hv
  have hl : s.data.toList.length = s.size := by rw [Array.length_toList]; rfl
  obtain ⟨n, hn⟩ : ∃ n, spanE p s.data.toList = n := ⟨_, rfl⟩
  rw [hn] at hv hle
  rw [show Lib.idxFunc (spanP p) true s = Lib.idxFuncFrom (spanP p) true s s.size 0 from rfl, hv] at HI
  have HN := Lib.hid hn
  clear hblk hc HP hv hn hq eg hp
  by_cases h : n < s.size
  · rw [if_pos h] at HI
    have e1 : decide ((n : Int) < 0) = false := decide_eq_false (by omega)
    go_enter Tryz.func72, Tryz.ntmps72
    go_wp2_with (go_at_call 104; refine (ixfunc_of _ _ _ _ HI.out).mono ?_; rintro e w2 ⟨rfl, hb2⟩)
    go_ret
    rw [HN.out]
    exact ⟨rfl, BW.out.trans (hb2.mono BW.out.size)⟩
  · rw [if_neg h] at HI
    have hns : n = s.size := by omega
    have HNS := Lib.hid hns
    clear hns h hle
    go_enter Tryz.func72, Tryz.ntmps72
    go_wp2_with (go_at_call 104; refine (ixfunc_of _ _ _ _ HI.out).mono ?_; rintro e w2 ⟨rfl, hb2⟩)
    go_ret
    rw [HN.out, HNS.out]
    exact ⟨rfl, BW.out.trans (hb2.mono BW.out.size)⟩
end Go.Proofs.YtbephgifbghilaaGreatDoor
