/- Texts fused by fuse.py: KEvalCheck2. -/
import Derived.Test.YtjcaaahbfkjipaaGreatDoorKZ04
import Derived.BigQuiet
/- Of EvalCheck2: what FRuleNames uses (shake.py). -/
set_option maxRecDepth 100000
/- expr.Check, case by case. -/
namespace Go.Proofs.YtjcaaahbfkjipaaGreatDoor
open Go.RowKit
set_option maxHeartbeats 2000000 in
theorem chk_len (w : World) (op : Int) (u : Vl) (nm : ByteArray) (a : Option Addr) (n c : Nat) (hA : (n : Int) ≠ kidsN op) :
    Calls Tryz.prog 133 #[valO op u nm (.slice a n c)] w fun e w' => e = .returned (.bool false) ∧ Below w.heap.size w w' := by
  obtain ⟨w1, p0, hp0, hw1, l1, n1, b1⟩ := box_new w (objN op u nm (.slice a n c))
  have c0 : w1.cell? ⟨p0, 0, none⟩ = some (.int .u8 op) := (cell_of_block n1 0).trans rfl
  have c6 : w1.cell? ⟨p0, 6, none⟩ = some (.slice a n c) := (cell_of_block n1 6).trans rfl
  have HB := Lib.hid b1
  have HK := Lib.hid (fun W => kids_any W op)
  have dA : ((n : Int) != kidsN op) = true := by simpa using hA
  obtain ⟨kk, hkk⟩ : ∃ kk, kidsN op = kk := ⟨_, rfl⟩
  rw [hkk] at HK dA
  clear n1 b1 hA hkk
  go_enter Tryz.func133, Tryz.ntmps133
  go_wp2_with fail
  go_quiet ((go_at_call 152; (first | exact quiet_left (HK.out _) | exact quiet_add_left (HK.out _))))
  have HE := Lib.hid (below_drewN HB.out nq)
  go_wp2_with fail
  go_ret
  exact ⟨rfl, by first | exact HE.out | (rw [hp0]; exact HE.out)⟩
theorem run_neq_val (w : World) (a b : Vl) : (binOp .neq 58 (valV a) (valV b)).run Tryz.prog w = .ok (.bool (!vlEq a b)) w := by
  have h : (Op.equalIn 10000 58 (valV a) (valV b)).run Tryz.prog w = .ok (vlEq a b) w := by
    rw [show (10000 : Nat) = 9999 + 1 from rfl, run_equalIn_struct w 9999 58 _ _ (by kernel_rfl) (by kernel_rfl)]
    simp [go_sem, Op.eqFields]
    unfold vlEq
    by_cases h1 : a.kind = b.kind <;> by_cases h2 : a.num = b.num <;> by_cases h3 : a.tr = b.tr <;> by_cases h4 : a.text.toList = b.text.toList <;> simp [h1, h2, h3, h4]
  rw [run_neq_struct, h]; rfl
set_option maxHeartbeats 2000000 in
theorem chk_val (w : World) (op : Int) (u : Vl) (nm : ByteArray) (a : Option Addr) (n c : Nat) (hA : (n : Int) = kidsN op) (h1 : op ≠ 1) (hv : vlEq u Vl.zero = false) :
    Calls Tryz.prog 133 #[valO op u nm (.slice a n c)] w fun e w' => e = .returned (.bool false) ∧ Below w.heap.size w w' := by
  obtain ⟨w1, p0, hp0, hw1, l1, n1, b1⟩ := box_new w (objN op u nm (.slice a n c))
  have c0 : w1.cell? ⟨p0, 0, none⟩ = some (.int .u8 op) := (cell_of_block n1 0).trans rfl
  have c1 : w1.cell? ⟨p0, 1, none⟩ = some (.int .u8 u.kind) := (cell_of_block n1 1).trans rfl
  have c2 : w1.cell? ⟨p0, 2, none⟩ = some (.int .i64 u.num) := (cell_of_block n1 2).trans rfl
  have c3 : w1.cell? ⟨p0, 3, none⟩ = some (.bool u.tr) := (cell_of_block n1 3).trans rfl
  have c4 : w1.cell? ⟨p0, 4, none⟩ = some (.string u.text) := (cell_of_block n1 4).trans rfl
  have c6 : w1.cell? ⟨p0, 6, none⟩ = some (.slice a n c) := (cell_of_block n1 6).trans rfl
  have HB := Lib.hid b1
  have HK := Lib.hid (fun W => kids_any W op)
  have dA : ((n : Int) != kidsN op) = false := by simpa using hA
  have d1 : (op != 1) = true := by simpa using h1
  obtain ⟨kk, hkk⟩ : ∃ kk, kidsN op = kk := ⟨_, rfl⟩
  rw [hkk] at HK dA
  have hq : ∀ W, (binOp .neq 58 (.agg #[.int .u8 u.kind, .int .i64 u.num, .bool u.tr, .string u.text]) (.agg #[.int .u8 0, .int .i64 0, .bool false, .string ⟨#[]⟩])).run Tryz.prog W = .ok (.bool true) W := fun W => by
    have := run_neq_val W u Vl.zero
    rw [hv] at this
    exact this
  clear n1 b1 hA h1 hkk hv
  go_enter Tryz.func133, Tryz.ntmps133
  go_wp2_with fail
  go_quiet ((go_at_call 152; (first | exact quiet_left (HK.out _) | exact quiet_add_left (HK.out _))))
  have HE := Lib.hid (below_drewN HB.out nq)
  go_wp2_with fail
  go_ret
  exact ⟨rfl, by first | exact HE.out | (rw [hp0]; exact HE.out)⟩
set_option maxHeartbeats 2000000 in
theorem chk_nm0 (w : World) (op : Int) (u : Vl) (nm : ByteArray) (a : Option Addr) (n c : Nat) (hA : (n : Int) = kidsN op) (h1 : op ≠ 1) (hv : vlEq u Vl.zero = true) (h2 : op ≠ 2) (hn : nm.toList.isEmpty = false) :
    Calls Tryz.prog 133 #[valO op u nm (.slice a n c)] w fun e w' => e = .returned (.bool false) ∧ Below w.heap.size w w' := by
  obtain ⟨w1, p0, hp0, hw1, l1, n1, b1⟩ := box_new w (objN op u nm (.slice a n c))
  have c0 : w1.cell? ⟨p0, 0, none⟩ = some (.int .u8 op) := (cell_of_block n1 0).trans rfl
  have c1 : w1.cell? ⟨p0, 1, none⟩ = some (.int .u8 u.kind) := (cell_of_block n1 1).trans rfl
  have c2 : w1.cell? ⟨p0, 2, none⟩ = some (.int .i64 u.num) := (cell_of_block n1 2).trans rfl
  have c3 : w1.cell? ⟨p0, 3, none⟩ = some (.bool u.tr) := (cell_of_block n1 3).trans rfl
  have c4 : w1.cell? ⟨p0, 4, none⟩ = some (.string u.text) := (cell_of_block n1 4).trans rfl
  have c6 : w1.cell? ⟨p0, 6, none⟩ = some (.slice a n c) := (cell_of_block n1 6).trans rfl
  have HB := Lib.hid b1
  have HK := Lib.hid (fun W => kids_any W op)
  have dA : ((n : Int) != kidsN op) = false := by simpa using hA
  have d1 : (op != 1) = true := by simpa using h1
  obtain ⟨kk, hkk⟩ : ∃ kk, kidsN op = kk := ⟨_, rfl⟩
  rw [hkk] at HK dA
  have hq : ∀ W, (binOp .neq 58 (.agg #[.int .u8 u.kind, .int .i64 u.num, .bool u.tr, .string u.text]) (.agg #[.int .u8 0, .int .i64 0, .bool false, .string ⟨#[]⟩])).run Tryz.prog W = .ok (.bool false) W := fun W => by
    have := run_neq_val W u Vl.zero
    rw [hv] at this
    exact this
  have d2 : (op != 2) = true := by simpa using h2
  have c5 : w1.cell? ⟨p0, 5, none⟩ = some (.string nm) := (cell_of_block n1 5).trans rfl
  have dn : (!nm.toList.isEmpty) = true := by rw [hn]; rfl
  clear h2 n1 b1 hA h1 hkk hv
  go_enter Tryz.func133, Tryz.ntmps133
  go_wp2_with fail
  go_quiet ((go_at_call 152; (first | exact quiet_left (HK.out _) | exact quiet_add_left (HK.out _))))
  have HE := Lib.hid (below_drewN HB.out nq)
  go_wp2_with fail
  go_ret
  exact ⟨rfl, by first | exact HE.out | (rw [hp0]; exact HE.out)⟩
set_option maxHeartbeats 2000000 in
theorem chk_nm1 (w : World) (op : Int) (u : Vl) (nm : ByteArray) (a : Option Addr) (n c : Nat) (hA : (n : Int) = kidsN op) (h1 : op = 1) (hn : nm.toList.isEmpty = false) :
    Calls Tryz.prog 133 #[valO op u nm (.slice a n c)] w fun e w' => e = .returned (.bool false) ∧ Below w.heap.size w w' := by
  obtain ⟨w1, p0, hp0, hw1, l1, n1, b1⟩ := box_new w (objN op u nm (.slice a n c))
  have c0 : w1.cell? ⟨p0, 0, none⟩ = some (.int .u8 op) := (cell_of_block n1 0).trans rfl
  have c1 : w1.cell? ⟨p0, 1, none⟩ = some (.int .u8 u.kind) := (cell_of_block n1 1).trans rfl
  have c2 : w1.cell? ⟨p0, 2, none⟩ = some (.int .i64 u.num) := (cell_of_block n1 2).trans rfl
  have c3 : w1.cell? ⟨p0, 3, none⟩ = some (.bool u.tr) := (cell_of_block n1 3).trans rfl
  have c4 : w1.cell? ⟨p0, 4, none⟩ = some (.string u.text) := (cell_of_block n1 4).trans rfl
  have c6 : w1.cell? ⟨p0, 6, none⟩ = some (.slice a n c) := (cell_of_block n1 6).trans rfl
  have HB := Lib.hid b1
  have HK := Lib.hid (fun W => kids_any W op)
  have dA : ((n : Int) != kidsN op) = false := by simpa using hA
  have d1 : (op != 1) = false := by rw [h1]; rfl
  obtain ⟨kk, hkk⟩ : ∃ kk, kidsN op = kk := ⟨_, rfl⟩
  rw [hkk] at HK dA
  have d2 : (op != 2) = true := by rw [h1]; rfl
  have c5 : w1.cell? ⟨p0, 5, none⟩ = some (.string nm) := (cell_of_block n1 5).trans rfl
  have dn : (!nm.toList.isEmpty) = true := by rw [hn]; rfl
  clear n1 b1 hA h1 hkk
  go_enter Tryz.func133, Tryz.ntmps133
  go_wp2_with fail
  go_quiet ((go_at_call 152; (first | exact quiet_left (HK.out _) | exact quiet_add_left (HK.out _))))
  have HE := Lib.hid (below_drewN HB.out nq)
  go_wp2_with fail
  go_ret
  exact ⟨rfl, by first | exact HE.out | (rw [hp0]; exact HE.out)⟩
set_option maxHeartbeats 2000000 in
theorem chk_lit0 (w : World) (op : Int) (u : Vl) (nm : ByteArray) (a : Option Addr) (n c : Nat) (hA : (n : Int) = kidsN op) (h1 : op = 1) (hn : nm.toList.isEmpty = true) (hu : VlW u) (hT : Tabs8 w) (hc : checkB u = false) :
    Calls Tryz.prog 133 #[valO op u nm (.slice a n c)] w fun e w' => e = .returned (.bool false) ∧ Below w.heap.size w w' := by
  obtain ⟨w1, p0, hp0, hw1, l1, n1, b1⟩ := box_new w (objN op u nm (.slice a n c))
  have c0 : w1.cell? ⟨p0, 0, none⟩ = some (.int .u8 op) := (cell_of_block n1 0).trans rfl
  have c1 : w1.cell? ⟨p0, 1, none⟩ = some (.int .u8 u.kind) := (cell_of_block n1 1).trans rfl
  have c2 : w1.cell? ⟨p0, 2, none⟩ = some (.int .i64 u.num) := (cell_of_block n1 2).trans rfl
  have c3 : w1.cell? ⟨p0, 3, none⟩ = some (.bool u.tr) := (cell_of_block n1 3).trans rfl
  have c4 : w1.cell? ⟨p0, 4, none⟩ = some (.string u.text) := (cell_of_block n1 4).trans rfl
  have c6 : w1.cell? ⟨p0, 6, none⟩ = some (.slice a n c) := (cell_of_block n1 6).trans rfl
  have HB := Lib.hid b1
  have HK := Lib.hid (fun W => kids_any W op)
  have dA : ((n : Int) != kidsN op) = false := by simpa using hA
  have d1 : (op != 1) = false := by rw [h1]; rfl
  have q1 : (op == 1) = true := by rw [h1]; rfl
  have HV := Lib.hid (show ∀ W, Below w.heap.size w W → Calls Tryz.prog 63 #[valV u] W fun e w' => e = .returned (.int .i64 1) ∧ Below W.heap.size W w' from fun W h => by
    have := vcheck_any W u hu (Utf8Tabs_below hT h)
    rw [show checkE u = 1 by unfold checkE; rw [hc]; rfl] at this
    exact this)
  clear hu hT hc
  obtain ⟨kk, hkk⟩ : ∃ kk, kidsN op = kk := ⟨_, rfl⟩
  rw [hkk] at HK dA
  have d2 : (op != 2) = true := by rw [h1]; rfl
  have c5 : w1.cell? ⟨p0, 5, none⟩ = some (.string nm) := (cell_of_block n1 5).trans rfl
  have dn : (!nm.toList.isEmpty) = false := by rw [hn]; rfl
  clear n1 b1 hA h1 hkk
  go_enter Tryz.func133, Tryz.ntmps133
  go_wp2_with fail
  go_quiet ((go_at_call 152; (first | exact quiet_left (HK.out _) | exact quiet_add_left (HK.out _))))
  have HE := Lib.hid (below_drewN HB.out nq)
  go_wp2_with (go_at_call 63; refine (HV.out _ HE.out).mono ?_; rintro e w5 ⟨rfl, hb5⟩; refine Hid.out ?_)
  refine Lib.hid ?_
  have HF := Lib.hid (HE.out.trans (hb5.mono HE.out.size))
  clear hb5
  go_wp2_with fail
  go_ret
  exact ⟨rfl, by first | exact HF.out | (rw [hp0]; exact HF.out)⟩
set_option maxHeartbeats 2000000 in
theorem chk_lit1 (w : World) (op : Int) (u : Vl) (nm : ByteArray) (a : Option Addr) (n c : Nat) (hA : (n : Int) = kidsN op) (h1 : op = 1) (hn : nm.toList.isEmpty = true) (hu : VlW u) (hT : Tabs8 w) (hc : checkB u = true) (hneg : u.num < 0) :
    Calls Tryz.prog 133 #[valO op u nm (.slice a n c)] w fun e w' => e = .returned (.bool false) ∧ Below w.heap.size w w' := by
  obtain ⟨w1, p0, hp0, hw1, l1, n1, b1⟩ := box_new w (objN op u nm (.slice a n c))
  have c0 : w1.cell? ⟨p0, 0, none⟩ = some (.int .u8 op) := (cell_of_block n1 0).trans rfl
  have c1 : w1.cell? ⟨p0, 1, none⟩ = some (.int .u8 u.kind) := (cell_of_block n1 1).trans rfl
  have c2 : w1.cell? ⟨p0, 2, none⟩ = some (.int .i64 u.num) := (cell_of_block n1 2).trans rfl
  have c3 : w1.cell? ⟨p0, 3, none⟩ = some (.bool u.tr) := (cell_of_block n1 3).trans rfl
  have c4 : w1.cell? ⟨p0, 4, none⟩ = some (.string u.text) := (cell_of_block n1 4).trans rfl
  have c6 : w1.cell? ⟨p0, 6, none⟩ = some (.slice a n c) := (cell_of_block n1 6).trans rfl
  have HB := Lib.hid b1
  have HK := Lib.hid (fun W => kids_any W op)
  have dA : ((n : Int) != kidsN op) = false := by simpa using hA
  have d1 : (op != 1) = false := by rw [h1]; rfl
  have q1 : (op == 1) = true := by rw [h1]; rfl
  have HV := Lib.hid (show ∀ W, Below w.heap.size w W → Calls Tryz.prog 63 #[valV u] W fun e w' => e = .returned (.int .i64 0) ∧ Below W.heap.size W w' from fun W h => by
    have := vcheck_any W u hu (Utf8Tabs_below hT h)
    rw [show checkE u = 0 by unfold checkE; rw [hc]; rfl] at this
    exact this)
  have dneg : decide (u.num < 0) = true := decide_eq_true hneg
  clear hu hT hc hneg
  obtain ⟨kk, hkk⟩ : ∃ kk, kidsN op = kk := ⟨_, rfl⟩
  rw [hkk] at HK dA
  have d2 : (op != 2) = true := by rw [h1]; rfl
  have c5 : w1.cell? ⟨p0, 5, none⟩ = some (.string nm) := (cell_of_block n1 5).trans rfl
  have dn : (!nm.toList.isEmpty) = false := by rw [hn]; rfl
  clear n1 b1 hA h1 hkk
  go_enter Tryz.func133, Tryz.ntmps133
  go_wp2_with fail
  go_quiet ((go_at_call 152; (first | exact quiet_left (HK.out _) | exact quiet_add_left (HK.out _))))
  have HE := Lib.hid (below_drewN HB.out nq)
  go_wp2_with (go_at_call 63; refine (HV.out _ HE.out).mono ?_; rintro e w5 ⟨rfl, hb5⟩; refine Hid.out ?_)
  refine Lib.hid ?_
  have c2' : w5.cell? ⟨p0, 2, none⟩ = some (.int .i64 u.num) := (Below.cellB hb5 (show p0 < (w1.drewN nq).heap.size from l1)).trans c2
  have c0' : w5.cell? ⟨p0, 0, none⟩ = some (.int .u8 op) := (Below.cellB hb5 (show p0 < (w1.drewN nq).heap.size from l1)).trans c0
  have HF := Lib.hid (HE.out.trans (hb5.mono HE.out.size))
  clear hb5
  go_wp2_with fail
  go_ret
  exact ⟨rfl, by first | exact HF.out | (rw [hp0]; exact HF.out)⟩
set_option maxHeartbeats 2000000 in
theorem chk_var0 (w : World) (op : Int) (u : Vl) (nm : ByteArray) (a : Option Addr) (n c : Nat) (hA : (n : Int) = kidsN op) (h1 : op = 2) (hv : vlEq u Vl.zero = true) (hc : nameB nm = false) :
    Calls Tryz.prog 133 #[valO op u nm (.slice a n c)] w fun e w' => e = .returned (.bool false) ∧ Below w.heap.size w w' := by
  obtain ⟨w1, p0, hp0, hw1, l1, n1, b1⟩ := box_new w (objN op u nm (.slice a n c))
  have c0 : w1.cell? ⟨p0, 0, none⟩ = some (.int .u8 op) := (cell_of_block n1 0).trans rfl
  have c1 : w1.cell? ⟨p0, 1, none⟩ = some (.int .u8 u.kind) := (cell_of_block n1 1).trans rfl
  have c2 : w1.cell? ⟨p0, 2, none⟩ = some (.int .i64 u.num) := (cell_of_block n1 2).trans rfl
  have c3 : w1.cell? ⟨p0, 3, none⟩ = some (.bool u.tr) := (cell_of_block n1 3).trans rfl
  have c4 : w1.cell? ⟨p0, 4, none⟩ = some (.string u.text) := (cell_of_block n1 4).trans rfl
  have c6 : w1.cell? ⟨p0, 6, none⟩ = some (.slice a n c) := (cell_of_block n1 6).trans rfl
  have HB := Lib.hid b1
  have HK := Lib.hid (fun W => kids_any W op)
  have dA : ((n : Int) != kidsN op) = false := by simpa using hA
  have d1 : (op != 1) = true := by rw [h1]; rfl
  have q1 : (op == 1) = false := by rw [h1]; rfl
  have q2 : (op == 2) = true := by rw [h1]; rfl
  have HV := Lib.hid (show ∀ W, Calls Tryz.prog 57 #[.string nm] W fun e w' => e = .returned (.bool false) ∧ Below W.heap.size W w' from fun W => by rw [← hc]; exact name_any W nm)
  have hq : ∀ W, (binOp .neq 58 (.agg #[.int .u8 u.kind, .int .i64 u.num, .bool u.tr, .string u.text]) (.agg #[.int .u8 0, .int .i64 0, .bool false, .string ⟨#[]⟩])).run Tryz.prog W = .ok (.bool false) W := fun W => by
    have := run_neq_val W u Vl.zero
    rw [hv] at this
    exact this
  clear hc hv
  obtain ⟨kk, hkk⟩ : ∃ kk, kidsN op = kk := ⟨_, rfl⟩
  rw [hkk] at HK dA
  have d2 : (op != 2) = false := by rw [h1]; rfl
  have c5 : w1.cell? ⟨p0, 5, none⟩ = some (.string nm) := (cell_of_block n1 5).trans rfl
  clear n1 b1 hA h1 hkk
  go_enter Tryz.func133, Tryz.ntmps133
  go_wp2_with fail
  go_quiet ((go_at_call 152; (first | exact quiet_left (HK.out _) | exact quiet_add_left (HK.out _))))
  have HE := Lib.hid (below_drewN HB.out nq)
  go_wp2_with (go_at_call 57; refine (HV.out _).mono ?_; rintro e w5 ⟨rfl, hb5⟩; refine Hid.out ?_)
  refine Lib.hid ?_
  have HF := Lib.hid (HE.out.trans (hb5.mono HE.out.size))
  clear hb5
  go_wp2_with fail
  go_ret
  exact ⟨rfl, by first | exact HF.out | (rw [hp0]; exact HF.out)⟩
set_option maxHeartbeats 2000000 in
theorem chk_var1 (w : World) (op : Int) (u : Vl) (nm : ByteArray) (a : Option Addr) (n c : Nat) (hA : (n : Int) = kidsN op) (h1 : op = 2) (hv : vlEq u Vl.zero = true) (hc : nameB nm = true) (hkw : keyWord nm = true) :
    Calls Tryz.prog 133 #[valO op u nm (.slice a n c)] w fun e w' => e = .returned (.bool false) ∧ Below w.heap.size w w' := by
  obtain ⟨w1, p0, hp0, hw1, l1, n1, b1⟩ := box_new w (objN op u nm (.slice a n c))
  have c0 : w1.cell? ⟨p0, 0, none⟩ = some (.int .u8 op) := (cell_of_block n1 0).trans rfl
  have c1 : w1.cell? ⟨p0, 1, none⟩ = some (.int .u8 u.kind) := (cell_of_block n1 1).trans rfl
  have c2 : w1.cell? ⟨p0, 2, none⟩ = some (.int .i64 u.num) := (cell_of_block n1 2).trans rfl
  have c3 : w1.cell? ⟨p0, 3, none⟩ = some (.bool u.tr) := (cell_of_block n1 3).trans rfl
  have c4 : w1.cell? ⟨p0, 4, none⟩ = some (.string u.text) := (cell_of_block n1 4).trans rfl
  have c6 : w1.cell? ⟨p0, 6, none⟩ = some (.slice a n c) := (cell_of_block n1 6).trans rfl
  have HB := Lib.hid b1
  have HK := Lib.hid (fun W => kids_any W op)
  have dA : ((n : Int) != kidsN op) = false := by simpa using hA
  have d1 : (op != 1) = true := by rw [h1]; rfl
  have q1 : (op == 1) = false := by rw [h1]; rfl
  have q2 : (op == 2) = true := by rw [h1]; rfl
  have HV := Lib.hid (show ∀ W, Calls Tryz.prog 57 #[.string nm] W fun e w' => e = .returned (.bool true) ∧ Below W.heap.size W w' from fun W => by rw [← hc]; exact name_any W nm)
  have HW := Lib.hid (show ∀ W, Calls Tryz.prog 153 #[.string nm] W fun e w' => e = .returned (.bool true) ∧ Below W.heap.size W w' from fun W => by rw [← hkw]; exact keyword_any W nm)
  have hq : ∀ W, (binOp .neq 58 (.agg #[.int .u8 u.kind, .int .i64 u.num, .bool u.tr, .string u.text]) (.agg #[.int .u8 0, .int .i64 0, .bool false, .string ⟨#[]⟩])).run Tryz.prog W = .ok (.bool false) W := fun W => by
    have := run_neq_val W u Vl.zero
    rw [hv] at this
    exact this
  clear hc hv hkw
  obtain ⟨kk, hkk⟩ : ∃ kk, kidsN op = kk := ⟨_, rfl⟩
  rw [hkk] at HK dA
  have d2 : (op != 2) = false := by rw [h1]; rfl
  have c5 : w1.cell? ⟨p0, 5, none⟩ = some (.string nm) := (cell_of_block n1 5).trans rfl
  clear n1 b1 hA h1 hkk
  go_enter Tryz.func133, Tryz.ntmps133
  go_wp2_with fail
  go_quiet ((go_at_call 152; (first | exact quiet_left (HK.out _) | exact quiet_add_left (HK.out _))))
  have HE := Lib.hid (below_drewN HB.out nq)
  go_wp2_with (go_at_call 57; refine (HV.out _).mono ?_; rintro e w5 ⟨rfl, hb5⟩; refine Hid.out ?_)
  refine Lib.hid ?_
  have c5' : w5.cell? ⟨p0, 5, none⟩ = some (.string nm) := (Below.cellB hb5 (show p0 < (w1.drewN nq).heap.size from l1)).trans c5
  have HF := Lib.hid (HE.out.trans (hb5.mono HE.out.size))
  clear hb5
  go_wp2_with (go_at_call 153; refine (HW.out _).mono ?_; rintro e w6 ⟨rfl, hb6⟩; refine Hid.out ?_)
  refine Lib.hid ?_
  have HG := Lib.hid (HF.out.trans (hb6.mono HF.out.size))
  clear hb6
  go_wp2_with fail
  go_ret
  exact ⟨rfl, by first | exact HG.out | (rw [hp0]; exact HG.out)⟩
end Go.Proofs.YtjcaaahbfkjipaaGreatDoor
