/- Texts fused by fuse.py: KEvalCheck3. -/
import Derived.Test.YtjcaaahbfkjipaaGreatDoorKZ05
/- Of EvalCheck3: what FRuleNames uses (shake.py). -/
set_option maxRecDepth 100000
/- expr.Check: the ways that come to the kids. -/
namespace Go.Proofs.YtjcaaahbfkjipaaGreatDoor
open Go.RowKit
set_option maxHeartbeats 2000000 in
theorem chk_op (w : World) (op : Int) (u : Vl) (nm : ByteArray) (a : Option Addr) (n c : Nat) (r : Bool) (hA : (n : Int) = kidsN op) (h1 : op ≠ 1) (h2 : op ≠ 2) (hv : vlEq u Vl.zero = true) (hn : nm.toList.isEmpty = true)
    (hk : ∀ W, Below w.heap.size w W → Calls Tryz.prog 154 #[.slice a n c, .func (.func 155) #[] #[]] W fun e w' => e = .returned (.bool r) ∧ Below W.heap.size W w') :
    Calls Tryz.prog 133 #[valO op u nm (.slice a n c)] w fun e w' => e = .returned (.bool (!r)) ∧ Below w.heap.size w w' := by
  obtain ⟨w1, p0, hp0, hw1, l1, n1, b1⟩ := box_new w (objN op u nm (.slice a n c))
  have c0 : w1.cell? ⟨p0, 0, none⟩ = some (.int .u8 op) := (cell_of_block n1 0).trans rfl
  have c1 : w1.cell? ⟨p0, 1, none⟩ = some (.int .u8 u.kind) := (cell_of_block n1 1).trans rfl
  have c2 : w1.cell? ⟨p0, 2, none⟩ = some (.int .i64 u.num) := (cell_of_block n1 2).trans rfl
  have c3 : w1.cell? ⟨p0, 3, none⟩ = some (.bool u.tr) := (cell_of_block n1 3).trans rfl
  have c4 : w1.cell? ⟨p0, 4, none⟩ = some (.string u.text) := (cell_of_block n1 4).trans rfl
  have c5 : w1.cell? ⟨p0, 5, none⟩ = some (.string nm) := (cell_of_block n1 5).trans rfl
  have c6 : w1.cell? ⟨p0, 6, none⟩ = some (.slice a n c) := (cell_of_block n1 6).trans rfl
  have HB := Lib.hid b1
  have HK := Lib.hid (fun W => kids_any W op)
  have HC := Lib.hid hk
  have dA : ((n : Int) != kidsN op) = false := by simpa using hA
  have d1 : (op != 1) = true := by simpa using h1
  have d2 : (op != 2) = true := by simpa using h2
  have q1 : (op == 1) = false := by simpa using h1
  have q2 : (op == 2) = false := by simpa using h2
  have dn : (!nm.toList.isEmpty) = false := by rw [hn]; rfl
  obtain ⟨kk, hkk⟩ : ∃ kk, kidsN op = kk := ⟨_, rfl⟩
  rw [hkk] at HK dA
  have hq : ∀ W, (binOp .neq 58 (.agg #[.int .u8 u.kind, .int .i64 u.num, .bool u.tr, .string u.text]) (.agg #[.int .u8 0, .int .i64 0, .bool false, .string ⟨#[]⟩])).run Tryz.prog W = .ok (.bool false) W := fun W => by
    have := run_neq_val W u Vl.zero
    rw [hv] at this
    exact this
  clear n1 b1 hA h1 h2 hkk hv hk
  go_enter Tryz.func133, Tryz.ntmps133
  go_wp2_with fail
  go_quiet ((go_at_call 152; (first | exact quiet_left (HK.out _) | exact quiet_add_left (HK.out _))))
  have HE := Lib.hid (below_drewN HB.out nq)
  go_wp2_with (go_at_call 154; refine (HC.out _ HE.out).mono ?_; rintro e w5 ⟨rfl, hb5⟩; refine Hid.out ?_)
  refine Lib.hid ?_
  have HF := Lib.hid (HE.out.trans (hb5.mono HE.out.size))
  clear hb5
  go_wp2_with fail
  go_ret
  exact ⟨rfl, by first | exact HF.out | (rw [hp0]; exact HF.out)⟩
set_option maxHeartbeats 2000000 in
theorem chk_var (w : World) (op : Int) (u : Vl) (nm : ByteArray) (a : Option Addr) (n c : Nat) (r : Bool) (hA : (n : Int) = kidsN op) (h2 : op = 2) (hv : vlEq u Vl.zero = true) (hc : nameB nm = true) (hkw : keyWord nm = false)
    (hk : ∀ W, Below w.heap.size w W → Calls Tryz.prog 154 #[.slice a n c, .func (.func 155) #[] #[]] W fun e w' => e = .returned (.bool r) ∧ Below W.heap.size W w') :
    Calls Tryz.prog 133 #[valO op u nm (.slice a n c)] w fun e w' => e = .returned (.bool (!r)) ∧ Below w.heap.size w w' := by
  obtain ⟨w1, p0, hp0, hw1, l1, n1, b1⟩ := box_new w (objN op u nm (.slice a n c))
  have c0 : w1.cell? ⟨p0, 0, none⟩ = some (.int .u8 op) := (cell_of_block n1 0).trans rfl
  have c1 : w1.cell? ⟨p0, 1, none⟩ = some (.int .u8 u.kind) := (cell_of_block n1 1).trans rfl
  have c2 : w1.cell? ⟨p0, 2, none⟩ = some (.int .i64 u.num) := (cell_of_block n1 2).trans rfl
  have c3 : w1.cell? ⟨p0, 3, none⟩ = some (.bool u.tr) := (cell_of_block n1 3).trans rfl
  have c4 : w1.cell? ⟨p0, 4, none⟩ = some (.string u.text) := (cell_of_block n1 4).trans rfl
  have c5 : w1.cell? ⟨p0, 5, none⟩ = some (.string nm) := (cell_of_block n1 5).trans rfl
  have c6 : w1.cell? ⟨p0, 6, none⟩ = some (.slice a n c) := (cell_of_block n1 6).trans rfl
  have HB := Lib.hid b1
  have HK := Lib.hid (fun W => kids_any W op)
  have HC := Lib.hid hk
  have dA : ((n : Int) != kidsN op) = false := by simpa using hA
  have d1 : (op != 1) = true := by rw [h2]; rfl
  have d2 : (op != 2) = false := by rw [h2]; rfl
  have q1 : (op == 1) = false := by rw [h2]; rfl
  have q2 : (op == 2) = true := by rw [h2]; rfl
  have HV := Lib.hid (show ∀ W, Calls Tryz.prog 57 #[.string nm] W fun e w' => e = .returned (.bool true) ∧ Below W.heap.size W w' from fun W => by rw [← hc]; exact name_any W nm)
  have HW := Lib.hid (show ∀ W, Calls Tryz.prog 153 #[.string nm] W fun e w' => e = .returned (.bool false) ∧ Below W.heap.size W w' from fun W => by rw [← hkw]; exact keyword_any W nm)
  obtain ⟨kk, hkk⟩ : ∃ kk, kidsN op = kk := ⟨_, rfl⟩
  rw [hkk] at HK dA
  have hq : ∀ W, (binOp .neq 58 (.agg #[.int .u8 u.kind, .int .i64 u.num, .bool u.tr, .string u.text]) (.agg #[.int .u8 0, .int .i64 0, .bool false, .string ⟨#[]⟩])).run Tryz.prog W = .ok (.bool false) W := fun W => by
    have := run_neq_val W u Vl.zero
    rw [hv] at this
    exact this
  clear n1 b1 hA h2 hkk hv hk hc hkw
  go_enter Tryz.func133, Tryz.ntmps133
  go_wp2_with fail
  go_quiet ((go_at_call 152; (first | exact quiet_left (HK.out _) | exact quiet_add_left (HK.out _))))
  have HE := Lib.hid (below_drewN HB.out nq)
  go_wp2_with (go_at_call 57; refine (HV.out _).mono ?_; rintro e w3 ⟨rfl, hb3⟩; refine Hid.out ?_)
  refine Lib.hid ?_
  have k5 : w3.cell? ⟨p0, 5, none⟩ = some (.string nm) := (Below.cellB hb3 (show p0 < (w1.drewN nq).heap.size from l1)).trans c5
  have k6 : w3.cell? ⟨p0, 6, none⟩ = some (.slice a n c) := (Below.cellB hb3 (show p0 < (w1.drewN nq).heap.size from l1)).trans c6
  have l3 : p0 < w3.heap.size := Nat.lt_of_lt_of_le (show p0 < (w1.drewN nq).heap.size from l1) hb3.size
  have HE := Lib.hid (HE.out.trans (hb3.mono HE.out.size))
  clear hb3
  go_wp2_with (go_at_call 153; refine (HW.out _).mono ?_; rintro e w4 ⟨rfl, hb4⟩; refine Hid.out ?_)
  refine Lib.hid ?_
  have j6 : w4.cell? ⟨p0, 6, none⟩ = some (.slice a n c) := (Below.cellB hb4 l3).trans k6
  have HE := Lib.hid (HE.out.trans (hb4.mono HE.out.size))
  clear hb4
  go_wp2_with (go_at_call 154; refine (HC.out _ HE.out).mono ?_; rintro e w5 ⟨rfl, hb5⟩; refine Hid.out ?_)
  refine Lib.hid ?_
  have HF := Lib.hid (HE.out.trans (hb5.mono HE.out.size))
  clear hb5
  go_wp2_with fail
  go_ret
  exact ⟨rfl, by first | exact HF.out | (rw [hp0]; exact HF.out)⟩
set_option maxHeartbeats 2000000 in
theorem chk_lit (w : World) (op : Int) (u : Vl) (nm : ByteArray) (a : Option Addr) (n c : Nat) (r : Bool) (hA : (n : Int) = kidsN op) (h2 : op = 1) (hn : nm.toList.isEmpty = true) (hu : VlW u) (hT : Tabs8 w) (hc : checkB u = true) (hpos : 0 ≤ u.num)
    (hk : ∀ W, Below w.heap.size w W → Calls Tryz.prog 154 #[.slice a n c, .func (.func 155) #[] #[]] W fun e w' => e = .returned (.bool r) ∧ Below W.heap.size W w') :
    Calls Tryz.prog 133 #[valO op u nm (.slice a n c)] w fun e w' => e = .returned (.bool (!r)) ∧ Below w.heap.size w w' := by
  obtain ⟨w1, p0, hp0, hw1, l1, n1, b1⟩ := box_new w (objN op u nm (.slice a n c))
  have c0 : w1.cell? ⟨p0, 0, none⟩ = some (.int .u8 op) := (cell_of_block n1 0).trans rfl
  have c1 : w1.cell? ⟨p0, 1, none⟩ = some (.int .u8 u.kind) := (cell_of_block n1 1).trans rfl
  have c2 : w1.cell? ⟨p0, 2, none⟩ = some (.int .i64 u.num) := (cell_of_block n1 2).trans rfl
  have c3 : w1.cell? ⟨p0, 3, none⟩ = some (.bool u.tr) := (cell_of_block n1 3).trans rfl
  have c4 : w1.cell? ⟨p0, 4, none⟩ = some (.string u.text) := (cell_of_block n1 4).trans rfl
  have c5 : w1.cell? ⟨p0, 5, none⟩ = some (.string nm) := (cell_of_block n1 5).trans rfl
  have c6 : w1.cell? ⟨p0, 6, none⟩ = some (.slice a n c) := (cell_of_block n1 6).trans rfl
  have HB := Lib.hid b1
  have HK := Lib.hid (fun W => kids_any W op)
  have HC := Lib.hid hk
  have dA : ((n : Int) != kidsN op) = false := by simpa using hA
  have d1 : (op != 1) = false := by rw [h2]; rfl
  have d2 : (op != 2) = true := by rw [h2]; rfl
  have q1 : (op == 1) = true := by rw [h2]; rfl
  have q2 : (op == 2) = false := by rw [h2]; rfl
  have dn : (!nm.toList.isEmpty) = false := by rw [hn]; rfl
  have dneg : decide (u.num < 0) = false := decide_eq_false (by omega)
  have HV := Lib.hid (show ∀ W, Below w.heap.size w W → Calls Tryz.prog 63 #[valV u] W fun e w' => e = .returned (.int .i64 0) ∧ Below W.heap.size W w' from fun W h => by
    have := vcheck_any W u hu (Utf8Tabs_below hT h)
    rw [show checkE u = 0 by unfold checkE; rw [hc]; rfl] at this
    exact this)
  obtain ⟨kk, hkk⟩ : ∃ kk, kidsN op = kk := ⟨_, rfl⟩
  rw [hkk] at HK dA
  clear n1 b1 hA h2 hkk hk hc hu hT hpos
  go_enter Tryz.func133, Tryz.ntmps133
  go_wp2_with fail
  go_quiet ((go_at_call 152; (first | exact quiet_left (HK.out _) | exact quiet_add_left (HK.out _))))
  have HE := Lib.hid (below_drewN HB.out nq)
  go_wp2_with (go_at_call 63; refine (HV.out _ HE.out).mono ?_; rintro e w3 ⟨rfl, hb3⟩; refine Hid.out ?_)
  refine Lib.hid ?_
  have k0 : w3.cell? ⟨p0, 0, none⟩ = some (.int .u8 op) := (Below.cellB hb3 (show p0 < (w1.drewN nq).heap.size from l1)).trans c0
  have k2 : w3.cell? ⟨p0, 2, none⟩ = some (.int .i64 u.num) := (Below.cellB hb3 (show p0 < (w1.drewN nq).heap.size from l1)).trans c2
  have k6 : w3.cell? ⟨p0, 6, none⟩ = some (.slice a n c) := (Below.cellB hb3 (show p0 < (w1.drewN nq).heap.size from l1)).trans c6
  have HE := Lib.hid (HE.out.trans (hb3.mono HE.out.size))
  clear hb3
  go_wp2_with (go_at_call 154; refine (HC.out _ HE.out).mono ?_; rintro e w5 ⟨rfl, hb5⟩; refine Hid.out ?_)
  refine Lib.hid ?_
  have HF := Lib.hid (HE.out.trans (hb5.mono HE.out.size))
  clear hb5
  go_wp2_with fail
  go_ret
  exact ⟨rfl, by first | exact HF.out | (rw [hp0]; exact HF.out)⟩
end Go.Proofs.YtjcaaahbfkjipaaGreatDoor
