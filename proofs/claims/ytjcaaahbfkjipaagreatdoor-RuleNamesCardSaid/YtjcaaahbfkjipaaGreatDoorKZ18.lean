/- Texts fused by fuse.py: KRuleThree. -/
import Derived.Test.YtjcaaahbfkjipaaGreatDoorKZ16
import Derived.Test.YtjcaaahbfkjipaaGreatDoorKZ17
/- Of RuleThree: what FRuleNames uses (shake.py). -/
set_option maxRecDepth 100000
/- rule.three: where a flow's ends are. -/
namespace Go.Proofs.YtjcaaahbfkjipaaGreatDoor
open Go.RowKit
/-- A block of zero cells, for an element. -/
abbrev oElZ : Obj := .cells #[.string ⟨#[]⟩, .string ⟨#[]⟩, .int .u8 0, .string ⟨#[]⟩, .string ⟨#[]⟩, .string ⟨#[]⟩, .int .u8 0, .string ⟨#[]⟩, .string ⟨#[]⟩, .int .i64 0, .int .i64 0] 39
section
variable {w : World} {B cx : Nat} {x : IX} {m : Md}
def endsB (m : Md) (f : Fl) : Bool := match findE m.els f.frm, findE m.els f.into with
  | some a, some b => sEq a.inn b.inn && (!(b.kind == 9) && !sEq f.frm f.into)
  | _, _ => false
theorem ends_eq (m : Md) (f : Fl) : endsB m f = ((findE m.els f.frm).isSome && ((findE m.els f.into).isSome && (sEq (elemE m.els f.frm).inn (elemE m.els f.into).inn && (!((elemE m.els f.into).kind == 9) && !sEq f.frm f.into)))) := by
  unfold endsB elemE
  cases findE m.els f.frm <;> cases findE m.els f.into <;> rfl
/-- The looks with 'is it there' into the index, in any world that comes of this one. -/
theorem CapX.lookOk (h : CapX w B cx x m) (s : ByteArray) {W : World} (hb : Below w.heap.size w W) : (Instr.lookup 67 (.map (some x.eb)) (.string s) true).run Tryz.prog W = .ok (.tuple #[valEl (elemE m.els s), .bool (findE m.els s).isSome]) W :=
  ((h.below hb).idx.look s).2
set_option maxHeartbeats 8000000 in
theorem three1_any (h : CapX w B cx x m) (f : Fl) : Calls Tryz.prog 72 #[valFl f, .pointer (some ⟨cx, 0, none⟩)] w fun e w' => e = .returned (.bool (endsB m f)) ∧ Below w.heap.size w w' := by
  obtain ⟨w1, p0, hp0, hw1, l1, n1, b1⟩ := box_new w (oFl f)
  have HB := Lib.hid b1
  have h1 := h.below b1
  obtain ⟨c0, c1, c2, c3⟩ := boxFl n1
  have cc := h1.cell
  obtain ⟨-, -, -, -, -, x5, -, -⟩ := h1.idx.cells
  have k1 := h1.lookOk f.frm (Below.refl _ _).drew
  have k2 := h1.lookOk f.frm ((Below.refl _ w1).alloc (Nat.le_refl _) oElZ).drew
  rw [ends_eq]
  obtain ⟨bA, hA⟩ : ∃ b, (findE m.els f.frm).isSome = b := ⟨_, rfl⟩
  obtain ⟨bB, hB⟩ : ∃ b, (findE m.els f.into).isSome = b := ⟨_, rfl⟩
  obtain ⟨EA, hEA⟩ : ∃ E, elemE m.els f.frm = E := ⟨_, rfl⟩
  obtain ⟨EB, hEB⟩ : ∃ E, elemE m.els f.into = E := ⟨_, rfl⟩
  rw [hA, hB, hEA, hEB]
  rw [hA, hEA] at k1 k2
  obtain ⟨w2, p1, hp1, hw2, l2, n2, b2⟩ := box_new w1 (oEl EA)
  obtain ⟨w3, hw3⟩ : ∃ W, w2.drew = W := ⟨_, rfl⟩
  have b2 : Below w1.heap.size w1 w3 := hw3 ▸ b2.drew
  have n2 : w3.heap[p1]? = some (oEl EA) := hw3 ▸ n2
  have l2 : p1 < w3.heap.size := lt_of_block n2
  obtain ⟨w4, p2, hp2, hw4, l4, n4, b4⟩ := box_new w3 (oEl EB)
  have h2 := h1.below b2
  have HB4 := Lib.hid ((HB.out.trans (b2.mono HB.out.size)).trans (b4.mono (HB.out.trans (b2.mono HB.out.size)).size))
  have m1 := h2.lookOk f.into (Below.refl _ _).drew
  have m2 := h2.lookOk f.into ((Below.refl _ w3).alloc (Nat.le_refl _) oElZ).drew
  rw [hB, hEB] at m1 m2
  have cc2 := h2.cell
  have cc4 := (h2.below b4).cell
  obtain ⟨-, -, -, -, -, x54, -, -⟩ := (h2.below b4).idx.cells
  obtain ⟨-, -, -, -, -, x52, -, -⟩ := h2.idx.cells
  obtain ⟨d0, d1, d2, d3⟩ := boxFl ((b2.block p0 l1).trans n1)
  obtain ⟨e0, e1, e2, e3⟩ := boxFl (((b4.block p0 (Nat.lt_of_lt_of_le l1 b2.size)).trans (b2.block p0 l1)).trans n1)
  obtain ⟨-, -, u2, u3, -⟩ := boxEl ((b4.block p1 l2).trans n2)
  obtain ⟨-, -, v2, v3, -⟩ := boxEl n4
  clear n1 b1 h h1 h2 b2 b4 n2 n4 hA hB hEA hEB
  go_enter Tryz.func72, Tryz.ntmps72
  go_wp2_with fail
  go_region_held3 (fun w' => w'.cell? ⟨cx, 0, none⟩ = some (.pointer (some ⟨x.p, 0, none⟩)) ∧ w'.cell? ⟨x.p, 5, none⟩ = some (.map (some x.eb)) ∧ w'.cell? ⟨p0, 1, none⟩ = some (.string f.frm)) (go_keep) (fail)
  all_goals
    go_wp2_with fail
    go_region_held3 (fun w' => w'.cell? ⟨cx, 0, none⟩ = some (.pointer (some ⟨x.p, 0, none⟩)) ∧ w'.cell? ⟨x.p, 5, none⟩ = some (.map (some x.eb)) ∧ w'.cell? ⟨p0, 2, none⟩ = some (.string f.into)) (go_keep) (fail)
    all_goals
      go_wp2_with fail
      all_goals (go_ret; exact ⟨ret_bool (by simp_all [sEq, bne]), HB4.out.drew⟩)
end
section
variable {w : World} {x : IX} {m : Md}
set_option maxHeartbeats 2000000 in
theorem three_any (h : IdxR w w.heap.size x m) : Calls Tryz.prog 35 #[.pointer (some ⟨x.p, 0, none⟩)] w (RuleR (threeR m) w) := by
  obtain ⟨w1, p0, hp0, hw1, l1, b1, hc⟩ := cap_box h
  have S := Lib.hid (firstFl0 (w := w1) x.vf m.fls hc.idx.md.fls 72 #[.pointer (some ⟨p0, 0, none⟩)] (endsB m) (enters_of Tryz.func72 (by kernel_rfl) rfl) (fun f _ W hW => three1_any (hc.below hW) f))
  have cc := hc.cell
  obtain ⟨-, -, -, -, x4, -, -, -⟩ := hc.idx.cells
  have HB := Lib.hid b1
  obtain ⟨r, hr⟩ : ∃ r, threeR m = r := ⟨_, rfl⟩
  rw [show firstBad Fl.id (endsB m) m.fls = r from hr] at S
  rw [hr]
  obtain ⟨a1, k1, a2, k2, a3, k3, v1, v2, v3⟩ := hc.idx.md.shape
  rw [v3] at x4 S
  clear h b1 hc v1 v2 v3 hr
  go_enter Tryz.func35, Tryz.ntmps35
  go_wp2_with (go_at_call 67; refine S.out.mono ?_; rintro e w2 ⟨rfl, hb2⟩; have HB2 := Lib.hid (HB.out.trans (hb2.mono HB.out.size)); clear hb2)
  go_ret2
  exact ⟨rfl, HB2.out⟩
set_option maxHeartbeats 2000000 in
theorem four_any (h : IdxR w w.heap.size x m) : Calls Tryz.prog 36 #[.pointer (some ⟨x.p, 0, none⟩)] w (RuleR (fourR m) w) := by
  obtain ⟨w1, p0, hp0, hw1, l1, b1, hc⟩ := cap_box h
  have S := Lib.hid (firstEl0 (w := w1) x.ve m.els hc.idx.md.els 73 #[.pointer (some ⟨p0, 0, none⟩)] (waysB m) (enters_of Tryz.func73 (by kernel_rfl) rfl) (fun e _ W hW => four1_any (hc.below hW) e))
  have cc := hc.cell
  obtain ⟨-, -, -, x3, -, -, -, -⟩ := hc.idx.cells
  have HB := Lib.hid b1
  obtain ⟨r, hr⟩ : ∃ r, fourR m = r := ⟨_, rfl⟩
  rw [show firstBad El.id (waysB m) m.els = r from hr] at S
  rw [hr]
  obtain ⟨a1, k1, a2, k2, a3, k3, v1, v2, v3⟩ := hc.idx.md.shape
  rw [v2] at x3 S
  clear h b1 hc v1 v2 v3 hr
  go_enter Tryz.func36, Tryz.ntmps36
  go_wp2_with (go_at_call 64; refine S.out.mono ?_; rintro e w2 ⟨rfl, hb2⟩; have HB2 := Lib.hid (HB.out.trans (hb2.mono HB.out.size)); clear hb2)
  go_ret2
  exact ⟨rfl, HB2.out⟩
end
end Go.Proofs.YtjcaaahbfkjipaaGreatDoor
