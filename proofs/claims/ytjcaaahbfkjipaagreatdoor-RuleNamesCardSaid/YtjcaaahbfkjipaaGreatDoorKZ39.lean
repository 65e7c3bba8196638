/- Texts fused by fuse.py: KRuleSeven. -/
import Derived.Test.YtjcaaahbfkjipaaGreatDoorKZ38
/- Of RuleSeven: what FRuleNames uses (shake.py). -/
set_option maxRecDepth 100000
/- rule.six, rule.seven, rule.eight: the rules over the elements. -/
namespace Go.Proofs.YtjcaaahbfkjipaaGreatDoor
open Go.RowKit
section
variable {w : World} {x : IX} {m : Md}
set_option maxHeartbeats 4000000 in
theorem six_any (h : IdxR w w.heap.size x m) (hg : Gr w) : Calls Tryz.prog 38 #[.pointer (some ⟨x.p, 0, none⟩)] w (RuleR (sixR m) w) := by
  obtain ⟨w1, p0, hp0, hw1, l1, b1, hc⟩ := cap_box h
  have S := Lib.hid (firstEl0 (w := w1) x.ve m.els hc.idx.md.els 79 #[.pointer (some ⟨p0, 0, none⟩)] (dfltB m) (enters_of Tryz.func79 (by kernel_rfl) rfl) (fun e _ W hW => six1_any (hc.below hW) e))
  have HB := Lib.hid b1
  have HC := Lib.hid hc
  have HG := Lib.hid hg
  have cc := hc.cell
  obtain ⟨-, -, -, x3, -, -, -, -⟩ := hc.idx.cells
  obtain ⟨a1, k1, a2, k2, a3, k3, v1, v2, v3⟩ := hc.idx.md.shape
  rw [v2] at x3 S
  have HV := Lib.hid v3
  have hs : sixR m = orBad (firstBad El.id (dfltB m) m.els) (firstBad Fl.id (condB m) m.fls) := rfl
  rw [hs]
  obtain ⟨r2, hr2⟩ : ∃ r, firstBad Fl.id (condB m) m.fls = r := ⟨_, rfl⟩
  rw [hr2]
  have HR2 := Lib.hid hr2
  cases hr : firstBad El.id (dfltB m) m.els with
  | some s =>
    rw [hr] at S
    clear h b1 hc v1 v2 v3 hr hr2 hg hs
    go_enter Tryz.func38, Tryz.ntmps38
    go_wp2_with (go_at_call 64; refine S.out.mono ?_; rintro e w2 ⟨rfl, hb2⟩; have HB2 := Lib.hid (HB.out.trans (hb2.mono HB.out.size)); clear hb2)
    go_ret2
    exact ⟨rfl, HB2.out⟩
  | none =>
    rw [hr] at S
    clear h b1 hc v1 v2 v3 hr hr2 hg hs
    go_enter Tryz.func38, Tryz.ntmps38
    go_wp2_with (first
      | (go_at_call 64; refine S.out.mono ?_; rintro e w2 ⟨rfl, hb2⟩; have HB2 := Lib.hid (HB.out.trans (hb2.mono HB.out.size)); have HC2 := Lib.hid (HC.out.below hb2); have HG2 := Lib.hid ((HG.out.up HB.out).up hb2); have S2 := Lib.hid (firstFl0 (w := w2) x.vf m.fls (HC2.out.idx.md.fls.mono (Below.refl _ _) HC2.out.le) 81 #[.pointer (some ⟨p0, 0, none⟩)] (condB m) (enters_of Tryz.func81 (by kernel_rfl) rfl) (fun f hf W hW => six2_any (HC2.out.below hW) (HG2.out.up hW) f (HC2.out.idx.md.fls.ok f hf).cond)); have cc := HC2.out.cell; obtain ⟨-, -, -, -, y4, -, -, -⟩ := HC2.out.idx.cells; rw [HR2.out] at S2; rw [HV.out] at y4 S2; clear hb2)
      | (go_at_call 67; refine S2.out.mono ?_; rintro e w3 ⟨rfl, hb3⟩; have HB3 := Lib.hid (HB2.out.trans (hb3.mono HB2.out.size)); clear hb3))
    go_ret2
    exact ⟨rfl, HB3.out⟩
/-- rule.eight's inner test. -/
theorem eight11_any {pe : Nat} {k : ByteArray} (hd : w.cell? ⟨pe, 8, none⟩ = some (.string k)) (b : Bd) : Calls Tryz.prog 89 #[valBd b, .pointer (some ⟨pe, 0, none⟩)] w fun e w' => e = .returned (.bool (sEq b.name k && (b.val.kind == 3))) ∧ Below w.heap.size w w' := by
  obtain ⟨w1, p0, hp0, hw1, l1, n1, b1⟩ := box_new w (.cells #[.string b.name, .int .u8 b.val.kind, .int .i64 b.val.num, .bool b.val.tr, .string b.val.text] 60)
  have c0 : w1.cell? ⟨p0, 0, none⟩ = some (.string b.name) := (cell_of_block n1 0).trans rfl
  have c1 : w1.cell? ⟨p0, 1, none⟩ = some (.int .u8 b.val.kind) := (cell_of_block n1 1).trans rfl
  have dd := (Below.cellB b1 (cellLt hd)).trans hd
  have HB := Lib.hid b1
  unfold sEq
  clear n1 b1 hd
  go_enter Tryz.func89, Tryz.ntmps89
  go_wp2_with fail
  all_goals (go_ret; exact ⟨ret_bool (by simp_all), HB.out⟩)
set_option maxHeartbeats 4000000 in
theorem eight1_any {B cx : Nat} (h : CapX w B cx x m) (el : El) : Calls Tryz.prog 87 #[valEl el, .pointer (some ⟨cx, 0, none⟩)] w fun e w' => e = .returned (.bool (!(el.event == 2) || m.vars.any fun b => sEq b.name el.key && (b.val.kind == 3))) ∧ Below w.heap.size w w' := by
  obtain ⟨w1, p0, hp0, hw1, l1, n1, b1⟩ := box_new w (oEl el)
  have h1 := h.below b1
  obtain ⟨c0, c1, c2, c3, c4, c5, c6, c7, c8, c9, c10⟩ := boxEl n1
  obtain ⟨-, -, x2, -, -, -, -, -⟩ := h1.idx.cells
  have cc := h1.cell
  obtain ⟨a1, k1, a2, k2, a3, k3, v1, v2, v3⟩ := h1.idx.md.shape
  have HB := Lib.hid b1
  have HR := Lib.hid (hasBd (w := w1) x.vv m.vars (h1.idx.md.vars.mono (Below.refl _ _) h1.le) 89 #[.pointer (some ⟨p0, 0, none⟩)] (fun b => sEq b.name el.key && (b.val.kind == 3)) (enters_of Tryz.func89 (by kernel_rfl) rfl) (fun b _ V hV => eight11_any (by rw [Below.cellB hV l1]; exact c8) b))
  rw [v1] at x2 HR
  obtain ⟨A, hA⟩ : ∃ A, (m.vars.any fun b => sEq b.name el.key && (b.val.kind == 3)) = A := ⟨_, rfl⟩
  rw [hA] at HR ⊢
  have e1 : (el.event != 2) = !(el.event == 2) := rfl
  clear n1 b1 h h1 v1 v2 v3 hA
  cases hv : (el.event == 2) with
  | false =>
    rw [hv] at e1
    simp only [Bool.not_false] at e1
    clear HR
    go_enter Tryz.func87, Tryz.ntmps87
    go_wp2_with fail
    go_ret
    exact ⟨rfl, HB.out⟩
  | true =>
    rw [hv] at e1
    simp only [Bool.not_true] at e1
    go_enter Tryz.func87, Tryz.ntmps87
    go_wp2_with (go_at_call 88; refine HR.out.mono ?_; rintro e w4 ⟨rfl, hb4⟩; have HB4 := Lib.hid (HB.out.trans (hb4.mono HB.out.size)); clear hb4)
    go_ret
    exact ⟨rfl, HB4.out⟩
set_option maxHeartbeats 2000000 in
theorem eight_any (h : IdxR w w.heap.size x m) : Calls Tryz.prog 40 #[.pointer (some ⟨x.p, 0, none⟩)] w (RuleR (eightR m) w) := by
  obtain ⟨w1, p0, hp0, hw1, l1, b1, hc⟩ := cap_box h
  have S := Lib.hid (firstEl0 (w := w1) x.ve m.els hc.idx.md.els 87 #[.pointer (some ⟨p0, 0, none⟩)] (fun e => !(e.event == 2) || m.vars.any fun b => sEq b.name e.key && (b.val.kind == 3)) (enters_of Tryz.func87 (by kernel_rfl) rfl) (fun e _ W hW => eight1_any (hc.below hW) e))
  have cc := hc.cell
  obtain ⟨-, -, -, x3, -, -, -, -⟩ := hc.idx.cells
  have HB := Lib.hid b1
  obtain ⟨r, hr⟩ : ∃ r, eightR m = r := ⟨_, rfl⟩
  rw [show firstBad El.id (fun e => !(e.event == 2) || m.vars.any fun b => sEq b.name e.key && (b.val.kind == 3)) m.els = r from hr] at S
  rw [hr]
  obtain ⟨a1, k1, a2, k2, a3, k3, v1, v2, v3⟩ := hc.idx.md.shape
  rw [v2] at x3 S
  clear h b1 hc v1 v2 v3 hr
  go_enter Tryz.func40, Tryz.ntmps40
  go_wp2_with (go_at_call 64; refine S.out.mono ?_; rintro e w2 ⟨rfl, hb2⟩; have HB2 := Lib.hid (HB.out.trans (hb2.mono HB.out.size)); clear hb2)
  go_ret2
  exact ⟨rfl, HB2.out⟩
end
end Go.Proofs.YtjcaaahbfkjipaaGreatDoor
