/- Texts fused by fuse.py: KRuleOne3. -/
import Derived.Test.YtjcaaahbfkjipaaGreatDoorKZ36
/- Of RuleOne3: what FRuleNames uses (shake.py). -/
set_option maxRecDepth 100000
/- rule.one where the sizes are right (printed by wip/gen_ruleone3.py). -/
namespace Go.Proofs.YtjcaaahbfkjipaaGreatDoor
open Go.RowKit
/-- The model's own copy: five cells. -/
structure McR (W : World) (p : Nat) (m : Md) (v2 v3 v4 : Value) : Prop where
  c0 : W.cell? ⟨p, 0, none⟩ = some (.string m.id)
  c1 : W.cell? ⟨p, 1, none⟩ = some (.string m.name)
  c2 : W.cell? ⟨p, 2, none⟩ = some v2
  c3 : W.cell? ⟨p, 3, none⟩ = some v3
  c4 : W.cell? ⟨p, 4, none⟩ = some v4
theorem McR.below {W W' : World} {p : Nat} {m : Md} {v2 v3 v4 : Value} (h : McR W p m v2 v3 v4) (hb : Below W.heap.size W W') : McR W' p m v2 v3 v4 :=
  have l := cellLt h.c0
  ⟨(Below.cellB hb l).trans h.c0, (Below.cellB hb l).trans h.c1, (Below.cellB hb l).trans h.c2, (Below.cellB hb l).trans h.c3, (Below.cellB hb l).trans h.c4⟩
theorem McR.turn {W W' : World} {p mb : Nat} {m : Md} {v2 v3 v4 : Value} {S : ByteArray → Option Value} (h : McR W p m v2 v3 v4) (hg : W.grownBy W' (some mb)) (hm : RawS W mb S) : McR W' p m v2 v3 v4 :=
  have ne : some p ≠ some mb := fun e => cell_map h.c0 hm (Option.some.inj e)
  ⟨grown_cell h.c0 hg ne, grown_cell h.c1 hg ne, grown_cell h.c2 hg ne, grown_cell h.c3 hg ne, grown_cell h.c4 hg ne⟩
section
variable {w : World} {x : IX} {m : Md}
theorem frs_of {W W5 W6 : World} {B pc mb pn : Nat} {S : List ByteArray} (hf : FreshF W5 W.heap.size pc mb S) (hB : B ≤ W.heap.size) (hn : W6.heap[pn]? = some (.cells #[.func (.func 103) #[] #[.pointer (some ⟨pc, 0, none⟩)]] 71)) (hb : Below W5.heap.size W5 W6) : FrS W6 B pn pc mb S :=
  ⟨boxP hn, ⟨(Below.cellB hb (cellLt hf.cell)).trans hf.cell, hf.map.below hb, Nat.le_trans hB hf.p1, Nat.le_trans hB hf.p2⟩⟩
theorem sts_one {W8 : World} {p : Nat} {s : ByteArray} {t : TypeId} {fr : Nat × Nat} (hs : s.size ≤ 140737488355328) (h : W8.heap[p]? = some (.cells #[.string s] t fr)) : StsR W8 W8.heap.size (.slice (some ⟨p, 0, none⟩) 1 1) [s] :=
  ⟨some ⟨p, 0, none⟩, 1, rfl, by simp, by simp, fun i hi => ⟨p, 0, rfl, lt_of_block h, fun j hj => by
    obtain rfl : i = 0 := by simp at hi; omega
    obtain rfl : j = 0 := by omega
    exact (cell_of_block h 0).trans rfl⟩, fun y hy => by rw [List.mem_singleton] at hy; rw [hy]; exact hs⟩
set_option maxHeartbeats 16000000 in
theorem one_vars (h : IdxR w w.heap.size x m) (hg : Gr w) (hs : sizesB m = true) {s : ByteArray} (hr1 : freshBad Bd.name (fun b => checkB b.val) [] m.vars = some s) : Calls Tryz.prog 33 #[.pointer (some ⟨x.p, 0, none⟩)] w (RuleR (some s) w) := by
  obtain ⟨a1, k1, a2, k2, a3, k3, v1, v2, v3⟩ := h.md.shape
  have hn := h.md.name
  obtain ⟨x0, x1, x2, x3, x4, -, -, -⟩ := h.cells
  rw [v1] at x2
  rw [v2] at x3
  rw [v3] at x4
  obtain ⟨w1, p0, hp0, hw1, l1, n1, b1⟩ := box_new w (.cells #[.string m.id, .string m.name, .slice a1 m.vars.length k1, .slice a2 m.els.length k2, .slice a3 m.fls.length k3] 26)
  have M1 := Lib.hid (show McR w1 p0 m (.slice a1 m.vars.length k1) (.slice a2 m.els.length k2) (.slice a3 m.fls.length k3) from ⟨(cell_of_block n1 0).trans rfl, (cell_of_block n1 1).trans rfl, (cell_of_block n1 2).trans rfl, (cell_of_block n1 3).trans rfl, (cell_of_block n1 4).trans rfl⟩)
  have c0 := M1.out.c0
  have HB := Lib.hid b1
  have HT := Lib.hid (fun (W : World) (hW : Below w1.heap.size w1 W) => text_any (w := W) m.name hn ((hg.up b1).up hW).t8)
  have HH := Lib.hid (And.intro h hg)
  have HV := Lib.hid (And.intro v1 (And.intro v2 v3))
  have cur : Below w1.heap.size w1 w1 := Below.refl _ _
  unfold sizesB at hs
  simp only [Bool.and_eq_true, decide_eq_true_eq] at hs
  obtain ⟨n, t, be, bf, bv⟩ := hs
  rw [t] at HT
  have e1 : decide ((64 : Int) < (m.els.length : Int)) = false := decide_eq_false (by omega)
  have e1' : decide (64 < m.els.length) = false := decide_eq_false (by omega)
  have e2 : decide ((128 : Int) < (m.fls.length : Int)) = false := decide_eq_false (by omega)
  have e2' : decide (128 < m.fls.length) = false := decide_eq_false (by omega)
  have e3 : decide ((16 : Int) < (m.vars.length : Int)) = false := decide_eq_false (by omega)
  have e3' : decide (16 < m.vars.length) = false := decide_eq_false (by omega)
  have HR1 := Lib.hid hr1
  clear hr1
  clear n1 b1 h hg hn v1 v2 v3 t be bf bv
  go_enter Tryz.func33, Tryz.ntmps33
  go_wp2_with (first
    | (go_at_call 57; refine (name_any _ _).mono ?_; rintro e wz ⟨rfl, hbz⟩; have cur := cur.trans (hbz.mono cur.size); obtain ⟨d0, d1, d2, d3, d4⟩ := M1.out.below cur; clear hbz)
    | (go_at_call 58; refine (HT.out _ cur).mono ?_; rintro e wy ⟨rfl, hby⟩; have cur := cur.trans (hby.mono cur.size); obtain ⟨f0, f1, f2, f3, f4⟩ := M1.out.below cur; clear hby)
    | (go_at_call 59; refine (fresh_any _ (.slice none 0 0) [] (RowsW.nil _ _) (by simp)).mono ?_; rintro e w5 ⟨pc, mb, rfl, hf5, hb5⟩; have HF5 := Lib.hid (And.intro hf5 hb5); clear hf5 hb5; refine Hid.out ?_))
  refine Lib.hid ?_
  obtain ⟨w6, pn, hp6, hw6, l6, n6, b6⟩ := box_new w5 (.cells #[.func (.func 103) #[] #[.pointer (some ⟨pc, 0, none⟩)]] 71)
  have M6 := Lib.hid ((M1.out.below (cur.trans (HF5.out.2.mono cur.size))).below b6)
  have C6 : Hid (Below w.heap.size w w6) := Lib.hid ((HB.out.trans ((cur.trans (HF5.out.2.mono cur.size)).mono HB.out.size)).trans (b6.mono (HB.out.trans ((cur.trans (HF5.out.2.mono cur.size)).mono HB.out.size)).size))
  have F6 : Hid (FrS w6 w.heap.size pn pc mb []) := Lib.hid (frs_of HF5.out.1 (HB.out.trans (cur.mono HB.out.size)).size n6 b6)
  have HF1 := Lib.hid (firstVars HH.out.2 C6.out F6.out HH.out.1)
  rw [HV.out.1, HR1.out] at HF1
  have g2 := M6.out.c2
  clear n6 b6
  go_wp2_with (go_at_call 60; refine HF1.out.mono ?_; rintro e w7 ⟨rfl, hg7⟩; have C7 := Lib.hid (C6.out.grown hg7 C6.out.size (fun r hr => by cases hr; exact F6.out.fr.p2)); have M7 := Lib.hid (M6.out.turn hg7 F6.out.fr.map); clear hg7)
  go_ret2
  exact ⟨rfl, C7.out⟩
set_option maxHeartbeats 16000000 in
theorem one_els (h : IdxR w w.heap.size x m) (hg : Gr w) (hs : sizesB m = true) {s : ByteArray} (hr1 : freshBad Bd.name (fun b => checkB b.val) [] m.vars = none) (hr2 : freshBad El.id (fun e => textB e.name) [m.id] m.els = some s) : Calls Tryz.prog 33 #[.pointer (some ⟨x.p, 0, none⟩)] w (RuleR (some s) w) := by
  obtain ⟨a1, k1, a2, k2, a3, k3, v1, v2, v3⟩ := h.md.shape
  have hn := h.md.name
  obtain ⟨x0, x1, x2, x3, x4, -, -, -⟩ := h.cells
  rw [v1] at x2
  rw [v2] at x3
  rw [v3] at x4
  obtain ⟨w1, p0, hp0, hw1, l1, n1, b1⟩ := box_new w (.cells #[.string m.id, .string m.name, .slice a1 m.vars.length k1, .slice a2 m.els.length k2, .slice a3 m.fls.length k3] 26)
  have M1 := Lib.hid (show McR w1 p0 m (.slice a1 m.vars.length k1) (.slice a2 m.els.length k2) (.slice a3 m.fls.length k3) from ⟨(cell_of_block n1 0).trans rfl, (cell_of_block n1 1).trans rfl, (cell_of_block n1 2).trans rfl, (cell_of_block n1 3).trans rfl, (cell_of_block n1 4).trans rfl⟩)
  have c0 := M1.out.c0
  have HB := Lib.hid b1
  have HT := Lib.hid (fun (W : World) (hW : Below w1.heap.size w1 W) => text_any (w := W) m.name hn ((hg.up b1).up hW).t8)
  have HH := Lib.hid (And.intro h hg)
  have HV := Lib.hid (And.intro v1 (And.intro v2 v3))
  have cur : Below w1.heap.size w1 w1 := Below.refl _ _
  unfold sizesB at hs
  simp only [Bool.and_eq_true, decide_eq_true_eq] at hs
  obtain ⟨n, t, be, bf, bv⟩ := hs
  rw [t] at HT
  have e1 : decide ((64 : Int) < (m.els.length : Int)) = false := decide_eq_false (by omega)
  have e1' : decide (64 < m.els.length) = false := decide_eq_false (by omega)
  have e2 : decide ((128 : Int) < (m.fls.length : Int)) = false := decide_eq_false (by omega)
  have e2' : decide (128 < m.fls.length) = false := decide_eq_false (by omega)
  have e3 : decide ((16 : Int) < (m.vars.length : Int)) = false := decide_eq_false (by omega)
  have e3' : decide (16 < m.vars.length) = false := decide_eq_false (by omega)
  have HR1 := Lib.hid hr1
  have HR2 := Lib.hid hr2
  clear hr1 hr2
  clear n1 b1 h hg hn v1 v2 v3 t be bf bv
  go_enter Tryz.func33, Tryz.ntmps33
  go_wp2_with (first
    | (go_at_call 57; refine (name_any _ _).mono ?_; rintro e wz ⟨rfl, hbz⟩; have cur := cur.trans (hbz.mono cur.size); obtain ⟨d0, d1, d2, d3, d4⟩ := M1.out.below cur; clear hbz)
    | (go_at_call 58; refine (HT.out _ cur).mono ?_; rintro e wy ⟨rfl, hby⟩; have cur := cur.trans (hby.mono cur.size); obtain ⟨f0, f1, f2, f3, f4⟩ := M1.out.below cur; clear hby)
    | (go_at_call 59; refine (fresh_any _ (.slice none 0 0) [] (RowsW.nil _ _) (by simp)).mono ?_; rintro e w5 ⟨pc, mb, rfl, hf5, hb5⟩; have HF5 := Lib.hid (And.intro hf5 hb5); clear hf5 hb5; refine Hid.out ?_))
  refine Lib.hid ?_
  obtain ⟨w6, pn, hp6, hw6, l6, n6, b6⟩ := box_new w5 (.cells #[.func (.func 103) #[] #[.pointer (some ⟨pc, 0, none⟩)]] 71)
  have M6 := Lib.hid ((M1.out.below (cur.trans (HF5.out.2.mono cur.size))).below b6)
  have C6 : Hid (Below w.heap.size w w6) := Lib.hid ((HB.out.trans ((cur.trans (HF5.out.2.mono cur.size)).mono HB.out.size)).trans (b6.mono (HB.out.trans ((cur.trans (HF5.out.2.mono cur.size)).mono HB.out.size)).size))
  have F6 : Hid (FrS w6 w.heap.size pn pc mb []) := Lib.hid (frs_of HF5.out.1 (HB.out.trans (cur.mono HB.out.size)).size n6 b6)
  have HF1 := Lib.hid (firstVars HH.out.2 C6.out F6.out HH.out.1)
  rw [HV.out.1, HR1.out] at HF1
  have g2 := M6.out.c2
  clear n6 b6
  go_wp2_with (first
    | (go_at_call 59; have _ := H8; refine (fresh_any w8 (.slice (some ⟨p8, 0, none⟩) 1 1) [m.id] (sts_one HH.out.1.md.id H8.out.1) (by simp)).mono ?_; rintro e w9 ⟨pc2, mb2, rfl, hf9, hb9⟩; have HF9 := Lib.hid (And.intro hf9 hb9); clear hf9 hb9; refine Hid.out ?_)
    | (go_at_call 60; refine HF1.out.mono ?_; rintro e w7 ⟨rfl, hg7⟩; have C7 := Lib.hid (C6.out.grown hg7 C6.out.size (fun r hr => by cases hr; exact F6.out.fr.p2)); have M7 := Lib.hid (M6.out.turn hg7 F6.out.fr.map); clear hg7; have z0 := M7.out.c0; obtain ⟨w8, p8, hp8, hw8, l8, n8, b8⟩ := box_new w7 (.cells #[.string m.id] 9); have H8 := Lib.hid (And.intro n8 b8); clear n8 b8))
  refine Lib.hid ?_
  have C8 : Hid (Below w.heap.size w w8) := Lib.hid (C7.out.trans (H8.out.2.mono C7.out.size))
  have C9 : Hid (Below w.heap.size w w9) := Lib.hid (C8.out.trans (HF9.out.2.mono C8.out.size))
  obtain ⟨w10, pn2, hp10, hw10, l10, n10, b10⟩ := box_new w9 (.cells #[.func (.func 103) #[] #[.pointer (some ⟨pc2, 0, none⟩)]] 71)
  have M10 := Lib.hid (((M7.out.below H8.out.2).below HF9.out.2).below b10)
  have C10 : Hid (Below w.heap.size w w10) := Lib.hid (C9.out.trans (b10.mono C9.out.size))
  have F10 : Hid (FrS w10 w.heap.size pn2 pc2 mb2 [m.id]) := Lib.hid (frs_of HF9.out.1 C8.out.size n10 b10)
  have HF2 := Lib.hid (firstEls HH.out.2 C10.out F10.out HH.out.1)
  rw [HV.out.2.1, HR2.out] at HF2
  have g3 := M10.out.c3
  clear n10 b10
  go_wp2_with (go_at_call 64; refine HF2.out.mono ?_; rintro e w11 ⟨rfl, hg11, _⟩; have C11 := Lib.hid (C10.out.grown hg11 C10.out.size (fun r hr => by cases hr; exact F10.out.fr.p2)); clear hg11)
  go_ret2
  exact ⟨rfl, C11.out⟩
set_option maxHeartbeats 16000000 in
theorem one_fls (h : IdxR w w.heap.size x m) (hg : Gr w) (hs : sizesB m = true) (hr1 : freshBad Bd.name (fun b => checkB b.val) [] m.vars = none) (hr2 : freshBad El.id (fun e => textB e.name) [m.id] m.els = none) : Calls Tryz.prog 33 #[.pointer (some ⟨x.p, 0, none⟩)] w (RuleR (freshBad Fl.id (fun _ => true) ((m.els.map El.id).reverse ++ [m.id]) m.fls) w) := by
  obtain ⟨a1, k1, a2, k2, a3, k3, v1, v2, v3⟩ := h.md.shape
  have hn := h.md.name
  obtain ⟨x0, x1, x2, x3, x4, -, -, -⟩ := h.cells
  rw [v1] at x2
  rw [v2] at x3
  rw [v3] at x4
  obtain ⟨w1, p0, hp0, hw1, l1, n1, b1⟩ := box_new w (.cells #[.string m.id, .string m.name, .slice a1 m.vars.length k1, .slice a2 m.els.length k2, .slice a3 m.fls.length k3] 26)
  have M1 := Lib.hid (show McR w1 p0 m (.slice a1 m.vars.length k1) (.slice a2 m.els.length k2) (.slice a3 m.fls.length k3) from ⟨(cell_of_block n1 0).trans rfl, (cell_of_block n1 1).trans rfl, (cell_of_block n1 2).trans rfl, (cell_of_block n1 3).trans rfl, (cell_of_block n1 4).trans rfl⟩)
  have c0 := M1.out.c0
  have HB := Lib.hid b1
  have HT := Lib.hid (fun (W : World) (hW : Below w1.heap.size w1 W) => text_any (w := W) m.name hn ((hg.up b1).up hW).t8)
  have HH := Lib.hid (And.intro h hg)
  have HV := Lib.hid (And.intro v1 (And.intro v2 v3))
  have cur : Below w1.heap.size w1 w1 := Below.refl _ _
  unfold sizesB at hs
  simp only [Bool.and_eq_true, decide_eq_true_eq] at hs
  obtain ⟨n, t, be, bf, bv⟩ := hs
  rw [t] at HT
  have e1 : decide ((64 : Int) < (m.els.length : Int)) = false := decide_eq_false (by omega)
  have e1' : decide (64 < m.els.length) = false := decide_eq_false (by omega)
  have e2 : decide ((128 : Int) < (m.fls.length : Int)) = false := decide_eq_false (by omega)
  have e2' : decide (128 < m.fls.length) = false := decide_eq_false (by omega)
  have e3 : decide ((16 : Int) < (m.vars.length : Int)) = false := decide_eq_false (by omega)
  have e3' : decide (16 < m.vars.length) = false := decide_eq_false (by omega)
  have HR1 := Lib.hid hr1
  have HR2 := Lib.hid hr2
  obtain ⟨r3, hr3⟩ : ∃ r, freshBad Fl.id (fun _ => true) ((m.els.map El.id).reverse ++ [m.id]) m.fls = r := ⟨_, rfl⟩
  rw [hr3]
  have HR3 := Lib.hid hr3
  clear hr1 hr2 hr3
  clear n1 b1 h hg hn v1 v2 v3 t be bf bv
  go_enter Tryz.func33, Tryz.ntmps33
  go_wp2_with (first
    | (go_at_call 57; refine (name_any _ _).mono ?_; rintro e wz ⟨rfl, hbz⟩; have cur := cur.trans (hbz.mono cur.size); obtain ⟨d0, d1, d2, d3, d4⟩ := M1.out.below cur; clear hbz)
    | (go_at_call 58; refine (HT.out _ cur).mono ?_; rintro e wy ⟨rfl, hby⟩; have cur := cur.trans (hby.mono cur.size); obtain ⟨f0, f1, f2, f3, f4⟩ := M1.out.below cur; clear hby)
    | (go_at_call 59; refine (fresh_any _ (.slice none 0 0) [] (RowsW.nil _ _) (by simp)).mono ?_; rintro e w5 ⟨pc, mb, rfl, hf5, hb5⟩; have HF5 := Lib.hid (And.intro hf5 hb5); clear hf5 hb5; refine Hid.out ?_))
  refine Lib.hid ?_
  obtain ⟨w6, pn, hp6, hw6, l6, n6, b6⟩ := box_new w5 (.cells #[.func (.func 103) #[] #[.pointer (some ⟨pc, 0, none⟩)]] 71)
  have M6 := Lib.hid ((M1.out.below (cur.trans (HF5.out.2.mono cur.size))).below b6)
  have C6 : Hid (Below w.heap.size w w6) := Lib.hid ((HB.out.trans ((cur.trans (HF5.out.2.mono cur.size)).mono HB.out.size)).trans (b6.mono (HB.out.trans ((cur.trans (HF5.out.2.mono cur.size)).mono HB.out.size)).size))
  have F6 : Hid (FrS w6 w.heap.size pn pc mb []) := Lib.hid (frs_of HF5.out.1 (HB.out.trans (cur.mono HB.out.size)).size n6 b6)
  have HF1 := Lib.hid (firstVars HH.out.2 C6.out F6.out HH.out.1)
  rw [HV.out.1, HR1.out] at HF1
  have g2 := M6.out.c2
  clear n6 b6
  go_wp2_with (first
    | (go_at_call 59; have _ := H8; refine (fresh_any w8 (.slice (some ⟨p8, 0, none⟩) 1 1) [m.id] (sts_one HH.out.1.md.id H8.out.1) (by simp)).mono ?_; rintro e w9 ⟨pc2, mb2, rfl, hf9, hb9⟩; have HF9 := Lib.hid (And.intro hf9 hb9); clear hf9 hb9; refine Hid.out ?_)
    | (go_at_call 60; refine HF1.out.mono ?_; rintro e w7 ⟨rfl, hg7⟩; have C7 := Lib.hid (C6.out.grown hg7 C6.out.size (fun r hr => by cases hr; exact F6.out.fr.p2)); have M7 := Lib.hid (M6.out.turn hg7 F6.out.fr.map); clear hg7; have z0 := M7.out.c0; obtain ⟨w8, p8, hp8, hw8, l8, n8, b8⟩ := box_new w7 (.cells #[.string m.id] 9); have H8 := Lib.hid (And.intro n8 b8); clear n8 b8))
  refine Lib.hid ?_
  have C8 : Hid (Below w.heap.size w w8) := Lib.hid (C7.out.trans (H8.out.2.mono C7.out.size))
  have C9 : Hid (Below w.heap.size w w9) := Lib.hid (C8.out.trans (HF9.out.2.mono C8.out.size))
  obtain ⟨w10, pn2, hp10, hw10, l10, n10, b10⟩ := box_new w9 (.cells #[.func (.func 103) #[] #[.pointer (some ⟨pc2, 0, none⟩)]] 71)
  have M10 := Lib.hid (((M7.out.below H8.out.2).below HF9.out.2).below b10)
  have C10 : Hid (Below w.heap.size w w10) := Lib.hid (C9.out.trans (b10.mono C9.out.size))
  have F10 : Hid (FrS w10 w.heap.size pn2 pc2 mb2 [m.id]) := Lib.hid (frs_of HF9.out.1 C8.out.size n10 b10)
  have HF2 := Lib.hid (firstEls HH.out.2 C10.out F10.out HH.out.1)
  rw [HV.out.2.1, HR2.out] at HF2
  have g3 := M10.out.c3
  clear n10 b10
  go_wp2_with (first
    | (go_at_call 64; refine HF2.out.mono ?_; rintro e w11 ⟨rfl, hg11, hf11⟩; have C11 := Lib.hid (C10.out.grown hg11 C10.out.size (fun r hr => by cases hr; exact F10.out.fr.p2)); have M11 := Lib.hid (M10.out.turn hg11 F10.out.fr.map); have F11 := Lib.hid (hf11 rfl); have HF3 := Lib.hid (firstFls C11.out F11.out HH.out.1); rw [HV.out.2.2, HR3.out] at HF3; have g4 := M11.out.c4; clear hg11 hf11)
    | (go_at_call 67; refine HF3.out.mono ?_; rintro e w12 ⟨rfl, hg12⟩; have C12 := Lib.hid (C11.out.grown hg12 C11.out.size (fun r hr => by cases hr; exact F11.out.fr.p2)); clear hg12))
  go_ret2
  exact ⟨rfl, C12.out⟩
theorem one_any (h : IdxR w w.heap.size x m) (hg : Gr w) : Calls Tryz.prog 33 #[.pointer (some ⟨x.p, 0, none⟩)] w (RuleR (oneR m) w) := by
  rw [oneR_is]
  cases hs : sizesB m with
  | false => exact one_no h hg hs
  | true =>
    rw [if_pos rfl]
    cases hr1 : freshBad Bd.name (fun b => checkB b.val) [] m.vars with
    | some s => exact one_vars h hg hs hr1
    | none =>
      cases hr2 : freshBad El.id (fun e => textB e.name) [m.id] m.els with
      | some s => exact one_els h hg hs hr1 hr2
      | none => exact one_fls h hg hs hr1 hr2
end
end Go.Proofs.YtjcaaahbfkjipaaGreatDoor
