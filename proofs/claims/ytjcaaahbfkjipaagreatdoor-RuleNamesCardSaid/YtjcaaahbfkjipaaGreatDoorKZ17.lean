/- Texts fused by fuse.py: KRuleFour. -/
import Derived.Test.YtjcaaahbfkjipaaGreatDoorKZ14
/- Of RuleFour: what FRuleNames uses (shake.py). -/
set_option maxRecDepth 100000
/- rule.four: how many flows go in and out. -/
namespace Go.Proofs.YtjcaaahbfkjipaaGreatDoor
open Go.RowKit
section
variable {w : World} {B cx : Nat} {x : IX} {m : Md}
/-- The looks into the index, whatever was drawn. -/
theorem CapX.looks (h : CapX w B cx x m) : (∀ n s, (Instr.lookup 67 (.map (some x.eb)) (.string s) false).run Tryz.prog (w.drewN n) = .ok (valEl (elemE m.els s)) (w.drewN n)) ∧
    (∀ n s, (Instr.lookup 68 (.map (some x.ib)) (.string s) false).run Tryz.prog (w.drewN n) = .ok ((x.ri s).getD nilS) (w.drewN n)) ∧
    ∀ n s, (Instr.lookup 68 (.map (some x.ob)) (.string s) false).run Tryz.prog (w.drewN n) = .ok ((x.ro s).getD nilS) (w.drewN n) :=
  ⟨fun n s => ((h.idx.mono (below_drewN (Below.refl _ _) n) (Nat.le_refl _)).look s).1, fun n s => (h.idx.mono (below_drewN (Below.refl _ _) n) (Nat.le_refl _)).lookI s, fun n s => (h.idx.mono (below_drewN (Below.refl _ _) n) (Nat.le_refl _)).lookO s⟩
theorem fldKind (E : El) (W : World) : (Instr.field 39 (valEl E) 2).run Tryz.prog W = .ok (.int .u8 E.kind) W := by kernel_rfl
def catchB (m : Md) (f : Fl) : Bool := !((elemE m.els f.into).kind == 8) || !((insF m.fls f.into).length == 1)
set_option maxHeartbeats 4000000 in
theorem four11_any (h : CapX w B cx x m) (f : Fl) : Calls Tryz.prog 75 #[valFl f, .pointer (some ⟨cx, 0, none⟩)] w fun e w' => e = .returned (.bool (catchB m f)) ∧ Below w.heap.size w w' := by
  obtain ⟨w1, p0, hp0, hw1, l1, n1, b1⟩ := box_new w (oFl f)
  have h1 := h.below b1
  obtain ⟨c0, c1, c2, c3⟩ := boxFl n1
  obtain ⟨-, -, -, -, -, x5, x6, x7⟩ := h1.idx.cells
  have cc := h1.cell
  obtain ⟨k1, k2, -⟩ := h1.looks
  have le := fun n => k1 n f.into
  have li := fun n => k2 n f.into
  obtain ⟨a, c, hv⟩ := (h1.idx.insR f.into).val
  have hll := (h1.idx.insR f.into).len
  have HB := Lib.hid b1
  unfold catchB
  obtain ⟨E, hE⟩ : ∃ E, elemE m.els f.into = E := ⟨_, rfl⟩
  obtain ⟨N, hN⟩ : ∃ N, (insF m.fls f.into).length = N := ⟨_, rfl⟩
  rw [hv] at li
  rw [hE] at le
  rw [hN] at li hll
  rw [hE, hN]
  have hfl := fun n => fldKind E (w1.drewN n)
  have e1 : (E.kind != 8) = !(E.kind == 8) := rfl
  clear n1 b1 h h1 k1 k2 hv hE hN
  cases hk : (E.kind == 8) with
  | false =>
    rw [hk] at e1
    go_enter Tryz.func75, Tryz.ntmps75
    go_wp2_with fail
    go_quiet (fail)
    rename_i nq
    have HE := Lib.hid (HB.out.trans ((below_drewN' nq).mono HB.out.size))
    go_wp2_with fail
    go_ret
    exact ⟨rfl, HE.out⟩
  | true =>
    rw [hk] at e1
    have e2 : ((N : Int) != 1) = !(N == 1) := by rw [bne, Bool.not_inj_iff, Bool.eq_iff_iff, beq_iff_eq, beq_iff_eq]; omega
    have e3 : (N != 1) = !(N == 1) := rfl
    obtain ⟨r, hr⟩ : ∃ r, (N == 1) = r := ⟨_, rfl⟩
    rw [hr] at e2 e3 ⊢
    clear hr
    go_enter Tryz.func75, Tryz.ntmps75
    go_wp2_with fail
    go_quiet (fail)
    rename_i nq
    have HE := Lib.hid (HB.out.trans ((below_drewN' nq).mono HB.out.size))
    go_wp2_with fail
    go_ret
    exact ⟨rfl, HE.out⟩
theorem any_catch (m : Md) (l : List Fl) : (l.any (catchB m)) = !(l.all fun f => ((elemE m.els f.into).kind == 8) && ((insF m.fls f.into).length == 1)) := by
  unfold catchB
  induction l with
  | nil => rfl
  | cons f r ih =>
    rw [List.any_cons, List.all_cons, ih, Bool.not_and, Bool.not_and]
def waysK (K : Int) (N O : Nat) (A : Bool) : Bool :=
  if K = 1 ∨ K = 9 then (N == 0) && (O == 1) else if K = 2 then (N == 1) && (O == 0) else if K = 5 ∨ K = 6 then decide (1 ≤ N) && decide (1 ≤ O)
  else if K = 7 then (N == 1) && (decide (2 ≤ O) && !A) else (N == 1) && (O == 1)
theorem ways_k (m : Md) (e : El) : waysB m e = waysK e.kind (insF m.fls e.id).length (outsF m.fls e.id).length ((outsF m.fls e.id).any (catchB m)) := by
  unfold waysB waysK
  rw [any_catch, Bool.not_not]
set_option maxHeartbeats 8000000 in
theorem four1_any (h : CapX w B cx x m) (el : El) : Calls Tryz.prog 73 #[valEl el, .pointer (some ⟨cx, 0, none⟩)] w fun e w' => e = .returned (.bool (waysB m el)) ∧ Below w.heap.size w w' := by
  obtain ⟨w1, p0, hp0, hw1, l1, n1, b1⟩ := box_new w (oEl el)
  have h1 := h.below b1
  obtain ⟨c0, c1, c2, c3, c4, c5, c6, c7, c8, c9, c10⟩ := boxEl n1
  obtain ⟨-, -, -, -, -, x5, x6, x7⟩ := h1.idx.cells
  have cc := h1.cell
  obtain ⟨-, k2, k3⟩ := h1.looks
  have li := fun n => k2 n el.id
  have lo := fun n => k3 n el.id
  have hO := h1.idx.outsR el.id
  obtain ⟨a, c, hv⟩ := (h1.idx.insR el.id).val
  obtain ⟨a2, d, hv2⟩ := hO.val
  have hll := (h1.idx.insR el.id).len
  have hl2 := hO.len
  have HB := Lib.hid b1
  have HX := Lib.hid h1
  rw [hv] at li
  rw [hv2] at lo hO
  have HO := Lib.hid hO
  have HR : Hid (∀ W, Below w1.heap.size w1 W → Calls Tryz.prog 74 #[.slice a2 (outsF m.fls el.id).length d, .func (.func 75) #[] #[.pointer (some ⟨cx, 0, none⟩)]] W fun e w' => e = .returned (.bool ((outsF m.fls el.id).any (catchB m))) ∧ Below W.heap.size W w') := Lib.hid (fun W hW =>
    hasFl _ _ (HO.out.mono (hW.mono h1.le) (Nat.le_trans h1.le hW.size)) 75 #[.pointer (some ⟨cx, 0, none⟩)] (catchB m) (enters_of Tryz.func75 (by kernel_rfl) rfl) (fun f _ V hV => four11_any ((h1.below hW).below hV) f))
  rw [ways_k]
  obtain ⟨N, hN⟩ : ∃ N, (insF m.fls el.id).length = N := ⟨_, rfl⟩
  obtain ⟨O, hO'⟩ : ∃ O, (outsF m.fls el.id).length = O := ⟨_, rfl⟩
  obtain ⟨A, hA⟩ : ∃ A, (outsF m.fls el.id).any (catchB m) = A := ⟨_, rfl⟩
  obtain ⟨K, hK⟩ : ∃ K, el.kind = K := ⟨_, rfl⟩
  rw [hN] at li hll
  rw [hO'] at lo hl2
  rw [hN, hO', hA, hK]
  rw [hO', hA] at HR
  rw [hK] at c2
  clear n1 b1 h h1 k2 k3 hv hv2 hN hO' hA hK hO HO HX
  have hK : (K = 1 ∨ K = 9) ∨ K = 2 ∨ (K = 5 ∨ K = 6) ∨ K = 7 ∨ (K ≠ 1 ∧ K ≠ 9 ∧ K ≠ 2 ∧ K ≠ 5 ∧ K ≠ 6 ∧ K ≠ 7) := by omega
  obtain ⟨n0, e0, f0⟩ : ∃ b, ((N : Int) == 0) = b ∧ (N == 0) = b := ⟨N == 0, by rw [Bool.eq_iff_iff, beq_iff_eq, beq_iff_eq]; omega, rfl⟩
  obtain ⟨n1, e1, f1⟩ : ∃ b, ((N : Int) == 1) = b ∧ (N == 1) = b := ⟨N == 1, by rw [Bool.eq_iff_iff, beq_iff_eq, beq_iff_eq]; omega, rfl⟩
  obtain ⟨o0, g0, j0⟩ : ∃ b, ((O : Int) == 0) = b ∧ (O == 0) = b := ⟨O == 0, by rw [Bool.eq_iff_iff, beq_iff_eq, beq_iff_eq]; omega, rfl⟩
  obtain ⟨o1, g1, j1⟩ : ∃ b, ((O : Int) == 1) = b ∧ (O == 1) = b := ⟨O == 1, by rw [Bool.eq_iff_iff, beq_iff_eq, beq_iff_eq]; omega, rfl⟩
  obtain ⟨ng, e3, f3⟩ : ∃ b, decide ((1 : Int) ≤ (N : Int)) = b ∧ decide (1 ≤ N) = b := ⟨decide (1 ≤ N), by rw [decide_eq_decide]; omega, rfl⟩
  obtain ⟨og, g3, j3⟩ : ∃ b, decide ((1 : Int) ≤ (O : Int)) = b ∧ decide (1 ≤ O) = b := ⟨decide (1 ≤ O), by rw [decide_eq_decide]; omega, rfl⟩
  obtain ⟨o2, g4, j4⟩ : ∃ b, decide ((2 : Int) ≤ (O : Int)) = b ∧ decide (2 ≤ O) = b := ⟨decide (2 ≤ O), by rw [decide_eq_decide]; omega, rfl⟩
  unfold waysK
  rw [f0, f1, f3, j0, j1, j3, j4]
  rcases hK with (rfl | rfl) | rfl | (rfl | rfl) | rfl | ⟨hk1, hk9, hk2, hk5, hk6, hk7⟩
  · clear e1 f1 g0 j0 e3 f3 g3 j3 g4 j4 f0 j1
    rw [if_pos (Or.inl rfl)]
    cases n0 <;> (go_enter Tryz.func73, Tryz.ntmps73; go_wp2_with fail; go_quiet (fail); rename_i nq; have HE := Lib.hid (HB.out.trans ((below_drewN' nq).mono HB.out.size)); go_wp2_with fail; go_ret; exact ⟨rfl, HE.out⟩)
  · clear e1 f1 g0 j0 e3 f3 g3 j3 g4 j4 f0 j1
    rw [if_pos (Or.inr rfl)]
    cases n0 <;> (go_enter Tryz.func73, Tryz.ntmps73; go_wp2_with fail; go_quiet (fail); rename_i nq; have HE := Lib.hid (HB.out.trans ((below_drewN' nq).mono HB.out.size)); go_wp2_with fail; go_ret; exact ⟨rfl, HE.out⟩)
  · clear e0 f0 g1 j1 e3 f3 g3 j3 g4 j4 f1 j0
    rw [if_neg (by omega), if_pos rfl]
    cases n1 <;> (go_enter Tryz.func73, Tryz.ntmps73; go_wp2_with fail; go_quiet (fail); rename_i nq; have HE := Lib.hid (HB.out.trans ((below_drewN' nq).mono HB.out.size)); go_wp2_with fail; go_ret; exact ⟨rfl, HE.out⟩)
  · clear e0 f0 g1 j1 e1 f1 g0 j0 g4 j4 f3 j3
    rw [if_neg (by omega), if_neg (by omega), if_pos (Or.inl rfl)]
    cases ng <;> (go_enter Tryz.func73, Tryz.ntmps73; go_wp2_with fail; go_quiet (fail); rename_i nq; have HE := Lib.hid (HB.out.trans ((below_drewN' nq).mono HB.out.size)); go_wp2_with fail; go_ret; exact ⟨rfl, HE.out⟩)
  · clear e0 f0 g1 j1 e1 f1 g0 j0 g4 j4 f3 j3
    rw [if_neg (by omega), if_neg (by omega), if_pos (Or.inr rfl)]
    cases ng <;> (go_enter Tryz.func73, Tryz.ntmps73; go_wp2_with fail; go_quiet (fail); rename_i nq; have HE := Lib.hid (HB.out.trans ((below_drewN' nq).mono HB.out.size)); go_wp2_with fail; go_ret; exact ⟨rfl, HE.out⟩)
  · clear e0 f0 g1 j1 g0 j0 e3 f3 g3 j3 f1 j4
    rw [if_neg (by omega), if_neg (by omega), if_neg (by omega), if_pos rfl]
    cases n1 with
    | false => go_enter Tryz.func73, Tryz.ntmps73; go_wp2_with fail; go_quiet (fail); rename_i nq; have HE := Lib.hid (HB.out.trans ((below_drewN' nq).mono HB.out.size)); go_wp2_with fail; go_quiet (fail); have HE2 := Lib.hid (HE.out.trans ((below_drewN' nq).mono HE.out.size)); go_wp2_with fail; go_ret; exact ⟨rfl, HE2.out⟩
    | true =>
      cases o2 with
      | false => go_enter Tryz.func73, Tryz.ntmps73; go_wp2_with fail; go_quiet (fail); rename_i nq; have HE := Lib.hid (HB.out.trans ((below_drewN' nq).mono HB.out.size)); go_wp2_with fail; go_quiet (fail); have HE2 := Lib.hid (HE.out.trans ((below_drewN' nq).mono HE.out.size)); go_wp2_with fail; go_ret; exact ⟨rfl, HE2.out⟩
      | true =>
        go_enter Tryz.func73, Tryz.ntmps73
        go_wp2_with fail
        go_quiet (fail)
        rename_i nq
        have HE := Lib.hid (HB.out.trans ((below_drewN' nq).mono HB.out.size))
        have lod : (Instr.lookup 68 (.map (some x.ob)) (.string el.id) false).run Tryz.prog (w1.drewN nq).drew = .ok (.slice a2 O d) (w1.drewN nq).drew := lo (nq + 1)
        go_wp2_with fail
        go_region_held3 (fun w' => w'.cell? ⟨cx, 0, none⟩ = some (.pointer (some ⟨x.p, 0, none⟩)) ∧ w'.cell? ⟨x.p, 7, none⟩ = some (.map (some x.ob)) ∧ w'.cell? ⟨p0, 0, none⟩ = some (.string el.id)) (first | go_keep | exact ⟨z0, z1, z2⟩) ((go_at_call 74; refine (HR.out _ (below_drewN' nq).drew).mono ?_; rintro e w4 ⟨rfl, hb4⟩; have z0 : w4.cell? ⟨cx, 0, none⟩ = some (.pointer (some ⟨x.p, 0, none⟩)) := (Below.cellB hb4 (cellLt cc)).trans cc; have z1 : w4.cell? ⟨x.p, 7, none⟩ = some (.map (some x.ob)) := (Below.cellB hb4 (cellLt x7)).trans x7; have z2 : w4.cell? ⟨p0, 0, none⟩ = some (.string el.id) := (Below.cellB hb4 (cellLt c0)).trans c0; have HB4 := Lib.hid (HE.out.drew.trans (hb4.mono HE.out.size)); clear hb4))
        all_goals (go_wp2_with fail; go_ret; exact ⟨rfl, HB4.out⟩)
  · have t1 : (K == 1) = false := beq_eq_false_iff_ne.2 hk1
    have t2 : (K == 2) = false := beq_eq_false_iff_ne.2 hk2
    have t5 : (K == 5) = false := beq_eq_false_iff_ne.2 hk5
    have t6 : (K == 6) = false := beq_eq_false_iff_ne.2 hk6
    have t7 : (K == 7) = false := beq_eq_false_iff_ne.2 hk7
    have t9 : (K == 9) = false := beq_eq_false_iff_ne.2 hk9
    clear e0 f0 g0 j0 e3 f3 g3 j3 g4 j4 f1 j1
    rw [if_neg (by omega), if_neg (by omega), if_neg (by omega), if_neg (by omega)]
    clear hk1 hk2 hk5 hk6 hk7 hk9
    cases n1 <;> (go_enter Tryz.func73, Tryz.ntmps73; go_wp2_with fail; go_quiet (fail); rename_i nq; have HE := Lib.hid (HB.out.trans ((below_drewN' nq).mono HB.out.size)); go_wp2_with fail; go_ret; exact ⟨rfl, HE.out⟩)
end
end Go.Proofs.YtjcaaahbfkjipaaGreatDoor
