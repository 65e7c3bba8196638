/- Texts fused by fuse.py: KRuleSix. -/
import Derived.Test.YtjcaaahbfkjipaaGreatDoorKZ18
import Derived.Test.YtjcaaahbfkjipaaGreatDoorKZ36
/- Of RuleSix: what FRuleNames uses (shake.py). -/
set_option maxRecDepth 100000
/- rule.six: defaults and conditions. -/
namespace Go.Proofs.YtjcaaahbfkjipaaGreatDoor
open Go.RowKit
section
variable {w : World} {B cx : Nat} {x : IX} {m : Md}
set_option maxHeartbeats 1000000 in
theorem six11_any {pe : Nat} {d : ByteArray} (hd : w.cell? ⟨pe, 4, none⟩ = some (.string d)) (f : Fl) : Calls Tryz.prog 80 #[valFl f, .pointer (some ⟨pe, 0, none⟩)] w fun e w' => e = .returned (.bool (sEq f.id d)) ∧ Below w.heap.size w w' := by
  obtain ⟨w1, p0, hp0, hw1, l1, n1, b1⟩ := box_new w (oFl f)
  obtain ⟨c0, c1, c2, c3⟩ := boxFl n1
  have dd := (Below.cellB b1 (cellLt hd)).trans hd
  have HB := Lib.hid b1
  unfold sEq
  clear n1 b1 hd
  go_enter Tryz.func80, Tryz.ntmps80
  go_wp2_with fail
  go_ret
  exact ⟨rfl, HB.out⟩
set_option maxHeartbeats 8000000 in
theorem six1_any (h : CapX w B cx x m) (el : El) : Calls Tryz.prog 79 #[valEl el, .pointer (some ⟨cx, 0, none⟩)] w fun e w' => e = .returned (.bool (dfltB m el)) ∧ Below w.heap.size w w' := by
  obtain ⟨w1, p0, hp0, hw1, l1, n1, b1⟩ := box_new w (oEl el)
  have h1 := h.below b1
  obtain ⟨c0, c1, c2, c3, c4, c5, c6, c7, c8, c9, c10⟩ := boxEl n1
  obtain ⟨-, -, -, -, -, x5, x6, x7⟩ := h1.idx.cells
  have cc := h1.cell
  obtain ⟨-, -, k3⟩ := h1.looks
  have lo := fun n => k3 n el.id
  have hO := h1.idx.outsR el.id
  obtain ⟨a2, d, hv2⟩ := hO.val
  have hl2 := hO.len
  have HB := Lib.hid b1
  rw [hv2] at lo hO
  have HR : Hid (∀ W, Below w1.heap.size w1 W → Calls Tryz.prog 74 #[.slice a2 (outsF m.fls el.id).length d, .func (.func 80) #[] #[.pointer (some ⟨p0, 0, none⟩)]] W fun e w' => e = .returned (.bool ((outsF m.fls el.id).any fun f => sEq f.id el.dflt)) ∧ Below W.heap.size W w') := Lib.hid (fun W hW =>
    hasFl _ _ (hO.mono (hW.mono h1.le) (Nat.le_trans h1.le hW.size)) 80 #[.pointer (some ⟨p0, 0, none⟩)] (fun f => sEq f.id el.dflt) (enters_of Tryz.func80 (by kernel_rfl) rfl) (fun f _ V hV => six11_any (by rw [Below.cellB hV (Nat.lt_of_lt_of_le l1 hW.size), Below.cellB hW l1]; exact c4) f))
  unfold dfltB
  obtain ⟨O, hO'⟩ : ∃ O, (outsF m.fls el.id).length = O := ⟨_, rfl⟩
  obtain ⟨A, hA⟩ : ∃ A, (outsF m.fls el.id).any (fun f => sEq f.id el.dflt) = A := ⟨_, rfl⟩
  rw [hO'] at lo hl2
  rw [hO', hA]
  rw [hO', hA] at HR
  unfold noS
  have e1 : (el.kind != 5) = !(el.kind == 5) := rfl
  have o1 : ((O : Int) == 1) = (O == 1) := by rw [Bool.eq_iff_iff, beq_iff_eq, beq_iff_eq]; omega
  clear n1 b1 h h1 k3 hv2 hO' hA hO
  by_cases hk : el.kind = 5
  · rw [if_pos hk]
    rw [beq_iff_eq.2 hk] at e1
    clear hk
    by_cases h1 : O = 1
    · rw [if_pos h1]
      have o2 : (O == 1) = true := beq_iff_eq.2 h1
      rw [o2] at o1
      clear h1 HR
      go_enter Tryz.func79, Tryz.ntmps79
      go_wp2_with fail
      go_quiet (fail)
      rename_i nq
      have HE := Lib.hid (HB.out.trans ((below_drewN' nq).mono HB.out.size))
      go_wp2_with fail
      go_ret
      exact ⟨rfl, HE.out⟩
    · rw [if_neg h1]
      have o2 : (O == 1) = false := beq_eq_false_iff_ne.2 h1
      rw [o2] at o1
      clear h1
      go_enter Tryz.func79, Tryz.ntmps79
      go_wp2_with fail
      go_quiet (fail)
      rename_i nq
      have HE := Lib.hid (HB.out.trans ((below_drewN' nq).mono HB.out.size))
      go_wp2_with (go_at_call 74; refine (HR.out _ (below_drewN' nq)).mono ?_; rintro e w4 ⟨rfl, hb4⟩; have HB4 := Lib.hid (HE.out.trans (hb4.mono HE.out.size)); clear hb4)
      go_ret
      exact ⟨rfl, HB4.out⟩
  · rw [if_neg hk]
    rw [beq_eq_false_iff_ne.2 hk] at e1
    clear hk HR
    go_enter Tryz.func79, Tryz.ntmps79
    go_wp2_with fail
    go_quiet (fail)
    rename_i nq
    have HE := Lib.hid (HB.out.trans ((below_drewN' nq).mono HB.out.size))
    go_wp2_with fail
    go_ret
    exact ⟨rfl, HE.out⟩
end
def guardR (l : List Bd) (r : Rs Nd) : Bool := match r with
  | .ok n => tyE l n == ((2 : Int), (0 : Int))
  | .error _ => false
theorem guardB_is (l : List Bd) (s : ByteArray) : guardB l s = guardR l (parseE s.data.toList) := by
  unfold guardB guardR
  cases parseE s.data.toList <;> rfl
theorem guard_fact {w : World} {n : Nd} {vk : Value} {pos err : Int} {r : Rs Nd} (l : List Bd) (h : parseR w n vk pos err r) :
    NdR w w.heap.size vk n ∧ ((err == 0) && (((tyE l n).2 == 0) && ((tyE l n).1 == 2))) = guardR l r := by
  cases r with
  | ok m =>
    obtain ⟨rfl, -, rfl, hH, hK⟩ := h
    refine ⟨⟨hH, hK⟩, ?_⟩
    show _ = (tyE l n == ((2 : Int), (0 : Int)))
    generalize tyE l n = t
    obtain ⟨a, b⟩ := t
    show (true && ((b == 0) && (a == 2))) = ((a == 2) && (b == 0))
    rw [Bool.true_and, Bool.and_comm]
  | error e =>
    obtain ⟨x, p⟩ := e
    obtain ⟨rfl, rfl, -, rfl, hx⟩ := h
    refine ⟨⟨HeadW_nil, KidsR.nil _ _⟩, ?_⟩
    rw [beq_eq_false_iff_ne.2 hx]
    rfl
section
variable {w : World} {B cx : Nat} {x : IX} {m : Md}
set_option maxHeartbeats 4000000 in
/-- A condition of truth. -/
theorem guard_any (hg : Gr w) (s : ByteArray) (hs : s.size ≤ 140737488355328) (vv : Value) (l : List Bd) (hl : BdsR w w.heap.size vv l) : Calls Tryz.prog 82 #[.string s, vv] w fun e w' => e = .returned (.bool (guardB l s)) ∧ Below w.heap.size w w' := by
  have HP := Lib.hid (parse_any w hg s hs)
  have HL := Lib.hid hl
  have HG := Lib.hid hg
  obtain ⟨r, hr⟩ : ∃ r, parseE s.data.toList = r := ⟨_, rfl⟩
  rw [guardB_is, hr]
  rw [hr] at HP
  obtain ⟨R, hR⟩ : ∃ R, guardR l r = R := ⟨_, rfl⟩
  rw [hR]
  have HRR := Lib.hid hR
  obtain ⟨a1, k1, rfl⟩ : ∃ a c, vv = .slice a l.length c := by obtain ⟨a, c, e, _⟩ := hl; exact ⟨a, c, e⟩
  clear hl hg hr hR
  go_enter Tryz.func82, Tryz.ntmps82
  go_wp2_with (first
    | (go_at_call 115; refine HP.out.mono ?_; rintro e w2 ⟨n, a, c, d, pos, err, rfl, hb2, hR⟩; have HF := Lib.hid (guard_fact l hR); obtain ⟨w3, p3, hp3, hw3, l3, n3, b3⟩ := box_new w2 (.cells #[.int .u8 n.op, .int .u8 n.v.kind, .int .i64 n.v.num, .bool n.v.tr, .string n.v.text, .string n.name, .slice a c d] 108); have HB3 := Lib.hid (hb2.trans (b3.mono hb2.size)); obtain ⟨g0, g1, g2, g3, g4, g5, g6, gf⟩ := n7_cells n3; have HT := Lib.hid (typ_any w3 n (.slice a c d) _ l (NdR.to HF.out.1 b3) (HL.out.mono HB3.out HB3.out.size) (HG.out.up HB3.out).t8); obtain ⟨tk, hk⟩ : ∃ k, (tyE l n).1 = k := ⟨_, rfl⟩; obtain ⟨tf, hf⟩ : ∃ k, (tyE l n).2 = k := ⟨_, rfl⟩; rw [hk, hf] at HT; have HQ : Hid (((err == 0) && ((tf == 0) && (tk == 2))) = R) := Lib.hid (by rw [← hk, ← hf, HF.out.2]; exact HRR.out); clear hR hb2 n3 b3 hk hf)
    | (go_at_call 116; refine HT.out.mono ?_; rintro e w4 ⟨rfl, hb4⟩; have HB4 := Lib.hid (HB3.out.trans (hb4.mono HB3.out.size)); clear hb4))
  all_goals (go_ret; exact ⟨ret_bool (by rw [← HQ.out]; simp_all), HB4.out⟩)
set_option maxHeartbeats 8000000 in
theorem six2_any (h : CapX w B cx x m) (hg : Gr w) (f : Fl) (hf : f.cond.size ≤ 140737488355328) : Calls Tryz.prog 81 #[valFl f, .pointer (some ⟨cx, 0, none⟩)] w fun e w' => e = .returned (.bool (condB m f)) ∧ Below w.heap.size w w' := by
  obtain ⟨w1, p0, hp0, hw1, l1, n1, b1⟩ := box_new w (oFl f)
  have HB := Lib.hid b1
  have h1 := h.below b1
  obtain ⟨c0, c1, c2, c3⟩ := boxFl n1
  have cc := h1.cell
  obtain ⟨-, -, -, -, -, x5, -, -⟩ := h1.idx.cells
  have k1 := ((h1.below (Below.refl _ _).drew).idx.look f.frm).1
  have k2 := ((h1.below ((Below.refl _ w1).alloc (Nat.le_refl _) oElZ).drew).idx.look f.frm).1
  unfold condB
  obtain ⟨E, hE⟩ : ∃ E, elemE m.els f.frm = E := ⟨_, rfl⟩
  rw [hE] at k1 k2
  simp only [hE]
  obtain ⟨w2, p1, hp1, hw2, l2, n2, b2⟩ := box_new w1 (oEl E)
  obtain ⟨w3, hw3⟩ : ∃ W, w2.drew = W := ⟨_, rfl⟩
  have b2 : Below w1.heap.size w1 w3 := hw3 ▸ b2.drew
  have n2 : w3.heap[p1]? = some (oEl E) := hw3 ▸ n2
  have l2 : p1 < w3.heap.size := lt_of_block n2
  have h2 := h1.below b2
  have HB3 := Lib.hid (HB.out.trans (b2.mono HB.out.size))
  have cc3 := h2.cell
  obtain ⟨-, -, y2, -, -, y5, -, y7⟩ := h2.idx.cells
  obtain ⟨d0, d1, d2, d3⟩ := boxFl ((b2.block p0 l1).trans n1)
  obtain ⟨-, -, u2, -, u4, -⟩ := boxEl n2
  obtain ⟨-, -, q3⟩ := h2.looks
  have lo := fun n => q3 n f.frm
  have hO := h2.idx.outsR f.frm
  obtain ⟨a2, d, hv2⟩ := hO.val
  have hl2 := hO.len
  rw [hv2] at lo
  obtain ⟨O, hO'⟩ : ∃ O, (outsF m.fls f.frm).length = O := ⟨_, rfl⟩
  rw [hO'] at lo hl2
  rw [hO']
  have HGU := Lib.hid (show ∀ W, Below w3.heap.size w3 W → _ from fun W hW => guard_any (w := W) ((hg.up HB3.out).up hW) f.cond hf x.vv m.vars (h2.below hW |>.idx.md.vars.mono (Below.refl _ _) (Nat.le_trans h2.le hW.size)))
  obtain ⟨G, hG⟩ : ∃ G, guardB m.vars f.cond = G := ⟨_, rfl⟩
  rw [hG] at HGU
  rw [hG]
  obtain ⟨bk, hk⟩ : ∃ b, (E.kind == 5) = b := ⟨_, rfl⟩
  obtain ⟨b3, hb3, hb3'⟩ : ∃ b, decide ((1 : Int) < (O : Int)) = b ∧ decide (1 < O) = b := ⟨decide (1 < O), by rw [decide_eq_decide]; omega, rfl⟩
  obtain ⟨b4, hb4⟩ : ∃ b, (E.dflt.toList == f.id.toList) = b := ⟨_, rfl⟩
  obtain ⟨b5, hb5⟩ : ∃ b, f.cond.toList.isEmpty = b := ⟨_, rfl⟩
  have hb4' : (E.dflt.toList != f.id.toList) = !b4 := by rw [bne, hb4]
  obtain ⟨a1, k1', _, _, _, _, vv1, -, -⟩ := h2.idx.md.shape
  rw [vv1] at y2 HGU
  unfold noS sEq
  rw [hk, hb3', hb4, hb5]
  clear n1 b1 h h1 h2 b2 n2 hE hO hO' hv2 hG vv1 q3 hg hb4' hb3'
  cases bk with
  | false =>
    clear hb3 hb4
    go_enter Tryz.func81, Tryz.ntmps81
    go_wp2_with fail
    go_region_held3 (fun w' => w'.cell? ⟨cx, 0, none⟩ = some (.pointer (some ⟨x.p, 0, none⟩)) ∧ w'.cell? ⟨x.p, 5, none⟩ = some (.map (some x.eb)) ∧ w'.cell? ⟨p0, 1, none⟩ = some (.string f.frm)) (go_keep) (fail)
    all_goals
      go_wp2_with fail
      go_quiet (fail)
      have HE := Lib.hid (HB3.out.trans ((below_drewN' nq).mono HB3.out.size))
      go_wp2_with fail
      go_ret
      exact ⟨rfl, by first | exact HE.out | (rw [← hp0]; exact HE.out)⟩
  | true =>
    cases b3 with
    | false =>
      clear hb4
      go_enter Tryz.func81, Tryz.ntmps81
      go_wp2_with fail
      go_region_held3 (fun w' => w'.cell? ⟨cx, 0, none⟩ = some (.pointer (some ⟨x.p, 0, none⟩)) ∧ w'.cell? ⟨x.p, 5, none⟩ = some (.map (some x.eb)) ∧ w'.cell? ⟨p0, 1, none⟩ = some (.string f.frm)) (go_keep) (fail)
      all_goals
        go_wp2_with fail
        go_quiet (fail)
        have HE := Lib.hid (HB3.out.trans ((below_drewN' nq).mono HB3.out.size))
        go_wp2_with fail
        go_ret
        exact ⟨rfl, by first | exact HE.out | (rw [← hp0]; exact HE.out)⟩
    | true =>
      cases b4 with
      | true =>
        go_enter Tryz.func81, Tryz.ntmps81
        go_wp2_with fail
        go_region_held3 (fun w' => w'.cell? ⟨cx, 0, none⟩ = some (.pointer (some ⟨x.p, 0, none⟩)) ∧ w'.cell? ⟨x.p, 5, none⟩ = some (.map (some x.eb)) ∧ w'.cell? ⟨p0, 1, none⟩ = some (.string f.frm)) (go_keep) (fail)
        all_goals
          go_wp2_with fail
          go_quiet (fail)
          have HE := Lib.hid (HB3.out.trans ((below_drewN' nq).mono HB3.out.size))
          go_wp2_with fail
          go_ret
          exact ⟨rfl, by first | exact HE.out | (rw [← hp0]; exact HE.out)⟩
      | false =>
        cases b5 with
        | true =>
          go_enter Tryz.func81, Tryz.ntmps81
          go_wp2_with fail
          go_region_held3 (fun w' => w'.cell? ⟨cx, 0, none⟩ = some (.pointer (some ⟨x.p, 0, none⟩)) ∧ w'.cell? ⟨x.p, 5, none⟩ = some (.map (some x.eb)) ∧ w'.cell? ⟨p0, 1, none⟩ = some (.string f.frm)) (go_keep) (fail)
          all_goals
            go_wp2_with fail
            go_quiet (fail)
            have HE := Lib.hid (HB3.out.trans ((below_drewN' nq).mono HB3.out.size))
            go_wp2_with fail
            go_quiet (fail)
            go_wp2_with fail
            go_ret
            exact ⟨rfl, by first | exact HB3.out.trans ((below_drewN' _).mono HB3.out.size) | (rw [← hp0]; exact HB3.out.trans ((below_drewN' _).mono HB3.out.size))⟩
        | false =>
          go_enter Tryz.func81, Tryz.ntmps81
          go_wp2_with fail
          go_region_held3 (fun w' => w'.cell? ⟨cx, 0, none⟩ = some (.pointer (some ⟨x.p, 0, none⟩)) ∧ w'.cell? ⟨x.p, 5, none⟩ = some (.map (some x.eb)) ∧ w'.cell? ⟨p0, 1, none⟩ = some (.string f.frm)) (go_keep) (fail)
          all_goals
            go_wp2_with fail
            go_quiet (fail)
            have HE := Lib.hid (HB3.out.trans ((below_drewN' nq).mono HB3.out.size))
            go_wp2_with fail
            go_region_held3 (fun w' => w'.cell? ⟨cx, 0, none⟩ = some (.pointer (some ⟨x.p, 0, none⟩)) ∧ w'.cell? ⟨x.p, 2, none⟩ = some (.slice a1 m.vars.length k1') ∧ w'.cell? ⟨p0, 3, none⟩ = some (.string f.cond)) (first | go_keep | exact ⟨z0, z1, z2⟩) ((go_at_call 82; refine (HGU.out _ (below_drewN' nq).drew).mono ?_; rintro e w5 ⟨rfl, hb5⟩; have z0 : w5.cell? ⟨cx, 0, none⟩ = some (.pointer (some ⟨x.p, 0, none⟩)) := (Below.cellB hb5 (cellLt cc3)).trans cc3; have z1 : w5.cell? ⟨x.p, 2, none⟩ = some (.slice a1 m.vars.length k1') := (Below.cellB hb5 (cellLt y2)).trans y2; have z2 : w5.cell? ⟨p0, 3, none⟩ = some (.string f.cond) := (Below.cellB hb5 (cellLt d3)).trans d3; have HB5 := Lib.hid (HE.out.drew.trans (hb5.mono HE.out.size)); clear hb5))
            all_goals (go_wp2_with fail; go_ret; exact ⟨rfl, by first | exact HB5.out | (rw [← hp0]; exact HB5.out)⟩)
end
end Go.Proofs.YtjcaaahbfkjipaaGreatDoor
