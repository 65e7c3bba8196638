/- Texts fused by fuse.py: KRuleBord. -/
import Derived.Test.YtjcaaahbfkjipaaGreatDoorKZ19
import Derived.Test.YtjcaaahbfkjipaaGreatDoorKZ02
/- Of RuleBord: what FRuleNames uses (shake.py). -/
set_option maxRecDepth 100000
/- rule.seven: what stands on a border. -/
namespace Go.Proofs.YtjcaaahbfkjipaaGreatDoor
open Go.RowKit
section
variable {w : World}
theorem contains_any {base : Nat} {v : Value} {L : List ByteArray} (h : OwnT w base v L) (hl : L.length ≤ 1000) (s : ByteArray) : Calls Tryz.prog 86 #[v, .string s] w fun e w' => e = .returned (.bool (L.any fun t => sEq t s)) ∧ w = w' := by
  rcases h.val with ⟨rfl, rfl⟩ | ⟨g, cap, rfl, _, _⟩
  · exact (Tryz.slices_Contains_string_empty none 0 s w).mono fun e w' ⟨he, hw⟩ => ⟨he, hw.symm⟩
  · refine (Tryz.slices_Contains_string g 0 L.length cap L s w (Nat.le_refl _) (by omega) (fun j hj => ?_)).mono fun e w' ⟨he, hw⟩ => ⟨?_, hw.symm⟩
    · have := OwnF.at cB_len h hj (show 0 < 1 by omega)
      rw [Nat.mul_one, Nat.add_zero] at this
      rw [Nat.zero_add, this]
      simp [cB, hj]
    · rw [he]
      congr 2
      rw [List.take_length, Bool.eq_iff_iff, Lib.containsS_iff, List.any_eq_true]
      constructor
      · intro h
        exact ⟨s, h, sEq_refl s⟩
      · rintro ⟨t, ht, e⟩
        exact sEq_iff.1 e ▸ ht
variable {B cx pa : Nat} {x : IX} {m : Md}
def parB (m : Md) (a : ByteArray) (p : El) : Bool := (p.kind == 6) && (aroundF m.els 64 (elemE m.els p.id)).any fun s => sEq s a
theorem around_len (l : List El) : ∀ n e, (aroundF l n e).length ≤ n
  | 0, _ => Nat.zero_le _
  | n + 1, e => by
    unfold aroundF
    split
    · exact Nat.zero_le _
    · split
      · exact Nat.zero_le _
      · split
        · rw [List.length_cons]; exact Nat.succ_le_succ (around_len l n _)
        · exact Nat.zero_le _
set_option maxHeartbeats 4000000 in
theorem seven11_any (h : CapX w B cx x m) {aid : ByteArray} (ha : w.cell? ⟨pa, 0, none⟩ = some (.string aid)) (p : El) : Calls Tryz.prog 85 #[valEl p, .pointer (some ⟨cx, 0, none⟩), .pointer (some ⟨pa, 0, none⟩)] w fun e w' => e = .returned (.bool (parB m aid p)) ∧ Below w.heap.size w w' := by
  obtain ⟨w1, p0, hp0, hw1, l1, n1, b1⟩ := box_new w (oEl p)
  have h1 := h.below b1
  obtain ⟨c0, c1, c2, c3, c4, c5, c6, c7, c8, c9, c10⟩ := boxEl n1
  have ca := (Below.cellB b1 (cellLt ha)).trans ha
  have cc := h1.cell
  have HB := Lib.hid b1
  unfold parB
  have HA : Hid (∀ W, Below w1.heap.size w1 W → Calls Tryz.prog 56 #[.pointer (some ⟨x.p, 0, none⟩), .string p.id] W fun e w' => ∃ v, e = .returned v ∧ OwnT w' W.heap.size v (aroundF m.els 64 (elemE m.els p.id)) ∧ Below W.heap.size W w') := Lib.hid (fun W hW => around_any ((h1.below hW).idx.mono (Below.refl _ _) (h1.below hW).le) p.id)
  have hal := around_len m.els 64 (elemE m.els p.id)
  obtain ⟨L, hL⟩ : ∃ L, aroundF m.els 64 (elemE m.els p.id) = L := ⟨_, rfl⟩
  rw [hL] at HA hal ⊢
  have HAL := Lib.hid hal
  clear n1 b1 h h1 ha hL hal
  cases hk : (p.kind == 6) with
  | false =>
    clear HA
    go_enter Tryz.func85, Tryz.ntmps85
    go_wp2_with fail
    go_quiet (fail)
    go_wp2_with fail
    go_ret
    exact ⟨rfl, by first | exact HB.out.trans ((below_drewN' _).mono HB.out.size) | (rw [← hp0]; exact HB.out.trans ((below_drewN' _).mono HB.out.size))⟩
  | true =>
    have cur : Below w1.heap.size w1 w1.drew := (Below.refl _ _).drew
    have HKP := Lib.hid (show ∀ W, Below w1.heap.size w1 W → W.cell? ⟨cx, 0, none⟩ = some (.pointer (some ⟨x.p, 0, none⟩)) ∧ W.cell? ⟨p0, 0, none⟩ = some (.string p.id) ∧ W.cell? ⟨pa, 0, none⟩ = some (.string aid) ∧ W.cell? ⟨p0, 2, none⟩ = some (.int .u8 p.kind) from fun W hW => ⟨(Below.cellB hW (cellLt cc)).trans cc, (Below.cellB hW (cellLt c0)).trans c0, (Below.cellB hW (cellLt ca)).trans ca, (Below.cellB hW (cellLt c2)).trans c2⟩)
    go_enter Tryz.func85, Tryz.ntmps85
    go_wp2_with fail
    go_region_held3 (fun w' => w'.cell? ⟨cx, 0, none⟩ = some (.pointer (some ⟨x.p, 0, none⟩)) ∧ w'.cell? ⟨p0, 0, none⟩ = some (.string p.id) ∧ w'.cell? ⟨pa, 0, none⟩ = some (.string aid) ∧ w'.cell? ⟨p0, 2, none⟩ = some (.int .u8 p.kind)) (first | exact HKP.out _ cur | go_keep) (first | (go_at_call 56; refine (HA.out _ cur).mono ?_; rintro e w4 ⟨v4, rfl, ho4, hb4⟩; have HO4 := Lib.hid ho4; have cur := cur.trans (hb4.mono cur.size); clear ho4 hb4) | (go_at_call 86; have _ := HO4; refine (contains_any HO4.out (Nat.le_trans HAL.out (by omega)) _).mono ?_; rintro e w5 ⟨rfl, rfl⟩))
    all_goals go_wp2_with fail
    all_goals (go_ret; exact ⟨rfl, by first | exact HB.out.trans (cur.mono HB.out.size) | (rw [← hp0]; exact HB.out.trans (cur.mono HB.out.size))⟩)
def bordR (K ev : Int) (is : Bool) (inn : ByteArray) (A : El) (Z : Bool) : Bool :=
  if K = 9 then is && (sEq A.inn inn && ((A.kind == 3) || ((A.kind == 4) || ((A.kind == 10) && (!(ev == 1) && !Z))))) else true
theorem bord_r (m : Md) (e : El) : borderB m e = bordR e.kind e.event (findE m.els e.att).isSome e.inn (elemE m.els e.att) (m.els.any (parB m (elemE m.els e.att).id)) := by
  unfold borderB bordR elemE
  cases findE m.els e.att <;> rfl
set_option maxHeartbeats 8000000 in
theorem seven1_any (h : CapX w B cx x m) (el : El) : Calls Tryz.prog 83 #[valEl el, .pointer (some ⟨cx, 0, none⟩)] w fun e w' => e = .returned (.bool (borderB m el)) ∧ Below w.heap.size w w' := by
  obtain ⟨w1, p0, hp0, hw1, l1, n1, b1⟩ := box_new w (oEl el)
  have HB := Lib.hid b1
  have h1 := h.below b1
  obtain ⟨c0, c1, c2, c3, c4, c5, c6, c7, c8, c9, c10⟩ := boxEl n1
  have cc := h1.cell
  obtain ⟨-, -, -, -, -, x5, -, -⟩ := h1.idx.cells
  have k1 := h1.lookOk el.att (Below.refl _ _).drew
  have k2 := h1.lookOk el.att ((Below.refl _ w1).alloc (Nat.le_refl _) oElZ).drew
  rw [bord_r]
  obtain ⟨is, his⟩ : ∃ b, (findE m.els el.att).isSome = b := ⟨_, rfl⟩
  obtain ⟨A, hA⟩ : ∃ E, elemE m.els el.att = E := ⟨_, rfl⟩
  rw [his, hA]
  rw [his, hA] at k1 k2
  obtain ⟨w2, p1, hp1, hw2, l2, n2, b2⟩ := box_new w1 (oEl A)
  obtain ⟨w3, hw3⟩ : ∃ W, w2.drew = W := ⟨_, rfl⟩
  have b2 : Below w1.heap.size w1 w3 := hw3 ▸ b2.drew
  have n2 : w3.heap[p1]? = some (oEl A) := hw3 ▸ n2
  have l2 : p1 < w3.heap.size := lt_of_block n2
  have h2 := h1.below b2
  have HB3 := Lib.hid (HB.out.trans (b2.mono HB.out.size))
  have cc3 := h2.cell
  obtain ⟨-, -, -, y3, -, y5, -, -⟩ := h2.idx.cells
  obtain ⟨d0, d1, d2, d3, d4, d5, d6, d7, d8, d9, d10⟩ := boxEl ((b2.block p0 l1).trans n1)
  obtain ⟨e0, e1, e2, e3, e4, e5, e6, e7, e8, e9, e10⟩ := boxEl n2
  have HR := Lib.hid (hasEl (w := w3) x.ve m.els (h2.idx.md.els.mono (Below.refl _ _) h2.le) 85 #[.pointer (some ⟨cx, 0, none⟩), .pointer (some ⟨p1, 0, none⟩)] (parB m A.id) (enters_of Tryz.func85 (by kernel_rfl) rfl) (fun q _ V hV => seven11_any (h2.below hV) ((Below.cellB hV (cellLt e0)).trans e0) q))
  obtain ⟨Z, hZ⟩ : ∃ b, m.els.any (parB m A.id) = b := ⟨_, rfl⟩
  rw [hZ] at HR ⊢
  obtain ⟨a1, k1', a2, k2', a3, k3', v1, v2, v3⟩ := h2.idx.md.shape
  rw [v2] at y3 HR
  obtain ⟨K, hK⟩ : ∃ K, el.kind = K := ⟨_, rfl⟩
  obtain ⟨ev, hev⟩ : ∃ K, el.event = K := ⟨_, rfl⟩
  rw [hK] at c2 d2 ⊢
  rw [hev] at c6 d6 ⊢
  unfold bordR sEq
  clear n1 b1 h h1 h2 b2 n2 his hA hZ v1 v2 v3 hK hev
  by_cases h9 : K = 9
  · subst h9
    rw [if_pos rfl]
    cases is with
    | false =>
      clear HR
      go_enter Tryz.func83, Tryz.ntmps83
      go_wp2_with fail
      go_region_held3 (fun w' => w'.cell? ⟨cx, 0, none⟩ = some (.pointer (some ⟨x.p, 0, none⟩)) ∧ w'.cell? ⟨x.p, 5, none⟩ = some (.map (some x.eb)) ∧ w'.cell? ⟨p0, 5, none⟩ = some (.string el.att)) (go_keep) (fail)
      all_goals
        go_wp2_with fail
        go_ret
        exact ⟨rfl, by first | exact HB3.out | (rw [← hp0]; exact HB3.out)⟩
    | true =>
      go_enter Tryz.func83, Tryz.ntmps83
      go_wp2_with fail
      go_region_held3 (fun w' => w'.cell? ⟨cx, 0, none⟩ = some (.pointer (some ⟨x.p, 0, none⟩)) ∧ w'.cell? ⟨x.p, 5, none⟩ = some (.map (some x.eb)) ∧ w'.cell? ⟨p0, 5, none⟩ = some (.string el.att)) (go_keep) (fail)
      all_goals
        go_wp2_with (go_at_call 84; refine HR.out.mono ?_; rintro e w5 ⟨rfl, hb5⟩; have HB5 := Lib.hid (HB3.out.trans (hb5.mono HB3.out.size)); clear hb5)
        all_goals (go_ret; exact ⟨ret_bool (by simp_all []), by first | exact HB5.out | (rw [← hp0]; exact HB5.out) | exact HB3.out | (rw [← hp0]; exact HB3.out)⟩)
  · have t9 : (K != 9) = true := by rw [bne, beq_eq_false_iff_ne.2 h9]; rfl
    rw [if_neg h9]
    have t9' : (K == 9) = false := beq_eq_false_iff_ne.2 h9
    clear HR h9
    go_enter Tryz.func83, Tryz.ntmps83
    go_wp2_with fail
    go_region_held3 (fun w' => w'.cell? ⟨cx, 0, none⟩ = some (.pointer (some ⟨x.p, 0, none⟩)) ∧ w'.cell? ⟨x.p, 5, none⟩ = some (.map (some x.eb)) ∧ w'.cell? ⟨p0, 5, none⟩ = some (.string el.att)) (go_keep) (fail)
    all_goals
      go_wp2_with fail
      go_ret
      exact ⟨rfl, by first | exact HB3.out | (rw [← hp0]; exact HB3.out)⟩
set_option maxHeartbeats 2000000 in
theorem seven_any (h : IdxR w w.heap.size x m) : Calls Tryz.prog 39 #[.pointer (some ⟨x.p, 0, none⟩)] w (RuleR (sevenR m) w) := by
  obtain ⟨w1, p0, hp0, hw1, l1, b1, hc⟩ := cap_box h
  have S := Lib.hid (firstEl0 (w := w1) x.ve m.els hc.idx.md.els 83 #[.pointer (some ⟨p0, 0, none⟩)] (borderB m) (enters_of Tryz.func83 (by kernel_rfl) rfl) (fun e _ W hW => seven1_any (hc.below hW) e))
  have cc := hc.cell
  obtain ⟨-, -, -, x3, -, -, -, -⟩ := hc.idx.cells
  have HB := Lib.hid b1
  obtain ⟨r, hr⟩ : ∃ r, sevenR m = r := ⟨_, rfl⟩
  rw [show firstBad El.id (borderB m) m.els = r from hr] at S
  rw [hr]
  obtain ⟨a1, k1, a2, k2, a3, k3, v1, v2, v3⟩ := hc.idx.md.shape
  rw [v2] at x3 S
  clear h b1 hc v1 v2 v3 hr
  go_enter Tryz.func39, Tryz.ntmps39
  go_wp2_with (go_at_call 64; refine S.out.mono ?_; rintro e w2 ⟨rfl, hb2⟩; have HB2 := Lib.hid (HB.out.trans (hb2.mono HB.out.size)); clear hb2)
  go_ret2
  exact ⟨rfl, HB2.out⟩
end
end Go.Proofs.YtjcaaahbfkjipaaGreatDoor
