/- EvalParts: the walk where all is well. -/
import Derived.Test.YtjfiijbmkcfooaaDoorLEvalParts2
set_option maxRecDepth 100000
namespace Go.Proofs.YtjfiijbmkcfooaaDoor
open Go.RowKit
section
variable (W : World) (hT : Tabs8 W) (op : Int) (a b : Nd) (va vb vv : Value) (l : List Bd) (h0 : 0 ≤ op) (h255 : op ≤ 255) (ha : NdR W W.heap.size va a) (hb : NdR W W.heap.size vb b) (hl : BdsR W W.heap.size vv l)
include hT ha hb hl h0 h255
set_option maxHeartbeats 8000000 in
theorem evalParts_ok (d1 : deepB 60 a = false) (d2 : deepB 60 b = false) (d3 : checkN a = true) (d4 : checkN b = true) (g5 : 5 ≤ op) (g17 : op ≤ 17) (hlen : l.length ≤ 2513169434900) (hok : (evalN l a).2 = 0 ∧ (evalN l b).2 = 0) :
    Calls Tryd.prog 4 #[.int .u8 op, valN a va, valN b vb, vv] W fun e w' => e = .returned (.bool true) ∧ Below W.heap.size W w' := by
  obtain ⟨lva, lvc, rfl⟩ := hl.val
  obtain ⟨w0, w1, p0, p1, hp0, hw0, hp1, hw1, l0, l1, hb1, HP⟩ := boxes_two W a b va vb
  have cur : Good w1 [(va, a), (vb, b)] [(.slice lva l.length lvc, l)] w1 := ⟨Below.refl _ _, by simp; exact ⟨ha.to hb1, hb.to hb1⟩, by simp; exact hl.to hb1, Utf8Tabs_below hT hb1⟩
  have G0 := Lib.hid cur
  have HB := Lib.hid hb1
  obtain ⟨c0, c1, c2, c3, c4, c5, c6, e0, e1, e2, e3, e4, e5, e6⟩ := HP.out w1 (Below.refl _ _)
  have P1 := Lib.hid (fun h => parts_1 (l := l) g5 g17 d3 d4 h)
  have P3 := Lib.hid (fun h h' => parts_3 (l := l) g5 g17 d3 d4 h h')
  have EX := Lib.hid (ev_is (l := l) d3)
  have EY := Lib.hid (ev_is (l := l) d4)
  have EZ := Lib.hid (ev_two (l := l) g5 g17 d3 d4)
  have hvb : ∀ b ∈ l, VlW b.val := fun b hb => by obtain ⟨_, _, _, _, _, _, h⟩ := hl; exact (h b hb).1
  have hvx := vlw_N hvb a ha.deep
  have hvy := vlw_N hvb b hb.deep
  obtain ⟨x, hx⟩ : ∃ x, evalN l a = x := ⟨_, rfl⟩
  obtain ⟨y, hy⟩ : ∃ y, evalN l b = y := ⟨_, rfl⟩
  obtain ⟨z, hz⟩ : ∃ z, evE l (twoN op a b) = z := ⟨_, rfl⟩
  rw [hx] at EX EZ P1 P3 hvx hok
  rw [hy] at EY EZ P3 hvy hok
  rw [hz] at EZ P1 P3
  obtain ⟨xv, xe⟩ := x
  obtain ⟨yv, ye⟩ := y
  obtain ⟨zv, ze⟩ := z
  have HZ := Lib.hid hz
  have HVX := Lib.hid hvx
  have HVY := Lib.hid hvy
  have D1 := Lib.hid d1
  have D2 := Lib.hid d2
  have D3 := Lib.hid d3
  have D4 := Lib.hid d4
  have G5 := g5
  have G17 := g17
  clear d1 d2 d3 d4 ha hb hl hT hb1 hx hy hz hvx hvy hvb
  go_enter Tryd.func4, Tryd.ntmps4
  have n1 : decide (op < 5) = false := decide_eq_false (by omega)
  have n2 : decide (17 < op) = false := decide_eq_false (by omega)
  go_wp2_with (first
      | (go_at_call 7; refine (works_good cur).mono ?_; rintro e wz ⟨rfl, cur⟩; clear c0 c1 c2 c3 c4 c5 c6 e0 e1 e2 e3 e4 e5 e6; obtain ⟨c0, c1, c2, c3, c4, c5, c6, e0, e1, e2, e3, e4, e5, e6⟩ := HP.out _ cur.below)
      | (go_at_call 8; refine (deep_good cur (by simp) (by first | exact D1.out | exact D2.out)).mono ?_; rintro e wz ⟨rfl, cur⟩; clear c0 c1 c2 c3 c4 c5 c6 e0 e1 e2 e3 e4 e5 e6; obtain ⟨c0, c1, c2, c3, c4, c5, c6, e0, e1, e2, e3, e4, e5, e6⟩ := HP.out _ cur.below)
      | (go_at_call 9; refine (check_good cur (by simp) (by first | exact D3.out | exact D4.out)).mono ?_; rintro e wz ⟨rfl, cur⟩; clear c0 c1 c2 c3 c4 c5 c6 e0 e1 e2 e3 e4 e5 e6; obtain ⟨c0, c1, c2, c3, c4, c5, c6, e0, e1, e2, e3, e4, e5, e6⟩ := HP.out _ cur.below)
      | (go_at_call 13; refine (eval_good (l := l) cur (by simp) (by simp) EX.out).mono ?_; rintro e wz ⟨rfl, cur⟩; refine Hid.out ?_))
  refine Lib.hid ?_
  obtain ⟨w2, p2, hp2, hw2, l2, n2, b2⟩ := box_new wz (objV xv)
  have cur := cur.to b2
  have HV2 := Lib.hid (fun V (h : Below w2.heap.size w2 V) => v_cells ((h.block p2 l2).trans n2))
  have HC2 := Lib.hid cur.below
  have G2 := Lib.hid (show Good w2 [(va, a), (vb, b)] [(.slice lva l.length lvc, l)] w2 from (G0.out.to HC2.out).re)
  have HP := Lib.hid (fun V (h : Below w2.heap.size w2 V) => HP.out V (HC2.out.trans (h.mono HC2.out.size)))
  have HB := Lib.hid (HB.out.trans (HC2.out.mono HB.out.size))
  clear n2 b2 c0 c1 c2 c3 c4 c5 c6 e0 e1 e2 e3 e4 e5 e6 cur
  have cur := G2.out
  obtain ⟨c0, c1, c2, c3, c4, c5, c6, e0, e1, e2, e3, e4, e5, e6⟩ := HP.out _ cur.below
  go_wp2_with (go_at_call 13; refine (eval_good (l := l) cur (by simp) (by simp) EY.out).mono ?_; rintro e wz ⟨rfl, cur⟩; refine Hid.out ?_)
  refine Lib.hid ?_
  obtain ⟨w3, p3, hp3, hw3, l3, n3, b3⟩ := box_new wz (objV yv)
  have cur := cur.to b3
  have HV3 := Lib.hid (fun V (h : Below w3.heap.size w3 V) => v_cells ((h.block p3 l3).trans n3))
  have HC3 := Lib.hid cur.below
  have G3 := Lib.hid (show Good w3 [(va, a), (vb, b)] [(.slice lva l.length lvc, l)] w3 from (G2.out.to HC3.out).re)
  have HP := Lib.hid (fun V (h : Below w3.heap.size w3 V) => HP.out V (HC3.out.trans (h.mono HC3.out.size)))
  have HB := Lib.hid (HB.out.trans (HC3.out.mono HB.out.size))
  have HV2 := Lib.hid (fun V (h : Below w3.heap.size w3 V) => HV2.out V (HC3.out.trans (h.mono HC3.out.size)))
  clear n3 b3 c0 c1 c2 c3 c4 c5 c6 e0 e1 e2 e3 e4 e5 e6 cur
  have cur := G3.out
  obtain ⟨c0, c1, c2, c3, c4, c5, c6, e0, e1, e2, e3, e4, e5, e6⟩ := HP.out _ cur.below
  go_wp2_with (first
      | (go_at_call 11; refine (two_good cur (by simp) (by simp) h0 h255).mono ?_; rintro e wz ⟨vk, rfl, cur⟩)
      | (go_at_call 13; refine (eval_good (l := l) cur (by simp) (by simp) HZ.out).mono ?_; rintro e wz ⟨rfl, cur⟩; refine Hid.out ?_))
  refine Lib.hid ?_
  obtain ⟨w4, p4, hp4, hw4, l4, n4, b4⟩ := box_new wz (objV zv)
  have cur := cur.to b4
  have HV4 := Lib.hid (fun V (h : Below w4.heap.size w4 V) => v_cells ((h.block p4 l4).trans n4))
  have HC4 := Lib.hid cur.below
  have G4 := Lib.hid (show Good w4 [(va, a), (vb, b)] [(.slice lva l.length lvc, l)] w4 from (G3.out.to HC4.out).re)
  have HP := Lib.hid (fun V (h : Below w4.heap.size w4 V) => HP.out V (HC4.out.trans (h.mono HC4.out.size)))
  have HB := Lib.hid (HB.out.trans (HC4.out.mono HB.out.size))
  have HV2 := Lib.hid (fun V (h : Below w4.heap.size w4 V) => HV2.out V (HC4.out.trans (h.mono HC4.out.size)))
  have HV3 := Lib.hid (fun V (h : Below w4.heap.size w4 V) => HV3.out V (HC4.out.trans (h.mono HC4.out.size)))
  clear n4 b4 c0 c1 c2 c3 c4 c5 c6 e0 e1 e2 e3 e4 e5 e6 cur
  have cur := G4.out
  obtain ⟨c0, c1, c2, c3, c4, c5, c6, e0, e1, e2, e3, e4, e5, e6⟩ := HP.out _ cur.below

  obtain ⟨hxe, hye⟩ := hok
  subst hxe
  have dx : ((0 : Int) != 0) = false := rfl
  obtain ⟨x0, x1, x2, x3⟩ := HV2.out _ cur.below
  by_cases h5 : op = 5
  · subst h5
    have cur := G4.out
    by_cases hk : xv.kind = 2
    · have dk : (xv.kind == 2) = true := by simpa using hk
      clear hk
      cases ht : xv.tr with
      | true =>
        have dy : (ye != 0) = false := by simpa using hye
        subst hye
        have hp3 := P3.out rfl rfl
        obtain ⟨more, hmore⟩ : ∃ m : List Bd, (⟨q1, xv⟩ :: ⟨q2, yv⟩ :: l) = m := ⟨_, rfl⟩
        have hp4 : evE more (twoN 5 (varN q1) (varN q2)) = (zv, ze) := by rw [← hmore]; exact hp3.symm
        have HP4 := Lib.hid hp4
        have HMO := Lib.hid hmore
        have HCF := Lib.hid (fun V (h : Below w4.heap.size w4 V) => ColF.mono (BdsR.colF (cur.bds (.slice lva l.length lvc, l) (by simp))) h (Nat.le_refl _))
        have HBV := Lib.hid (show ∀ b ∈ l, VlW b.val ∧ b.name.size ≤ 140737488355328 from by obtain ⟨_, _, _, _, _, _, h⟩ := cur.bds (.slice lva l.length lvc, l) (by simp); exact h)
        obtain ⟨i0, hti, hz0, hz1, hz2⟩ := info_parts info_bd
        obtain ⟨y0, y1, y2, y3⟩ := HV3.out _ cur.below
        clear hp3 hp4 hmore
        go_wp2_with (at_builtin; refine wpList_append_colF _ rfl _ _ 27 rfl cellBd_len cellBd_one w4.heap.size 39 i0 _ 56 Tryd.underlying27 hti hz0 hz1 hz2 rfl (by decide) _ 2 (cellsF cellBd [⟨q1, xv⟩, ⟨q2, yv⟩]) rfl (ownF_built cellBd_len (Nat.le_refl _) (heap_alloc_new _ _) (by simp [cellsF, cellBd, ht, q1, q2]) rfl (by unfold maxLen; omega)) rfl (HCF.out _ ((Below.refl _ _).alloc (Nat.le_refl _) _)) (by unfold maxLen; omega) (by omega) (by simp) ?_; intro v5 w5 hown5 hg5 hob5; refine Hid.out ?_)
        refine Lib.hid ?_
        have hb5 : Below w4.heap.size w4 w5 := ((Below.refl _ _).alloc (Nat.le_refl _) _ |>.grown hg5 (by simp) (fun k hk => by cases hk; exact Nat.le_refl _))
        have hbd5 : BdsR w5 w5.heap.size v5 more := more_bds hown5 HMO.out hlen HVX.out HVY.out HBV.out
        obtain ⟨av5, cv5, rfl⟩ := hbd5.val
        have cur := (cur.to hb5).addB hbd5
        clear hown5 hg5 hob5 hb5 hbd5 HCF HBV hti hz0 hz1 hz2
        clear c0 c1 c2 c3 c4 c5 c6 e0 e1 e2 e3 e4 e5 e6 x0 x1 x2 x3 y0 y1 y2 y3
        go_wp2_with (first
          | (go_at_call 15; refine (name_good cur _ (by decide)).mono ?_; rintro e wz ⟨rfl, cur⟩)
          | (go_at_call 11; refine (two_good cur (a := varN q1) (b := varN q2) (by simp [q1]) (by simp [q2]) h0 h255).mono ?_; rintro e wz ⟨vk, rfl, cur⟩)
          | (go_at_call 13; refine (eval_good (l := more) cur (by simp) (by simp) HP4.out).mono ?_; rintro e wz ⟨rfl, cur⟩; refine Hid.out ?_))
        refine Lib.hid ?_
        obtain ⟨w6, p6, hp6, hw6, l6, n6, b6⟩ := box_new wz (objV zv)
        have cur := cur.to b6
        obtain ⟨z0, z1, z2, z3⟩ := HV4.out _ cur.below
        obtain ⟨u0, u1, u2, u3⟩ := v_cells n6
        have HBE := Lib.hid (HB.out.trans (cur.below.mono HB.out.size))
        clear n6 b6 cur
        have dz : (ze == ze) = true := by simp
        go_wp2_with (go_at_call 14; refine (vsame_true _ rfl).mono ?_; rintro e wz ⟨rfl, hbz⟩; refine Hid.out ?_)
        refine Lib.hid ?_
        have HE := Lib.hid (HBE.out.trans (hbz.mono HBE.out.size))
        clear hbz
        go_wp2_with fail
        go_ret
        exact ⟨rfl, HE.out⟩
      | false =>
        have dy : (ye != 0) = false := by simpa using hye
        subst hye
        have hp3 := P3.out rfl rfl
        obtain ⟨more, hmore⟩ : ∃ m : List Bd, (⟨q1, xv⟩ :: ⟨q2, yv⟩ :: l) = m := ⟨_, rfl⟩
        have hp4 : evE more (twoN 5 (varN q1) (varN q2)) = (zv, ze) := by rw [← hmore]; exact hp3.symm
        have HP4 := Lib.hid hp4
        have HMO := Lib.hid hmore
        have HCF := Lib.hid (fun V (h : Below w4.heap.size w4 V) => ColF.mono (BdsR.colF (cur.bds (.slice lva l.length lvc, l) (by simp))) h (Nat.le_refl _))
        have HBV := Lib.hid (show ∀ b ∈ l, VlW b.val ∧ b.name.size ≤ 140737488355328 from by obtain ⟨_, _, _, _, _, _, h⟩ := cur.bds (.slice lva l.length lvc, l) (by simp); exact h)
        obtain ⟨i0, hti, hz0, hz1, hz2⟩ := info_parts info_bd
        obtain ⟨y0, y1, y2, y3⟩ := HV3.out _ cur.below
        clear hp3 hp4 hmore
        go_wp2_with (at_builtin; refine wpList_append_colF _ rfl _ _ 27 rfl cellBd_len cellBd_one w4.heap.size 39 i0 _ 56 Tryd.underlying27 hti hz0 hz1 hz2 rfl (by decide) _ 2 (cellsF cellBd [⟨q1, xv⟩, ⟨q2, yv⟩]) rfl (ownF_built cellBd_len (Nat.le_refl _) (heap_alloc_new _ _) (by simp [cellsF, cellBd, ht, q1, q2]) rfl (by unfold maxLen; omega)) rfl (HCF.out _ ((Below.refl _ _).alloc (Nat.le_refl _) _)) (by unfold maxLen; omega) (by omega) (by simp) ?_; intro v5 w5 hown5 hg5 hob5; refine Hid.out ?_)
        refine Lib.hid ?_
        have hb5 : Below w4.heap.size w4 w5 := ((Below.refl _ _).alloc (Nat.le_refl _) _ |>.grown hg5 (by simp) (fun k hk => by cases hk; exact Nat.le_refl _))
        have hbd5 : BdsR w5 w5.heap.size v5 more := more_bds hown5 HMO.out hlen HVX.out HVY.out HBV.out
        obtain ⟨av5, cv5, rfl⟩ := hbd5.val
        have cur := (cur.to hb5).addB hbd5
        clear hown5 hg5 hob5 hb5 hbd5 HCF HBV hti hz0 hz1 hz2
        clear c0 c1 c2 c3 c4 c5 c6 e0 e1 e2 e3 e4 e5 e6 x0 x1 x2 x3 y0 y1 y2 y3
        go_wp2_with (first
          | (go_at_call 15; refine (name_good cur _ (by decide)).mono ?_; rintro e wz ⟨rfl, cur⟩)
          | (go_at_call 11; refine (two_good cur (a := varN q1) (b := varN q2) (by simp [q1]) (by simp [q2]) h0 h255).mono ?_; rintro e wz ⟨vk, rfl, cur⟩)
          | (go_at_call 13; refine (eval_good (l := more) cur (by simp) (by simp) HP4.out).mono ?_; rintro e wz ⟨rfl, cur⟩; refine Hid.out ?_))
        refine Lib.hid ?_
        obtain ⟨w6, p6, hp6, hw6, l6, n6, b6⟩ := box_new wz (objV zv)
        have cur := cur.to b6
        obtain ⟨z0, z1, z2, z3⟩ := HV4.out _ cur.below
        obtain ⟨u0, u1, u2, u3⟩ := v_cells n6
        have HBE := Lib.hid (HB.out.trans (cur.below.mono HB.out.size))
        clear n6 b6 cur
        have dz : (ze == ze) = true := by simp
        go_wp2_with (go_at_call 14; refine (vsame_true _ rfl).mono ?_; rintro e wz ⟨rfl, hbz⟩; refine Hid.out ?_)
        refine Lib.hid ?_
        have HE := Lib.hid (HBE.out.trans (hbz.mono HBE.out.size))
        clear hbz
        go_wp2_with fail
        go_ret
        exact ⟨rfl, HE.out⟩
    · have dk : (xv.kind == 2) = false := by simpa using hk
      clear hk
      have dy : (ye != 0) = false := by simpa using hye
      subst hye
      have hp3 := P3.out rfl rfl
      obtain ⟨more, hmore⟩ : ∃ m : List Bd, (⟨q1, xv⟩ :: ⟨q2, yv⟩ :: l) = m := ⟨_, rfl⟩
      have hp4 : evE more (twoN 5 (varN q1) (varN q2)) = (zv, ze) := by rw [← hmore]; exact hp3.symm
      have HP4 := Lib.hid hp4
      have HMO := Lib.hid hmore
      have HCF := Lib.hid (fun V (h : Below w4.heap.size w4 V) => ColF.mono (BdsR.colF (cur.bds (.slice lva l.length lvc, l) (by simp))) h (Nat.le_refl _))
      have HBV := Lib.hid (show ∀ b ∈ l, VlW b.val ∧ b.name.size ≤ 140737488355328 from by obtain ⟨_, _, _, _, _, _, h⟩ := cur.bds (.slice lva l.length lvc, l) (by simp); exact h)
      obtain ⟨i0, hti, hz0, hz1, hz2⟩ := info_parts info_bd
      obtain ⟨y0, y1, y2, y3⟩ := HV3.out _ cur.below
      clear hp3 hp4 hmore
      go_wp2_with (at_builtin; refine wpList_append_colF _ rfl _ _ 27 rfl cellBd_len cellBd_one w4.heap.size 39 i0 _ 56 Tryd.underlying27 hti hz0 hz1 hz2 rfl (by decide) _ 2 (cellsF cellBd [⟨q1, xv⟩, ⟨q2, yv⟩]) rfl (ownF_built cellBd_len (Nat.le_refl _) (heap_alloc_new _ _) rfl rfl (by unfold maxLen; omega)) rfl (HCF.out _ ((Below.refl _ _).alloc (Nat.le_refl _) _)) (by unfold maxLen; omega) (by omega) (by simp) ?_; intro v5 w5 hown5 hg5 hob5; refine Hid.out ?_)
      refine Lib.hid ?_
      have hb5 : Below w4.heap.size w4 w5 := ((Below.refl _ _).alloc (Nat.le_refl _) _ |>.grown hg5 (by simp) (fun k hk => by cases hk; exact Nat.le_refl _))
      have hbd5 : BdsR w5 w5.heap.size v5 more := more_bds hown5 HMO.out hlen HVX.out HVY.out HBV.out
      obtain ⟨av5, cv5, rfl⟩ := hbd5.val
      have cur := (cur.to hb5).addB hbd5
      clear hown5 hg5 hob5 hb5 hbd5 HCF HBV hti hz0 hz1 hz2
      clear c0 c1 c2 c3 c4 c5 c6 e0 e1 e2 e3 e4 e5 e6 x0 x1 x2 x3 y0 y1 y2 y3
      go_wp2_with (first
        | (go_at_call 15; refine (name_good cur _ (by decide)).mono ?_; rintro e wz ⟨rfl, cur⟩)
        | (go_at_call 11; refine (two_good cur (a := varN q1) (b := varN q2) (by simp [q1]) (by simp [q2]) h0 h255).mono ?_; rintro e wz ⟨vk, rfl, cur⟩)
        | (go_at_call 13; refine (eval_good (l := more) cur (by simp) (by simp) HP4.out).mono ?_; rintro e wz ⟨rfl, cur⟩; refine Hid.out ?_))
      refine Lib.hid ?_
      obtain ⟨w6, p6, hp6, hw6, l6, n6, b6⟩ := box_new wz (objV zv)
      have cur := cur.to b6
      obtain ⟨z0, z1, z2, z3⟩ := HV4.out _ cur.below
      obtain ⟨u0, u1, u2, u3⟩ := v_cells n6
      have HBE := Lib.hid (HB.out.trans (cur.below.mono HB.out.size))
      clear n6 b6 cur
      have dz : (ze == ze) = true := by simp
      go_wp2_with (go_at_call 14; refine (vsame_true _ rfl).mono ?_; rintro e wz ⟨rfl, hbz⟩; refine Hid.out ?_)
      refine Lib.hid ?_
      have HE := Lib.hid (HBE.out.trans (hbz.mono HBE.out.size))
      clear hbz
      go_wp2_with fail
      go_ret
      exact ⟨rfl, HE.out⟩
  · by_cases h6 : op = 6
    · subst h6
      have cur := G4.out
      by_cases hk : xv.kind = 2
      · have dk : (xv.kind == 2) = true := by simpa using hk
        clear hk
        cases ht : xv.tr with
        | true =>
          have dy : (ye != 0) = false := by simpa using hye
          subst hye
          have hp3 := P3.out rfl rfl
          obtain ⟨more, hmore⟩ : ∃ m : List Bd, (⟨q1, xv⟩ :: ⟨q2, yv⟩ :: l) = m := ⟨_, rfl⟩
          have hp4 : evE more (twoN 6 (varN q1) (varN q2)) = (zv, ze) := by rw [← hmore]; exact hp3.symm
          have HP4 := Lib.hid hp4
          have HMO := Lib.hid hmore
          have HCF := Lib.hid (fun V (h : Below w4.heap.size w4 V) => ColF.mono (BdsR.colF (cur.bds (.slice lva l.length lvc, l) (by simp))) h (Nat.le_refl _))
          have HBV := Lib.hid (show ∀ b ∈ l, VlW b.val ∧ b.name.size ≤ 140737488355328 from by obtain ⟨_, _, _, _, _, _, h⟩ := cur.bds (.slice lva l.length lvc, l) (by simp); exact h)
          obtain ⟨i0, hti, hz0, hz1, hz2⟩ := info_parts info_bd
          obtain ⟨y0, y1, y2, y3⟩ := HV3.out _ cur.below
          clear hp3 hp4 hmore
          go_wp2_with (at_builtin; refine wpList_append_colF _ rfl _ _ 27 rfl cellBd_len cellBd_one w4.heap.size 39 i0 _ 56 Tryd.underlying27 hti hz0 hz1 hz2 rfl (by decide) _ 2 (cellsF cellBd [⟨q1, xv⟩, ⟨q2, yv⟩]) rfl (ownF_built cellBd_len (Nat.le_refl _) (heap_alloc_new _ _) (by simp [cellsF, cellBd, ht, q1, q2]) rfl (by unfold maxLen; omega)) rfl (HCF.out _ ((Below.refl _ _).alloc (Nat.le_refl _) _)) (by unfold maxLen; omega) (by omega) (by simp) ?_; intro v5 w5 hown5 hg5 hob5; refine Hid.out ?_)
          refine Lib.hid ?_
          have hb5 : Below w4.heap.size w4 w5 := ((Below.refl _ _).alloc (Nat.le_refl _) _ |>.grown hg5 (by simp) (fun k hk => by cases hk; exact Nat.le_refl _))
          have hbd5 : BdsR w5 w5.heap.size v5 more := more_bds hown5 HMO.out hlen HVX.out HVY.out HBV.out
          obtain ⟨av5, cv5, rfl⟩ := hbd5.val
          have cur := (cur.to hb5).addB hbd5
          clear hown5 hg5 hob5 hb5 hbd5 HCF HBV hti hz0 hz1 hz2
          clear c0 c1 c2 c3 c4 c5 c6 e0 e1 e2 e3 e4 e5 e6 x0 x1 x2 x3 y0 y1 y2 y3
          go_wp2_with (first
            | (go_at_call 15; refine (name_good cur _ (by decide)).mono ?_; rintro e wz ⟨rfl, cur⟩)
            | (go_at_call 11; refine (two_good cur (a := varN q1) (b := varN q2) (by simp [q1]) (by simp [q2]) h0 h255).mono ?_; rintro e wz ⟨vk, rfl, cur⟩)
            | (go_at_call 13; refine (eval_good (l := more) cur (by simp) (by simp) HP4.out).mono ?_; rintro e wz ⟨rfl, cur⟩; refine Hid.out ?_))
          refine Lib.hid ?_
          obtain ⟨w6, p6, hp6, hw6, l6, n6, b6⟩ := box_new wz (objV zv)
          have cur := cur.to b6
          obtain ⟨z0, z1, z2, z3⟩ := HV4.out _ cur.below
          obtain ⟨u0, u1, u2, u3⟩ := v_cells n6
          have HBE := Lib.hid (HB.out.trans (cur.below.mono HB.out.size))
          clear n6 b6 cur
          have dz : (ze == ze) = true := by simp
          go_wp2_with (go_at_call 14; refine (vsame_true _ rfl).mono ?_; rintro e wz ⟨rfl, hbz⟩; refine Hid.out ?_)
          refine Lib.hid ?_
          have HE := Lib.hid (HBE.out.trans (hbz.mono HBE.out.size))
          clear hbz
          go_wp2_with fail
          go_ret
          exact ⟨rfl, HE.out⟩
        | false =>
          have dy : (ye != 0) = false := by simpa using hye
          subst hye
          have hp3 := P3.out rfl rfl
          obtain ⟨more, hmore⟩ : ∃ m : List Bd, (⟨q1, xv⟩ :: ⟨q2, yv⟩ :: l) = m := ⟨_, rfl⟩
          have hp4 : evE more (twoN 6 (varN q1) (varN q2)) = (zv, ze) := by rw [← hmore]; exact hp3.symm
          have HP4 := Lib.hid hp4
          have HMO := Lib.hid hmore
          have HCF := Lib.hid (fun V (h : Below w4.heap.size w4 V) => ColF.mono (BdsR.colF (cur.bds (.slice lva l.length lvc, l) (by simp))) h (Nat.le_refl _))
          have HBV := Lib.hid (show ∀ b ∈ l, VlW b.val ∧ b.name.size ≤ 140737488355328 from by obtain ⟨_, _, _, _, _, _, h⟩ := cur.bds (.slice lva l.length lvc, l) (by simp); exact h)
          obtain ⟨i0, hti, hz0, hz1, hz2⟩ := info_parts info_bd
          obtain ⟨y0, y1, y2, y3⟩ := HV3.out _ cur.below
          clear hp3 hp4 hmore
          go_wp2_with (at_builtin; refine wpList_append_colF _ rfl _ _ 27 rfl cellBd_len cellBd_one w4.heap.size 39 i0 _ 56 Tryd.underlying27 hti hz0 hz1 hz2 rfl (by decide) _ 2 (cellsF cellBd [⟨q1, xv⟩, ⟨q2, yv⟩]) rfl (ownF_built cellBd_len (Nat.le_refl _) (heap_alloc_new _ _) (by simp [cellsF, cellBd, ht, q1, q2]) rfl (by unfold maxLen; omega)) rfl (HCF.out _ ((Below.refl _ _).alloc (Nat.le_refl _) _)) (by unfold maxLen; omega) (by omega) (by simp) ?_; intro v5 w5 hown5 hg5 hob5; refine Hid.out ?_)
          refine Lib.hid ?_
          have hb5 : Below w4.heap.size w4 w5 := ((Below.refl _ _).alloc (Nat.le_refl _) _ |>.grown hg5 (by simp) (fun k hk => by cases hk; exact Nat.le_refl _))
          have hbd5 : BdsR w5 w5.heap.size v5 more := more_bds hown5 HMO.out hlen HVX.out HVY.out HBV.out
          obtain ⟨av5, cv5, rfl⟩ := hbd5.val
          have cur := (cur.to hb5).addB hbd5
          clear hown5 hg5 hob5 hb5 hbd5 HCF HBV hti hz0 hz1 hz2
          clear c0 c1 c2 c3 c4 c5 c6 e0 e1 e2 e3 e4 e5 e6 x0 x1 x2 x3 y0 y1 y2 y3
          go_wp2_with (first
            | (go_at_call 15; refine (name_good cur _ (by decide)).mono ?_; rintro e wz ⟨rfl, cur⟩)
            | (go_at_call 11; refine (two_good cur (a := varN q1) (b := varN q2) (by simp [q1]) (by simp [q2]) h0 h255).mono ?_; rintro e wz ⟨vk, rfl, cur⟩)
            | (go_at_call 13; refine (eval_good (l := more) cur (by simp) (by simp) HP4.out).mono ?_; rintro e wz ⟨rfl, cur⟩; refine Hid.out ?_))
          refine Lib.hid ?_
          obtain ⟨w6, p6, hp6, hw6, l6, n6, b6⟩ := box_new wz (objV zv)
          have cur := cur.to b6
          obtain ⟨z0, z1, z2, z3⟩ := HV4.out _ cur.below
          obtain ⟨u0, u1, u2, u3⟩ := v_cells n6
          have HBE := Lib.hid (HB.out.trans (cur.below.mono HB.out.size))
          clear n6 b6 cur
          have dz : (ze == ze) = true := by simp
          go_wp2_with (go_at_call 14; refine (vsame_true _ rfl).mono ?_; rintro e wz ⟨rfl, hbz⟩; refine Hid.out ?_)
          refine Lib.hid ?_
          have HE := Lib.hid (HBE.out.trans (hbz.mono HBE.out.size))
          clear hbz
          go_wp2_with fail
          go_ret
          exact ⟨rfl, HE.out⟩
      · have dk : (xv.kind == 2) = false := by simpa using hk
        clear hk
        have dy : (ye != 0) = false := by simpa using hye
        subst hye
        have hp3 := P3.out rfl rfl
        obtain ⟨more, hmore⟩ : ∃ m : List Bd, (⟨q1, xv⟩ :: ⟨q2, yv⟩ :: l) = m := ⟨_, rfl⟩
        have hp4 : evE more (twoN 6 (varN q1) (varN q2)) = (zv, ze) := by rw [← hmore]; exact hp3.symm
        have HP4 := Lib.hid hp4
        have HMO := Lib.hid hmore
        have HCF := Lib.hid (fun V (h : Below w4.heap.size w4 V) => ColF.mono (BdsR.colF (cur.bds (.slice lva l.length lvc, l) (by simp))) h (Nat.le_refl _))
        have HBV := Lib.hid (show ∀ b ∈ l, VlW b.val ∧ b.name.size ≤ 140737488355328 from by obtain ⟨_, _, _, _, _, _, h⟩ := cur.bds (.slice lva l.length lvc, l) (by simp); exact h)
        obtain ⟨i0, hti, hz0, hz1, hz2⟩ := info_parts info_bd
        obtain ⟨y0, y1, y2, y3⟩ := HV3.out _ cur.below
        clear hp3 hp4 hmore
        go_wp2_with (at_builtin; refine wpList_append_colF _ rfl _ _ 27 rfl cellBd_len cellBd_one w4.heap.size 39 i0 _ 56 Tryd.underlying27 hti hz0 hz1 hz2 rfl (by decide) _ 2 (cellsF cellBd [⟨q1, xv⟩, ⟨q2, yv⟩]) rfl (ownF_built cellBd_len (Nat.le_refl _) (heap_alloc_new _ _) rfl rfl (by unfold maxLen; omega)) rfl (HCF.out _ ((Below.refl _ _).alloc (Nat.le_refl _) _)) (by unfold maxLen; omega) (by omega) (by simp) ?_; intro v5 w5 hown5 hg5 hob5; refine Hid.out ?_)
        refine Lib.hid ?_
        have hb5 : Below w4.heap.size w4 w5 := ((Below.refl _ _).alloc (Nat.le_refl _) _ |>.grown hg5 (by simp) (fun k hk => by cases hk; exact Nat.le_refl _))
        have hbd5 : BdsR w5 w5.heap.size v5 more := more_bds hown5 HMO.out hlen HVX.out HVY.out HBV.out
        obtain ⟨av5, cv5, rfl⟩ := hbd5.val
        have cur := (cur.to hb5).addB hbd5
        clear hown5 hg5 hob5 hb5 hbd5 HCF HBV hti hz0 hz1 hz2
        clear c0 c1 c2 c3 c4 c5 c6 e0 e1 e2 e3 e4 e5 e6 x0 x1 x2 x3 y0 y1 y2 y3
        go_wp2_with (first
          | (go_at_call 15; refine (name_good cur _ (by decide)).mono ?_; rintro e wz ⟨rfl, cur⟩)
          | (go_at_call 11; refine (two_good cur (a := varN q1) (b := varN q2) (by simp [q1]) (by simp [q2]) h0 h255).mono ?_; rintro e wz ⟨vk, rfl, cur⟩)
          | (go_at_call 13; refine (eval_good (l := more) cur (by simp) (by simp) HP4.out).mono ?_; rintro e wz ⟨rfl, cur⟩; refine Hid.out ?_))
        refine Lib.hid ?_
        obtain ⟨w6, p6, hp6, hw6, l6, n6, b6⟩ := box_new wz (objV zv)
        have cur := cur.to b6
        obtain ⟨z0, z1, z2, z3⟩ := HV4.out _ cur.below
        obtain ⟨u0, u1, u2, u3⟩ := v_cells n6
        have HBE := Lib.hid (HB.out.trans (cur.below.mono HB.out.size))
        clear n6 b6 cur
        have dz : (ze == ze) = true := by simp
        go_wp2_with (go_at_call 14; refine (vsame_true _ rfl).mono ?_; rintro e wz ⟨rfl, hbz⟩; refine Hid.out ?_)
        refine Lib.hid ?_
        have HE := Lib.hid (HBE.out.trans (hbz.mono HBE.out.size))
        clear hbz
        go_wp2_with fail
        go_ret
        exact ⟨rfl, HE.out⟩
    · skip
      have n5 : (op == 5) = false := by simpa using h5
      have n6 : (op == 6) = false := by simpa using h6
      have m5 : (op != 5) = true := by simpa using h5
      have m6 : (op != 6) = true := by simpa using h6
      clear h5 h6
      have dy : (ye != 0) = false := by simpa using hye
      subst hye
      have hp3 := P3.out rfl rfl
      obtain ⟨more, hmore⟩ : ∃ m : List Bd, (⟨q1, xv⟩ :: ⟨q2, yv⟩ :: l) = m := ⟨_, rfl⟩
      have hp4 : evE more (twoN op (varN q1) (varN q2)) = (zv, ze) := by rw [← hmore]; exact hp3.symm
      have HP4 := Lib.hid hp4
      have HMO := Lib.hid hmore
      have HCF := Lib.hid (fun V (h : Below w4.heap.size w4 V) => ColF.mono (BdsR.colF (cur.bds (.slice lva l.length lvc, l) (by simp))) h (Nat.le_refl _))
      have HBV := Lib.hid (show ∀ b ∈ l, VlW b.val ∧ b.name.size ≤ 140737488355328 from by obtain ⟨_, _, _, _, _, _, h⟩ := cur.bds (.slice lva l.length lvc, l) (by simp); exact h)
      obtain ⟨i0, hti, hz0, hz1, hz2⟩ := info_parts info_bd
      obtain ⟨y0, y1, y2, y3⟩ := HV3.out _ cur.below
      clear hp3 hp4 hmore
      go_wp2_with (at_builtin; refine wpList_append_colF _ rfl _ _ 27 rfl cellBd_len cellBd_one w4.heap.size 39 i0 _ 56 Tryd.underlying27 hti hz0 hz1 hz2 rfl (by decide) _ 2 (cellsF cellBd [⟨q1, xv⟩, ⟨q2, yv⟩]) rfl (ownF_built cellBd_len (Nat.le_refl _) (heap_alloc_new _ _) rfl rfl (by unfold maxLen; omega)) rfl (HCF.out _ ((Below.refl _ _).alloc (Nat.le_refl _) _)) (by unfold maxLen; omega) (by omega) (by simp) ?_; intro v5 w5 hown5 hg5 hob5; refine Hid.out ?_)
      refine Lib.hid ?_
      have hb5 : Below w4.heap.size w4 w5 := ((Below.refl _ _).alloc (Nat.le_refl _) _ |>.grown hg5 (by simp) (fun k hk => by cases hk; exact Nat.le_refl _))
      have hbd5 : BdsR w5 w5.heap.size v5 more := more_bds hown5 HMO.out hlen HVX.out HVY.out HBV.out
      obtain ⟨av5, cv5, rfl⟩ := hbd5.val
      have cur := (cur.to hb5).addB hbd5
      clear hown5 hg5 hob5 hb5 hbd5 HCF HBV hti hz0 hz1 hz2
      clear c0 c1 c2 c3 c4 c5 c6 e0 e1 e2 e3 e4 e5 e6 x0 x1 x2 x3 y0 y1 y2 y3
      go_wp2_with (first
        | (go_at_call 15; refine (name_good cur _ (by decide)).mono ?_; rintro e wz ⟨rfl, cur⟩)
        | (go_at_call 11; refine (two_good cur (a := varN q1) (b := varN q2) (by simp [q1]) (by simp [q2]) h0 h255).mono ?_; rintro e wz ⟨vk, rfl, cur⟩)
        | (go_at_call 13; refine (eval_good (l := more) cur (by simp) (by simp) HP4.out).mono ?_; rintro e wz ⟨rfl, cur⟩; refine Hid.out ?_))
      refine Lib.hid ?_
      obtain ⟨w6, p6, hp6, hw6, l6, n6, b6⟩ := box_new wz (objV zv)
      have cur := cur.to b6
      obtain ⟨z0, z1, z2, z3⟩ := HV4.out _ cur.below
      obtain ⟨u0, u1, u2, u3⟩ := v_cells n6
      have HBE := Lib.hid (HB.out.trans (cur.below.mono HB.out.size))
      clear n6 b6 cur
      have dz : (ze == ze) = true := by simp
      go_wp2_with (go_at_call 14; refine (vsame_true _ rfl).mono ?_; rintro e wz ⟨rfl, hbz⟩; refine Hid.out ?_)
      refine Lib.hid ?_
      have HE := Lib.hid (HBE.out.trans (hbz.mono HBE.out.size))
      clear hbz
      go_wp2_with fail
      go_ret
      exact ⟨rfl, HE.out⟩
end
theorem evalParts_walk (W : World) (hT : Tabs8 W) (op : Int) (g : (Lit.int .u8 op).wf = true) (a : Nd) (va : Value) (ha : NdR W W.heap.size va a) (b : Nd) (vb : Value) (hb : NdR W W.heap.size vb b) (vv : Value) (l : List Bd) (hl : BdsR W W.heap.size vv l) (hlen : l.length ≤ 2513169434900) :
    Calls Tryd.prog 4 #[.int .u8 op, valN a va, valN b vb, vv] W fun e w' => e = .returned (.bool true) ∧ Below W.heap.size W w' := by
  obtain ⟨h0, h1⟩ := wf_u8 g
  by_cases h : deepB 60 a = true ∨ deepB 60 b = true ∨ op < 5 ∨ 17 < op ∨ checkN a = false ∨ checkN b = false
  · exact evalParts_out W hT op a b va vb vv l h0 h1 ha hb hl h
  · simp only [not_or, Bool.not_eq_true, Bool.not_eq_false] at h
    obtain ⟨d1, d2, g5, g17, d3, d4⟩ := h
    by_cases hz : (evalN l a).2 = 0 ∧ (evalN l b).2 = 0
    · exact evalParts_ok W hT op a b va vb vv l h0 h1 ha hb hl d1 d2 d3 d4 (by omega) (by omega) hlen hz
    · exact evalParts_bad W hT op a b va vb vv l h0 h1 ha hb hl d1 d2 d3 d4 (by omega) (by omega) hlen hz
end Go.Proofs.YtjfiijbmkcfooaaDoor
