/- EvalParts: the walk where all is well. -/
import Derived.Test.YtjfiijbmkcfooaaDoorLEvalParts
set_option maxRecDepth 100000
namespace Go.Proofs.YtjfiijbmkcfooaaDoor
open Go.RowKit
section
variable (W : World) (hT : Tabs8 W) (op : Int) (a b : Nd) (va vb vv : Value) (l : List Bd) (h0 : 0 ≤ op) (h255 : op ≤ 255) (ha : NdR W W.heap.size va a) (hb : NdR W W.heap.size vb b) (hl : BdsR W W.heap.size vv l)
include hT ha hb hl h0 h255
set_option maxHeartbeats 8000000 in
theorem evalParts_bad (d1 : deepB 60 a = false) (d2 : deepB 60 b = false) (d3 : checkN a = true) (d4 : checkN b = true) (g5 : 5 ≤ op) (g17 : op ≤ 17) (_hlen : l.length ≤ 2513169434900) (hbad : ¬ ((evalN l a).2 = 0 ∧ (evalN l b).2 = 0)) :
    Calls Tryd.prog 4 #[.int .u8 op, valN a va, valN b vb, vv] W fun e w' => e = .returned (.bool true) ∧ Below W.heap.size W w' := by
  obtain ⟨lva, lvc, rfl⟩ := hl.val
  obtain ⟨w0, w1, p0, p1, hp0, hw0, hp1, hw1, l0, l1, hb1, HP⟩ := boxes_two W a b va vb
  have cur : Good w1 [(va, a), (vb, b)] [(.slice lva l.length lvc, l)] w1 := ⟨Below.refl _ _, by simp; exact ⟨ha.to hb1, hb.to hb1⟩, by simp; exact hl.to hb1, Utf8Tabs_below hT hb1⟩
  have G0 := Lib.hid cur
  have HB := Lib.hid hb1
  obtain ⟨c0, c1, c2, c3, c4, c5, c6, e0, e1, e2, e3, e4, e5, e6⟩ := HP.out w1 (Below.refl _ _)
  have P1 := Lib.hid (fun h => parts_1 (l := l) g5 g17 d3 d4 h)
  have P3 := Lib.hid (fun h h' => parts_3 (l := l) g5 g17 d3 d4 h h')
  have EX := Lib.hid (ev_is (l := l) d3)
  have EY := Lib.hid (ev_is (l := l) d4)
  have EZ := Lib.hid (ev_two (l := l) g5 g17 d3 d4)
  have hvb : ∀ b ∈ l, VlW b.val := fun b hb => by obtain ⟨_, _, _, _, _, _, h⟩ := hl; exact (h b hb).1
  have hvx := vlw_N hvb a ha.deep
  have hvy := vlw_N hvb b hb.deep
  obtain ⟨x, hx⟩ : ∃ x, evalN l a = x := ⟨_, rfl⟩
  obtain ⟨y, hy⟩ : ∃ y, evalN l b = y := ⟨_, rfl⟩
  obtain ⟨z, hz⟩ : ∃ z, evE l (twoN op a b) = z := ⟨_, rfl⟩
  rw [hx] at EX EZ P1 P3 hvx hbad
  rw [hy] at EY EZ P3 hvy hbad
  rw [hz] at EZ P1 P3
  obtain ⟨xv, xe⟩ := x
  obtain ⟨yv, ye⟩ := y
  obtain ⟨zv, ze⟩ := z
  have HZ := Lib.hid hz
  have HVX := Lib.hid hvx
  have HVY := Lib.hid hvy
  have D1 := Lib.hid d1
  have D2 := Lib.hid d2
  have D3 := Lib.hid d3
  have D4 := Lib.hid d4
  have G5 := g5
  have G17 := g17
  clear d1 d2 d3 d4 ha hb hl hT hb1 hx hy hz hvx hvy hvb
  go_enter Tryd.func4, Tryd.ntmps4
  have n1 : decide (op < 5) = false := decide_eq_false (by omega)
  have n2 : decide (17 < op) = false := decide_eq_false (by omega)
  go_wp2_with (first
      | (go_at_call 7; refine (works_good cur).mono ?_; rintro e wz ⟨rfl, cur⟩; clear c0 c1 c2 c3 c4 c5 c6 e0 e1 e2 e3 e4 e5 e6; obtain ⟨c0, c1, c2, c3, c4, c5, c6, e0, e1, e2, e3, e4, e5, e6⟩ := HP.out _ cur.below)
      | (go_at_call 8; refine (deep_good cur (by simp) (by first | exact D1.out | exact D2.out)).mono ?_; rintro e wz ⟨rfl, cur⟩; clear c0 c1 c2 c3 c4 c5 c6 e0 e1 e2 e3 e4 e5 e6; obtain ⟨c0, c1, c2, c3, c4, c5, c6, e0, e1, e2, e3, e4, e5, e6⟩ := HP.out _ cur.below)
      | (go_at_call 9; refine (check_good cur (by simp) (by first | exact D3.out | exact D4.out)).mono ?_; rintro e wz ⟨rfl, cur⟩; clear c0 c1 c2 c3 c4 c5 c6 e0 e1 e2 e3 e4 e5 e6; obtain ⟨c0, c1, c2, c3, c4, c5, c6, e0, e1, e2, e3, e4, e5, e6⟩ := HP.out _ cur.below)
      | (go_at_call 13; refine (eval_good (l := l) cur (by simp) (by simp) EX.out).mono ?_; rintro e wz ⟨rfl, cur⟩; refine Hid.out ?_))
  refine Lib.hid ?_
  obtain ⟨w2, p2, hp2, hw2, l2, n2, b2⟩ := box_new wz (objV xv)
  have cur := cur.to b2
  have HV2 := Lib.hid (fun V (h : Below w2.heap.size w2 V) => v_cells ((h.block p2 l2).trans n2))
  have HC2 := Lib.hid cur.below
  have G2 := Lib.hid (show Good w2 [(va, a), (vb, b)] [(.slice lva l.length lvc, l)] w2 from (G0.out.to HC2.out).re)
  have HP := Lib.hid (fun V (h : Below w2.heap.size w2 V) => HP.out V (HC2.out.trans (h.mono HC2.out.size)))
  have HB := Lib.hid (HB.out.trans (HC2.out.mono HB.out.size))
  clear n2 b2 c0 c1 c2 c3 c4 c5 c6 e0 e1 e2 e3 e4 e5 e6 cur
  have cur := G2.out
  obtain ⟨c0, c1, c2, c3, c4, c5, c6, e0, e1, e2, e3, e4, e5, e6⟩ := HP.out _ cur.below
  go_wp2_with (go_at_call 13; refine (eval_good (l := l) cur (by simp) (by simp) EY.out).mono ?_; rintro e wz ⟨rfl, cur⟩; refine Hid.out ?_)
  refine Lib.hid ?_
  obtain ⟨w3, p3, hp3, hw3, l3, n3, b3⟩ := box_new wz (objV yv)
  have cur := cur.to b3
  have HV3 := Lib.hid (fun V (h : Below w3.heap.size w3 V) => v_cells ((h.block p3 l3).trans n3))
  have HC3 := Lib.hid cur.below
  have G3 := Lib.hid (show Good w3 [(va, a), (vb, b)] [(.slice lva l.length lvc, l)] w3 from (G2.out.to HC3.out).re)
  have HP := Lib.hid (fun V (h : Below w3.heap.size w3 V) => HP.out V (HC3.out.trans (h.mono HC3.out.size)))
  have HB := Lib.hid (HB.out.trans (HC3.out.mono HB.out.size))
  have HV2 := Lib.hid (fun V (h : Below w3.heap.size w3 V) => HV2.out V (HC3.out.trans (h.mono HC3.out.size)))
  clear n3 b3 c0 c1 c2 c3 c4 c5 c6 e0 e1 e2 e3 e4 e5 e6 cur
  have cur := G3.out
  obtain ⟨c0, c1, c2, c3, c4, c5, c6, e0, e1, e2, e3, e4, e5, e6⟩ := HP.out _ cur.below
  go_wp2_with (first
      | (go_at_call 11; refine (two_good cur (by simp) (by simp) h0 h255).mono ?_; rintro e wz ⟨vk, rfl, cur⟩)
      | (go_at_call 13; refine (eval_good (l := l) cur (by simp) (by simp) HZ.out).mono ?_; rintro e wz ⟨rfl, cur⟩; refine Hid.out ?_))
  refine Lib.hid ?_
  obtain ⟨w4, p4, hp4, hw4, l4, n4, b4⟩ := box_new wz (objV zv)
  have cur := cur.to b4
  have HV4 := Lib.hid (fun V (h : Below w4.heap.size w4 V) => v_cells ((h.block p4 l4).trans n4))
  have HC4 := Lib.hid cur.below
  have G4 := Lib.hid (show Good w4 [(va, a), (vb, b)] [(.slice lva l.length lvc, l)] w4 from (G3.out.to HC4.out).re)
  have HP := Lib.hid (fun V (h : Below w4.heap.size w4 V) => HP.out V (HC4.out.trans (h.mono HC4.out.size)))
  have HB := Lib.hid (HB.out.trans (HC4.out.mono HB.out.size))
  have HV2 := Lib.hid (fun V (h : Below w4.heap.size w4 V) => HV2.out V (HC4.out.trans (h.mono HC4.out.size)))
  have HV3 := Lib.hid (fun V (h : Below w4.heap.size w4 V) => HV3.out V (HC4.out.trans (h.mono HC4.out.size)))
  clear n4 b4 c0 c1 c2 c3 c4 c5 c6 e0 e1 e2 e3 e4 e5 e6 cur
  have cur := G4.out
  obtain ⟨c0, c1, c2, c3, c4, c5, c6, e0, e1, e2, e3, e4, e5, e6⟩ := HP.out _ cur.below

  by_cases hxe : xe = 0
  · skip
    subst hxe
    have dx : ((0 : Int) != 0) = false := rfl
    obtain ⟨x0, x1, x2, x3⟩ := HV2.out _ cur.below
    by_cases hye : ye = 0
    · exfalso; exact hbad ⟨rfl, hye⟩
    · skip
      have dy : (ye != 0) = true := by simpa using hye
      by_cases h5 : op = 5
      · subst h5
        by_cases hk : xv.kind = 2
        · have dk : (xv.kind == 2) = true := by simpa using hk
          cases ht : xv.tr with
          | false =>
            have hzz := EZ.out.trans (comb_lazy (op := 5) (x := (xv, 0)) (y := (yv, ye)) rfl (by simp [lazyB, hk, ht]))
            have dz : (ze == 0) = true := by
              have e := congrArg Prod.snd hzz
              simpa using e
            have hzx : zv = xv := congrArg Prod.fst hzz
            have hxs : valV xv = .agg #[.int .u8 xv.kind, .int .i64 xv.num, .bool false, .string xv.text] := by simp [ht]
            have KS := Lib.hid (fun W => hxs ▸ vsame_true W hzx)
            clear hk hye hzz hzx hxs
            have cur := G4.out
            obtain ⟨z0, z1, z2, z3⟩ := HV4.out _ cur.below
            go_wp2_with (go_at_call 14; refine (KS.out _).mono ?_; rintro e wz ⟨rfl, hbz⟩; refine Hid.out ?_)
            refine Lib.hid ?_
            have HE := Lib.hid (HB.out.trans (hbz.mono HB.out.size))
            clear hbz
            go_wp2_with fail
            go_ret
            exact ⟨rfl, (by first | exact HE.out | (rw [← hp0]; exact HE.out))⟩
          | true =>
            have dz : (ze == ye) = true := by
              have e := congrArg Prod.snd (EZ.out.trans (comb_strict (op := 5) (x := (xv, 0)) (y := (yv, ye)) (by omega) rfl hye (by simp [lazyB, hk, ht]) (by simp [strictB, hk])))
              simpa using e
            clear hye hk
            go_wp2_with fail
            go_ret
            exact ⟨rfl, (by first | exact HB.out | (rw [← hp0]; exact HB.out))⟩
        · have dk : (xv.kind == 2) = false := by simpa using hk
          have dz : (ze == 90) = true := by
            have e := congrArg Prod.snd (EZ.out.trans (comb_loose (op := 5) (x := (xv, 0)) (y := (yv, ye)) (by omega) rfl (by simp [strictB, hk])))
            simpa using e
          clear hye hk
          by_cases hzy : ze = ye
          · have dzy : (ze == ye) = true := by simpa using hzy
            clear hzy
            go_wp2_with fail
            go_ret
            exact ⟨rfl, (by first | exact HB.out | (rw [← hp0]; exact HB.out))⟩
          · have dzy : (ze == ye) = false := by simpa using hzy
            clear hzy
            go_wp2_with fail
            go_ret
            exact ⟨rfl, (by first | exact HB.out | (rw [← hp0]; exact HB.out))⟩
      · by_cases h6 : op = 6
        · subst h6
          by_cases hk : xv.kind = 2
          · have dk : (xv.kind == 2) = true := by simpa using hk
            cases ht : xv.tr with
            | true =>
              have hzz := EZ.out.trans (comb_lazy (op := 6) (x := (xv, 0)) (y := (yv, ye)) rfl (by simp [lazyB, hk, ht]))
              have dz : (ze == 0) = true := by
                have e := congrArg Prod.snd hzz
                simpa using e
              have hzx : zv = xv := congrArg Prod.fst hzz
              have hxs : valV xv = .agg #[.int .u8 xv.kind, .int .i64 xv.num, .bool true, .string xv.text] := by simp [ht]
              have KS := Lib.hid (fun W => hxs ▸ vsame_true W hzx)
              clear hk hye hzz hzx hxs
              have cur := G4.out
              obtain ⟨z0, z1, z2, z3⟩ := HV4.out _ cur.below
              go_wp2_with (go_at_call 14; refine (KS.out _).mono ?_; rintro e wz ⟨rfl, hbz⟩; refine Hid.out ?_)
              refine Lib.hid ?_
              have HE := Lib.hid (HB.out.trans (hbz.mono HB.out.size))
              clear hbz
              go_wp2_with fail
              go_ret
              exact ⟨rfl, (by first | exact HE.out | (rw [← hp0]; exact HE.out))⟩
            | false =>
              have dz : (ze == ye) = true := by
                have e := congrArg Prod.snd (EZ.out.trans (comb_strict (op := 6) (x := (xv, 0)) (y := (yv, ye)) (by omega) rfl hye (by simp [lazyB, hk, ht]) (by simp [strictB, hk])))
                simpa using e
              clear hye hk
              go_wp2_with fail
              go_ret
              exact ⟨rfl, (by first | exact HB.out | (rw [← hp0]; exact HB.out))⟩
          · have dk : (xv.kind == 2) = false := by simpa using hk
            have dz : (ze == 90) = true := by
              have e := congrArg Prod.snd (EZ.out.trans (comb_loose (op := 6) (x := (xv, 0)) (y := (yv, ye)) (by omega) rfl (by simp [strictB, hk])))
              simpa using e
            clear hye hk
            by_cases hzy : ze = ye
            · have dzy : (ze == ye) = true := by simpa using hzy
              clear hzy
              go_wp2_with fail
              go_ret
              exact ⟨rfl, (by first | exact HB.out | (rw [← hp0]; exact HB.out))⟩
            · have dzy : (ze == ye) = false := by simpa using hzy
              clear hzy
              go_wp2_with fail
              go_ret
              exact ⟨rfl, (by first | exact HB.out | (rw [← hp0]; exact HB.out))⟩
        · skip
          have n5 : (op == 5) = false := by simpa using h5
          have n6 : (op == 6) = false := by simpa using h6
          have m5 : (op != 5) = true := by simpa using h5
          have m6 : (op != 6) = true := by simpa using h6
          have dz : (ze == ye) = true := by
            have e := congrArg Prod.snd (EZ.out.trans (comb_strict (op := op) (x := (xv, 0)) (y := (yv, ye)) (by omega) rfl hye (by simp [lazyB, h5, h6]) (by simp [strictB, h5, h6])))
            simpa using e
          clear hye h5 h6
          go_wp2_with fail
          go_ret
          exact ⟨rfl, (by first | exact HB.out | (rw [← hp0]; exact HB.out))⟩
  · have dx : (xe != 0) = true := by simpa using hxe
    have dz : (ze == xe) = true := by simpa using P1.out hxe
    clear hxe hbad
    go_wp2_with fail
    go_ret
    exact ⟨rfl, HB.out⟩
end
end Go.Proofs.YtjfiijbmkcfooaaDoor
