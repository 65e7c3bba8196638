/- The walk of the law ReachFinds. -/
import Derived.Test.YtapnkkoplnhleaaDoorRefUse
import Derived.Test.YtapnkkoplnhleaaDoorOpenNet
import Derived.Test.YtapnkkoplnhleaaDoorRefTwin
import Derived.Test.YtapnkkoplnhleaaDoorRefSame
import Derived.Test.YtapnkkoplnhleaaDoorRefWay
set_option maxRecDepth 100000
namespace Go.Proofs.YtapnkkoplnhleaaDoor
open Go.RowKit

theorem foundE_max (l : List (List Int)) (m : List Int) : foundE l m = (if 0 ≤ findM l m then findM l m else 0) := rfl
theorem max_found (l : List (List Int)) (m : List Int) : max (findM l m) 0 = foundE l m := by
  unfold foundE
  split <;> omega
/-- Pairs stand where another block is turned. -/
theorem RowE.aside {w : World} {base g i : Nat} {v x : Value} {l : List (Int × Int)} (h : RowE w base v l) (hne : ∀ q, v.ownBlock = some q → q ≠ g) : RowE (w.setCell ⟨g, i, none⟩ x) base v l :=
  OwnF.grown h (grownBy_setCell w g i x) (fun q hq e => hne q hq (Option.some.inj e))

set_option maxHeartbeats 8000000 in
theorem reachFinds_walk (W : World) (htab : Pow10 W.heap.size W) (vp vt : Value) (n : Nt) (hn : NtR W W.heap.size vp vt n) (_gn : NtI n) (most : Int) (_ga : (Lit.int .i64 most).wf = true) (vm : Value) (m : List Int) (hm : Ints W W.heap.size vm m) (_gm : I64s m) (hm20 : m.length ≤ 1048576) :
    Calls Tryd.prog 3 #[.agg #[vp, vt, .int .i64 n.init, .int .i64 n.final], .int .i64 most, vm] W fun e w' => e = .returned (.bool true) ∧ Below W.heap.size W w' := by
  have hmw : Hid (∀ x ∈ m, In64 x) := Lib.hid fun x hx => in64_of_wf (_gm x hx)
  have hbA := (Below.refl W.heap.size W).alloc (Nat.le_refl _) (.cells #[vp, vt, .int .i64 n.init, .int .i64 n.final] 25)
  have hboxA := heap_alloc_new W (.cells #[vp, vt, .int .i64 n.init, .int .i64 n.final] 25)
  obtain ⟨W1, hW1⟩ : ∃ W1, W.alloc (.cells #[vp, vt, .int .i64 n.init, .int .i64 n.final] 25) = W1 := ⟨_, rfl⟩
  have hs1 : W1.heap.size = W.heap.size + 1 := by rw [← hW1]; exact World.size_alloc _ _
  rw [hW1] at hbA hboxA
  obtain ⟨ap, cp, rfl⟩ := hn.1.val
  obtain ⟨at_, ct, rfl⟩ := hn.2.val
  obtain ⟨am, cm, rfl⟩ := hm.val
  have hn1 := hn.mono hbA (show W.heap.size ≤ W1.heap.size by omega)
  obtain ⟨c0, c1, c2, c3⟩ := box4' hboxA
  have hs1a : W.heap.size ≤ W1.heap.size := by omega
  clear hs1 _gm
  cases hlg : longB n with
  | true =>
    have HLg := Lib.hid (long_is W1 _ _ n W1.heap.size hn1 hlg)
    clear hlg
    go_enter Tryd.func3, Tryd.ntmps3
    go_wp2_with (first | (go_at_call 11; refine HLg.out.mono ?_; rintro e w2 ⟨rfl, hb2⟩; refine Hid.out ?_))
    refine Lib.hid ?_
    go_wp2_with fail
    go_ret
    exact ⟨rfl, hbA.trans (hb2.mono hs1a)⟩
  | false =>
    have HLg := Lib.hid (long_is W1 _ _ n W1.heap.size hn1 hlg)
    clear hlg
    by_cases hmid : 150 < most ∧ most ≤ 1024
    · obtain ⟨h1, h2⟩ := hmid
      have hd1 : decide (150 < most) = true := decide_eq_true h1
      have hd2 : decide (most ≤ 1024) = true := decide_eq_true h2
      go_enter Tryd.func3, Tryd.ntmps3
      go_wp2_with (first | (go_at_call 11; refine HLg.out.mono ?_; rintro e w2 ⟨rfl, hb2⟩; refine Hid.out ?_))
      refine Lib.hid ?_
      go_wp2_with fail
      go_ret
      exact ⟨rfl, hbA.trans (hb2.mono hs1a)⟩
    · have hex := expR_cases n most
      have Hmid := Lib.hid hmid
      clear hmid
      go_enter Tryd.func3, Tryd.ntmps3
      go_upto_region 1 with fail
      go_cut [35] (fun s35 wx => ∃ w2, w2 = wx ∧ s35 = .bool false ∧ Below W1.heap.size W1 w2)
      case first =>
        by_cases h1 : 150 < most
        · have hd1 : decide (150 < most) = true := decide_eq_true h1
          have hd2 : decide (most ≤ 1024) = false := decide_eq_false (fun e => Hmid.out ⟨h1, e⟩)
          go_wp2_with (first | (go_at_call 11; refine HLg.out.mono ?_; rintro e w2 ⟨rfl, hb2⟩; refine Hid.out ?_))
          refine Lib.hid ?_
          go_wp2_with fail
          go_meet
          exact ⟨_, rfl, rfl, hb2⟩
        · have hd1 : decide (150 < most) = false := decide_eq_false h1
          go_wp2_with (first | (go_at_call 11; refine HLg.out.mono ?_; rintro e w2 ⟨rfl, hb2⟩; refine Hid.out ?_))
          refine Lib.hid ?_
          go_wp2_with fail
          go_meet
          exact ⟨_, rfl, rfl, hb2⟩
      case rest =>
        obtain ⟨w2, rfl, rfl, hb2⟩ := hcut
        have B2 := hbA.trans (hb2.mono hs1a)
        have hz2 := B2.size
        have hx2 := box_up2 hboxA hb2
        have hn2 := hn1.mono hb2 hb2.size
        clear c0 c1 c2 c3 HLg hb2 hboxA hn1 hbA
        obtain ⟨c0, c1, c2, c3⟩ := box4' hx2
        go_wp2_with (first | (go_at_call 12; refine (twin_any _ _ (Nat.le_refl _) _ _ n hn2).mono ?_; rintro e w4 ⟨vq, vu, rfl, hq4, hb4⟩; refine Hid.out ?_))
        refine Lib.hid ?_
        have hz4 := hb4.size
        obtain ⟨aq, cq, rfl⟩ := hq4.1.val
        obtain ⟨au, cu, rfl⟩ := hq4.2.val
        obtain ⟨W4, hW4⟩ : ∃ W4, w4.alloc (.cells #[.slice aq n.places.length cq, .slice au n.trans.length cu, .int .i64 n.init, .int .i64 n.final] 25) = W4 := ⟨_, rfl⟩
        have hb5 : Below w4.heap.size w4 W4 := by rw [← hW4]; exact (Below.refl _ _).alloc (Nat.le_refl _) _
        have hx5 : W4.heap[w4.heap.size]? = some (.cells #[.slice aq n.places.length cq, .slice au n.trans.length cu, .int .i64 n.init, .int .i64 n.final] 25) := by rw [← hW4]; exact heap_alloc_new _ _
        have hz5 := hb5.size
        have hb25 := hb4.trans (hb5.mono hz4)
        have B5 := B2.trans (hb25.mono hz2)
        have hq5 := hq4.mono hb5 hz5
        have hy5 := box_up2 hx2 hb25
        have hn5 := hn2.mono hb25 hb25.size
        have t5 := tab_up (htab.on B5) B5.size
        clear c0 c1 c2 c3 hn2 hq4 hx2 hb4 hb25 hb5
        obtain ⟨c0, c1, c2, c3⟩ := box4' hx5
        rcases hex with ⟨c, hc, hc2⟩ | ⟨g, hc, hok, hm1, hm2, hg⟩
        · have hcz : (c != 0) = true := by rcases hc2 with ⟨rfl, _⟩ | ⟨rfl, _⟩ <;> rfl
          have hcc : (c != c) = false := bne_self_eq_false _
          have HC := Lib.hid hc
          clear hc2 hc
          have G1 := Lib.hid (exp_no _ _ (Nat.le_refl _) _ _ n hq5 most t5 HC.out)
          go_wp2_with (first | (go_at_call 13; refine G1.out.mono ?_; rintro e w6 ⟨rfl, hb6⟩; refine Hid.out ?_))
          refine Lib.hid ?_
          have B6 := B5.trans (hb6.mono B5.size)
          have hx6 := box_up2 hx5 hb6
          have hy6 := box_up2 hy5 hb6
          have hn6 := hn5.mono hb6 hb6.size
          have hq6 := hq5.mono hb6 hb6.size
          clear c0 c1 c2 c3 hW4 G1
          obtain ⟨c0, c1, c2, c3⟩ := box4' hy6
          have G2 := Lib.hid (refexp_no _ _ (Nat.le_refl _) _ _ n hn6 most HC.out)
          go_wp2_with (first | (go_at_call 14; refine G2.out.mono ?_; rintro e w7 ⟨rfl, hb7⟩; refine Hid.out ?_))
          refine Lib.hid ?_
          have B7 := B6.trans (hb7.mono B6.size)
          have hx7 := box_up2 hx6 hb7
          have hy7 := box_up2 hy6 hb7
          have S1 := Lib.hid (refsame_any w7 w7.heap.size (Nat.le_refl _) _ _ _ _ n (hq6.mono hb7 hb7.size) (hn6.mono hb7 hb7.size))
          clear c0 c1 c2 c3 hx5 hy5 hx6 hy6 hn5 hq5 hn6 hq6 G2
          obtain ⟨c0, c1, c2, c3⟩ := box4' hy7
          obtain ⟨d0, d1, d2, d3⟩ := box4' hx7
          go_wp2_with (first | (go_at_call 15; refine S1.out.mono ?_; rintro e w8 ⟨rfl, hb8⟩; refine Hid.out ?_))
          refine Lib.hid ?_
          go_wp2_with fail
          go_ret
          exact ⟨rfl, B7.trans (hb8.mono B7.size)⟩
        · have hX := explore_all hok (by omega) (by omega) hg
          have hmn : most.toNat ≤ 1024 := by omega
          have hntr := (Nt.ok_of hok).trans
          have hmany := (Nt.ok_of hok).many
          have HEO := Lib.hid (hX.eok hmn hntr)
          have HEL := Lib.hid hX.ok.elen
          have HOK := Lib.hid hX.ok
          have hle := hX.ok.le
          have HC := Lib.hid hc
          clear hc hg hok hX hm1 hm2
          have G1 := Lib.hid (exp_ok _ _ (Nat.le_refl _) _ _ n hq5 most t5 HC.out)
          go_wp2_with (first | (go_at_call 13; refine G1.out.mono ?_; rintro e w6 ⟨p, rfl, hT6, hb6⟩; refine Hid.out ?_))
          refine Lib.hid ?_
          have B6 := B5.trans (hb6.mono B5.size)
          have hx6 := box_up2 hx5 hb6
          have hy6 := box_up2 hy5 hb6
          have hn6 := hn5.mono hb6 hb6.size
          have hq6 := hq5.mono hb6 hb6.size
          clear c0 c1 c2 c3 hW4 G1
          obtain ⟨c0, c1, c2, c3⟩ := box4' hy6
          have G2 := Lib.hid (refexp_ok _ _ (Nat.le_refl _) _ _ n hn6 most HC.out)
          go_wp2_with (first | (go_at_call 14; refine G2.out.mono ?_; rintro e w7 ⟨q, rfl, hR7, hb7⟩; refine Hid.out ?_))
          refine Lib.hid ?_
          have B7 := B6.trans (hb7.mono B6.size)
          have hx7 := box_up2 hx6 hb7
          have hy7 := box_up2 hy6 hb7
          have hT7 := hT6.mono hb7 hb7.size
          have S1 := Lib.hid (refsame_any w7 w7.heap.size (Nat.le_refl _) _ _ _ _ n (hq6.mono hb7 hb7.size) (hn6.mono hb7 hb7.size))
          clear c0 c1 c2 c3 hx5 hy5 hx6 hy6 hn5 hq5 hn6 hq6 G2 hT6 hb6 hb7 B5
          obtain ⟨c0, c1, c2, c3⟩ := box4' hy7
          obtain ⟨d0, d1, d2, d3⟩ := box4' hx7
          go_wp2_with (first | (go_at_call 15; refine S1.out.mono ?_; rintro e w8 ⟨rfl, hb8⟩; refine Hid.out ?_))
          refine Lib.hid ?_
          have B8 := B7.trans (hb8.mono B7.size)
          have hT8 := hT7.mono hb8 hb8.size
          have hR8 := hR7.mono hb8 hb8.size
          have t8 := tab_up (htab.on B8) B8.size
          have hm8 := hm.mono B8 B8.size
          clear c0 c1 c2 c3 d0 d1 d2 d3 S1 hT7 hR7 hb8 hx7 hy7 B7 B6
          obtain ⟨hs, hhs⟩ : ∃ hs, homesE g.edges = hs := ⟨_, rfl⟩
          rw [hhs] at hT8
          have HU8 : Hid (∀ u, Below w8.heap.size w8 u → GrR u u.heap.size p n.trans.length g hs ∧ RgR u u.heap.size q n.trans.length g) := Lib.hid fun u hb => ⟨hT8.mono hb hb.size, hR8.mono hb hb.size⟩
          have G3 := gfind_big w8 w8.heap.size p _ g hs hT8 (Nat.le_refl _) t8 (.slice am m.length cm) m hm8 hmw.out hm20
          have hfr := findM_range g.marks m
          have hfe : foundE g.marks m = if 0 ≤ findM g.marks m then findM g.marks m else 0 := rfl
          obtain ⟨f, hf⟩ : ∃ f, findM g.marks m = f := ⟨_, rfl⟩
          obtain ⟨fe, hfee⟩ : ∃ fe, foundE g.marks m = fe := ⟨_, rfl⟩
          rw [hf] at G3 hfe hfr
          rw [hfee] at G3 hfe
          have HG3 := Lib.hid G3
          have HF := Lib.hid hf
          have HFE := Lib.hid hfe
          clear G3 hfe hf hfee hhs hT8 hR8 t8
          go_wp2_with (first | (go_at_call 16; refine HG3.out.mono ?_; rintro e w9 ⟨rfl, hb9⟩; refine Hid.out ?_))
          refine Lib.hid ?_
          have B9 := B8.trans (hb9.mono B8.size)
          have hm9 := hm8.mono hb9 hb9.size
          obtain ⟨v0, a1, c1', x1, y1, vM, vE, vF, h1, h2, h3, h4, h5, h6⟩ := (HU8.out w9 hb9).2
          obtain ⟨aM, cM, rfl⟩ := h3.val
          obtain ⟨k1, k4, k5, k6⟩ := hbox h1
          have G4 := Lib.hid (reffind_is w9 w9.heap.size q _ _ g.marks m k4 h3 hm9 HF.out)
          clear HG3 h1 h3 h4 h5 k1 k5 k6 k4
          go_wp2_with (first | (go_at_call 17; refine G4.out.mono ?_; rintro e wa ⟨rfl, na, rfl⟩; refine Hid.out ?_))
          refine Lib.hid ?_
          obtain ⟨w10, hw10⟩ : ∃ w10, w9.drewN na = w10 := ⟨_, rfl⟩
          have hb10 : Below w9.heap.size w9 w10 := by rw [← hw10]; exact below_drewN' na
          rw [hw10]
          have B10 := B9.trans (hb10.mono B9.size)
          have hb810 := hb9.trans (hb10.mono hb9.size)
          have HU : Hid (∀ u, Below w10.heap.size w10 u → GrR u u.heap.size p n.trans.length g hs ∧ RgR u u.heap.size q n.trans.length g) := Lib.hid fun u hb => HU8.out u (hb810.trans (hb.mono hb810.size))
          obtain ⟨N, hN⟩ : ∃ N, g.marks.length = N := ⟨_, rfl⟩
          have hNl : N ≤ 1024 := by omega
          have HLen := Lib.hid (fun x => glen_N2 (w10.drewN x) w10.heap.size p _ g hs (((HU.out w10 (Below.refl _ _)).1).mono (below_drewN' x) (Nat.le_refl _)) hN)
          obtain ⟨v0', a1', c1'', x1', y1', vM', vE', vF', g1, g2, g3, g4, g5, g6⟩ := (HU.out w10 (Below.refl _ _)).2
          obtain ⟨aM', cM', rfl⟩ := g3.val
          obtain ⟨-, k4, -, -⟩ := hbox g1
          rw [hN] at k4
          have HN := Lib.hid hN
          have hnn : ((N : Int) != (N : Int)) = false := bne_self_eq_false _
          have hnn2 : (N != N) = false := bne_self_eq_false _
          clear hw10 hb10 hb9 hm8 hm9 hb810 HU8 G4 g1 g3 g4 g5 hN B8 B9
          go_upto_region 12 with fail
          go_cut [96] (fun s96 wx => ∃ w12, w12 = wx ∧ s96 = .bool false ∧ Below w10.heap.size w10 w12)
          case first =>
            by_cases hf0 : 0 ≤ f
            · have hd : decide (0 ≤ f) = true := decide_eq_true hf0
              obtain rfl : fe = f := by rw [HFE.out, if_pos hf0]
              have hff : (fe != fe) = false := bne_self_eq_false _
              go_quiet ((go_at_call 18; exact quiet_left (HLen.out _)))
              go_wp2_with fail
              go_meet
              refine ⟨_, rfl, ?_, below_drewN' _⟩
              first
                | rfl
                | (rw [show max fe 0 = fe by omega, hff])
            · obtain rfl : f = -1 := by omega
              obtain rfl : fe = 0 := by rw [HFE.out, if_neg (by omega)]
              go_quiet ((go_at_call 18; exact quiet_left (HLen.out _)))
              go_wp2_with fail
              go_meet
              refine ⟨_, rfl, ?_, below_drewN' _⟩
              first
                | rfl
                | (rw [show max fe 0 = fe by omega, hff])
          case rest =>
            obtain ⟨w12, rfl, rfl, hb12⟩ := hcut
            have B12 := B10.trans (hb12.mono B10.size)
            have HV : Hid (∀ u, Below w12.heap.size w12 u → GrR u u.heap.size p n.trans.length g hs ∧ RgR u u.heap.size q n.trans.length g) := Lib.hid fun u hb => HU.out u (hb12.trans (hb.mono hb12.size))
            clear HU HLen k4 hb12 B10
            go_wp2_with fail
            go_loopg [15] 2 (fun gh s15 wr => ∃ k : Nat, k + gh = 2 ∧ s15 = .int .i64 (k : Int) ∧ Below w12.heap.size w12 wr)
            case atStart => exact ⟨0, by omega, rfl, Below.refl _ _⟩
            case round =>
              obtain ⟨k, hkg, rfl, hbr⟩ := hrel
              by_cases hk : k < 2
              · have hkI : (k : Int) < 2 := by omega
                go_wp2_with fail
                go_loopg [16] N (fun gh s16 wx => ∃ i : Nat, i + gh = N ∧ s16 = .int .i64 (i : Int) ∧ Below w12.heap.size w12 wx)
                case atStart => exact ⟨0, by omega, rfl, hbr⟩
                case round =>
                  clear hbr
                  obtain ⟨i, hig, rfl, hbr⟩ := hrel
                  have HL := Lib.hid (glen_N2 wr wr.heap.size p _ g hs (HV.out wr hbr).1 HN.out)
                  by_cases hi : i < N
                  · have hiI : (i : Int) < (N : Int) := by omega
                    obtain ⟨w0, rfl⟩ : ∃ w0 : World, w0 = wr := ⟨_, rfl⟩
                    have hz0 := hbr.size
                    have hig' : i < g.marks.length := by rw [HN.out]; exact hi
                    have hie : i < g.edges.length := by rw [HEL.out]; exact hig'
                    have hmx : (g.marks[i]'hig').length ≤ 4096 := by rw [(HOK.out.mark i hig').1.len]; exact hmany
                    have hlx : (g.edges[i]'hie).length ≤ 8192 := HEO.out.row _ (List.getElem_mem hie)
                    have hwx := HOK.out.way_le hig'
                    have G1 := gmark_any w0 w0.heap.size p _ g hs (HV.out w0 hbr).1 (Nat.le_refl _) i hig'
                    obtain ⟨mx, hmxe⟩ : ∃ mx, g.marks[i]'hig' = mx := ⟨_, rfl⟩
                    obtain ⟨lx, hlxe⟩ : ∃ lx, g.edges[i]'hie = lx := ⟨_, rfl⟩
                    obtain ⟨wy, hwye⟩ : ∃ wy, gwayE g i = wy := ⟨_, rfl⟩
                    rw [hmxe] at G1 hmx
                    rw [hlxe] at hlx
                    rw [hwye] at hwx
                    have HG1 := Lib.hid G1
                    have HMX := Lib.hid hmxe
                    have HLX := Lib.hid hlxe
                    have HWY := Lib.hid hwye
                    clear G1 hmxe hlxe hwye
                    go_wp2_with (first | (go_at_call 18; refine HL.out.mono ?_; rintro e w' ⟨rfl, rfl⟩) | (go_at_call 19; refine HG1.out.mono ?_; rintro e w1 ⟨vx, rfl, hx, hb1⟩; refine Hid.out ?_))
                    refine Lib.hid ?_
                    have b1 := hbr.trans (hb1.mono hz0)
                    have hz1 := hb1.size
                    have G2 := gedges_any w1 w1.heap.size p _ g hs (HV.out w1 b1).1 (Nat.le_refl _) HEO.out HEL.out i hie
                    rw [HLX.out] at G2
                    have HG2 := Lib.hid G2
                    clear G2 HG1 HL
                    obtain ⟨ax, cx, rfl⟩ := hx.shape
                    go_wp2_with (first | (go_at_call 20; refine HG2.out.mono ?_; rintro e w2 ⟨vl, rfl, hl, hb2⟩; refine Hid.out ?_))
                    refine Lib.hid ?_
                    have b2 := b1.trans (hb2.mono b1.size)
                    have hz2' := hb2.size
                    have G3 := gway_any w2 w2.heap.size p _ g hs (HV.out w2 b2).1 (Nat.le_refl _) HOK.out hmn i hig'
                    rw [HWY.out] at G3
                    have HG3 := Lib.hid G3
                    clear G3 HG2
                    obtain ⟨al, cl, rfl⟩ := OwnF.shape hl
                    go_wp2_with (first | (go_at_call 21; refine HG3.out.mono ?_; rintro e w3 ⟨vw, rfl, hw, hb3⟩; refine Hid.out ?_))
                    refine Lib.hid ?_
                    have b3 := b2.trans (hb3.mono b2.size)
                    obtain ⟨aw, cw, rfl⟩ := hw.shape
                    have hapX : Hid (∀ q, (Value.slice ax mx.length cx).ownBlock = some q → w12.heap.size ≤ q ∧ q < w1.heap.size) := Lib.hid fun q hq => by have := hx.own_at hq; omega
                    have hapL : Hid (∀ q, (Value.slice al lx.length cl).ownBlock = some q → w1.heap.size ≤ q ∧ q < w2.heap.size) := Lib.hid fun q hq => by
                      obtain ⟨⟨c, hc⟩, h⟩ := OwnF.ty hl hq
                      exact ⟨h, lt_of_block hc⟩
                    have hapW : Hid (∀ q, (Value.slice aw wy.length cw).ownBlock = some q → w2.heap.size ≤ q) := Lib.hid fun q hq => (hw.own_at hq).1
                    have HX3 := Lib.hid ((hx.kept hb2 (Nat.le_refl _)).kept hb3 (Nat.le_refl _))
                    have HL3 := Lib.hid (OwnF.kept hl hb3)
                    have HW3 := Lib.hid hw
                    obtain ⟨v0, a1, c1', x1, y1, vM, vE, vF, h1, h2, h3, h4, h5, h6⟩ := (HV.out w3 b3).2
                    obtain ⟨aM, cM, rfl⟩ := h3.val
                    obtain ⟨aE, cE, rfl⟩ := h4.val
                    obtain ⟨-, k4, k5, -⟩ := hbox h1
                    obtain ⟨bM, oM, u, rfl, hbM, hcu, hu⟩ := h3.at i hig'
                    obtain ⟨bE, oE, ue, rfl, hbE, hce, hue⟩ := h4.at i hie
                    rw [HMX.out] at hu
                    rw [HLX.out] at hue
                    obtain ⟨au, cu, rfl⟩ := hu.val
                    obtain ⟨ae, ce, rfl⟩ := hue.val
                    have HEC : Hid (∀ W : World, Below w3.heap.size w3 W → W.cell? ⟨q, 5, none⟩ = some (.slice (some ⟨bE, oE, none⟩) g.edges.length cE) ∧ W.cell? ⟨bE, oE + i, none⟩ = some (.slice ae lx.length ce)) := by
                      refine Lib.hid fun W hb => ⟨?_, ?_⟩
                      · rw [Below.cellB hb h2]; exact k5
                      · rw [Below.cellB hb hbE]; exact hce
                    have HUE := Lib.hid hue
                    have G4 := Lib.hid (refcmp_same w3 w3.heap.size _ _ mx (HX3.out.col (by omega) (Nat.le_refl _)) hu)
                    have hgml : (i : Int) < (g.marks.length : Int) := by omega
                    have hgel : (i : Int) < (g.edges.length : Int) := by omega
                    clear HG3 hx hl hw hb1 hb2 hb3 b1 b2 h1 h3 h4 h5 k5 hce hu hue
                    go_wp2_with (first | (go_at_call 22; refine G4.out.mono ?_; rintro e w4 ⟨rfl, hb4⟩; refine Hid.out ?_))
                    refine Lib.hid ?_
                    have b4 := b3.trans (hb4.mono b3.size)
                    have hz4 := hb4.size
                    obtain ⟨k5, hce⟩ := HEC.out w4 hb4
                    have hl4 := OwnF.kept HL3.out hb4
                    have G5 := Lib.hid (refedges_same w4 w4.heap.size _ _ lx (by exact ⟨al, cl, rfl, by omega, OwnF.cap hl4, OwnF.col cellE_len hl4 (Nat.le_refl _)⟩) (HUE.out.mono hb4 hz4))
                    clear G4 k4 hcu hl4
                    go_wp2_with (first | (go_at_call 23; refine G5.out.mono ?_; rintro e w5 ⟨rfl, hb5⟩; refine Hid.out ?_))
                    refine Lib.hid ?_
                    have b5 := b4.trans (hb5.mono b4.size)
                    have hb35 := hb4.trans (hb5.mono hz4)
                    have G6 := refway_any HOK.out hmn q n.trans.length i hig' w5 w5.heap.size (HV.out w5 b5).2 (Nat.le_refl _)
                    rw [HWY.out] at G6
                    have HG6 := Lib.hid G6
                    clear G5 G6 k5 hce hb4 hb5 b4 HEC HUE
                    go_wp2_with (first | (go_at_call 24; refine HG6.out.mono ?_; rintro e w6 ⟨vy, rfl, hy, hb6⟩; refine Hid.out ?_))
                    refine Lib.hid ?_
                    have b6 := b5.trans (hb6.mono b5.size)
                    have hb36 := hb35.trans (hb6.mono hb35.size)
                    obtain ⟨ay, cy, rfl⟩ := hy.shape
                    have G7 := Lib.hid (refcmp_same w6 w6.heap.size _ _ wy ((HW3.out.kept hb36 (Nat.le_refl _)).col (by omega) (Nat.le_refl _)) (hy.col (by omega) (Nat.le_refl _)))
                    clear HG6 hy hb6 b5 hb35
                    go_wp2_with (first | (go_at_call 22; refine G7.out.mono ?_; rintro e w7 ⟨rfl, hb7⟩; refine Hid.out ?_))
                    refine Lib.hid ?_
                    have b7 := b6.trans (hb7.mono b6.size)
                    have hb37 := hb36.trans (hb7.mono hb36.size)
                    have HX7 := Lib.hid (HX3.out.kept hb37 (Nat.le_refl _))
                    have HL7 := Lib.hid (OwnF.kept HL3.out hb37)
                    have HW7 := Lib.hid (HW3.out.kept hb37 (Nat.le_refl _))
                    clear G7 b6 hb36 hb7 hb37 HX3 HL3 HW3
                    go_wp2_with fail
                    go_loopg [23] mx.length (fun gh s23 wx => ∃ (m : Nat) (la : List Int), m + gh = mx.length ∧ s23 = .int .i64 (m : Int) ∧ la.length = mx.length ∧ Hid (OwnI wx w0.heap.size (.slice ax mx.length cx) la) ∧ Hid (RowE wx w1.heap.size (.slice al lx.length cl) lx) ∧ Hid (OwnI wx w2.heap.size (.slice aw wy.length cw) wy) ∧ Below w12.heap.size w12 wx)
                    case atStart => exact ⟨0, mx, by omega, rfl, rfl, HX7, HL7, HW7, b7⟩
                    case round =>
                      clear HX7 HL7 HW7 b7
                      obtain ⟨m, la, hmg, rfl, hla, hA, hBo, hCo, hbx⟩ := hrel
                      by_cases hm : m < mx.length
                      · have hmI : (m : Int) < (mx.length : Int) := by omega
                        rcases hA.out.val with ⟨_, h0⟩ | ⟨ga, cap, e, _, _⟩
                        · rw [h0] at hla; simp at hla; omega
                        · obtain ⟨rfl, rfl⟩ : ax = some ⟨ga, 0, none⟩ ∧ cx = cap := by injection e with e1 _ e2; exact ⟨e1, e2⟩
                          obtain ⟨hx0, hxf⟩ := hA.out.at (i := m) (by omega)
                          have hS := Lib.hid (hA.out.set m 7)
                          have h1 := hapX.out ga rfl
                          have hSB := Lib.hid (hBo.out.aside (g := ga) (i := m) (x := .int .i64 7) (fun q hq => by have := hapL.out q hq; omega))
                          have hSC := Lib.hid (hCo.out.aside (g := ga) (i := m) (x := .int .i64 7) (fun q hq => by have := hapW.out q hq; omega))
                          have hbx2 := Below.setCell hbx (p := ⟨ga, m, none⟩) (show w12.heap.size ≤ ga by omega) (.int .i64 7)
                          clear e
                          go_wp2_with fail
                          go_roundg (gk - 1)
                          case measure => omega
                          case rel => exact ⟨m + 1, la.set m 7, by omega, by go_num, by rw [List.length_set]; exact hla, hS, hSB, hSC, hbx2⟩
                      · have hmI : ¬ ((m : Int) < (mx.length : Int)) := by omega
                        clear hA hla
                        obtain ⟨u0, rfl⟩ : ∃ u0 : World, u0 = wr := ⟨_, rfl⟩
                        go_wp2_with fail
                        go_loopg [24] lx.length (fun gh s24 wx => ∃ (m : Nat) (lb : List (Int × Int)), m + gh = lx.length ∧ s24 = .int .i64 (m : Int) ∧ lb.length = lx.length ∧ Hid (RowE wx w1.heap.size (.slice al lx.length cl) lb) ∧ Hid (OwnI wx w2.heap.size (.slice aw wy.length cw) wy) ∧ Below w12.heap.size w12 wx)
                        case atStart => exact ⟨0, lx, by omega, rfl, rfl, hBo, hCo, hbx⟩
                        case round =>
                          clear hBo hCo hbx hmg hmI
                          obtain ⟨m, lb, hmg, rfl, hlb, hBo, hCo, hbx⟩ := hrel
                          by_cases hm : m < lx.length
                          · have hmI : (m : Int) < (lx.length : Int) := by omega
                            obtain ⟨ga, rfl, -, -, -⟩ := OwnF.some hBo.out (by omega)
                            have hx0 := OwnF.at cellE_len hBo.out (i := m) (by omega) (j := 1) (by omega)
                            have hxf := OwnF.free hBo.out (m * 2 + 1)
                            have hx0' : wr.cell? ⟨ga, m * 2 + 1, none⟩ = some (.int .i64 (lb[m]'(by omega)).2) := hx0
                            have hS := Lib.hid (OwnF.set cellE_len hBo.out (i := m) (by omega) (j := 1) (by omega) (.int .i64 7) ((lb[m]'(by omega)).1, 7) rfl)
                            have h1 := hapL.out ga rfl
                            have hSC := Lib.hid (hCo.out.aside (g := ga) (i := m * 2 + 1) (x := .int .i64 7) (fun q hq => by have := hapW.out q hq; omega))
                            have hbx2 := Below.setCell hbx (p := ⟨ga, m * 2 + 1, none⟩) (show w12.heap.size ≤ ga by omega) (.int .i64 7)
                            obtain ⟨y, hy⟩ : ∃ y, (lb[m]'(by omega)).2 = y := ⟨_, rfl⟩
                            rw [hy] at hx0'
                            clear hx0 hy
                            go_wp2_with fail
                            go_roundg (gk - 1)
                            case measure => omega
                            case rel => exact ⟨m + 1, _, by omega, by go_num, by rw [List.length_set]; exact hlb, hS, hSC, hbx2⟩
                          · have hmI : ¬ ((m : Int) < (lx.length : Int)) := by omega
                            clear hBo hlb
                            obtain ⟨u1, rfl⟩ : ∃ u1 : World, u1 = wr := ⟨_, rfl⟩
                            go_wp2_with fail
                            go_loopg [25] wy.length (fun gh s25 wx => ∃ (m : Nat) (lc : List Int), m + gh = wy.length ∧ s25 = .int .i64 (m : Int) ∧ lc.length = wy.length ∧ Hid (OwnI wx w2.heap.size (.slice aw wy.length cw) lc) ∧ Below w12.heap.size w12 wx)
                            case atStart => exact ⟨0, wy, by omega, rfl, rfl, hCo, hbx⟩
                            case round =>
                              clear hCo hbx hmg hmI
                              obtain ⟨m, lc, hmg, rfl, hlc, hCo, hbx⟩ := hrel
                              by_cases hm : m < wy.length
                              · have hmI : (m : Int) < (wy.length : Int) := by omega
                                rcases hCo.out.val with ⟨_, h0⟩ | ⟨ga, cap, e, _, _⟩
                                · rw [h0] at hlc; simp at hlc; omega
                                · obtain ⟨rfl, rfl⟩ : aw = some ⟨ga, 0, none⟩ ∧ cw = cap := by injection e with e1 _ e2; exact ⟨e1, e2⟩
                                  obtain ⟨hx0, hxf⟩ := hCo.out.at (i := m) (by omega)
                                  have hS := Lib.hid (hCo.out.set m 7)
                                  have h1 := hapW.out ga rfl
                                  have hbx2 := Below.setCell hbx (p := ⟨ga, m, none⟩) (show w12.heap.size ≤ ga by omega) (.int .i64 7)
                                  clear e
                                  go_wp2_with fail
                                  go_roundg (gk - 1)
                                  case measure => omega
                                  case rel => exact ⟨m + 1, lc.set m 7, by omega, by go_num, by rw [List.length_set]; exact hlc, hS, hbx2⟩
                              · have hmI : ¬ ((m : Int) < (wy.length : Int)) := by omega
                                go_wp2_with fail
                                go_roundg (N - (i + 1))
                                case measure => omega
                                case rel => exact ⟨i + 1, by omega, by go_num, hbx⟩
                  · have hiI : ¬ ((i : Int) < (N : Int)) := by omega
                    go_wp2_with (first | (go_at_call 18; refine HL.out.mono ?_; rintro e w' ⟨rfl, rfl⟩))
                    go_roundg (2 - (k + 1))
                    case measure => omega
                    case rel => exact ⟨k + 1, by omega, by go_num, hbr⟩
              · have hkI : ¬ ((k : Int) < 2) := by omega
                go_wp2_with fail
                go_ret
                exact ⟨rfl, B12.trans (hbr.mono B12.size)⟩

end Go.Proofs.YtapnkkoplnhleaaDoor
