/- The walk of the law ReachHomes. -/
import Derived.Test.YtapnkkoplnhleaaDoorRefUse
import Derived.Test.YtapnkkoplnhleaaDoorRefHomes
import Derived.Test.YtapnkkoplnhleaaDoorOpenNet
set_option maxRecDepth 100000
namespace Go.Proofs.YtapnkkoplnhleaaDoor
open Go.RowKit

theorem take_has {l : List Int} {k : Nat} (hk : k < l.length) (x : Int) : (l.take (k + 1)).contains x = ((l.take k).contains x || (l[k] == x)) := by
  rw [Bool.eq_iff_iff, Bool.or_eq_true, List.contains_iff_mem, List.contains_iff_mem, List.take_succ_eq_append_getElem hk, List.mem_append, List.mem_singleton, beq_iff_eq]
  constructor
  · rintro (h | h)
    · exact Or.inl h
    · exact Or.inr h.symm
  · rintro (h | h)
    · exact Or.inl h
    · exact Or.inr h.symm

set_option maxHeartbeats 8000000 in
theorem reachHomes_walk (W : World) (htab : Pow10 W.heap.size W) (vp vt : Value) (n : Nt) (hn : NtR W W.heap.size vp vt n) (_gn : NtI n) (most : Int) (_ga : (Lit.int .i64 most).wf = true) :
    Calls Tryd.prog 4 #[.agg #[vp, vt, .int .i64 n.init, .int .i64 n.final], .int .i64 most] W fun e w' => e = .returned (.bool true) ∧ Below W.heap.size W w' := by
  have hbA := (Below.refl W.heap.size W).alloc (Nat.le_refl _) (.cells #[vp, vt, .int .i64 n.init, .int .i64 n.final] 25)
  have hboxA := heap_alloc_new W (.cells #[vp, vt, .int .i64 n.init, .int .i64 n.final] 25)
  obtain ⟨W1, hW1⟩ : ∃ W1, W.alloc (.cells #[vp, vt, .int .i64 n.init, .int .i64 n.final] 25) = W1 := ⟨_, rfl⟩
  have hs1 : W1.heap.size = W.heap.size + 1 := by rw [← hW1]; exact World.size_alloc _ _
  rw [hW1] at hbA hboxA
  obtain ⟨ap, cp, rfl⟩ := hn.1.val
  obtain ⟨at_, ct, rfl⟩ := hn.2.val
  have hn1 := hn.mono hbA (show W.heap.size ≤ W1.heap.size by omega)
  obtain ⟨c0, c1, c2, c3⟩ := box4' hboxA
  have hs1a : W.heap.size ≤ W1.heap.size := by omega
  clear hs1
  cases hlg : longB n with
  | true =>
    have HLg := Lib.hid (long_is W1 _ _ n W1.heap.size hn1 hlg)
    clear hlg
    go_enter Tryd.func4, Tryd.ntmps4
    go_wp2_with (first | (go_at_call 11; refine HLg.out.mono ?_; rintro e w2 ⟨rfl, hb2⟩; refine Hid.out ?_))
    refine Lib.hid ?_
    go_wp2_with fail
    go_ret
    exact ⟨rfl, hbA.trans (hb2.mono hs1a)⟩
  | false =>
    have HLg := Lib.hid (long_is W1 _ _ n W1.heap.size hn1 hlg)
    clear hlg
    by_cases hmid : 150 < most ∧ most ≤ 1024
    · obtain ⟨h1, h2⟩ := hmid
      have hd1 : decide (150 < most) = true := decide_eq_true h1
      have hd2 : decide (most ≤ 1024) = true := decide_eq_true h2
      go_enter Tryd.func4, Tryd.ntmps4
      go_wp2_with (first | (go_at_call 11; refine HLg.out.mono ?_; rintro e w2 ⟨rfl, hb2⟩; refine Hid.out ?_))
      refine Lib.hid ?_
      go_wp2_with fail
      go_ret
      exact ⟨rfl, hbA.trans (hb2.mono hs1a)⟩
    · rcases expR_cases n most with ⟨c, hc, hc2⟩ | ⟨g, hc, hok, hm1, hm2, hg⟩
      · have hcz : (c != 0) = true := by rcases hc2 with ⟨rfl, _⟩ | ⟨rfl, _⟩ <;> rfl
        have hcc : (c == c) = true := by simp
        clear hc2
        have HC := Lib.hid hc
        clear hc
        by_cases h1 : 150 < most
        all_goals
          first
            | (have h2 : 1024 < most := by omega)
            | (have h2 : most ≤ 150 := by omega)
          clear hmid
          go_enter Tryd.func4, Tryd.ntmps4
          go_wp2_with (first | (go_at_call 11; refine HLg.out.mono ?_; rintro e w2 ⟨rfl, hb2⟩; refine Hid.out ?_))
          refine Lib.hid ?_
          have B2 := hbA.trans (hb2.mono hs1a)
          have hbox2 := box_up2 hboxA hb2
          have hn2 := hn1.mono hb2 hb2.size
          have t2 := tab_up (htab.on B2) B2.size
          clear c0 c1 c2 c3
          obtain ⟨c0, c1, c2, c3⟩ := box4' hbox2
          have G1 := Lib.hid (exp_no _ _ (Nat.le_refl _) _ _ n hn2 _ t2 HC.out)
          go_wp2_with (first | (go_at_call 13; refine G1.out.mono ?_; rintro e w3 ⟨rfl, hb3⟩; refine Hid.out ?_))
          refine Lib.hid ?_
          have B3 := B2.trans (hb3.mono B2.size)
          have hbox3 := box_up2 hbox2 hb3
          have hn3 := hn2.mono hb3 hb3.size
          clear c0 c1 c2 c3
          obtain ⟨c0, c1, c2, c3⟩ := box4' hbox3
          have G2 := Lib.hid (refexp_no _ _ (Nat.le_refl _) _ _ n hn3 _ HC.out)
          go_wp2_with (first | (go_at_call 14; refine G2.out.mono ?_; rintro e w4 ⟨rfl, hb4⟩; refine Hid.out ?_))
          refine Lib.hid ?_
          go_wp2_with fail
          go_ret
          exact ⟨rfl, B3.trans (hb4.mono B3.size)⟩
      · have h2 : most ≤ 150 := by omega
        have hX := explore_all hok (by omega) (by omega) hg
        have hmn : most.toNat ≤ 1024 := by omega
        have hntr := (Nt.ok_of hok).trans
        have HEO := Lib.hid (hX.eok hmn hntr)
        have HEL := Lib.hid hX.ok.elen
        have HTR : Hid (∀ l ∈ g.edges, ∀ e ∈ l, 0 ≤ e.1 ∧ e.1 < (n.trans.length : Int)) := fun l hl e he => (hX.ok.edge l hl e he).1
        have hle := hX.ok.le
        have HC := Lib.hid hc
        clear hc hg hok hX hmid hm1 hm2
        go_enter Tryd.func4, Tryd.ntmps4
        go_wp2_with (first | (go_at_call 11; refine HLg.out.mono ?_; rintro e w2 ⟨rfl, hb2⟩; refine Hid.out ?_))
        refine Lib.hid ?_
        have B2 := hbA.trans (hb2.mono hs1a)
        have hbox2 := box_up2 hboxA hb2
        have hn2 := hn1.mono hb2 hb2.size
        have t2 := tab_up (htab.on B2) B2.size
        clear c0 c1 c2 c3
        obtain ⟨c0, c1, c2, c3⟩ := box4' hbox2
        have G1 := Lib.hid (exp_ok _ _ (Nat.le_refl _) _ _ n hn2 _ t2 HC.out)
        go_wp2_with (first | (go_at_call 13; refine G1.out.mono ?_; rintro e w3 ⟨p, rfl, hT3, hb3⟩; refine Hid.out ?_))
        refine Lib.hid ?_
        have B3 := B2.trans (hb3.mono B2.size)
        have hbox3 := box_up2 hbox2 hb3
        have hn3 := hn2.mono hb3 hb3.size
        clear c0 c1 c2 c3
        obtain ⟨c0, c1, c2, c3⟩ := box4' hbox3
        have G2 := Lib.hid (refexp_ok _ _ (Nat.le_refl _) _ _ n hn3 _ HC.out)
        go_wp2_with (first | (go_at_call 14; refine G2.out.mono ?_; rintro e w4 ⟨q, rfl, hR4, hb4⟩; refine Hid.out ?_))
        refine Lib.hid ?_
        have B4 := B3.trans (hb4.mono B3.size)
        have hT4 := hT3.mono hb4 hb4.size
        have G3 := Lib.hid (refhomes_any w4 w4.heap.size q n.trans.length g hR4 (Nat.le_refl _) HEO.out HEL.out.symm)
        clear c0 c1 c2 c3 hboxA hbox2 hbox3 hn1 hn2 hn3 hb2 hb3 hb4 t2 B2 B3 G1 G2 hbA HLg hT3
        go_wp2_with (first | (go_at_call 25; refine G3.out.mono ?_; rintro e w9 ⟨vh, rfl, how9, hb9⟩; refine Hid.out ?_))
        refine Lib.hid ?_
        have B9 := B4.trans (hb9.mono B4.size)
        have hT9 := hT4.mono hb9 hb9.size
        have hR9 := hR4.mono hb9 hb9.size
        obtain ⟨hs, hhs⟩ : ∃ hs, homesE g.edges = hs := ⟨_, rfl⟩
        rw [hhs] at how9 hT9
        have hhl : hs.length ≤ 1024 := by
          rw [← hhs]
          unfold homesE homesN
          have := List.length_filter_le (homeB g.edges) (List.range g.edges.length)
          have := HEO.out.len
          simp at *; omega
        obtain ⟨ah, ch, rfl⟩ := how9.shape
        have hI9 : Ints w9 w9.heap.size (.slice ah hs.length ch) hs := how9.col (by omega) (Nat.le_refl _)
        have HU : Hid (∀ u, Below w9.heap.size w9 u → GrR u u.heap.size p n.trans.length g hs ∧ RgR u u.heap.size q n.trans.length g ∧ Ints u w9.heap.size (.slice ah hs.length ch) hs) := Lib.hid fun u hb => ⟨hT9.mono hb hb.size, hR9.mono hb hb.size, hI9.mono hb (Nat.le_refl _)⟩
        have hDl : Hid ((deadE g.edges).length ≤ 1024) := by
          refine Lib.hid ?_
          unfold deadE
          exact Nat.le_trans (deadTo_len _ _) HEO.out.len
        have hTl : Hid ((deadTE g.edges n.trans.length).length ≤ 8192) := Lib.hid (Nat.le_trans (deadTTo_len _ _ _) hntr)
        clear hT4 hR4 hT9 hR9 hI9 how9 hhs B4 hb9 G3
        go_wp2_with fail
        go_loopg [10] 2 (fun gh s10 wr => ∃ k : Nat, k + gh = 2 ∧ s10 = .int .i64 (k : Int) ∧ Below w9.heap.size w9 wr)
        case atStart => exact ⟨0, by omega, rfl, Below.refl _ _⟩
        case round =>
          obtain ⟨k, hkg, rfl, hbr⟩ := hrel
          by_cases hk : k < 2
          · have hkI : (k : Int) < 2 := by omega
            obtain ⟨w0, rfl⟩ : ∃ w0 : World, w0 = wr := ⟨_, rfl⟩
            have hz0 := hbr.size
            have G1 := Lib.hid (gdeadl_any w0 w0.heap.size p _ g hs (HU.out w0 hbr).1 (Nat.le_refl _) HEO.out)
            go_wp2_with (first | (go_at_call 26; refine G1.out.mono ?_; rintro e w1 ⟨va, rfl, ha, hb1⟩; refine Hid.out ?_))
            refine Lib.hid ?_
            have b1 := hbr.trans (hb1.mono hz0)
            have hz1 := hb1.size
            have G2 := Lib.hid (gdead_any w1 w1.heap.size p _ g hs (HU.out w1 b1).1 (Nat.le_refl _) HEO.out HTR.out)
            go_wp2_with (first | (go_at_call 27; refine G2.out.mono ?_; rintro e w2 ⟨vb, rfl, hb, hb2⟩; refine Hid.out ?_))
            refine Lib.hid ?_
            have b2 := b1.trans (hb2.mono b1.size)
            have hz2 := hb2.size
            have G3 := Lib.hid (ghomes_any w2 w2.heap.size p _ g hs (HU.out w2 b2).1 (Nat.le_refl _))
            go_wp2_with (first | (go_at_call 28; refine G3.out.mono ?_; rintro e w3 ⟨vc, rfl, hc, hb3⟩; refine Hid.out ?_))
            refine Lib.hid ?_
            have b3 := b2.trans (hb3.mono b2.size)
            have hz3 := hb3.size
            have ha3 := (ha.kept hb2 (Nat.le_refl _)).kept hb3 (Nat.le_refl _)
            have hb3' := hb.kept hb3 (Nat.le_refl _)
            obtain ⟨aa, ca, rfl⟩ := ha.shape
            obtain ⟨ab, cb, rfl⟩ := hb.shape
            obtain ⟨ac, cc, rfl⟩ := hc.shape
            have Ha3 := Lib.hid ha3
            have Hb3 := Lib.hid hb3'
            have Hc3 := Lib.hid hc
            have hapAB : Hid (∀ q, (Value.slice aa (deadE g.edges).length ca).ownBlock = some q → q < w1.heap.size) := Lib.hid fun q hq => (ha.own_at hq).2
            have hapB : Hid (∀ q, (Value.slice ab (deadTE g.edges n.trans.length).length cb).ownBlock = some q → w1.heap.size ≤ q ∧ q < w2.heap.size) := Lib.hid fun q hq => hb.own_at hq
            have hapC : Hid (∀ q, (Value.slice ac hs.length cc).ownBlock = some q → w2.heap.size ≤ q) := Lib.hid fun q hq => (hc.own_at hq).1
            have hga : Hid (∀ q, (Value.slice aa (deadE g.edges).length ca).ownBlock = some q → w9.heap.size ≤ q) := Lib.hid fun q hq => by have := (ha.own_at hq).1; omega
            obtain ⟨dl, hdl⟩ : ∃ dl, deadE g.edges = dl := ⟨_, rfl⟩
            obtain ⟨dt, hdt⟩ : ∃ dt, deadTE g.edges n.trans.length = dt := ⟨_, rfl⟩
            have G4 := refdeadl_any w3 w3.heap.size q n.trans.length g (HU.out w3 b3).2.1 (Nat.le_refl _) HEO.out
            rw [hdl] at G4 Ha3 hapAB hga
            rw [hdt] at Hb3 hapB
            rw [hdl, hdt]
            have hdll : dl.length ≤ 1024 := by rw [← hdl]; exact hDl.out
            have hdtl : dt.length ≤ 8192 := by rw [← hdt]; exact hTl.out
            have HDT := Lib.hid hdt
            have HG4 := Lib.hid G4
            clear G1 G2 G3 G4 ha hb hc ha3 hb3' hb1 hb2 hb3 b1 b2 hdl hdt hbr
            go_wp2_with (first | (go_at_call 29; refine HG4.out.mono ?_; rintro e w4 ⟨vd, rfl, hd, hb4⟩; refine Hid.out ?_))
            refine Lib.hid ?_
            have b4 := b3.trans (hb4.mono b3.size)
            have hz4 := hb4.size
            obtain ⟨ad, cd, rfl⟩ := hd.shape
            have G5 := Lib.hid (refcmp_same w4 w4.heap.size _ _ dl ((Ha3.out.kept hb4 (Nat.le_refl _)).col (by omega) (Nat.le_refl _)) (hd.col (by omega) (Nat.le_refl _)))
            clear HG4
            go_wp2_with (first | (go_at_call 22; refine G5.out.mono ?_; rintro e w5 ⟨rfl, hb5⟩; refine Hid.out ?_))
            refine Lib.hid ?_
            have b5 := b4.trans (hb5.mono b4.size)
            have hb35 := hb4.trans (hb5.mono hz4)
            have G6 := refdead_any w5 w5.heap.size q n.trans.length g (HU.out w5 b5).2.1 (Nat.le_refl _) HEO.out
            rw [HDT.out] at G6
            have HG6 := Lib.hid G6
            clear G5 G6 hd hb4 hb5 b4 hz4
            go_wp2_with (first | (go_at_call 30; refine HG6.out.mono ?_; rintro e w6 ⟨ve, rfl, he, hb6⟩; refine Hid.out ?_))
            refine Lib.hid ?_
            have b6 := b5.trans (hb6.mono b5.size)
            have hb36 := hb35.trans (hb6.mono hb35.size)
            obtain ⟨ae, ce, rfl⟩ := he.shape
            have G7 := Lib.hid (refcmp_same w6 w6.heap.size _ _ dt ((Hb3.out.kept hb36 (Nat.le_refl _)).col (by omega) (Nat.le_refl _)) (he.col (by omega) (Nat.le_refl _)))
            clear HG6
            go_wp2_with (first | (go_at_call 22; refine G7.out.mono ?_; rintro e w7 ⟨rfl, hb7⟩; refine Hid.out ?_))
            refine Lib.hid ?_
            have b7 := b6.trans (hb7.mono b6.size)
            have hb37 := hb36.trans (hb7.mono hb36.size)
            have G8 := Lib.hid (refcmp_same w7 w7.heap.size _ _ hs ((Hc3.out.kept hb37 (Nat.le_refl _)).col (by omega) (Nat.le_refl _)) ((HU.out w7 b7).2.2.mono (Below.refl _ _) b7.size))
            clear G7 he hb6 hb7 b5 b6 hb35 hb36
            go_wp2_with (first | (go_at_call 22; refine G8.out.mono ?_; rintro e w8 ⟨rfl, hb8⟩; refine Hid.out ?_))
            refine Lib.hid ?_
            have b8 := b7.trans (hb8.mono b7.size)
            have hb38 := hb37.trans (hb8.mono hb37.size)
            clear G8 b7 hb8 hb37
            obtain ⟨N, hN⟩ : ∃ N, g.marks.length = N := ⟨_, rfl⟩
            have HLen := Lib.hid (glen_N2 w8 w8.heap.size p _ g hs (HU.out w8 b8).1 hN)
            have HHome : Hid (∀ i : Nat, i < N → Calls Tryd.prog 31 #[.pointer (some ⟨p, 0, none⟩), .int .i64 (i : Int)] w8 fun e w' => e = .returned (.tuple #[.bool (hs.contains (i : Int)), .int .i64 0]) ∧ w8 = w') :=
              Lib.hid fun i hi => ghome_any w8 w8.heap.size p _ g hs (HU.out w8 b8).1 i (by omega)
            have HI8 := Lib.hid (HU.out w8 b8).2.2
            have Ha8 := Lib.hid (Ha3.out.kept hb38 (Nat.le_refl _))
            have Hb8 := Lib.hid (Hb3.out.kept hb38 (Nat.le_refl _))
            have Hc8 := Lib.hid (Hc3.out.kept hb38 (Nat.le_refl _))
            have hNl : N ≤ 1024 := by omega
            clear hN hb38 Ha3 Hb3 Hc3
            go_wp2_with fail
            go_loopg [14] N (fun gh s14 wx => ∃ i : Nat, i + gh = N ∧ s14 = .int .i64 (i : Int) ∧ w8 = wx)
            case atStart => exact ⟨0, by omega, rfl, rfl⟩
            case round =>
              obtain ⟨i, hig, rfl, rfl⟩ := hrel
              by_cases hi : i < N
              · have hiI : (i : Int) < (N : Int) := by omega
                have HH := Lib.hid (HHome.out i hi)
                obtain ⟨tb, htb⟩ : ∃ tb, hs.contains (i : Int) = tb := ⟨_, rfl⟩
                rw [htb] at HH
                have HTB := Lib.hid htb
                clear htb
                go_wp2_with (first | (go_at_call 18; refine HLen.out.mono ?_; rintro e w' ⟨rfl, rfl⟩) | (go_at_call 31; refine HH.out.mono ?_; rintro e w' ⟨rfl, rfl⟩))
                go_loopg [17, 18] hs.length (fun gh s17 s18 wx => ∃ (m : Nat) (sb : Bool), m + gh = hs.length ∧ s18 = .int .i64 (m : Int) ∧ s17 = .bool sb ∧ Hid (sb = (hs.take m).contains (i : Int)) ∧ w8 = wx)
                case atStart => exact ⟨0, false, by omega, rfl, rfl, rfl, rfl⟩
                case round =>
                  obtain ⟨m, sb, hmg, rfl, rfl, hsb, rfl⟩ := hrel
                  by_cases hm : m < hs.length
                  · obtain ⟨bh, oh, rfl, _, hch⟩ := HI8.out.col m hm
                    have hst := Lib.hid (take_has hm (i : Int))
                    have hmI : (m : Int) < (hs.length : Int) := by omega
                    obtain ⟨x, hx⟩ : ∃ x, hs[m] = x := ⟨_, rfl⟩
                    rw [hx] at hch hst
                    clear hx
                    cases sb with
                    | true =>
                      have Hn : Hid (true = (hs.take (m + 1)).contains (i : Int)) := by rw [hst.out, ← hsb.out]; exact rfl
                      go_wp2_with fail
                      go_roundg (gk - 1)
                      case measure => omega
                      case rel => exact ⟨m + 1, true, by omega, by go_num, rfl, Hn, rfl⟩
                    | false =>
                      by_cases hxi : x = (i : Int)
                      · have hd : (x == (i : Int)) = true := by simpa using hxi
                        have Hn : Hid (true = (hs.take (m + 1)).contains (i : Int)) := by rw [hst.out, hd, Bool.or_true]; exact rfl
                        clear hxi
                        go_wp2_with fail
                        go_roundg (gk - 1)
                        case measure => omega
                        case rel => exact ⟨m + 1, true, by omega, by go_num, rfl, Hn, rfl⟩
                      · have hd : (x == (i : Int)) = false := by simpa using hxi
                        have Hn : Hid (false = (hs.take (m + 1)).contains (i : Int)) := by rw [hst.out, hd, ← hsb.out]; exact rfl
                        clear hxi
                        go_wp2_with fail
                        go_roundg (gk - 1)
                        case measure => omega
                        case rel => exact ⟨m + 1, false, by omega, by go_num, rfl, Hn, rfl⟩
                  · have hmI : decide ((m : Int) < (hs.length : Int)) = false := decide_eq_false (by omega)
                    obtain rfl : tb = sb := by rw [← HTB.out, hsb.out, List.take_of_length_le (by omega)]
                    have hbb : (tb != tb) = false := bne_self_eq_false _
                    go_wp2_with fail
                    go_roundg (N - (i + 1))
                    case measure => omega
                    case rel => exact ⟨i + 1, by omega, by go_num, rfl⟩
              · have hiI : ¬ ((i : Int) < (N : Int)) := by omega
                clear HHome HI8
                go_wp2_with (first | (go_at_call 18; refine HLen.out.mono ?_; rintro e w' ⟨rfl, rfl⟩))
                go_loopg [19] dl.length (fun gh s19 wx => ∃ (m : Nat) (la : List Int), m + gh = dl.length ∧ s19 = .int .i64 (m : Int) ∧ la.length = dl.length ∧ Hid (OwnI wx w0.heap.size (.slice aa dl.length ca) la) ∧ Hid (OwnI wx w1.heap.size (.slice ab dt.length cb) dt) ∧ Hid (OwnI wx w2.heap.size (.slice ac hs.length cc) hs) ∧ Below w9.heap.size w9 wx)
                case atStart => exact ⟨0, dl, by omega, rfl, rfl, Ha8, Hb8, Hc8, b8⟩
                case round =>
                  clear Ha8 Hb8 Hc8 HLen b8
                  obtain ⟨m, la, hmg, rfl, hla, hA, hBo, hCo, hbx⟩ := hrel
                  by_cases hm : m < dl.length
                  · have hmI : (m : Int) < (dl.length : Int) := by omega
                    rcases hA.out.val with ⟨_, h0⟩ | ⟨ga, cap, e, _, _⟩
                    · rw [h0] at hla; simp at hla; omega
                    · obtain ⟨rfl, rfl⟩ : aa = some ⟨ga, 0, none⟩ ∧ ca = cap := by injection e with e1 _ e2; exact ⟨e1, e2⟩
                      obtain ⟨hx0, hxf⟩ := hA.out.at (i := m) (by omega)
                      have hS := Lib.hid (hA.out.set m 7)
                      have h1 := hapAB.out ga rfl
                      have hSB := Lib.hid (hBo.out.aside (g := ga) (i := m) (x := .int .i64 7) (fun q hq => by have := hapB.out q hq; omega))
                      have hSC := Lib.hid (hCo.out.aside (g := ga) (i := m) (x := .int .i64 7) (fun q hq => by have := hapC.out q hq; omega))
                      have hbx2 := Below.setCell hbx (p := ⟨ga, m, none⟩) (hga.out ga rfl) (.int .i64 7)
                      clear e
                      go_wp2_with fail
                      go_roundg (gk - 1)
                      case measure => omega
                      case rel => exact ⟨m + 1, la.set m 7, by omega, by go_num, by rw [List.length_set]; exact hla, hS, hSB, hSC, hbx2⟩
                  · have hmI : ¬ ((m : Int) < (dl.length : Int)) := by omega
                    clear hA hla
                    obtain ⟨u0, rfl⟩ : ∃ u0 : World, u0 = wr := ⟨_, rfl⟩
                    go_wp2_with fail
                    go_loopg [20] dt.length (fun gh s20 wx => ∃ (m : Nat) (lb : List Int), m + gh = dt.length ∧ s20 = .int .i64 (m : Int) ∧ lb.length = dt.length ∧ Hid (OwnI wx w1.heap.size (.slice ab dt.length cb) lb) ∧ Hid (OwnI wx w2.heap.size (.slice ac hs.length cc) hs) ∧ Below w9.heap.size w9 wx)
                    case atStart => exact ⟨0, dt, by omega, rfl, rfl, hBo, hCo, hbx⟩
                    case round =>
                      clear hBo hCo hbx hmg hmI
                      obtain ⟨m, lb, hmg, rfl, hlb, hBo, hCo, hbx⟩ := hrel
                      by_cases hm : m < dt.length
                      · have hmI : (m : Int) < (dt.length : Int) := by omega
                        rcases hBo.out.val with ⟨_, h0⟩ | ⟨ga, cap, e, _, _⟩
                        · rw [h0] at hlb; simp at hlb; omega
                        · obtain ⟨rfl, rfl⟩ : ab = some ⟨ga, 0, none⟩ ∧ cb = cap := by injection e with e1 _ e2; exact ⟨e1, e2⟩
                          obtain ⟨hx0, hxf⟩ := hBo.out.at (i := m) (by omega)
                          have hS := Lib.hid (hBo.out.set m 7)
                          have h1 := hapB.out ga rfl
                          have hSC := Lib.hid (hCo.out.aside (g := ga) (i := m) (x := .int .i64 7) (fun q hq => by have := hapC.out q hq; omega))
                          have hbx2 := Below.setCell hbx (p := ⟨ga, m, none⟩) (show w9.heap.size ≤ ga by omega) (.int .i64 7)
                          clear e
                          go_wp2_with fail
                          go_roundg (gk - 1)
                          case measure => omega
                          case rel => exact ⟨m + 1, lb.set m 7, by omega, by go_num, by rw [List.length_set]; exact hlb, hS, hSC, hbx2⟩
                      · have hmI : ¬ ((m : Int) < (dt.length : Int)) := by omega
                        clear hBo hlb
                        obtain ⟨u1, rfl⟩ : ∃ u1 : World, u1 = wr := ⟨_, rfl⟩
                        go_wp2_with fail
                        go_loopg [21] hs.length (fun gh s21 wx => ∃ (m : Nat) (lc : List Int), m + gh = hs.length ∧ s21 = .int .i64 (m : Int) ∧ lc.length = hs.length ∧ Hid (OwnI wx w2.heap.size (.slice ac hs.length cc) lc) ∧ Below w9.heap.size w9 wx)
                        case atStart => exact ⟨0, hs, by omega, rfl, rfl, hCo, hbx⟩
                        case round =>
                          clear hCo hbx hmg hmI
                          obtain ⟨m, lc, hmg, rfl, hlc, hCo, hbx⟩ := hrel
                          by_cases hm : m < hs.length
                          · have hmI : (m : Int) < (hs.length : Int) := by omega
                            rcases hCo.out.val with ⟨_, h0⟩ | ⟨ga, cap, e, _, _⟩
                            · rw [h0] at hlc; simp at hlc; omega
                            · obtain ⟨rfl, rfl⟩ : ac = some ⟨ga, 0, none⟩ ∧ cc = cap := by injection e with e1 _ e2; exact ⟨e1, e2⟩
                              obtain ⟨hx0, hxf⟩ := hCo.out.at (i := m) (by omega)
                              have hS := Lib.hid (hCo.out.set m 7)
                              have h1 := hapC.out ga rfl
                              have hbx2 := Below.setCell hbx (p := ⟨ga, m, none⟩) (show w9.heap.size ≤ ga by omega) (.int .i64 7)
                              clear e
                              go_wp2_with fail
                              go_roundg (gk - 1)
                              case measure => omega
                              case rel => exact ⟨m + 1, lc.set m 7, by omega, by go_num, by rw [List.length_set]; exact hlc, hS, hbx2⟩
                          · have hmI : ¬ ((m : Int) < (hs.length : Int)) := by omega
                            go_wp2_with fail
                            go_roundg (2 - (k + 1))
                            case measure => omega
                            case rel => exact ⟨k + 1, by omega, by go_num, hbx⟩
          · have hkI : ¬ ((k : Int) < 2) := by omega
            go_wp2_with fail
            go_ret
            exact ⟨rfl, B9.trans (hbr.mono B9.size)⟩

end Go.Proofs.YtapnkkoplnhleaaDoor
