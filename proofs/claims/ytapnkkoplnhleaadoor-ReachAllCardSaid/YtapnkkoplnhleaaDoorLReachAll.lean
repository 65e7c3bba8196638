/- The walk of the law ReachAll. -/
import Derived.Test.YtapnkkoplnhleaaDoorLReachShort
import Derived.Test.YtapnkkoplnhleaaDoorNetCmp
set_option maxRecDepth 100000
namespace Go.Proofs.YtapnkkoplnhleaaDoor
open Go.RowKit

/-- What stands at a marking's number. -/
theorem XFull.at {n : Nt} {most : Nat} {g : Gr} (x : XFull n most g) (hm : most ≤ 1024) {i : Nat} (hi : i < g.marks.length) (he : i < g.edges.length) (k : Nat) (hk : k < (n.enE g.marks[i]).length) :
    ∃ q : Nat, ∃ tt : Nat, (n.enE g.marks[i])[k] = (q : Int) ∧ q < n.trans.length ∧ ((n.tr (q : Int)).fireE g.marks[i]).1 = 0 ∧ n.Mark ((n.tr (q : Int)).fireE g.marks[i]).2 ∧ findM g.marks ((n.tr (q : Int)).fireE g.marks[i]).2 = (tt : Int) ∧ ∃ hk2 : k < g.edges[i].length, g.edges[i][k] = ((q : Int), (tt : Int)) := by
  obtain ⟨h1, h2⟩ := x.edges i hi
  have e := mkAt_eq hi
  have ee : edAt g i = g.edges[i] := by simp [edAt, he]
  have hmem := List.getElem_mem hk
  obtain ⟨q, e2, hq, hf0, hM⟩ := x.ok.fires hm hi (t := (n.enE g.marks[i])[k]) (by rw [e]; exact hmem)
  have hx := h2 (n.enE g.marks[i])[k] (by rw [e]; exact hmem)
  obtain ⟨tt, htt⟩ := Int.eq_ofNat_of_zero_le hx
  have hfg : fireG n g i ((n.enE g.marks[i])[k]) = ((n.tr (q : Int)).fireE g.marks[i]).2 := by unfold fireG; rw [e2, e]
  rw [hfg] at htt hM
  rw [e] at hf0
  have hl : g.edges[i].length = (n.enE g.marks[i]).length := by rw [← ee, h1, List.length_map, e]
  refine ⟨q, tt, e2, hq, hf0, hM, htt, by omega, ?_⟩
  have : g.edges[i] = (n.enE g.marks[i]).map (edgeOf n g i) := by rw [← ee, h1, e]
  simp only [this, List.getElem_map, edgeOf]
  rw [hfg, htt, e2]
theorem XFull.elen {n : Nt} {most : Nat} {g : Gr} (x : XFull n most g) {i : Nat} (hi : i < g.marks.length) (he : i < g.edges.length) : g.edges[i].length = (n.enE g.marks[i]).length := by
  have ee : edAt g i = g.edges[i] := by simp [edAt, he]
  rw [← ee, (x.edges i hi).1, List.length_map, mkAt_eq hi]
theorem XFull.rowTo {n : Nt} {most : Nat} {g : Gr} (hok : n.okB = true) (x : XFull n most g) {i : Nat} (hi : i < g.marks.length) : n.rowE (oneL n.places.length n.init) (gwayE g i) = (g.marks[i], ((gwayE g i).length : Int), 0) := by
  obtain ⟨h1, h2⟩ := x.ok.row hi
  have hM0 := (x.ok.mark 0 x.ok.pos).1
  rw [← mkAt_eq x.ok.pos, x.ok.root] at hM0
  rw [rowE_3 (markB_of hok hM0) h2, ← x.ok.root, h1, mkAt_eq hi]

set_option maxHeartbeats 4000000 in
theorem reachAll_walk (W : World) (htab : Pow10 W.heap.size W) (vp vt : Value) (n : Nt) (hn : NtR W W.heap.size vp vt n) (_gn : NtI n) (most : Int) (_ga : (Lit.int .i64 most).wf = true) :
    Calls Tryd.prog 10 #[.agg #[vp, vt, .int .i64 n.init, .int .i64 n.final], .int .i64 most] W fun e w' => e = .returned (.bool true) ∧ Below W.heap.size W w' := by
  have hbA := (Below.refl W.heap.size W).alloc (Nat.le_refl _) (.cells #[vp, vt, .int .i64 n.init, .int .i64 n.final] 25)
  have hboxA := heap_alloc_new W (.cells #[vp, vt, .int .i64 n.init, .int .i64 n.final] 25)
  obtain ⟨W1, hW1⟩ : ∃ W1, W.alloc (.cells #[vp, vt, .int .i64 n.init, .int .i64 n.final] 25) = W1 := ⟨_, rfl⟩
  have hs1 : W1.heap.size = W.heap.size + 1 := by rw [← hW1]; exact World.size_alloc _ _
  rw [hW1] at hbA hboxA
  obtain ⟨ap, cp, rfl⟩ := hn.1.val
  obtain ⟨at_, ct, rfl⟩ := hn.2.val
  have t1 := tab_up (htab.on hbA) (show W.heap.size ≤ W1.heap.size by omega)
  go_enter Tryd.func10, Tryd.ntmps10
  go_wp2_with fail
  refine (works_any _ _ (Nat.le_refl _) t1).mono ?_
  rintro e w2 ⟨rfl, hb2⟩
  have B2 := hbA.trans (hb2.mono (by omega))
  have hz2 := hb2.size
  have hn2 := hn.mono B2 (show W.heap.size ≤ w2.heap.size by omega)
  have hbox2 := box_up hboxA hb2
  obtain ⟨c0, c1, c2, c3⟩ := box4' hbox2
  cases hl : longB n with
  | true =>
    go_wp2_with (first | (go_at_call 11; refine (long_is _ _ _ n _ hn2 hl).mono ?_; rintro e w3 ⟨rfl, hb3⟩; refine Hid.out ?_))
    refine Lib.hid ?_
    have B3 := B2.trans (hb3.mono B2.size)
    have t3 := tab_up (htab.on B3) (show W.heap.size ≤ w3.heap.size by have := B3.size; omega)
    go_wp2_with fail
    refine (works_any _ _ (Nat.le_refl _) t3).mono ?_
    rintro e w4 ⟨rfl, hb4⟩
    go_wp2_with fail
    go_ret
    exact ⟨rfl, B3.trans (hb4.mono B3.size)⟩
  | false =>
    go_wp2_with (first | (go_at_call 11; refine (long_is _ _ _ n _ hn2 hl).mono ?_; rintro e w3 ⟨rfl, hb3⟩; refine Hid.out ?_))
    refine Lib.hid ?_
    have B3 := B2.trans (hb3.mono B2.size)
    have hz3 := hb3.size
    have hn3 := hn2.mono hb3 (show w2.heap.size ≤ w3.heap.size by omega)
    have hbox3 := box_up hbox2 hb3
    clear c0 c1 c2 c3 hl
    obtain ⟨c0, c1, c2, c3⟩ := box4' hbox3
    have t3 := tab_up (htab.on B3) (show W.heap.size ≤ w3.heap.size by have := B3.size; omega)
    rcases expR_cases n most with ⟨c, hc, hc2⟩ | ⟨g, hc, hok, hm1, hm2, hg⟩
    · have G1 := Lib.hid (exp_no _ _ (Nat.le_refl _) _ _ n hn3 _ t3 hc)
      have hcz : (c != 0) = true := by rcases hc2 with ⟨rfl, _⟩ | ⟨rfl, _⟩ <;> rfl
      clear hc hc2
      go_wp2_with (first | (go_at_call 13; refine G1.out.mono ?_; rintro e w4 ⟨rfl, hb4⟩; refine Hid.out ?_))
      refine Lib.hid ?_
      go_wp2_with fail
      go_ret
      exact ⟨rfl, B3.trans (hb4.mono B3.size)⟩
    · have G1 := Lib.hid (exp_ok _ _ (Nat.le_refl _) _ _ n hn3 _ t3 hc)
      obtain ⟨M, rfl⟩ := Int.eq_ofNat_of_zero_le (show 0 ≤ most by omega)
      rw [Int.toNat_natCast] at hg
      have hX := explore_all hok (by omega) (by omega) hg
      have HX := Lib.hid hX
      have hmn : M ≤ 1024 := by omega
      have htwo := (Nt.ok_of hok).two
      have hmany := (Nt.ok_of hok).many
      have hntr := (Nt.ok_of hok).trans
      have HEO := Lib.hid (hX.eok hmn hntr)
      have hle := hX.ok.le
      have hpos := hX.ok.pos
      have HEL := Lib.hid hX.ok.elen
      have Hok := Lib.hid hok
      have hone : n.oneE n.init = oneL n.places.length n.init := by unfold Nt.oneE; rw [hok, if_pos rfl]
      have hce : n.checkE = 0 := by simp [Nt.checkE, hok]
      have HONE := Lib.hid (And.intro hone hce)
      have hd1 : decide ((g.marks.length : Int) < 1) = false := decide_eq_false (by omega)
      have hd2 : decide (M < g.marks.length) = false := decide_eq_false (by omega)
      clear hc hg hok hone hce hX hm1 hm2
      go_wp2_with (first | (go_at_call 13; refine G1.out.mono ?_; rintro e w4 ⟨p4, rfl, hT4, hb4⟩; refine Hid.out ?_))
      refine Lib.hid ?_
      have hz4 := hb4.size
      have hbox4 := box_up hbox3 hb4
      clear c0 c1 c2 c3
      obtain ⟨c0, c1, c2, c3⟩ := box4' hbox4
      have B4 := B3.trans (hb4.mono B3.size)
      have G2 := first_any _ _ _ n _ (Nat.le_refl _) (hn3.mono hb4 hz4)
      rw [HONE.out.1, HONE.out.2] at G2
      have hol : (oneL n.places.length n.init).length = n.places.length := by simp [oneL]
      have HRow := Lib.hid (fun i hi => HX.out.rowTo Hok.out (i := i) hi)
      obtain ⟨m0, hm0⟩ : ∃ m0, oneL n.places.length n.init = m0 := ⟨_, rfl⟩
      rw [hm0] at G2 hol HRow
      have G2' := Lib.hid G2
      have HOL := Lib.hid hol
      clear G2 hm0 hol HONE
      go_wp2_with (first | (go_at_call 34; refine G2'.out.mono ?_; rintro e w5 ⟨v5, rfl, how5, hb5⟩; refine Hid.out ?_))
      refine Lib.hid ?_
      have hz5 := hb5.size
      have hbox5 := box_up hbox4 hb5
      clear c0 c1 c2 c3
      obtain ⟨c0, c1, c2, c3⟩ := box4' hbox5
      have B5 := B4.trans (hb5.mono B4.size)
      have hn5 := hn.mono B5 (show W.heap.size ≤ w5.heap.size by have := B5.size; omega)
      have hT5 := hT4.mono hb5 hz5
      obtain ⟨a5, cc5, rfl⟩ := how5.shape
      have hI5 : Ints w5 w5.heap.size (.slice a5 m0.length cc5) m0 := how5.col (by have := HOL.out; omega) (Nat.le_refl _)
      clear hboxA hbox2 hbox3 hbox4 hn2 hn3 hT4 how5 hb2 hb3 hb4 hb5 t1 t3 B2 B3 B4 G1 G2' hbA
      go_wp2_with (go_at_call 18; refine (glen_any _ _ _ _ g _ (by assumption)).mono ?_; rintro e w8 ⟨rfl, rfl⟩)
      go_loopg [9] g.marks.length (fun gh s9 wr => ∃ i : Nat, i + gh = g.marks.length ∧ s9 = .int .i64 (i : Int) ∧ Below w5.heap.size w5 wr)
      case atStart => exact ⟨0, by omega, rfl, Below.refl _ _⟩
      case round =>
        obtain ⟨i, hig, rfl, hbr⟩ := hrel
        have hzr := hbr.size
        have Br := B5.trans (hbr.mono B5.size)
        have hTr := hT5.mono hbr hzr
        clear c0 c1 c2 c3
        obtain ⟨c0, c1, c2, c3⟩ := box4' (box_up hbox5 hbr)
        by_cases hi2 : i < g.marks.length
        · have hie : i < g.edges.length := by rw [HEL.out]; exact hi2
          have HN1 := gmark_any _ _ p4 _ g _ hTr (Nat.le_refl _) i hi2
          have hat := fun k hk => HX.out.at hmn hi2 hie k hk
          have hel := HX.out.elen hi2 hie
          have hrow := HRow.out i hi2
          have hself := findM_self HX.out.ok.nodup hi2
          have hMk := (HX.out.ok.mark i hi2).1
          have hwl := HX.out.ok.way_le hi2
          obtain ⟨mk, hmk⟩ : ∃ mk, g.marks[i] = mk := ⟨_, rfl⟩
          rw [hmk] at HN1 hat hel hrow hself hMk
          obtain ⟨L, hL⟩ : ∃ L, n.enE mk = L := ⟨_, rfl⟩
          have hLl : L.length ≤ 8192 := by rw [← hL]; exact Nat.le_trans (enGo_len _ _ _) hntr
          rw [hL] at hel
          have hat' : Hid (∀ k (hk : k < L.length), ∃ q : Nat, ∃ tt : Nat, L[k] = (q : Int) ∧ q < n.trans.length ∧ ((n.tr (q : Int)).fireE mk).1 = 0 ∧ n.Mark ((n.tr (q : Int)).fireE mk).2 ∧ findM g.marks ((n.tr (q : Int)).fireE mk).2 = (tt : Int) ∧ ∃ hk2 : k < g.edges[i].length, g.edges[i][k] = ((q : Int), (tt : Int))) := by
            subst hL; exact hat
          have HL := Lib.hid hL
          have hml : mk.length ≤ 4096 := by rw [hMk.len]; exact hmany
          have HN1' := Lib.hid HN1
          have HMk := Lib.hid hMk
          have HRw := Lib.hid hrow
          have HSf := Lib.hid hself
          obtain ⟨wy, hwy⟩ : ∃ wy, gwayE g i = wy := ⟨_, rfl⟩
          rw [hwy] at hwl HRw
          have HWy := Lib.hid hwy
          obtain ⟨er, her⟩ : ∃ er, g.edges[i] = er := ⟨_, rfl⟩
          rw [her] at hel
          have hat2 : Hid (∀ k (hk : k < L.length), ∃ q : Nat, ∃ tt : Nat, L[k] = (q : Int) ∧ q < n.trans.length ∧ ((n.tr (q : Int)).fireE mk).1 = 0 ∧ n.Mark ((n.tr (q : Int)).fireE mk).2 ∧ findM g.marks ((n.tr (q : Int)).fireE mk).2 = (tt : Int) ∧ ∃ hk2 : k < er.length, er[k] = ((q : Int), (tt : Int))) := by
            subst her; exact hat'
          have HEr := Lib.hid her
          have HEl := Lib.hid hel
          clear HN1 hat hat' hel hrow hself hMk hmk hL hwy her
          go_wp2_with (go_at_call 18; refine (glen_any _ _ _ _ g _ (by assumption)).mono ?_; rintro e w8 ⟨rfl, rfl⟩; refine Hid.out ?_)
          refine Lib.hid ?_
          go_wp2_with (first | (go_at_call 19; refine HN1'.out.mono ?_; rintro e w8 ⟨v8, rfl, how8, hb8⟩; refine Hid.out ?_))
          refine Lib.hid ?_
          have hz8 := hb8.size
          obtain ⟨a8, c8, rfl⟩ := how8.shape
          have hT8 := hTr.mono hb8 hz8
          have hI8 : Ints w8 w8.heap.size (.slice a8 mk.length c8) mk := how8.col (by omega) (Nat.le_refl _)
          have HE1 := gedges_any _ _ p4 _ g _ hT8 (Nat.le_refl _) HEO.out HEL.out i hie
          rw [HEr.out] at HE1
          have HE1' := Lib.hid HE1
          clear HE1 how8
          go_wp2_with (first | (go_at_call 20; refine HE1'.out.mono ?_; rintro e w9 ⟨v9, rfl, how9, hb9⟩; refine Hid.out ?_))
          refine Lib.hid ?_
          have hz9 := hb9.size
          have hT9 := hT8.mono hb9 hz9
          have hI9 := hI8.mono hb9 hz9
          have hP9 := RowE.prs how9 (by rw [HEl.out]; omega) (Nat.le_refl _)
          obtain ⟨a9, c9, rfl⟩ := OwnF.shape how9
          have HY := gway_any _ _ p4 _ g _ hT9 (Nat.le_refl _) HX.out.ok hmn i hi2
          rw [HWy.out] at HY
          have HY' := Lib.hid HY
          clear HY how9
          go_wp2_with (first | (go_at_call 21; refine HY'.out.mono ?_; rintro e w10 ⟨v10, rfl, how10, hb10⟩; refine Hid.out ?_))
          refine Lib.hid ?_
          have hz10 := hb10.size
          have hT10 := hT9.mono hb10 hz10
          have hI10 := hI9.mono hb10 hz10
          have hP10 := hP9.mono hb10 hz10
          obtain ⟨a10, c10, rfl⟩ := how10.shape
          have hW10 : Ints w10 w10.heap.size (.slice a10 wy.length c10) wy := how10.col (by omega) (Nat.le_refl _)
          have h810 : Below wr.heap.size wr w10 := hb8.trans ((hb9.trans (hb10.mono hz9)).mono hz8)
          clear how10
          clear c0 c1 c2 c3
          obtain ⟨c0, c1, c2, c3⟩ := box4' (box_up (box_up hbox5 hbr) h810)
          have hz810 := h810.size
          have hn10 := hn5.mono (hbr.trans (h810.mono hzr)) (show w5.heap.size ≤ w10.heap.size by omega)
          have HE2 := Lib.hid (enabledNet_yes _ _ _ _ n Hok.out mk HMk.out _ (Nat.le_refl _) hn10 hI10 L HL.out)
          go_wp2_with (first | (go_at_call 37; refine HE2.out.mono ?_; rintro e w11 ⟨v11, rfl, how11, hb11⟩; refine Hid.out ?_))
          refine Lib.hid ?_
          have hz11 := hb11.size
          obtain ⟨a11, c11, rfl⟩ := how11.shape
          have hL11 : Ints w11 w11.heap.size (.slice a11 L.length c11) L := how11.col (by omega) (Nat.le_refl _)
          have hT11 := hT10.mono hb11 hz11
          have hI11 := hI10.mono hb11 hz11
          have hP11 := hP10.mono hb11 hz11
          have hW11 := hW10.mono hb11 hz11
          have hn11 := hn10.mono hb11 hz11
          have hI511 := (hI5.mono hbr hzr).mono (h810.trans (hb11.mono hz810)) (show wr.heap.size ≤ w11.heap.size by omega)
          have hbox11 := box_up (box_up (box_up hbox5 hbr) h810) hb11
          have hb811 := h810.trans (hb11.mono hz810)
          rw [HEl.out] at hP11 ⊢
          clear c0 c1 c2 c3 how11 hT8 hT9 hT10 hI8 hI9 hI10 hP9 hP10 hW10 hn10 h810 hb8 hb9 hb10 hb11 hTr
          go_wp2_with fail
          have HN := Lib.hid (And.intro hn11 (And.intro hT11 (And.intro hI11 hI511)))
          have HPr := Lib.hid hP11
          clear hn11 hT11 hI11 hI511
          go_loopg [18] L.length (fun gh s18 wx => ∃ k : Nat, k + gh = L.length ∧ s18 = .int .i64 (k : Int) ∧ Below w11.heap.size w11 wx)
          case atStart => exact ⟨0, by omega, rfl, Below.refl _ _⟩
          case round =>
            obtain ⟨k, hkg, rfl, hbk⟩ := hrel
            have hzk := hbk.size
            have hbox12 := box_up hbox11 hbk
            have hN := lt_of_block hbox12
            obtain ⟨c0, c1, c2, c3⟩ := box4' hbox12
            by_cases hk : k < L.length
            · obtain ⟨q, tt, hq, hqt, hf0, hMr, hfd, hk2, hek⟩ := hat2.out k hk
              obtain ⟨bl, ol, hal, hbl, hcl⟩ := hL11.col k hk
              obtain rfl := hal
              rw [hq] at hcl
              obtain ⟨be, oe, rfl, hbe, he0, he1⟩ := Prs.at HPr.out hk2
              rw [hek] at he0 he1
              rw [← Below.cellB hbk hbl] at hcl
              rw [← Below.cellB hbk hbe] at he0 he1
              obtain ⟨r, hr⟩ : ∃ r, ((n.tr (q : Int)).fireE mk).2 = r := ⟨_, rfl⟩
              have hdr : Below wr.heap.size wr wr.drew := (Below.refl _ _).drew
              have HF := Lib.hid (fireNet_yes wr.drew _ _ _ n Hok.out mk HMk.out q hqt hf0 wr.heap.size (Nat.le_refl _) ((HN.out.1.mono hbk hzk).mono hdr (Nat.le_refl _)) ((HN.out.2.2.1.mono hbk hzk).mono hdr (Nat.le_refl _)) r hr)
              rw [hr] at hMr hfd
              have HMr := Lib.hid hMr
              have HFd := Lib.hid hfd
              have hrl : r.length ≤ 4096 := by rw [hMr.len]; exact hmany
              have hblk : bl < wr.heap.size := by omega
              clear hq hf0 hMr hfd hek hr
              go_upto_region 23 with fail
              go_cut [19, 20] (fun s19 s20 wx => ∃ w12 ar cr, w12 = wx ∧ s19 = .slice ar r.length cr ∧ s20 = .int .i64 0 ∧ OwnI w12 wr.heap.size (.slice ar r.length cr) r ∧ Below wr.heap.size wr w12)
              case first =>
                go_region_held3 (fun w' => w'.cell? ⟨W.heap.size, 0, none⟩ = some (.slice ap n.places.length cp) ∧ w'.cell? ⟨W.heap.size, 1, none⟩ = some (.slice at_ n.trans.length ct) ∧ w'.cell? ⟨W.heap.size, 2, none⟩ = some (.int .i64 n.init) ∧ w'.cell? ⟨W.heap.size, 3, none⟩ = some (.int .i64 n.final) ∧ w'.cell? ⟨bl, ol + k, none⟩ = some (.int .i64 (q : Int)))
                  (first | go_keep | (refine ⟨?_, ?_, ?_, ?_, ?_⟩ <;> (first | (rw [Below.cellB HB7 hN]; assumption) | (rw [Below.cellB HB7 hblk]; assumption))))
                  (first | (go_at_call 38; refine HF.out.mono ?_; rintro e w12 ⟨v12, rfl, how12, hb12⟩; have HB7 : Below wr.heap.size wr w12 := hdr.trans hb12))
                go_wp2_with fail
                obtain ⟨ar, cr, rfl⟩ := how12.shape
                go_wp2_with fail
                go_meet
                case rel => exact ⟨_, _, _, rfl, rfl, rfl, how12, HB7⟩
              case rest =>
                obtain ⟨w12, ar, cr, rfl, rfl, rfl, how12, hb12⟩ := hcut
                have hz12 := hb12.size
                have hT12 := (HN.out.2.1.mono hbk hzk).mono hb12 hz12
                have B12 := Br.trans (((hb811.trans (hbk.mono (by omega))).trans (hb12.mono (by omega))).mono Br.size)
                have HC := gfind_any _ _ p4 _ g _ hT12 (Nat.le_refl _) (tab_up (htab.on B12) (show W.heap.size ≤ w12.heap.size by have := B12.size; omega)) _ r (how12.col (by omega) (Nat.le_refl _)) (mark_in64 HMr.out) hrl
                have hfe : foundE g.marks r = (tt : Int) := by unfold foundE; rw [HFd.out, if_pos (by omega)]
                have hde : decide (0 ≤ findM g.marks r) = true := by rw [HFd.out]; exact decide_eq_true (by omega)
                rw [hfe, hde] at HC
                have HC' := Lib.hid HC
                clear HC hfe hde how12
                go_wp2_with (first | (go_at_call 16; refine HC'.out.mono ?_; rintro e w13 ⟨rfl, hb13⟩; refine Hid.out ?_))
                refine Lib.hid ?_
                have hz13 := hb13.size
                have h13 : Below wr.heap.size wr w13 := hb12.trans (hb13.mono hz12)
                rw [← Below.cellB h13 hblk] at hcl
                rw [← Below.cellB h13 (by omega)] at he0 he1
                go_wp2_with fail
                go_quiet (fail)
                go_wp2_with fail
                go_roundg (gk - 1)
                case measure => omega
                case rel => exact ⟨k + 1, by omega, by go_num, below_drewN (hbk.trans (h13.mono hzk)) _⟩
            · have hkn : ¬ ((k : Int) < (L.length : Int)) := by omega
              have hI5k := (HN.out.2.2.2.mono hbk hzk)
              have hWk := hW11.mono hbk hzk
              have hIk := (HN.out.2.2.1.mono hbk hzk)
              have HR := row_any wr _ _ _ _ n m0 wy wr.heap.size (Nat.le_refl _) (HN.out.1.mono hbk hzk) hI5k hWk
              rw [HRw.out] at HR
              have HR' := Lib.hid HR
              clear HR
              go_wp2_with (first | (go_at_call 35; refine HR'.out.mono ?_; rintro e w12 ⟨v12, rfl, how12, hb12⟩; refine Hid.out ?_))
              refine Lib.hid ?_
              have hz12 := hb12.size
              obtain ⟨a12, c12, rfl⟩ := how12.shape
              have hI12 : Ints w12 w12.heap.size (.slice a12 mk.length c12) mk := how12.col (by show mk.length ≤ _; omega) (Nat.le_refl _)
              have hT12 := (HN.out.2.1.mono hbk hzk).mono hb12 hz12
              have hIk12 := hIk.mono hb12 hz12
              have B12 := Br.trans (((hb811.trans (hbk.mono (by omega))).trans (hb12.mono (by omega))).mono Br.size)
              have HC := gfind_any _ _ p4 _ g _ hT12 (Nat.le_refl _) (tab_up (htab.on B12) (show W.heap.size ≤ w12.heap.size by have := B12.size; omega)) _ mk hIk12 (mark_in64 HMk.out) hml
              have hfe : foundE g.marks mk = (i : Int) := by unfold foundE; rw [HSf.out, if_pos (by omega)]
              have hde : decide (0 ≤ findM g.marks mk) = true := by rw [HSf.out]; exact decide_eq_true (by omega)
              rw [hfe, hde] at HC
              have HC' := Lib.hid HC
              clear HC hfe hde how12
              go_wp2_with (first | (go_at_call 16; refine HC'.out.mono ?_; rintro e w13 ⟨rfl, hb13⟩; refine Hid.out ?_))
              refine Lib.hid ?_
              have hz13 := hb13.size
              have HP := cmp_any _ _ _ _ mk mk (hI12.mono hb13 hz13) (hIk12.mono hb13 hz13)
              rw [cmpL_self] at HP
              have HP' := Lib.hid HP
              have hgt : decide ((i : Int) < (wy.length : Int)) = false := decide_eq_false (by omega)
              clear HP
              go_wp2_with (first | (go_at_call 36; refine HP'.out.mono ?_; rintro e w14 ⟨rfl, rfl⟩; refine Hid.out ?_))
              refine Lib.hid ?_
              go_wp2_with fail
              go_roundg (g.marks.length - (i + 1))
              case measure => omega
              case rel => exact ⟨i + 1, by omega, by go_num, hbr.trans ((hb811.trans ((hbk.trans ((hb12.trans (hb13.mono hz12)).mono hzk)).mono (by omega))).mono (by omega))⟩
        · have hk' : ¬ ((i : Int) < (g.marks.length : Int)) := by omega
          go_wp2_with (go_at_call 18; refine (glen_any _ _ _ _ g _ (by assumption)).mono ?_; rintro e w8 ⟨rfl, rfl⟩)
          go_ret
          exact ⟨rfl, Br⟩

end Go.Proofs.YtapnkkoplnhleaaDoor
