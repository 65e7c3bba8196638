/- The walk of the law ReachShort. -/
import Derived.Test.YtapnkkoplnhleaaDoorReachWorks
import Derived.Test.YtapnkkoplnhleaaDoorOpenNet
import Derived.Test.YtapnkkoplnhleaaDoorNetCmp
set_option maxRecDepth 100000
namespace Go.Proofs.YtapnkkoplnhleaaDoor
open Go.RowKit

theorem box_up {w w' : World} {N : Nat} {o : Obj} (h : w.heap[N]? = some o) (hb : Below w.heap.size w w') : w'.heap[N]? = some o := (hb.block N (lt_of_block h)).trans h
theorem take_col {α : Type} {mk : α → Value} {L : Nat} {w : World} {B : Nat} {a : Option Addr} {cap c : Nat} {l : List α} (h : ColV mk L w B (.slice a l.length cap) l) (hc : c ≤ l.length) : ColV mk L w B (.slice a c cap) (l.take c) := by
  refine ⟨a, cap, by rw [List.length_take, Nat.min_eq_left hc], by rw [List.length_take]; have := h.len; omega, by rw [List.length_take]; have := h.cap; omega, fun i hi => ?_⟩
  have hi' : i < l.length := by rw [List.length_take] at hi; omega
  obtain ⟨b, o, ha, hb, hcell⟩ := h.col i hi'
  exact ⟨b, o, ha, hb, by rw [hcell, List.getElem_take]⟩

theorem short_law {n : Nt} (hok : n.okB = true) {most : Nat} {g : Gr} (x : XFull n most g) (row : List Int) (i : Nat) (hi : i ≤ row.length) (hk : (i : Int) ≤ (n.rowE (oneL n.places.length n.init) row).2.1) :
    ∃ m', n.rowE (oneL n.places.length n.init) (row.take i) = (m', (i : Int), 0) ∧ n.Mark m' ∧ ∃ j : Nat, j < g.marks.length ∧ findM g.marks m' = (j : Int) ∧ (gwayE g j).length ≤ i := by
  have hroot := x.ok.root
  have hM0 := (x.ok.mark 0 x.ok.pos).1
  rw [← mkAt_eq x.ok.pos, hroot] at hM0
  have hb := markB_of hok hM0
  have fin : ∀ (m' : List Int) (j : Nat), j < g.marks.length → mkAt g j = m' → findM g.marks m' = (j : Int) := by
    intro m' j hj e
    rw [← e, mkAt_eq hj]
    exact findM_self x.ok.nodup hj
  cases hbad : row.any n.badT with
  | true =>
    rw [rowE_2 hb hbad] at hk
    have h0 : i = 0 := by simp at hk; omega
    subst h0
    refine ⟨oneL n.places.length n.init, ?_, hM0, 0, x.ok.pos, fin _ 0 x.ok.pos hroot, by simp [gway_zero]⟩
    rw [List.take_zero, rowE_3 hb rfl]; rfl
  | false =>
    rw [rowE_3 hb hbad] at hk
    have htb : (row.take i).any n.badT = false := by
      rw [List.any_eq_false] at hbad ⊢
      exact fun t ht => hbad t (List.mem_of_mem_take ht)
    have h0 := rowGo_take n row (oneL n.places.length n.init) i 0 (by omega)
    have h1 := rowGo_all n (row.take i) (oneL n.places.length n.init) 0 h0
    have h2 := rowGo_mark n (row.take i) (oneL n.places.length n.init) 0 hM0 htb h0
    obtain ⟨j, hj, hm, hd⟩ := x.short (row.take i) _ 0 0 x.ok.pos hroot htb h0
    refine ⟨_, ?_, h2, j, hj, fin _ j hj hm, ?_⟩
    · rw [rowE_3 hb htb]
      rw [List.length_take, Nat.min_eq_left hi] at h1
      exact Prod.ext rfl (Prod.ext (by rw [h1]; simp) h0)
    · rw [List.length_take, Nat.min_eq_left hi] at hd
      have : dep g 0 = 0 := rfl
      unfold dep at hd this
      omega

set_option maxHeartbeats 4000000 in
theorem reachShort_walk (W : World) (htab : Pow10 W.heap.size W) (vp vt : Value) (n : Nt) (hn : NtR W W.heap.size vp vt n) (_gn : NtI n) (most : Int) (_ga : (Lit.int .i64 most).wf = true) (vr : Value) (row : List Int) (hr : Ints W W.heap.size vr row) (_gr : I64s row) :
    Calls Tryd.prog 7 #[.agg #[vp, vt, .int .i64 n.init, .int .i64 n.final], .int .i64 most, vr] W fun e w' => e = .returned (.bool true) ∧ Below W.heap.size W w' := by
  have hbA := (Below.refl W.heap.size W).alloc (Nat.le_refl _) (.cells #[vp, vt, .int .i64 n.init, .int .i64 n.final] 25)
  have hboxA := heap_alloc_new W (.cells #[vp, vt, .int .i64 n.init, .int .i64 n.final] 25)
  obtain ⟨W1, hW1⟩ : ∃ W1, W.alloc (.cells #[vp, vt, .int .i64 n.init, .int .i64 n.final] 25) = W1 := ⟨_, rfl⟩
  have hs1 : W1.heap.size = W.heap.size + 1 := by rw [← hW1]; exact World.size_alloc _ _
  rw [hW1] at hbA hboxA
  have hlr := hr.len
  obtain ⟨ap, cp, rfl⟩ := hn.1.val
  obtain ⟨at_, ct, rfl⟩ := hn.2.val
  obtain ⟨ar, cr, rfl⟩ := hr.val
  have hcap := hr.cap
  have t1 := tab_up (htab.on hbA) (show W.heap.size ≤ W1.heap.size by omega)
  go_enter Tryd.func7, Tryd.ntmps7
  go_wp2_with fail
  refine (works_any _ _ (Nat.le_refl _) t1).mono ?_
  rintro e w2 ⟨rfl, hb2⟩
  have B2 := hbA.trans (hb2.mono (by omega))
  have hz2 := hb2.size
  have hn2 := hn.mono B2 (show W.heap.size ≤ w2.heap.size by omega)
  have hbox2 := box_up hboxA hb2
  obtain ⟨c0, c1, c2, c3⟩ := box4' hbox2
  cases hl : longB n with
  | true =>
    go_wp2_with (first | (go_at_call 11; refine (long_is _ _ _ n _ hn2 hl).mono ?_; rintro e w3 ⟨rfl, hb3⟩; refine Hid.out ?_))
    refine Lib.hid ?_
    have B3 := B2.trans (hb3.mono B2.size)
    have t3 := tab_up (htab.on B3) (show W.heap.size ≤ w3.heap.size by have := B3.size; omega)
    go_wp2_with fail
    refine (works_any _ _ (Nat.le_refl _) t3).mono ?_
    rintro e w4 ⟨rfl, hb4⟩
    go_wp2_with fail
    go_ret
    exact ⟨rfl, B3.trans (hb4.mono B3.size)⟩
  | false =>
    go_wp2_with (first | (go_at_call 11; refine (long_is _ _ _ n _ hn2 hl).mono ?_; rintro e w3 ⟨rfl, hb3⟩; refine Hid.out ?_))
    refine Lib.hid ?_
    have B3 := B2.trans (hb3.mono B2.size)
    have hz3 := hb3.size
    have hn3 := hn2.mono hb3 (show w2.heap.size ≤ w3.heap.size by omega)
    have hbox3 := box_up hbox2 hb3
    clear c0 c1 c2 c3 hl
    obtain ⟨c0, c1, c2, c3⟩ := box4' hbox3
    have t3 := tab_up (htab.on B3) (show W.heap.size ≤ w3.heap.size by have := B3.size; omega)
    by_cases hlong : 200 < row.length
    · have hd : decide ((200 : Int) < (row.length : Int)) = true := decide_eq_true (by omega)
      go_wp2_with fail
      refine (works_any _ _ (Nat.le_refl _) t3).mono ?_
      rintro e w4 ⟨rfl, hb4⟩
      go_wp2_with fail
      go_ret
      exact ⟨rfl, B3.trans (hb4.mono B3.size)⟩
    · have hd : decide ((200 : Int) < (row.length : Int)) = false := decide_eq_false (by omega)
      rcases expR_cases n most with ⟨c, hc, hc2⟩ | ⟨g, hc, hok, hm1, hm2, hg⟩
      · have G1 := Lib.hid (exp_no _ _ (Nat.le_refl _) _ _ n hn3 _ t3 hc)
        have hcz : (c != 0) = true := by rcases hc2 with ⟨rfl, _⟩ | ⟨rfl, _⟩ <;> rfl
        clear hc hc2
        go_wp2_with (first | (go_at_call 13; refine G1.out.mono ?_; rintro e w4 ⟨rfl, hb4⟩; refine Hid.out ?_))
        refine Lib.hid ?_
        have hz4 := hb4.size
        have hbox4 := box_up hbox3 hb4
        clear c0 c1 c2 c3
        obtain ⟨c0, c1, c2, c3⟩ := box4' hbox4
        have B4 := B3.trans (hb4.mono B3.size)
        have G2 := Lib.hid (first_any _ _ _ n _ (Nat.le_refl _) (hn3.mono hb4 hz4))
        go_wp2_with (first | (go_at_call 34; refine G2.out.mono ?_; rintro e w5 ⟨v5, rfl, how5, hb5⟩; refine Hid.out ?_))
        refine Lib.hid ?_
        go_wp2_with fail
        go_ret
        exact ⟨rfl, B4.trans (hb5.mono B4.size)⟩
      · have G1 := Lib.hid (exp_ok _ _ (Nat.le_refl _) _ _ n hn3 _ t3 hc)
        have hX := explore_all hok (by omega) (by omega) hg
        have HX := Lib.hid hX
        have hmn : most.toNat ≤ 1024 := by omega
        have HA := Lib.hid (short_law hok hX row)
        have htwo := (Nt.ok_of hok).two
        have hmany := (Nt.ok_of hok).many
        have hone : n.oneE n.init = oneL n.places.length n.init := by unfold Nt.oneE; rw [hok, if_pos rfl]
        have hce : n.checkE = 0 := by simp [Nt.checkE, hok]
        have HONE := Lib.hid (And.intro hone hce)
        clear hc hg hok hone hce hX
        go_wp2_with (first | (go_at_call 13; refine G1.out.mono ?_; rintro e w4 ⟨p4, rfl, hT4, hb4⟩; refine Hid.out ?_))
        refine Lib.hid ?_
        have hz4 := hb4.size
        have hbox4 := box_up hbox3 hb4
        clear c0 c1 c2 c3
        obtain ⟨c0, c1, c2, c3⟩ := box4' hbox4
        have B4 := B3.trans (hb4.mono B3.size)
        have G2 := first_any _ _ _ n _ (Nat.le_refl _) (hn3.mono hb4 hz4)
        rw [HONE.out.1, HONE.out.2] at G2
        have hol : (oneL n.places.length n.init).length = n.places.length := by simp [oneL]
        obtain ⟨m0, hm0⟩ : ∃ m0, oneL n.places.length n.init = m0 := ⟨_, rfl⟩
        rw [hm0] at G2 HA hol
        have G2' := Lib.hid G2
        have HOL := Lib.hid hol
        clear G2 hm0 hol HONE
        go_wp2_with (first | (go_at_call 34; refine G2'.out.mono ?_; rintro e w5 ⟨v5, rfl, how5, hb5⟩; refine Hid.out ?_))
        refine Lib.hid ?_
        have hz5 := hb5.size
        have hbox5 := box_up hbox4 hb5
        clear c0 c1 c2 c3
        obtain ⟨c0, c1, c2, c3⟩ := box4' hbox5
        have B5 := B4.trans (hb5.mono B4.size)
        have hn5 := hn.mono B5 (show W.heap.size ≤ w5.heap.size by have := B5.size; omega)
        have hr5 := hr.mono B5 (show W.heap.size ≤ w5.heap.size by have := B5.size; omega)
        have hT5 := hT4.mono hb5 hz5
        obtain ⟨a5, cc5, rfl⟩ := how5.shape
        have hI5 : Ints w5 w5.heap.size (.slice a5 m0.length cc5) m0 := how5.col (by have := HOL.out; omega) (Nat.le_refl _)
        have G3 := row_any _ _ _ _ _ n m0 row _ (Nat.le_refl _) hn5 hI5 hr5
        obtain ⟨mr, kk, ee, hre⟩ : ∃ mr kk ee, n.rowE m0 row = (mr, kk, ee) := ⟨_, _, _, rfl⟩
        have HA2 : Hid (∀ i : Nat, i ≤ row.length → (i : Int) ≤ kk → ∃ m', n.rowE m0 (row.take i) = (m', (i : Int), 0) ∧ n.Mark m' ∧ ∃ j : Nat, j < g.marks.length ∧ findM g.marks m' = (j : Int) ∧ (gwayE g j).length ≤ i) := fun i h1 h2 => HA.out i h1 (by rw [hre]; exact h2)
        rw [hre] at G3
        have G3' := Lib.hid G3
        clear G3 hre HA G1 G2'
        go_wp2_with (first | (go_at_call 35; refine G3'.out.mono ?_; rintro e w6 ⟨v6, rfl, how6, hb6⟩; refine Hid.out ?_))
        refine Lib.hid ?_
        have hz6 := hb6.size
        have B6 := B5.trans (hb6.mono B5.size)
        have hI6 := hI5.mono hb6 hz6
        have hT6 := hT5.mono hb6 hz6
        have hn6 := hn5.mono hb6 hz6
        have hr6 := hr5.mono hb6 hz6
        have hbox6 := box_up hbox5 hb6
        clear c0 c1 c2 c3 hI5 hT5 hn5 hr5 hbox5 hbox4 hbox3 hbox2 hboxA hT4 hn3 hn2 hb2 hb3 hb4 hb5 hb6 how5 how6 t1 t3 B2 B3 B4 B5 G3' hbA
        go_wp2_with fail
        go_loopg [14] (row.length + 1) (fun gh s14 wr => ∃ i : Nat, i + gh = row.length + 1 ∧ s14 = .int .i64 (i : Int) ∧ Below w6.heap.size w6 wr)
        case atStart => exact ⟨0, by omega, rfl, Below.refl _ _⟩
        case round =>
          obtain ⟨i, hig, rfl, hbr⟩ := hrel
          have hzr := hbr.size
          have Br := B6.trans (hbr.mono B6.size)
          obtain ⟨c0, c1, c2, c3⟩ := box4' (box_up hbox6 hbr)
          by_cases hk1 : (i : Int) ≤ kk
          · by_cases hk2 : i ≤ row.length
            · have hd1 : decide ((i : Int) ≤ kk) = true := decide_eq_true hk1
              have hd2 : decide ((i : Int) ≤ (row.length : Int)) = true := decide_eq_true (by omega)
              obtain ⟨m', hm', hM, j, hj, hf, hw⟩ := HA2.out i hk2 hk1
              have hN : W.heap.size < wr.heap.size := by have := lt_of_block (box_up hbox6 hbr); omega
              have hccI : (i : Int) ≤ (cr : Int) := by omega
              have hcI : (0 : Int) ≤ (i : Int) := by omega
              have hcc : i ≤ cr := by omega
              have hrr := hr6.mono hbr hzr
              have hrt : Ints wr wr.heap.size (.slice ar i cr) (row.take i) := take_col hrr hk2
              have hD : Below wr.heap.size wr wr.drew := (Below.refl _ _).drew
              have HR := row_any wr.drew _ _ _ _ n m0 (row.take i) wr.heap.size (Nat.le_refl _) ((hn6.mono hbr hzr).mono hD (Nat.le_refl _)) ((hI6.mono hbr hzr).mono hD (Nat.le_refl _)) (hrt.mono hD (Nat.le_refl _))
              rw [hm'] at HR
              have HR' := Lib.hid HR
              have hTr := hT6.mono hbr hzr
              have hml : m'.length ≤ 4096 := by rw [hM.len]; exact hmany
              have HM := Lib.hid hM
              have HFd := Lib.hid hf
              clear HR hm' hrt hrr hM hf
              go_wp2_with fail
              go_cut [15, 16, 17] (fun s15 s16 s17 wx => ∃ w7, w7 = wx ∧ ∃ v, s15 = v ∧ OwnI w7 wr.heap.size v m' ∧ s16 = .int .i64 (i : Int) ∧ s17 = .int .i64 0 ∧ Below wr.heap.size wr w7)
              case first =>
                go_region_held3 (fun w' => w'.cell? ⟨W.heap.size, 0, none⟩ = some (.slice ap n.places.length cp) ∧ w'.cell? ⟨W.heap.size, 1, none⟩ = some (.slice at_ n.trans.length ct) ∧ w'.cell? ⟨W.heap.size, 2, none⟩ = some (.int .i64 n.init) ∧ w'.cell? ⟨W.heap.size, 3, none⟩ = some (.int .i64 n.final))
                  (first | go_keep | (refine ⟨?_, ?_, ?_, ?_⟩ <;> (rw [Below.cellB HB7 hN]; assumption)))
                  (first | (go_at_call 35; refine HR'.out.mono ?_; rintro e w7 ⟨v7, rfl, how7, hb7⟩; have HB7 : Below wr.heap.size wr w7 := hD.trans hb7))
                go_wp2_with fail
                go_meet
                case rel => exact ⟨_, rfl, _, rfl, how7, rfl, rfl, HB7⟩
              case rest =>
                obtain ⟨w7, rfl, v7, rfl, how7, rfl, rfl, hb7⟩ := hcut
                have hz7 := hb7.size
                obtain ⟨a7, c7, rfl⟩ := how7.shape
                have hT7 := hTr.mono hb7 hz7
                have B7 := Br.trans (hb7.mono Br.size)
                have HC := gfind_any _ _ p4 _ g _ hT7 (Nat.le_refl _) (tab_up (htab.on B7) (show W.heap.size ≤ w7.heap.size by have := B7.size; omega)) _ m' (how7.col (by omega) (Nat.le_refl _)) (mark_in64 HM.out) hml
                have hfe : foundE g.marks m' = (j : Int) := by unfold foundE; rw [HFd.out, if_pos (by omega)]
                have hde : decide (0 ≤ findM g.marks m') = true := by rw [HFd.out]; exact decide_eq_true (by omega)
                rw [hfe, hde] at HC
                have HC' := Lib.hid HC
                clear HC hfe hde how7
                go_wp2_with (first | (go_at_call 16; refine HC'.out.mono ?_; rintro e w8 ⟨rfl, hb8⟩; refine Hid.out ?_))
                refine Lib.hid ?_
                have hz8 := hb8.size
                have hT8 := hT7.mono hb8 hz8
                have HY := gway_any _ _ p4 _ g _ hT8 (Nat.le_refl _) HX.out.ok hmn j hj
                obtain ⟨wy, hwy⟩ : ∃ wy, gwayE g j = wy := ⟨_, rfl⟩
                rw [hwy] at HY hw
                have HY' := Lib.hid HY
                clear HY hwy
                go_wp2_with (first | (go_at_call 21; refine HY'.out.mono ?_; rintro e w9 ⟨v9, rfl, how9, hb9⟩; refine Hid.out ?_))
                refine Lib.hid ?_
                obtain ⟨a9, c9, rfl⟩ := how9.shape
                have hgt : decide ((i : Int) < (wy.length : Int)) = false := decide_eq_false (by omega)
                go_wp2_with fail
                go_roundg (gk - 1)
                case measure => omega
                case rel => exact ⟨i + 1, by omega, by go_num, hbr.trans ((hb7.trans ((hb8.trans (hb9.mono hz8)).mono hz7)).mono hzr)⟩
            · have hd2 : decide ((i : Int) ≤ (row.length : Int)) = false := decide_eq_false (by omega)
              have hd1 : decide ((i : Int) ≤ kk) = true := decide_eq_true hk1
              go_wp2_with fail
              go_ret
              exact ⟨rfl, Br⟩
          · have hd1 : decide ((i : Int) ≤ kk) = false := decide_eq_false hk1
            go_wp2_with fail
            go_ret
            exact ⟨rfl, Br⟩

end Go.Proofs.YtapnkkoplnhleaaDoor
