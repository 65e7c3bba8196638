/- The walk of the law ReachBudget. -/
import Derived.Test.YtapnkkoplnhleaaDoorReachWorks
import Derived.Test.YtapnkkoplnhleaaDoorOpenNet
import Derived.Test.YtapnkkoplnhleaaDoorNetCmp
set_option maxRecDepth 100000
namespace Go.Proofs.YtapnkkoplnhleaaDoor
open Go.RowKit

theorem u64_nn (x : Int) : ∃ u : Nat, IntKind.u64.wrap x = (u : Int) := by
  have h : 0 ≤ IntKind.u64.wrap x := by
    simp only [IntKind.wrap, IntKind.bits, IntKind.signed]
    simp
    exact Int.emod_nonneg _ (by decide)
  exact Int.eq_ofNat_of_zero_le h
theorem box_up {w w' : World} {N : Nat} {o : Obj} (h : w.heap[N]? = some o) (hb : Below w.heap.size w w') : w'.heap[N]? = some o := (hb.block N (lt_of_block h)).trans h

theorem rbudget_law (n : Nt) (lo hi : Nat) (h : lo ≤ hi) (hh : hi < 1024) :
    (expR n (1 + (lo : Int)) = .inl 1 ∧ expR n (1 + (hi : Int)) = .inl 1) ∨ (expR n (1 + (lo : Int)) = .inl 170 ∧ expR n (1 + (hi : Int)) = .inl 170) ∨
      (∃ g, expR n (1 + (lo : Int)) = .inl 170 ∧ expR n (1 + (hi : Int)) = .inr g ∧ (lo : Int) + 1 < (g.marks.length : Int) ∧ g.marks.length ≤ 1024) ∨
      (∃ g, expR n (1 + (lo : Int)) = .inr g ∧ expR n (1 + (hi : Int)) = .inr g ∧ g.marks.length ≤ lo + 1) := by
  have e1 : (1 + (lo : Int)).toNat = lo + 1 := by omega
  have e2 : (1 + (hi : Int)).toNat = hi + 1 := by omega
  cases hok : n.okB with
  | false => left; simp [expR, hok]
  | true =>
    have r1 : expR n (1 + (lo : Int)) = match exploreE n (lo + 1) with | none => .inl 170 | some g => .inr g := by
      unfold expR; rw [hok, if_pos rfl, if_neg (by omega), if_neg (by omega), e1]; rfl
    have r2 : expR n (1 + (hi : Int)) = match exploreE n (hi + 1) with | none => .inl 170 | some g => .inr g := by
      unfold expR; rw [hok, if_pos rfl, if_neg (by omega), if_neg (by omega), e2]; rfl
    have hc := explore_cut (n := n) (a := lo + 1) (b := hi + 1) (by omega) (by omega)
    rw [r1, r2]
    cases eb : exploreE n (hi + 1) with
    | none =>
      rw [eb] at hc
      have hc' : exploreE n (lo + 1) = none := hc
      rw [hc']
      exact Or.inr (Or.inl ⟨rfl, rfl⟩)
    | some g =>
      rw [eb] at hc
      have hc' : if g.marks.length ≤ lo + 1 then exploreE n (lo + 1) = some g else exploreE n (lo + 1) = none := hc
      have hle := (explore_all hok (by omega) (by omega) eb).ok.le
      by_cases hl : g.marks.length ≤ lo + 1
      · rw [if_pos hl] at hc'
        rw [hc']
        exact Or.inr (Or.inr (Or.inr ⟨g, rfl, rfl, hl⟩))
      · rw [if_neg hl] at hc'
        rw [hc']
        exact Or.inr (Or.inr (Or.inl ⟨g, rfl, rfl, by omega, by omega⟩))

set_option maxHeartbeats 4000000 in
theorem reachBudget_walk (W : World) (htab : Pow10 W.heap.size W) (vp vt : Value) (n : Nt) (hn : NtR W W.heap.size vp vt n) (_gn : NtI n) (a : Int) (_ga : (Lit.int .i64 a).wf = true) (b : Int) (_gb : (Lit.int .i64 b).wf = true) :
    Calls Tryd.prog 9 #[.agg #[vp, vt, .int .i64 n.init, .int .i64 n.final], .int .i64 a, .int .i64 b] W fun e w' => e = .returned (.bool true) ∧ Below W.heap.size W w' := by
  have hbA := (Below.refl W.heap.size W).alloc (Nat.le_refl _) (.cells #[vp, vt, .int .i64 n.init, .int .i64 n.final] 25)
  have hboxA := heap_alloc_new W (.cells #[vp, vt, .int .i64 n.init, .int .i64 n.final] 25)
  obtain ⟨W1, hW1⟩ : ∃ W1, W.alloc (.cells #[vp, vt, .int .i64 n.init, .int .i64 n.final] 25) = W1 := ⟨_, rfl⟩
  have hs1 : W1.heap.size = W.heap.size + 1 := by rw [← hW1]; exact World.size_alloc _ _
  rw [hW1] at hbA hboxA
  obtain ⟨ap, cp, rfl⟩ := hn.1.val
  obtain ⟨at_, ct, rfl⟩ := hn.2.val
  obtain ⟨u, hu⟩ := u64_nn a
  obtain ⟨v, hv⟩ := u64_nn b
  obtain ⟨c, hc, hc4⟩ : ∃ c : Nat, (u : Int) % 1024 = (c : Int) ∧ c < 1024 := ⟨u % 1024, by omega, by omega⟩
  obtain ⟨d, hd, hd4⟩ : ∃ c : Nat, (v : Int) % 1024 = (c : Int) ∧ c < 1024 := ⟨v % 1024, by omega, by omega⟩
  obtain ⟨lo, hlo, hi, hhi, hlh, hh4⟩ : ∃ lo : Nat, min (c : Int) (d : Int) = (lo : Int) ∧ ∃ hi : Nat, max (c : Int) (d : Int) = (hi : Int) ∧ lo ≤ hi ∧ hi < 1024 := ⟨min c d, by omega, max c d, by omega, by omega, by omega⟩
  have LAW := Lib.hid (rbudget_law n lo hi hlh hh4)
  have t1 := tab_up (htab.on hbA) (show W.heap.size ≤ W1.heap.size by omega)
  go_enter Tryd.func9, Tryd.ntmps9
  go_wp2_with fail
  refine (works_any _ _ (Nat.le_refl _) t1).mono ?_
  rintro e w2 ⟨rfl, hb2⟩
  have B2 := hbA.trans (hb2.mono (by omega))
  have hz2 := hb2.size
  have hn2 := hn.mono B2 (show W.heap.size ≤ w2.heap.size by omega)
  have hbox2 := box_up hboxA hb2
  obtain ⟨c0, c1, c2, c3⟩ := box4' hbox2
  cases hl : longB n with
  | true =>
    go_wp2_with (first | (go_at_call 11; refine (long_is _ _ _ n _ hn2 hl).mono ?_; rintro e w3 ⟨rfl, hb3⟩; refine Hid.out ?_))
    refine Lib.hid ?_
    have B3 := B2.trans (hb3.mono B2.size)
    have t3 := tab_up (htab.on B3) (show W.heap.size ≤ w3.heap.size by have := B3.size; omega)
    go_wp2_with fail
    refine (works_any _ _ (Nat.le_refl _) t3).mono ?_
    rintro e w4 ⟨rfl, hb4⟩
    go_wp2_with fail
    go_ret
    exact ⟨rfl, B3.trans (hb4.mono B3.size)⟩
  | false =>
    go_wp2_with (first | (go_at_call 11; refine (long_is _ _ _ n _ hn2 hl).mono ?_; rintro e w3 ⟨rfl, hb3⟩; refine Hid.out ?_))
    refine Lib.hid ?_
    have B3 := B2.trans (hb3.mono B2.size)
    have hz3 := hb3.size
    have hn3 := hn2.mono hb3 (show w2.heap.size ≤ w3.heap.size by omega)
    have hbox3 := box_up hbox2 hb3
    clear c0 c1 c2 c3 hl
    obtain ⟨c0, c1, c2, c3⟩ := box4' hbox3
    have t3 := tab_up (htab.on B3) (show W.heap.size ≤ w3.heap.size by have := B3.size; omega)
    have hn3' := hn3
    rcases LAW.out with ⟨L1, L2⟩ | ⟨L1, L2⟩ | ⟨g, L1, L2, L3, L4⟩ | ⟨g, L1, L2, L3⟩
    · have G1 := Lib.hid (exp_no _ _ (Nat.le_refl _) _ _ n hn3 _ t3 L1)
      clear L1
      have L2' := Lib.hid L2
      clear L2
      go_wp2_with (first | (go_at_call 13; refine G1.out.mono ?_; rintro e w4 ⟨rfl, hb4⟩; refine Hid.out ?_))
      refine Lib.hid ?_
      have hz4 := hb4.size
      have hbox4 := box_up hbox3 hb4
      clear c0 c1 c2 c3
      obtain ⟨c0, c1, c2, c3⟩ := box4' hbox4
      have B4 := B3.trans (hb4.mono B3.size)
      have G2 := Lib.hid (exp_no _ _ (Nat.le_refl _) _ _ n (hn3.mono hb4 hz4) _ (tab_up (htab.on B4) (show W.heap.size ≤ w4.heap.size by have := B4.size; omega)) L2'.out)
      go_wp2_with (first | (go_at_call 13; refine G2.out.mono ?_; rintro e w5 ⟨rfl, hb5⟩; refine Hid.out ?_))
      refine Lib.hid ?_
      go_wp2_with fail
      go_ret
      exact ⟨rfl, B4.trans (hb5.mono B4.size)⟩
    · have G1 := Lib.hid (exp_no _ _ (Nat.le_refl _) _ _ n hn3 _ t3 L1)
      clear L1
      have L2' := Lib.hid L2
      clear L2
      go_wp2_with (first | (go_at_call 13; refine G1.out.mono ?_; rintro e w4 ⟨rfl, hb4⟩; refine Hid.out ?_))
      refine Lib.hid ?_
      have hz4 := hb4.size
      have hbox4 := box_up hbox3 hb4
      clear c0 c1 c2 c3
      obtain ⟨c0, c1, c2, c3⟩ := box4' hbox4
      have B4 := B3.trans (hb4.mono B3.size)
      have G2 := Lib.hid (exp_no _ _ (Nat.le_refl _) _ _ n (hn3.mono hb4 hz4) _ (tab_up (htab.on B4) (show W.heap.size ≤ w4.heap.size by have := B4.size; omega)) L2'.out)
      go_wp2_with (first | (go_at_call 13; refine G2.out.mono ?_; rintro e w5 ⟨rfl, hb5⟩; refine Hid.out ?_))
      refine Lib.hid ?_
      go_wp2_with fail
      go_ret
      exact ⟨rfl, B4.trans (hb5.mono B4.size)⟩
    · have G1 := Lib.hid (exp_no _ _ (Nat.le_refl _) _ _ n hn3 _ t3 L1)
      clear L1
      have L2' := Lib.hid L2
      clear L2
      go_wp2_with (first | (go_at_call 13; refine G1.out.mono ?_; rintro e w4 ⟨rfl, hb4⟩; refine Hid.out ?_))
      refine Lib.hid ?_
      have hz4 := hb4.size
      have hbox4 := box_up hbox3 hb4
      clear c0 c1 c2 c3
      obtain ⟨c0, c1, c2, c3⟩ := box4' hbox4
      have B4 := B3.trans (hb4.mono B3.size)
      have G2 := Lib.hid (exp_ok _ _ (Nat.le_refl _) _ _ n (hn3.mono hb4 hz4) _ (tab_up (htab.on B4) (show W.heap.size ≤ w4.heap.size by have := B4.size; omega)) L2'.out)
      go_wp2_with (first | (go_at_call 13; refine G2.out.mono ?_; rintro e w5 ⟨p5, rfl, hT5, hb5⟩; refine Hid.out ?_))
      refine Lib.hid ?_
      have hgt : decide (1 + (lo : Int) < (g.marks.length : Int)) = true := decide_eq_true (by omega)
      go_wp2_with (first | (go_at_call 18; refine (glen_any _ _ p5 _ g _ hT5).mono ?_; rintro e w8 ⟨rfl, rfl⟩; refine Hid.out ?_))
      refine Lib.hid ?_
      go_wp2_with fail
      go_ret
      exact ⟨rfl, B4.trans (hb5.mono B4.size)⟩
    · have G1 := Lib.hid (exp_ok _ _ (Nat.le_refl _) _ _ n hn3 _ t3 L1)
      clear L1
      have L2' := Lib.hid L2
      clear L2
      go_wp2_with (first | (go_at_call 13; refine G1.out.mono ?_; rintro e w4 ⟨p4, rfl, hT4, hb4⟩; refine Hid.out ?_))
      refine Lib.hid ?_
      have hz4 := hb4.size
      have hbox4 := box_up hbox3 hb4
      clear c0 c1 c2 c3
      obtain ⟨c0, c1, c2, c3⟩ := box4' hbox4
      have B4 := B3.trans (hb4.mono B3.size)
      have G2 := Lib.hid (exp_ok _ _ (Nat.le_refl _) _ _ n (hn3.mono hb4 hz4) _ (tab_up (htab.on B4) (show W.heap.size ≤ w4.heap.size by have := B4.size; omega)) L2'.out)
      go_wp2_with (first | (go_at_call 13; refine G2.out.mono ?_; rintro e w5 ⟨p5, rfl, hT5, hb5⟩; refine Hid.out ?_))
      refine Lib.hid ?_
      have hz5 := hb5.size
      have hT4' := hT4.mono hb5 hz5
      have B5 := B4.trans (hb5.mono B4.size)
      have hgt : decide (1 + (lo : Int) < (g.marks.length : Int)) = false := decide_eq_false (by omega)
      have hlenM : g.marks.length ≤ 1024 := by omega
      clear G1 G2 LAW L2' c0 c1 c2 c3 hboxA hbox2 hbox3 hbox4 hn2 hn3 hn3' t1 t3 hc hd hu hv
      go_wp2_with (go_at_call 18; refine (glen_any _ _ _ _ g _ (by assumption)).mono ?_; rintro e w8 ⟨rfl, rfl⟩)
      go_loopg [11] g.marks.length (fun gh s11 wr => ∃ i : Nat, i + gh = g.marks.length ∧ s11 = .int .i64 (i : Int) ∧ Below w5.heap.size w5 wr)
      case atStart => exact ⟨0, by omega, rfl, Below.refl _ _⟩
      case round =>
        obtain ⟨i, hig, rfl, hbr⟩ := hrel
        have hzr := hbr.size
        have hTa := hT4'.mono hbr hzr
        have hTb := hT5.mono hbr hzr
        have Br := B5.trans (hbr.mono B5.size)
        by_cases hi2 : i < g.marks.length
        · have HN1 := gmark_any _ _ p4 _ g _ hTa (Nat.le_refl _) i hi2
          obtain ⟨x, hx⟩ : ∃ x, g.marks[i] = x := ⟨_, rfl⟩
          have hxl : x.length ≤ 17592186044416 := by
            obtain ⟨_, _, _, _, _, _, _, _, _, _, _, _, h3, _⟩ := hTa
            obtain ⟨aM, cM, hv, _, hc⟩ := h3
            obtain ⟨_, _, _, _, _, _, hu⟩ := hc i hi2
            rw [hx] at hu
            exact hu.len
          rw [hx] at HN1
          have HN1' := Lib.hid HN1
          clear HN1
          go_wp2_with (go_at_call 18; refine (glen_any _ _ _ _ g _ (by assumption)).mono ?_; rintro e w8 ⟨rfl, rfl⟩; refine Hid.out ?_)
          refine Lib.hid ?_
          go_wp2_with (first | (go_at_call 19; refine HN1'.out.mono ?_; rintro e w8 ⟨v8, rfl, how8, hb8⟩; refine Hid.out ?_))
          refine Lib.hid ?_
          have hz8 := hb8.size
          obtain ⟨a8, c8, rfl⟩ := how8.shape
          have hTb8 := hTb.mono hb8 hz8
          have hI8 := how8.col hxl (Nat.le_refl _)
          have HN2 := gmark_any _ _ p5 _ g _ hTb8 (Nat.le_refl _) i hi2
          rw [hx] at HN2
          have HN2' := Lib.hid HN2
          clear HN2 hx how8
          go_wp2_with (first | (go_at_call 19; refine HN2'.out.mono ?_; rintro e w9 ⟨v9, rfl, how9, hb9⟩; refine Hid.out ?_))
          refine Lib.hid ?_
          have hz9 := hb9.size
          obtain ⟨a9, c9, rfl⟩ := how9.shape
          have hI9 := how9.col hxl (Nat.le_refl _)
          have hI89 := hI8.mono hb9 hz9
          have HC := cmp_any _ _ _ _ x x hI89 hI9
          rw [cmpL_self] at HC
          have HC' := Lib.hid HC
          clear HC how9
          go_wp2_with (first | (go_at_call 36; refine HC'.out.mono ?_; rintro e w10 ⟨rfl, rfl⟩; refine Hid.out ?_))
          refine Lib.hid ?_
          go_wp2_with fail
          go_roundg (gk - 1)
          case measure => omega
          case rel => exact ⟨i + 1, by omega, by go_num, hbr.trans ((hb8.trans (hb9.mono hz8)).mono hzr)⟩
        · have hk' : ¬ ((i : Int) < (g.marks.length : Int)) := by omega
          go_wp2_with (go_at_call 18; refine (glen_any _ _ _ _ g _ (by assumption)).mono ?_; rintro e w8 ⟨rfl, rfl⟩)
          go_ret
          exact ⟨rfl, Br⟩

end Go.Proofs.YtapnkkoplnhleaaDoor
