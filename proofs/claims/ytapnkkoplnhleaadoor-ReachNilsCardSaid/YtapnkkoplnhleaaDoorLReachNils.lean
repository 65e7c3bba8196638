/- The walk of the law ReachNils. -/
import Derived.Test.YtapnkkoplnhleaaDoorLReachShort
set_option maxRecDepth 100000
namespace Go.Proofs.YtapnkkoplnhleaaDoor
open Go.RowKit

theorem find_nil_no {n : Nt} {most : Nat} {g : Gr} (x : XOk n most g) (htwo : 2 ≤ n.places.length) : findM g.marks [] < 0 := by
  by_cases h : 0 ≤ findM g.marks []
  · obtain ⟨i, hi, _, e, _⟩ := findM_at h
    have := (x.mark i hi).1.len
    rw [e] at this
    simp at this; omega
  · omega

set_option maxHeartbeats 4000000 in
theorem reachNils_walk (W : World) (htab : Pow10 W.heap.size W) (vp vt : Value) (n : Nt) (hn : NtR W W.heap.size vp vt n) (_gn : NtI n) (i : Int) (_ga : (Lit.int .i64 i).wf = true) :
    Calls Tryd.prog 8 #[.agg #[vp, vt, .int .i64 n.init, .int .i64 n.final], .int .i64 i] W fun e w' => e = .returned (.bool true) ∧ Below W.heap.size W w' := by
  have hbA := (Below.refl W.heap.size W).alloc (Nat.le_refl _) (.cells #[vp, vt, .int .i64 n.init, .int .i64 n.final] 25)
  have hboxA := heap_alloc_new W (.cells #[vp, vt, .int .i64 n.init, .int .i64 n.final] 25)
  obtain ⟨W1, hW1⟩ : ∃ W1, W.alloc (.cells #[vp, vt, .int .i64 n.init, .int .i64 n.final] 25) = W1 := ⟨_, rfl⟩
  have hs1 : W1.heap.size = W.heap.size + 1 := by rw [← hW1]; exact World.size_alloc _ _
  rw [hW1] at hbA hboxA
  obtain ⟨ap, cp, rfl⟩ := hn.1.val
  obtain ⟨at_, ct, rfl⟩ := hn.2.val
  have t1 := tab_up (htab.on hbA) (show W.heap.size ≤ W1.heap.size by omega)
  go_enter Tryd.func8, Tryd.ntmps8
  go_wp2_with (first | (go_at_call 19; refine (gmark_nil _ _).mono ?_; rintro e w2 ⟨v2, rfl, ho2, hb2⟩; refine Hid.out ?_))
  refine Lib.hid ?_
  have B2 := hbA.trans (hb2.mono (by omega))
  obtain ⟨a2, c2, rfl⟩ := ho2.shape
  clear ho2
  go_wp2_with (first | (go_at_call 20; refine (gedges_nil _ _).mono ?_; rintro e w3 ⟨v3, rfl, ho3, hb3⟩; refine Hid.out ?_))
  refine Lib.hid ?_
  have B3 := B2.trans (hb3.mono B2.size)
  obtain ⟨a3, c3, rfl⟩ := OwnF.shape ho3
  clear ho3
  go_wp2_with (first | (go_at_call 21; refine (gway_nil _ _).mono ?_; rintro e w4 ⟨v4, rfl, ho4, hb4⟩; refine Hid.out ?_))
  refine Lib.hid ?_
  have B4 := B3.trans (hb4.mono B3.size)
  obtain ⟨a4, c4, rfl⟩ := ho4.shape
  clear ho4
  go_wp2_with (first | (go_at_call 31; refine (ghome_nil _ _).mono ?_; rintro e w5 ⟨rfl, rfl⟩; refine Hid.out ?_))
  refine Lib.hid ?_
  go_wp2_with (first | (go_at_call 16; refine (gfind_nil _ _).mono ?_; rintro e w5 ⟨rfl, rfl⟩; refine Hid.out ?_))
  refine Lib.hid ?_
  have hbI : Below w4.heap.size w4 (w4.alloc (.cells #[.int .i64 i] 3)) := (Below.refl _ _).alloc (Nat.le_refl _) _
  obtain ⟨w5, hw5⟩ : ∃ w5, w4.alloc (.cells #[.int .i64 i] 3) = w5 := ⟨_, rfl⟩
  rw [hw5] at hbI ⊢
  clear hw5
  have B5 := B4.trans (hbI.mono B4.size)
  go_wp2_with (first | (go_at_call 18; refine (glen_nil _).mono ?_; rintro e w6 ⟨rfl, rfl⟩; refine Hid.out ?_))
  refine Lib.hid ?_
  go_wp2_with (first | (go_at_call 26; refine (gdeadl_nil _).mono ?_; rintro e w6 ⟨v6, rfl, ho6, hb6⟩; refine Hid.out ?_))
  refine Lib.hid ?_
  have B6 := B5.trans (hb6.mono B5.size)
  obtain ⟨a6, c6, rfl⟩ := ho6.shape
  clear ho6
  go_wp2_with (first | (go_at_call 27; refine (gdead_nil _).mono ?_; rintro e w7 ⟨v7, rfl, ho7, hb7⟩; refine Hid.out ?_))
  refine Lib.hid ?_
  have B7 := B6.trans (hb7.mono B6.size)
  obtain ⟨a7, c7, rfl⟩ := ho7.shape
  clear ho7
  go_wp2_with (first | (go_at_call 28; refine (ghomes_nil _).mono ?_; rintro e w8 ⟨v8, rfl, ho8, hb8⟩; refine Hid.out ?_))
  refine Lib.hid ?_
  have B8 := B7.trans (hb8.mono B7.size)
  obtain ⟨a8, c8, rfl⟩ := ho8.shape
  clear ho8
  have hn8 := hn.mono B8 (show W.heap.size ≤ w8.heap.size by have := B8.size; omega)
  have hB18 : Below W1.heap.size W1 w8 := (hb2.trans ((hb3.trans ((hb4.trans ((hbI.trans ((hb6.trans ((hb7.trans (hb8.mono hb7.size)).mono hb6.size)).mono hbI.size)).mono hb4.size)).mono hb3.size)).mono hb2.size))
  have hbox8 := box_up hboxA hB18
  obtain ⟨k0, k1, k2, k3⟩ := box4' hbox8
  clear hb2 hb3 hb4 hbI hb6 hb7 hb8 B2 B3 B4 B5 B6 B7 t1 hboxA
  cases hl : longB n with
  | true =>
    go_wp2_with (first | (go_at_call 11; refine (long_is _ _ _ n _ hn8 hl).mono ?_; rintro e w9 ⟨rfl, hb9⟩; refine Hid.out ?_))
    refine Lib.hid ?_
    go_wp2_with fail
    go_ret
    exact ⟨rfl, B8.trans (hb9.mono B8.size)⟩
  | false =>
    go_wp2_with (first | (go_at_call 11; refine (long_is _ _ _ n _ hn8 hl).mono ?_; rintro e w9 ⟨rfl, hb9⟩; refine Hid.out ?_))
    refine Lib.hid ?_
    have B9 := B8.trans (hb9.mono B8.size)
    have hn9 := hn8.mono hb9 hb9.size
    have hbox9 := box_up hbox8 hb9
    clear k0 k1 k2 k3 hl
    obtain ⟨k0, k1, k2, k3⟩ := box4' hbox9
    have t9 := tab_up (htab.on B9) (show W.heap.size ≤ w9.heap.size by have := B9.size; omega)
    rcases expR_cases n 50 with ⟨c, hc, hc2⟩ | ⟨g, hc, hok, hm1, hm2, hg⟩
    · have G1 := Lib.hid (exp_no _ _ (Nat.le_refl _) _ _ n hn9 _ t9 hc)
      have hcz : (c != 0) = true := by rcases hc2 with ⟨rfl, _⟩ | ⟨rfl, _⟩ <;> rfl
      clear hc hc2
      go_wp2_with (first | (go_at_call 13; refine G1.out.mono ?_; rintro e w10 ⟨rfl, hb10⟩; refine Hid.out ?_))
      refine Lib.hid ?_
      have B10 := B9.trans (hb10.mono B9.size)
      have t10 := tab_up (htab.on B10) (show W.heap.size ≤ w10.heap.size by have := B10.size; omega)
      go_wp2_with fail
      refine (works_any _ _ (Nat.le_refl _) t10).mono ?_
      rintro e w11 ⟨rfl, hb11⟩
      go_wp2_with fail
      go_ret
      exact ⟨rfl, B10.trans (hb11.mono B10.size)⟩
    · have G1 := Lib.hid (exp_ok _ _ (Nat.le_refl _) _ _ n hn9 _ t9 hc)
      have hX := explore_all hok (by omega) (by omega) hg
      have htwo := (Nt.ok_of hok).two
      have hfn := find_nil_no hX.ok htwo
      have HF : Hid (foundE g.marks [] = 0 ∧ decide (0 ≤ findM g.marks []) = false) := by refine Lib.hid ⟨?_, decide_eq_false (by omega)⟩; unfold foundE; rw [if_neg (by omega)]
      have hle := hX.ok.le
      have hgl : g.marks.length ≤ 50 := hle
      clear hc hg hok hX hm1 hm2 hfn hle
      by_cases hin : 0 ≤ i ∧ i < (g.marks.length : Int)
      · obtain ⟨hi0, hi1⟩ := hin
        go_wp2_with (first | (go_at_call 13; refine G1.out.mono ?_; rintro e w10 ⟨p, rfl, hT, hb10⟩; refine Hid.out ?_))
        refine Lib.hid ?_
        have B10 := B9.trans (hb10.mono B9.size)
        have t10 := tab_up (htab.on B10) (show W.heap.size ≤ w10.heap.size by have := B10.size; omega)
        go_wp2_with (go_at_call 18; refine (glen_any _ _ _ _ g _ (by assumption)).mono ?_; rintro e w8 ⟨rfl, rfl⟩; refine Hid.out ?_)
        refine Lib.hid ?_
        go_wp2_with fail
        refine (works_any _ _ (Nat.le_refl _) t10).mono ?_
        rintro e w11 ⟨rfl, hb11⟩
        go_wp2_with fail
        go_ret
        exact ⟨rfl, B10.trans (hb11.mono B10.size)⟩
      · have Hin := Lib.hid hin
        have hcase : i < 0 ∨ (g.marks.length : Int) ≤ i := by omega
        clear hin
        rcases hcase with hi0 | hi1
        · go_wp2_with (first | (go_at_call 13; refine G1.out.mono ?_; rintro e w10 ⟨p, rfl, hT, hb10⟩; refine Hid.out ?_))
          refine Lib.hid ?_
          have B10 := B9.trans (hb10.mono B9.size)
          go_wp2_with (first | (go_at_call 19; refine (gmark_no _ _ p _ g _ hT i Hin.out).mono ?_; rintro e w12 ⟨v12, rfl, ho12, hb12⟩; refine Hid.out ?_))
          refine Lib.hid ?_
          have B12 := B10.trans (hb12.mono B10.size)
          have hT12 := hT.mono hb12 hb12.size
          obtain ⟨a12, c12, rfl⟩ := ho12.shape
          clear ho12 hT
          go_wp2_with (first | (go_at_call 20; refine (gedges_no _ _ p _ g _ hT12 i Hin.out).mono ?_; rintro e w13 ⟨v13, rfl, ho13, hb13⟩; refine Hid.out ?_))
          refine Lib.hid ?_
          have B13 := B12.trans (hb13.mono B12.size)
          have hT13 := hT12.mono hb13 hb13.size
          obtain ⟨a13, c13, rfl⟩ := OwnF.shape ho13
          clear ho13 hT12
          go_wp2_with (first | (go_at_call 21; refine (gway_no _ _ p _ g _ hT13 i Hin.out).mono ?_; rintro e w14 ⟨v14, rfl, ho14, hb14⟩; refine Hid.out ?_))
          refine Lib.hid ?_
          have B14 := B13.trans (hb14.mono B13.size)
          have hT14 := hT13.mono hb14 hb14.size
          obtain ⟨a14, c14, rfl⟩ := ho14.shape
          clear ho14 hT13
          go_wp2_with (first | (go_at_call 31; refine (ghome_no _ _ p _ g _ hT14 i Hin.out).mono ?_; rintro e w15 ⟨rfl, rfl⟩; refine Hid.out ?_))
          refine Lib.hid ?_
          have HC := gfind_any _ _ p _ g _ hT14 (Nat.le_refl _) (tab_up (htab.on B14) (show W.heap.size ≤ w14.heap.size by have := B14.size; omega)) (.slice none 0 0) [] (ColV.nil _ _ _ _) (by simp) (by simp)
          rw [HF.out.1, HF.out.2] at HC
          have HC' := Lib.hid HC
          clear HC
          go_wp2_with (first | (go_at_call 16; refine HC'.out.mono ?_; rintro e w16 ⟨rfl, hb16⟩; refine Hid.out ?_))
          refine Lib.hid ?_
          go_wp2_with fail
          go_ret
          exact ⟨rfl, B14.trans (hb16.mono B14.size)⟩
        · go_wp2_with (first | (go_at_call 13; refine G1.out.mono ?_; rintro e w10 ⟨p, rfl, hT, hb10⟩; refine Hid.out ?_))
          refine Lib.hid ?_
          have B10 := B9.trans (hb10.mono B9.size)
          go_wp2_with (go_at_call 18; refine (glen_any _ _ _ _ g _ (by assumption)).mono ?_; rintro e w8 ⟨rfl, rfl⟩; refine Hid.out ?_)
          refine Lib.hid ?_
          go_wp2_with (first | (go_at_call 19; refine (gmark_no _ _ p _ g _ hT i Hin.out).mono ?_; rintro e w12 ⟨v12, rfl, ho12, hb12⟩; refine Hid.out ?_))
          refine Lib.hid ?_
          have B12 := B10.trans (hb12.mono B10.size)
          have hT12 := hT.mono hb12 hb12.size
          obtain ⟨a12, c12, rfl⟩ := ho12.shape
          clear ho12 hT
          go_wp2_with (first | (go_at_call 20; refine (gedges_no _ _ p _ g _ hT12 i Hin.out).mono ?_; rintro e w13 ⟨v13, rfl, ho13, hb13⟩; refine Hid.out ?_))
          refine Lib.hid ?_
          have B13 := B12.trans (hb13.mono B12.size)
          have hT13 := hT12.mono hb13 hb13.size
          obtain ⟨a13, c13, rfl⟩ := OwnF.shape ho13
          clear ho13 hT12
          go_wp2_with (first | (go_at_call 21; refine (gway_no _ _ p _ g _ hT13 i Hin.out).mono ?_; rintro e w14 ⟨v14, rfl, ho14, hb14⟩; refine Hid.out ?_))
          refine Lib.hid ?_
          have B14 := B13.trans (hb14.mono B13.size)
          have hT14 := hT13.mono hb14 hb14.size
          obtain ⟨a14, c14, rfl⟩ := ho14.shape
          clear ho14 hT13
          go_wp2_with (first | (go_at_call 31; refine (ghome_no _ _ p _ g _ hT14 i Hin.out).mono ?_; rintro e w15 ⟨rfl, rfl⟩; refine Hid.out ?_))
          refine Lib.hid ?_
          have HC := gfind_any _ _ p _ g _ hT14 (Nat.le_refl _) (tab_up (htab.on B14) (show W.heap.size ≤ w14.heap.size by have := B14.size; omega)) (.slice none 0 0) [] (ColV.nil _ _ _ _) (by simp) (by simp)
          rw [HF.out.1, HF.out.2] at HC
          have HC' := Lib.hid HC
          clear HC
          go_wp2_with (first | (go_at_call 16; refine HC'.out.mono ?_; rintro e w16 ⟨rfl, hb16⟩; refine Hid.out ?_))
          refine Lib.hid ?_
          go_wp2_with fail
          go_ret
          exact ⟨rfl, B14.trans (hb16.mono B14.size)⟩

end Go.Proofs.YtapnkkoplnhleaaDoor
