/- The walk of the law ReachHome. -/
import Derived.Test.YtapnkkoplnhleaaDoorLReachShort
import Derived.Test.YtapnkkoplnhleaaDoorReachRoundP
set_option maxRecDepth 100000
namespace Go.Proofs.YtapnkkoplnhleaaDoor
open Go.RowKit

theorem glen_N (w : World) (B p nt : Nat) (g : Gr) (hs : List Int) (h : GrR w B p nt g hs) {N : Nat} (hN : g.marks.length = N) : Calls Tryd.prog 18 #[.pointer (some ⟨p, 0, none⟩)] w fun e w' => e = .returned (.int .i64 (N : Int)) ∧ w = w' := by
  rw [← hN]; exact glen_any w B p nt g hs h
theorem row_set {w : World} {base g N : Nat} {T : List Bool} (hT : OwnF cellB 4 1 w base (.slice (some ⟨g, 0, none⟩) N N) T) {i : Nat} (hi : i < T.length) (x : Bool) : OwnF cellB 4 1 (w.setCell ⟨g, i, none⟩ (.bool x)) base (.slice (some ⟨g, 0, none⟩) N N) (T.set i x) := by
  have := OwnF.set cellB_len hT hi (j := 0) (by omega) (.bool x) x rfl
  rw [Nat.mul_one, Nat.add_zero] at this
  exact this
theorem row_get {w : World} {base g N : Nat} {T : List Bool} (hT : OwnF cellB 4 1 w base (.slice (some ⟨g, 0, none⟩) N N) T) {i : Nat} (hi : i < T.length) : w.cell? ⟨g, i, none⟩ = some (.bool (T.getD i false)) := by
  have := OwnF.at cellB_len hT hi (j := 0) (by omega)
  rw [Nat.mul_one, Nat.add_zero] at this
  rw [this]
  simp [cellB, hi]
theorem pairs_set {w : World} {base base2 g N i : Nat} {T : List Bool} {v : Value} {l : List (Int × Int)} (hT : OwnF cellB 4 1 w base (.slice (some ⟨g, 0, none⟩) N N) T) (hl : RowE w base2 v l) (x : Value) : RowE (w.setCell ⟨g, i, none⟩ x) base2 v l := by
  refine OwnF.grown hl (grownBy_setCell w g i x) ?_
  intro q hq e
  obtain ⟨⟨c, hc⟩, _⟩ := OwnF.ty hl hq
  obtain ⟨⟨c2, hc2⟩, _⟩ := OwnF.ty hT (q := g) rfl
  obtain rfl : q = g := Option.some.inj e
  exact type_ne hc hc2 (by decide) rfl
theorem row_lt {w : World} {base g N : Nat} {T : List Bool} (hT : OwnF cellB 4 1 w base (.slice (some ⟨g, 0, none⟩) N N) T) : base ≤ g ∧ g < w.heap.size := by
  obtain ⟨⟨c2, hc2⟩, h⟩ := OwnF.ty hT (q := g) rfl
  exact ⟨h, lt_of_block hc2⟩

noncomputable def countH (E : List (List (Int × Int))) (i : Nat) : Nat := ((List.range i).filter (homeB E)).length
theorem countH_succ (E : List (List (Int × Int))) (i : Nat) : countH E (i + 1) = if homeB E i then countH E i + 1 else countH E i := by
  unfold countH
  rw [List.range_succ, List.filter_append, List.length_append, List.filter_cons, List.filter_nil]
  cases homeB E i <;> simp
theorem countH_le (E : List (List (Int × Int))) (i : Nat) : countH E i ≤ i := by
  have := List.length_filter_le (homeB E) (List.range i)
  simpa [countH] using this
theorem countH_all (E : List (List (Int × Int))) : countH E E.length = (homesE E).length := by
  unfold countH homesE homesN; rw [List.length_map]
theorem homes_contains {E : List (List (Int × Int))} {i : Nat} (hi : i < E.length) : (homesE E).contains (i : Int) = homeB E i := by
  rw [Bool.eq_iff_iff, List.contains_iff_mem, homesE_mem, homeB_iff]
  constructor
  · rintro ⟨d, e, _, h⟩
    obtain rfl : i = d := by omega
    exact h
  · intro h; exact ⟨i, rfl, hi, h⟩

theorem made_one (w : World) (N h : Nat) (hN : N ≤ 1024) : OwnF cellB 4 1 (w.alloc (.cells ((madeCells #[Value.bool false] N).setIfInBounds h (.bool true)) 4)) w.heap.size (.slice (some ⟨w.heap.size, 0, none⟩) N N) ((List.replicate N false).set h true) := by
  have hS := World.ownsRow_lit (base := w.heap.size) (e := 4) (size := 1) w ((madeCells #[Value.bool false] N).setIfInBounds h (.bool true)) N (Nat.le_refl _) (by unfold maxLen; omega) (by simp [size_madeCells])
  rw [made_bools] at hS
  unfold OwnF
  rw [List.length_set, List.length_replicate]
  exact hS

set_option maxHeartbeats 8000000 in
theorem reachHome_walk (W : World) (htab : Pow10 W.heap.size W) (vp vt : Value) (n : Nt) (hn : NtR W W.heap.size vp vt n) (_gn : NtI n) (most : Int) (_ga : (Lit.int .i64 most).wf = true) :
    Calls Tryd.prog 5 #[.agg #[vp, vt, .int .i64 n.init, .int .i64 n.final], .int .i64 most] W fun e w' => e = .returned (.bool true) ∧ Below W.heap.size W w' := by
  have hbA := (Below.refl W.heap.size W).alloc (Nat.le_refl _) (.cells #[vp, vt, .int .i64 n.init, .int .i64 n.final] 25)
  have hboxA := heap_alloc_new W (.cells #[vp, vt, .int .i64 n.init, .int .i64 n.final] 25)
  obtain ⟨W1, hW1⟩ : ∃ W1, W.alloc (.cells #[vp, vt, .int .i64 n.init, .int .i64 n.final] 25) = W1 := ⟨_, rfl⟩
  have hs1 : W1.heap.size = W.heap.size + 1 := by rw [← hW1]; exact World.size_alloc _ _
  rw [hW1] at hbA hboxA
  obtain ⟨ap, cp, rfl⟩ := hn.1.val
  obtain ⟨at_, ct, rfl⟩ := hn.2.val
  have t1 := tab_up (htab.on hbA) (show W.heap.size ≤ W1.heap.size by omega)
  go_enter Tryd.func5, Tryd.ntmps5
  go_wp2_with fail
  refine (works_any _ _ (Nat.le_refl _) t1).mono ?_
  rintro e w2 ⟨rfl, hb2⟩
  have B2 := hbA.trans (hb2.mono (by omega))
  have hz2 := hb2.size
  have hn2 := hn.mono B2 (show W.heap.size ≤ w2.heap.size by omega)
  have hbox2 := box_up hboxA hb2
  obtain ⟨c0, c1, c2, c3⟩ := box4' hbox2
  cases hl : longB n with
  | true =>
    go_wp2_with (first | (go_at_call 11; refine (long_is _ _ _ n _ hn2 hl).mono ?_; rintro e w3 ⟨rfl, hb3⟩; refine Hid.out ?_))
    refine Lib.hid ?_
    have B3 := B2.trans (hb3.mono B2.size)
    have t3 := tab_up (htab.on B3) (show W.heap.size ≤ w3.heap.size by have := B3.size; omega)
    go_wp2_with fail
    refine (works_any _ _ (Nat.le_refl _) t3).mono ?_
    rintro e w4 ⟨rfl, hb4⟩
    go_wp2_with fail
    go_ret
    exact ⟨rfl, B3.trans (hb4.mono B3.size)⟩
  | false =>
    go_wp2_with (first | (go_at_call 11; refine (long_is _ _ _ n _ hn2 hl).mono ?_; rintro e w3 ⟨rfl, hb3⟩; refine Hid.out ?_))
    refine Lib.hid ?_
    have B3 := B2.trans (hb3.mono B2.size)
    have hz3 := hb3.size
    have hn3 := hn2.mono hb3 (show w2.heap.size ≤ w3.heap.size by omega)
    have hbox3 := box_up hbox2 hb3
    clear c0 c1 c2 c3 hl
    obtain ⟨c0, c1, c2, c3⟩ := box4' hbox3
    have t3 := tab_up (htab.on B3) (show W.heap.size ≤ w3.heap.size by have := B3.size; omega)
    by_cases hbig : 150 < most
    · go_wp2_with fail
      refine (works_any _ _ (Nat.le_refl _) t3).mono ?_
      rintro e w4 ⟨rfl, hb4⟩
      go_wp2_with fail
      go_ret
      exact ⟨rfl, B3.trans (hb4.mono B3.size)⟩
    rcases expR_cases n most with ⟨c, hc, hc2⟩ | ⟨g, hc, hok, hm1, hm2, hg⟩
    · have G1 := Lib.hid (exp_no _ _ (Nat.le_refl _) _ _ n hn3 _ t3 hc)
      have hcz : (c != 0) = true := by rcases hc2 with ⟨rfl, _⟩ | ⟨rfl, _⟩ <;> rfl
      clear hc hc2
      go_wp2_with (first | (go_at_call 13; refine G1.out.mono ?_; rintro e w4 ⟨rfl, hb4⟩; refine Hid.out ?_))
      refine Lib.hid ?_
      go_wp2_with fail
      go_ret
      exact ⟨rfl, B3.trans (hb4.mono B3.size)⟩
    · have G1 := Lib.hid (exp_ok _ _ (Nat.le_refl _) _ _ n hn3 _ t3 hc)
      have hX := explore_all hok (by omega) (by omega) hg
      have hmn : most.toNat ≤ 1024 := by omega
      have hntr := (Nt.ok_of hok).trans
      have HEO := Lib.hid (hX.eok hmn hntr)
      have hle := hX.ok.le
      have hpos := hX.ok.pos
      have HEL := Lib.hid hX.ok.elen
      clear hc hg hok hX hm1 hm2
      go_wp2_with (first | (go_at_call 13; refine G1.out.mono ?_; rintro e w4 ⟨p4, rfl, hT4, hb4⟩; refine Hid.out ?_))
      refine Lib.hid ?_
      have hz4 := hb4.size
      have B4 := B3.trans (hb4.mono B3.size)
      clear c0 c1 c2 c3 hboxA hbox2 hbox3 hn2 hn3 hb2 hb3 hb4 t1 t3 B2 B3 G1 hbA
      go_wp2_with (first | (go_at_call 28; refine (ghomes_any _ _ p4 _ g _ hT4 (Nat.le_refl _)).mono ?_; rintro e w5 ⟨v5, rfl, how5, hb5⟩; refine Hid.out ?_))
      refine Lib.hid ?_
      have hT5 := hT4.mono hb5 hb5.size
      have B5 := B4.trans (hb5.mono B4.size)
      obtain ⟨hs, hhs⟩ : ∃ hs, homesE g.edges = hs := ⟨_, rfl⟩
      rw [hhs] at how5 hT5
      have HHS := Lib.hid hhs
      obtain ⟨a5, c5, rfl⟩ := how5.shape
      have hhl : hs.length ≤ 1024 := by
        rw [← hhs]
        unfold homesE homesN
        have := List.length_filter_le (homeB g.edges) (List.range g.edges.length)
        have := HEO.out.len
        simp at *; omega
      have hI5 : Ints w5 w5.heap.size (.slice a5 hs.length c5) hs := how5.col (by omega) (Nat.le_refl _)
      clear hhs how5 hT4
      go_wp2_with (first | (go_at_call 26; refine (gdeadl_any _ _ p4 _ g _ hT5 (Nat.le_refl _) HEO.out).mono ?_; rintro e w6 ⟨v6, rfl, how6, hb6⟩; refine Hid.out ?_))
      refine Lib.hid ?_
      have hT6 := hT5.mono hb6 hb6.size
      have hI6 := hI5.mono hb6 hb6.size
      have B6 := B5.trans (hb6.mono B5.size)
      obtain ⟨dl, hdl⟩ : ∃ dl, deadE g.edges = dl := ⟨_, rfl⟩
      rw [hdl] at how6
      have HDL := Lib.hid hdl
      obtain ⟨a6, c6, rfl⟩ := how6.shape
      have hdll : dl.length ≤ 1024 := by
        rw [← hdl]
        have h1 := deadTo_len g.edges g.edges.length
        have := HEO.out.len
        unfold deadE; omega
      have hD6 : Ints w6 w6.heap.size (.slice a6 dl.length c6) dl := how6.col (by omega) (Nat.le_refl _)
      clear hdl how6 hT5 hI5 hb5 hb6
      go_wp2_with fail
      go_loopg [9] dl.length (fun gh s9 wr => ∃ k : Nat, k + gh = dl.length ∧ s9 = .int .i64 (k : Int) ∧ w6 = wr)
      case atStart => exact ⟨0, by omega, rfl, rfl⟩
      case round =>
        obtain ⟨k, hkg, rfl, rfl⟩ := hrel
        by_cases hk : k < dl.length
        · obtain ⟨b, o, rfl, hb, hc⟩ := hD6.col k hk
          have hmem : dl[k] ∈ deadE g.edges := by rw [HDL.out]; exact List.getElem_mem hk
          obtain ⟨d, hd, hde, -⟩ := deadE_mem.1 hmem
          rw [hd] at hc
          have hdm : d < g.marks.length := by rw [← HEL.out]; exact hde
          have hH := ghome_any _ _ p4 _ g _ hT6 d hdm
          cases hcon : hs.contains (d : Int) with
          | true =>
            rw [hcon] at hH
            have H1 := Lib.hid hH
            obtain ⟨l1, l2⟩ := dead_home (E := g.edges) (x := (d : Int)) (by rw [← hd]; exact hmem) (by rw [HHS.out]; simpa using hcon)
            rw [HDL.out] at l1
            rw [HHS.out] at l2
            have hd1 : ((dl.length : Int) != 1) = false := by rw [l1]; rfl
            have hd2 : ((hs.length : Int) != 1) = false := by rw [l2]; rfl
            have hd3 : decide ((1 : Int) < (dl.length : Int)) = false := by rw [l1]; rfl
            clear hcon l1 l2 hH hd hmem
            go_wp2_with (first | (go_at_call 31; refine H1.out.mono ?_; rintro e w7 ⟨rfl, rfl⟩; refine Hid.out ?_))
            refine Lib.hid ?_
            go_wp2_with fail
            go_roundg (gk - 1)
            case measure => omega
            case rel => exact ⟨k + 1, by omega, by go_num, rfl⟩
          | false =>
            rw [hcon] at hH
            have H1 := Lib.hid hH
            clear hcon hH hd hmem
            by_cases hm : 1 < dl.length
            · have l2 := dead_many (E := g.edges) (by rw [HDL.out]; exact hm)
              rw [HHS.out] at l2
              have hd2 : decide ((0 : Int) < (hs.length : Int)) = false := by rw [l2]; rfl
              have hd3 : decide ((1 : Int) < (dl.length : Int)) = true := decide_eq_true (by omega)
              have hd4 : decide (0 < hs.length) = false := by rw [l2]; rfl
              clear l2
              go_wp2_with (first | (go_at_call 31; refine H1.out.mono ?_; rintro e w7 ⟨rfl, rfl⟩; refine Hid.out ?_))
              refine Lib.hid ?_
              go_wp2_with fail
              go_roundg (gk - 1)
              case measure => omega
              case rel => exact ⟨k + 1, by omega, by go_num, rfl⟩
            · have hd3 : decide ((1 : Int) < (dl.length : Int)) = false := decide_eq_false (by omega)
              go_wp2_with (first | (go_at_call 31; refine H1.out.mono ?_; rintro e w7 ⟨rfl, rfl⟩; refine Hid.out ?_))
              refine Lib.hid ?_
              go_wp2_with fail
              go_roundg (gk - 1)
              case measure => omega
              case rel => exact ⟨k + 1, by omega, by go_num, rfl⟩
        · have hk' : ¬ ((k : Int) < (dl.length : Int)) := by omega
          by_cases hh0 : hs.length = 0
          · have hd2 : ((hs.length : Int) == 0) = true := by rw [hh0]; rfl
            clear hh0
            go_wp2_with fail
            go_ret
            exact ⟨rfl, B6⟩
          · have hd2 : ((hs.length : Int) == 0) = false := by rw [beq_eq_false_iff_ne]; omega
            have hh1 : 0 < hs.length := by omega
            obtain ⟨b, o, rfl, hb, hc⟩ := hI6.col 0 hh1
            have hmem : hs[0] ∈ homesE g.edges := by rw [HHS.out]; exact List.getElem_mem hh1
            obtain ⟨h, hhd, hhl2, hhm⟩ := homesE_mem.1 hmem
            rw [hhd] at hc
            have hc0 : w6.cell? ⟨b, o, none⟩ = some (.int .i64 (h : Int)) := hc
            obtain ⟨N, hN⟩ : ∃ N, g.marks.length = N := ⟨_, rfl⟩
            have HN := Lib.hid hN
            have hEN : g.edges.length = N := by rw [HEL.out, hN]
            have HEN := Lib.hid hEN
            rw [hN] at hle hpos
            rw [hEN] at hhl2
            have HHm := Lib.hid hhm
            have hNl : N ≤ 1024 := by omega
            have hmk := run_make_row' (P := Tryd.prog) 62 4 (.bool false) 1 Tryd.underlying62 info_bool rfl .i64 .i64 N (by omega) (by omega)
            have hmc : (madeCells #[Value.bool false] N)[h]? = some (.bool false) := by simp [madeCells, hhl2, Nat.mod_one]
            have hbw : b < w6.heap.size := hb
            clear hh0 hN hEN hhd hmem hhm hc
            go_wp2_with (first | (go_at_call 18; refine (glen_N _ _ _ _ g _ (by assumption) HN.out).mono ?_; rintro e w8 ⟨rfl, rfl⟩; refine Hid.out ?_))
            refine Lib.hid ?_
            have hM1 := made_one w6 N h hNl
            have hb6 : Below w6.heap.size w6 (w6.alloc (.cells ((madeCells #[Value.bool false] N).setIfInBounds h (.bool true)) 4)) := (Below.refl _ _).alloc (Nat.le_refl _) _
            obtain ⟨Wm, hWm⟩ : ∃ Wm, w6.alloc (.cells ((madeCells #[Value.bool false] N).setIfInBounds h (.bool true)) 4) = Wm := ⟨_, rfl⟩
            have hF0 : Hid (InR g.edges h 0 0 0 ((List.replicate N false).set h true)) := by
              have := InR.first (E := g.edges) (h := h) (by rw [HEN.out]; exact hhl2)
              rw [HEN.out] at this
              exact this
            have HM1 : Hid (OwnF cellB 4 1 Wm w6.heap.size (.slice (some ⟨w6.heap.size, 0, none⟩) N N) ((List.replicate N false).set h true)) := by rw [← hWm]; exact hM1
            have hbm : Below w6.heap.size w6 Wm := by rw [← hWm]; exact hb6
            have HTo := Lib.hid HEO.out.to_
            have HT6 := Lib.hid hT6
            have hhE : Hid (h < g.edges.length) := by rw [HEN.out]; exact hhl2
            clear hM1 hb6 hD6
            go_wp2_with fail
            clear hWm
            go_loopg [13] N (fun gh s13 wr => ∃ (r : Nat) (T : List Bool), r + gh = N ∧ s13 = .int .i64 (r : Int) ∧ Hid (OwnF cellB 4 1 wr w6.heap.size (.slice (some ⟨w6.heap.size, 0, none⟩) N N) T) ∧ Hid (InR g.edges h r 0 0 T) ∧ Below w6.heap.size w6 wr)
            case atStart => exact ⟨0, _, by omega, rfl, HM1, hF0, hbm⟩
            case round =>
              clear HM1 hF0 hbm
              obtain ⟨r, T, hrg, rfl, hT, hF, hbr⟩ := hrel
              have hTr := HT6.out.mono hbr hbr.size
              by_cases hr : r < N
              · go_wp2_with (first | (go_at_call 18; refine (glen_N _ _ _ _ g _ (by assumption) HN.out).mono ?_; rintro e w8 ⟨rfl, rfl⟩; refine Hid.out ?_))
                refine Lib.hid ?_
                go_wp2_with fail
                go_loopg [14] N (fun gh s14 wr => ∃ (i : Nat) (T : List Bool), i + gh = N ∧ s14 = .int .i64 (i : Int) ∧ Hid (OwnF cellB 4 1 wr w6.heap.size (.slice (some ⟨w6.heap.size, 0, none⟩) N N) T) ∧ Hid (InR g.edges h r i 0 T) ∧ Below w6.heap.size w6 wr)
                case atStart => exact ⟨0, _, by omega, rfl, hT, hF, hbr⟩
                case round =>
                  clear hT hF hbr hTr
                  obtain ⟨i, T, hig, rfl, hT, hF, hbr⟩ := hrel
                  have hTr := HT6.out.mono hbr hbr.size
                  by_cases hi : i < N
                  · go_wp2_with (first | (go_at_call 18; refine (glen_N _ _ _ _ g _ (by assumption) HN.out).mono ?_; rintro e w8 ⟨rfl, rfl⟩; refine Hid.out ?_))
                    refine Lib.hid ?_
                    have hie : i < g.edges.length := by rw [HEN.out]; exact hi
                    have HE1 := gedges_any _ _ p4 _ g _ hTr (Nat.le_refl _) HEO.out HEL.out i hie
                    have hrow := HEO.out.row _ (List.getElem_mem hie)
                    have hnum := fun q hq => edge_num HEO.out hie (q := q) hq
                    obtain ⟨row, hrw⟩ : ∃ row, g.edges[i] = row := ⟨_, rfl⟩
                    have hgd : Hid (g.edges.getD i [] = row) := by refine Lib.hid ?_; rw [← hrw]; simp [hie]
                    rw [hrw] at HE1 hrow
                    have HNum : Hid (∀ q (hq : q < row.length), ∃ j : Nat, row[q].2 = (j : Int) ∧ j < N) := by
                      subst hrw; intro q hq
                      obtain ⟨j, h1, h2⟩ := hnum q hq
                      exact ⟨j, h1, by rw [← HEN.out]; exact h2⟩
                    have HE1' := Lib.hid HE1
                    clear HE1 hnum hrw
                    go_wp2_with (first | (go_at_call 20; refine HE1'.out.mono ?_; rintro e w8 ⟨v8, rfl, how8, hb8⟩; refine Hid.out ?_))
                    refine Lib.hid ?_
                    obtain ⟨a8, c8, rfl⟩ := OwnF.shape how8
                    have HO8 := Lib.hid how8
                    have hT8 := Lib.hid (OwnF.kept hT.out hb8)
                    have hB8 := hbr.trans (hb8.mono hbr.size)
                    clear how8 hT hTr hb8
                    go_wp2_with fail
                    go_loopg [17] row.length (fun gh s17 wx => ∃ (q : Nat) (T : List Bool), q + gh = row.length ∧ s17 = .int .i64 (q : Int) ∧ Hid (OwnF cellB 4 1 wx w6.heap.size (.slice (some ⟨w6.heap.size, 0, none⟩) N N) T) ∧ Hid (InR g.edges h r i q T) ∧ Hid (RowE wx wr.heap.size (.slice a8 row.length c8) row) ∧ Below w6.heap.size w6 wx)
                    case atStart => exact ⟨0, T, by omega, rfl, hT8, hF, HO8, hB8⟩
                    case round =>
                      clear hT8 hF HO8 hB8 hbr
                      obtain ⟨q, T, hqg, rfl, hT, hF, hO, hbr⟩ := hrel
                      by_cases hq : q < row.length
                      · obtain ⟨t, ht, htN⟩ := HNum.out q hq
                        obtain ⟨be, oe, rfl, hbe, he0, he1⟩ := (RowE.prs hO.out (by omega) (Nat.le_refl _)).at hq
                        rw [ht] at he1
                        have hTl : T.length = N := by rw [hF.out.len, HEN.out]
                        have hiT : i < T.length := by omega
                        have htT : t < T.length := by omega
                        have hci := row_get hT.out hiT
                        have hct := row_get hT.out htT
                        have hfi := OwnF.free hT.out i
                        obtain ⟨x, hx⟩ : ∃ x, T.getD i false = x := ⟨_, rfl⟩
                        obtain ⟨y, hy⟩ : ∃ y, T.getD t false = y := ⟨_, rfl⟩
                        rw [hx] at hci
                        rw [hy] at hct
                        have HS := Lib.hid (hF.out.step hie (by rw [hgd.out]; exact hq) (by simp only [hgd.out]; exact ht) hx hy)
                        have HR := Lib.hid (row_set hT.out hiT (x || y))
                        have HP := Lib.hid (pairs_set (i := i) hT.out hO.out (.bool (x || y)))
                        have hbS : Below w6.heap.size w6 (wr.setCell ⟨w6.heap.size, i, none⟩ (.bool (x || y))) := hbr.setCell (Nat.le_refl _) _
                        have HB := Lib.hid hbS
                        clear ht hTl hx hy hbS
                        cases x with
                        | true =>
                          rw [Bool.true_or] at HS HR HP HB
                          go_wp2_with fail
                          go_roundg (gk - 1)
                          case measure => omega
                          case rel => exact ⟨q + 1, _, by omega, by go_num, HR, HS, HP, HB.out⟩
                        | false =>
                          rw [Bool.false_or] at HS HR HP HB
                          go_wp2_with fail
                          go_roundg (gk - 1)
                          case measure => omega
                          case rel => exact ⟨q + 1, _, by omega, by go_num, HR, HS, HP, HB.out⟩
                      · have hq' : ¬ ((q : Int) < (row.length : Int)) := by omega
                        go_wp2_with fail
                        go_roundg (N - (i + 1))
                        case measure => omega
                        case rel => exact ⟨i + 1, T, by omega, by go_num, hT, Lib.hid (hF.out.next (by rw [hgd.out]; omega)), hbr⟩
                  · have hi' : ¬ ((i : Int) < (N : Int)) := by omega
                    go_wp2_with (first | (go_at_call 18; refine (glen_N _ _ _ _ g _ (by assumption) HN.out).mono ?_; rintro e w8 ⟨rfl, rfl⟩; refine Hid.out ?_))
                    refine Lib.hid ?_
                    have HNx := Lib.hid (hF.out.round HTo.out hhE.out (by rw [HEN.out]; omega))
                    go_wp2_with fail
                    go_roundg (N - (r + 1))
                    case measure => omega
                    case rel => exact ⟨r + 1, T, by omega, by go_num, hT, HNx, hbr⟩
              · have hr' : ¬ ((r : Int) < (N : Int)) := by omega
                go_wp2_with (first | (go_at_call 18; refine (glen_N _ _ _ _ g _ (by assumption) HN.out).mono ?_; rintro e w8 ⟨rfl, rfl⟩; refine Hid.out ?_))
                refine Lib.hid ?_
                have HAll : Hid (∀ j, j < N → T.getD j false = true) := by
                  refine Lib.hid fun j hj => ?_
                  exact hF.out.all HTo.out hhE.out HHm.out (by rw [HEN.out]; omega) (by rw [HEN.out]; exact hj)
                have HTl : Hid (T.length = N) := by refine Lib.hid ?_; rw [hF.out.len, HEN.out]
                go_wp2_with fail
                go_loopg [18] N (fun gh s18 wx => ∃ j : Nat, j + gh = N ∧ s18 = .int .i64 (j : Int) ∧ wr = wx)
                case atStart => exact ⟨0, by omega, rfl, rfl⟩
                case round =>
                  obtain ⟨j, hjg, rfl, rfl⟩ := hrel
                  by_cases hj : j < N
                  · have hcj := row_get hT.out (i := j) (by rw [HTl.out]; exact hj)
                    rw [HAll.out j hj] at hcj
                    go_wp2_with fail
                    go_roundg (gk - 1)
                    case measure => omega
                    case rel => exact ⟨j + 1, by omega, by go_num, rfl⟩
                  · have hj' : ¬ ((j : Int) < (N : Int)) := by omega
                    obtain ⟨Wb, rfl⟩ : ∃ Wb : World, Wb = wr := ⟨_, rfl⟩
                    have hc2 : Wb.cell? ⟨b, o, none⟩ = some (.int .i64 (h : Int)) := by rw [Below.cellB hbr hbw]; exact hc0
                    have hbw2 : b < Wb.heap.size := by have := hbr.size; omega
                    have hM2 := made_one Wb N h hNl
                    have hb7 : Below Wb.heap.size Wb (Wb.alloc (.cells ((madeCells #[Value.bool false] N).setIfInBounds h (.bool true)) 4)) := (Below.refl _ _).alloc (Nat.le_refl _) _
                    obtain ⟨Wn, hWn⟩ : ∃ Wn, Wb.alloc (.cells ((madeCells #[Value.bool false] N).setIfInBounds h (.bool true)) 4) = Wn := ⟨_, rfl⟩
                    have hF2 : Hid (OutR g.edges h 0 0 0 ((List.replicate N false).set h true)) := by
                      have := OutR.first (E := g.edges) (h := h) (by rw [HEN.out]; exact hhl2)
                      rw [HEN.out] at this
                      exact this
                    have HM2 : Hid (OwnF cellB 4 1 Wn Wb.heap.size (.slice (some ⟨Wb.heap.size, 0, none⟩) N N) ((List.replicate N false).set h true)) := by rw [← hWn]; exact hM2
                    have hbn : Below Wb.heap.size Wb Wn := by rw [← hWn]; exact hb7
                    have hzr := hbr.size
                    have HTb := Lib.hid (HT6.out.mono hbr hbr.size)
                    have HBr := Lib.hid hbr
                    have hTr2 := HTb.out
                    clear hM2 hb7 hT hF hbr HAll HTl hTr
                    go_wp2_with (first | (go_at_call 18; refine (glen_N _ _ _ _ g _ (by assumption) HN.out).mono ?_; rintro e w8 ⟨rfl, rfl⟩; refine Hid.out ?_))
                    refine Lib.hid ?_
                    clear hTr2
                    go_wp2_with fail
                    clear hWn
                    go_loopg [20] N (fun gh s20 wx => ∃ (r : Nat) (T : List Bool), r + gh = N ∧ s20 = .int .i64 (r : Int) ∧ Hid (OwnF cellB 4 1 wx Wb.heap.size (.slice (some ⟨Wb.heap.size, 0, none⟩) N N) T) ∧ Hid (OutR g.edges h r 0 0 T) ∧ Below Wb.heap.size Wb wx)
                    case atStart => exact ⟨0, _, by omega, rfl, HM2, hF2, hbn⟩
                    case round =>
                      clear HM2 hF2 hbn
                      obtain ⟨r, T, hrg, rfl, hT, hF, hbr⟩ := hrel
                      have hTr := HTb.out.mono hbr hbr.size
                      by_cases hr : r < N
                      · go_wp2_with (first | (go_at_call 18; refine (glen_N _ _ _ _ g _ (by assumption) HN.out).mono ?_; rintro e w8 ⟨rfl, rfl⟩; refine Hid.out ?_))
                        refine Lib.hid ?_
                        go_wp2_with fail
                        go_loopg [21] N (fun gh s21 wx => ∃ (i : Nat) (T : List Bool), i + gh = N ∧ s21 = .int .i64 (i : Int) ∧ Hid (OwnF cellB 4 1 wx Wb.heap.size (.slice (some ⟨Wb.heap.size, 0, none⟩) N N) T) ∧ Hid (OutR g.edges h r i 0 T) ∧ Below Wb.heap.size Wb wx)
                        case atStart => exact ⟨0, _, by omega, rfl, hT, hF, hbr⟩
                        case round =>
                          clear hT hF hbr hTr
                          obtain ⟨i, T, hig, rfl, hT, hF, hbr⟩ := hrel
                          have hTr := HTb.out.mono hbr hbr.size
                          by_cases hi : i < N
                          · go_wp2_with (first | (go_at_call 18; refine (glen_N _ _ _ _ g _ (by assumption) HN.out).mono ?_; rintro e w8 ⟨rfl, rfl⟩; refine Hid.out ?_))
                            refine Lib.hid ?_
                            have hie : i < g.edges.length := by rw [HEN.out]; exact hi
                            have HE1 := gedges_any _ _ p4 _ g _ hTr (Nat.le_refl _) HEO.out HEL.out i hie
                            have hrow := HEO.out.row _ (List.getElem_mem hie)
                            have hnum := fun q hq => edge_num HEO.out hie (q := q) hq
                            obtain ⟨row, hrw⟩ : ∃ row, g.edges[i] = row := ⟨_, rfl⟩
                            have hgd : Hid (g.edges.getD i [] = row) := by refine Lib.hid ?_; rw [← hrw]; simp [hie]
                            rw [hrw] at HE1 hrow
                            have HNum : Hid (∀ q (hq : q < row.length), ∃ j : Nat, row[q].2 = (j : Int) ∧ j < N) := by
                              subst hrw; intro q hq
                              obtain ⟨j, h1, h2⟩ := hnum q hq
                              exact ⟨j, h1, by rw [← HEN.out]; exact h2⟩
                            have HE1' := Lib.hid HE1
                            clear HE1 hnum hrw
                            go_wp2_with (first | (go_at_call 20; refine HE1'.out.mono ?_; rintro e w8 ⟨v8, rfl, how8, hb8⟩; refine Hid.out ?_))
                            refine Lib.hid ?_
                            obtain ⟨a8, c8, rfl⟩ := OwnF.shape how8
                            have HO8 := Lib.hid how8
                            have hT8 := Lib.hid (OwnF.kept hT.out hb8)
                            have hB8 := hbr.trans (hb8.mono hbr.size)
                            obtain ⟨Wc, rfl⟩ : ∃ Wc : World, Wc = wr := ⟨_, rfl⟩
                            clear how8 hT hTr hb8
                            go_wp2_with fail
                            go_loopg [24] row.length (fun gh s24 wx => ∃ (q : Nat) (T : List Bool), q + gh = row.length ∧ s24 = .int .i64 (q : Int) ∧ Hid (OwnF cellB 4 1 wx Wb.heap.size (.slice (some ⟨Wb.heap.size, 0, none⟩) N N) T) ∧ Hid (OutR g.edges h r i q T) ∧ Hid (RowE wx Wc.heap.size (.slice a8 row.length c8) row) ∧ Below Wb.heap.size Wb wx)
                            case atStart => exact ⟨0, T, by omega, rfl, hT8, hF, HO8, hB8⟩
                            case round =>
                              clear hT8 hF HO8 hB8 hbr
                              obtain ⟨q, T, hqg, rfl, hT, hF, hO, hbr⟩ := hrel
                              have hTl : T.length = N := by rw [hF.out.len, HEN.out]
                              have hiT : i < T.length := by omega
                              have hci := row_get hT.out hiT
                              by_cases hq : q < row.length
                              · obtain ⟨t, ht, htN⟩ := HNum.out q hq
                                obtain ⟨be, oe, rfl, hbe, he0, he1⟩ := (RowE.prs hO.out (by omega) (Nat.le_refl _)).at hq
                                rw [ht] at he1
                                have htT : t < T.length := by omega
                                have hct := row_get hT.out htT
                                have hft := OwnF.free hT.out t
                                cases hx : T.getD i false with
                                | true =>
                                  rw [hx] at hci
                                  have HS := Lib.hid (hF.out.step (by rw [hgd.out]; exact hq) (by simp only [hgd.out]; exact ht) (by rw [HEN.out]; exact htN) hx)
                                  have HR := Lib.hid (row_set hT.out htT true)
                                  have HP := Lib.hid (pairs_set (i := t) hT.out hO.out (.bool true))
                                  have hbS : Below Wb.heap.size Wb (wr.setCell ⟨Wb.heap.size, t, none⟩ (.bool true)) := hbr.setCell (Nat.le_refl _) _
                                  have HB := Lib.hid hbS
                                  clear ht hTl hx hbS
                                  go_wp2_with fail
                                  go_roundg (gk - 1)
                                  case measure => omega
                                  case rel => exact ⟨q + 1, _, by omega, by go_num, HR, HS, HP, HB.out⟩
                                | false =>
                                  rw [hx] at hci
                                  have HNx := Lib.hid (hF.out.next (Or.inr hx))
                                  clear ht hTl hx hct
                                  go_wp2_with fail
                                  go_roundg (N - (i + 1))
                                  case measure => omega
                                  case rel => exact ⟨i + 1, T, by omega, by go_num, hT, HNx, hbr⟩
                              · have hq' : ¬ ((q : Int) < (row.length : Int)) := by omega
                                have HNx := Lib.hid (hF.out.next (q := q) (Or.inl (by rw [hgd.out]; omega)))
                                clear hTl
                                go_wp2_with fail
                                go_roundg (N - (i + 1))
                                case measure => omega
                                case rel => exact ⟨i + 1, T, by omega, by go_num, hT, HNx, hbr⟩
                          · have hi' : ¬ ((i : Int) < (N : Int)) := by omega
                            go_wp2_with (first | (go_at_call 18; refine (glen_N _ _ _ _ g _ (by assumption) HN.out).mono ?_; rintro e w8 ⟨rfl, rfl⟩; refine Hid.out ?_))
                            refine Lib.hid ?_
                            have HNx := Lib.hid (hF.out.round HTo.out hhE.out (by rw [HEN.out]; omega))
                            go_wp2_with fail
                            go_roundg (N - (r + 1))
                            case measure => omega
                            case rel => exact ⟨r + 1, T, by omega, by go_num, hT, HNx, hbr⟩
                      · have hr' : ¬ ((r : Int) < (N : Int)) := by omega
                        go_wp2_with (first | (go_at_call 18; refine (glen_N _ _ _ _ g _ (by assumption) HN.out).mono ?_; rintro e w8 ⟨rfl, rfl⟩; refine Hid.out ?_))
                        refine Lib.hid ?_
                        have HAll := Lib.hid (hF.out.all HTo.out hhE.out HHm.out (by rw [HEN.out]; omega))
                        have HTl : Hid (T.length = N) := by refine Lib.hid ?_; rw [hF.out.len, HEN.out]
                        have HC0 : Hid (countH g.edges 0 = 0) := rfl
                        have HCA : Hid (countH g.edges N = hs.length) := by refine Lib.hid ?_; rw [← HEN.out, countH_all, HHS.out]
                        have HBr2 := Lib.hid hbr
                        go_wp2_with fail
                        go_loopg [25, 26] N (fun gh s25 s26 wx => ∃ (j c : Nat), j + gh = N ∧ s26 = .int .i64 (j : Int) ∧ s25 = .int .i64 (c : Int) ∧ c ≤ j ∧ Hid (c = countH g.edges j) ∧ wr = wx)
                        case atStart => exact ⟨0, 0, by omega, rfl, rfl, Nat.le_refl _, HC0.out.symm, rfl⟩
                        case round =>
                          obtain ⟨j, c, hjg, rfl, rfl, hcj, hC, rfl⟩ := hrel
                          by_cases hj : j < N
                          · have hjT : j < T.length := by rw [HTl.out]; exact hj
                            have hcj2 := row_get hT.out (i := j) hjT
                            have hTj : T.getD j false = homeB g.edges j := by rw [HAll.out]; simp [HEN.out, hj]
                            rw [hTj] at hcj2
                            have hH := ghome_any _ _ p4 _ g _ hTr j (by rw [HN.out]; exact hj)
                            have hcon : hs.contains (j : Int) = homeB g.edges j := by rw [← HHS.out]; exact homes_contains (by rw [HEN.out]; exact hj)
                            rw [hcon] at hH
                            have hsu := countH_succ g.edges j
                            obtain ⟨x, hx⟩ : ∃ x, homeB g.edges j = x := ⟨_, rfl⟩
                            rw [hx] at hcj2 hH hsu
                            have H1 := Lib.hid hH
                            have HSu := Lib.hid hsu
                            clear hTj hcon hsu hx hH
                            cases x with
                            | true =>
                              have HN2 : Hid (c + 1 = countH g.edges (j + 1)) := by refine Lib.hid ?_; rw [HSu.out, if_pos rfl, ← hC.out]
                              go_wp2_with (first | (go_at_call 31; refine H1.out.mono ?_; rintro e w9 ⟨rfl, rfl⟩; refine Hid.out ?_))
                              refine Lib.hid ?_
                              go_wp2_with fail
                              go_roundg (gk - 1)
                              case measure => omega
                              case rel => exact ⟨j + 1, c + 1, by omega, by go_num, by go_num, by omega, HN2, rfl⟩
                            | false =>
                              have HN2 : Hid (c = countH g.edges (j + 1)) := by refine Lib.hid ?_; rw [HSu.out, if_neg (by simp), ← hC.out]
                              go_wp2_with (first | (go_at_call 31; refine H1.out.mono ?_; rintro e w9 ⟨rfl, rfl⟩; refine Hid.out ?_))
                              refine Lib.hid ?_
                              go_wp2_with fail
                              go_roundg (gk - 1)
                              case measure => omega
                              case rel => exact ⟨j + 1, c, by omega, by go_num, rfl, by omega, HN2, rfl⟩
                          · have hj' : ¬ ((j : Int) < (N : Int)) := by omega
                            have hjN : Hid (j = N) := by refine Lib.hid ?_; omega
                            have HCe : Hid (c = hs.length) := by refine Lib.hid ?_; rw [hC.out, hjN.out, HCA.out]
                            obtain rfl := HCe.out
                            go_wp2_with fail
                            go_ret
                            exact ⟨rfl, (B6.trans (HBr.out.mono B6.size)).trans (HBr2.out.mono (B6.trans (HBr.out.mono B6.size)).size)⟩

end Go.Proofs.YtapnkkoplnhleaaDoor
