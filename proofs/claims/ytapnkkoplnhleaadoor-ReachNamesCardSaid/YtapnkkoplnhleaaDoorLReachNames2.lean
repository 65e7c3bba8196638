/- The walk of the closed law ReachNames. -/
import Derived.Test.YtapnkkoplnhleaaDoorLReachNames
set_option maxRecDepth 100000
namespace Go.Proofs.YtapnkkoplnhleaaDoor
open Go.RowKit

theorem two_dl : deadE twoG.edges = [2, 3] := by rfl
theorem two_dt : deadTE twoG.edges 4 = [3] := by rfl

set_option maxHeartbeats 8000000 in
theorem reachNames_walk (W : World) (htab : Pow10 W.heap.size W) : Calls Tryd.prog 6 #[] W fun e w' => e = .returned (.bool true) ∧ Below W.heap.size W w' := by
  have tb : ∀ w : World, Below W.heap.size W w → Pow10 w.heap.size w := fun w hb => tab_up (htab.on hb) hb.size
  obtain ⟨i1, htr, hr0, hr1, hr2⟩ := info_parts info_tr
  go_enter Tryd.func6, Tryd.ntmps6
  go_wp2_with fail
  refine (works_any _ _ (Nat.le_refl _) htab).mono ?_
  rintro e w1 ⟨rfl, B1⟩
  go_wp2_with fail
  refine (small_any _).mono ?_
  rintro e w2 ⟨vp2, vt2, rfl, hn2, hb2⟩
  have B2 := B1.trans (hb2.mono B1.size)
  go_wp2_with fail
  refine (exp_no _ _ (Nat.le_refl _) _ _ smallC hn2 2 (tb _ B2) names_2).mono ?_
  rintro e w3 ⟨rfl, hb3⟩
  have B3 := B2.trans (hb3.mono B2.size)
  clear hn2
  go_wp2_with fail
  refine (small_any _).mono ?_
  rintro e w4 ⟨vp4, vt4, rfl, hn4, hb4⟩
  have B4 := B3.trans (hb4.mono B3.size)
  go_wp2_with fail
  refine (exp_no _ _ (Nat.le_refl _) _ _ smallC hn4 0 (tb _ B4) names_0).mono ?_
  rintro e w5 ⟨rfl, hb5⟩
  have B5 := B4.trans (hb5.mono B4.size)
  clear hn4
  go_wp2_with fail
  refine (small_any _).mono ?_
  rintro e w6 ⟨vp6, vt6, rfl, hn6, hb6⟩
  have B6 := B5.trans (hb6.mono B5.size)
  go_wp2_with fail
  refine (exp_no _ _ (Nat.le_refl _) _ _ smallC hn6 1025 (tb _ B6) names_1025).mono ?_
  rintro e w7 ⟨rfl, hb7⟩
  have B7 := B6.trans (hb7.mono B6.size)
  clear hn6 hb2 hb3 hb4 hb5 hb6 hb7
  have hnE : NtR w7 w7.heap.size (.slice none 0 0) (.slice none 0 0) emptyN := ⟨ColV.nil _ _ _ _, ⟨none, 0, rfl, by simp [emptyN], fun i hi => by simp [emptyN] at hi⟩⟩
  go_wp2_with fail
  refine (exp_no _ _ (Nat.le_refl _) _ _ emptyN hnE 9 (tb _ B7) names_e).mono ?_
  rintro e w8 ⟨rfl, hb8⟩
  have B8 := B7.trans (hb8.mono B7.size)
  clear hnE hb8
  go_wp2_with fail
  refine (small_own _).mono ?_
  rintro e w9 ⟨vp9, vt9, ja, jb, jc, jd, rfl, hS9, hT9, hb9⟩
  have B9 := B8.trans (hb9.mono B8.size)
  obtain ⟨as9, cs9, rfl⟩ := hS9.shape
  obtain ⟨at9, ct9, rfl⟩ := hT9.1.shape
  obtain ⟨g9, rfl, -, hg9, hl9⟩ := OwnF.some hT9.1 (by simp)
  obtain ⟨base, hbase⟩ : ∃ base, w8.heap.size = base := ⟨_, rfl⟩
  rw [hbase] at hS9 hT9 hg9
  have hWb : W.heap.size ≤ base := by rw [← hbase]; exact B8.size
  have hb9s : base ≤ w9.heap.size := by rw [← hbase]; exact hb9.size
  clear hbase hb9
  have hT9 : OwnT w9 base (.slice (some ⟨g9, 0, none⟩) 2 ct9) [(trS, ja, jb), (trE, jc, jd)] := hT9
  go_upto_region 8 with fail
  obtain ⟨Wa, hWa⟩ : ∃ Wa, w9.alloc (.cells #[.slice as9 place3.length cs9, .slice (some ⟨g9, 0, none⟩) 2 ct9, .int .i64 0, .int .i64 2] 25) = Wa := ⟨_, rfl⟩
  have hba : Below w9.heap.size w9 Wa := by rw [← hWa]; exact (Below.refl _ _).alloc (Nat.le_refl _) _
  have hxa : Wa.heap[w9.heap.size]? = some (.cells #[.slice as9 place3.length cs9, .slice (some ⟨g9, 0, none⟩) 2 ct9, .int .i64 0, .int .i64 2] 25) := by rw [← hWa]; exact heap_alloc_new _ _
  have hza : w9.heap.size + 1 ≤ Wa.heap.size := by rw [← hWa]; simp
  rw [hWa]
  clear hWa
  obtain ⟨x0, x1, x2, x3⟩ := box4' hxa
  obtain ⟨W1, hW1⟩ : ∃ W1, (Wa.alloc (.cells #[.int .i64 1] 3)).alloc (.cells #[.string ⟨#[109]⟩, .slice none 0 0, .slice (some ⟨Wa.heap.size, 0, none⟩) 1 1] 65) = W1 := ⟨_, rfl⟩
  have hb1 : Below Wa.heap.size Wa W1 := by rw [← hW1]; exact ((Below.refl _ _).alloc (by simp) _).alloc (by simp <;> omega) _
  have hI1 : OwnI W1 base (.slice (some ⟨Wa.heap.size, 0, none⟩) 1 1) [1] := own_lit (l := [1]) (by rw [← hW1]; simp only [alloc_get', World.size_alloc]; rw [if_neg (by simp), if_pos (by simp)]; rfl) (by omega) (by decide)
  have hT1 := (hT9.kept hba).kept hb1
  have hS1 := (hS9.kept hba).kept hb1
  have hx1 := (hb1.block _ (by omega)).trans hxa
  have hz1 : Wa.heap.size + 2 ≤ W1.heap.size := by rw [← hW1]; simp
  have hb1s := hb1.size
  have hn1 : ∀ j u, (cellT (⟨⟨#[109]⟩, [], [1]⟩, .slice none 0 0, .slice (some ⟨Wa.heap.size, 0, none⟩) 1 1))[j]? = some u → W1.cell? ((⟨Wa.heap.size + 1, 0, none⟩ : Addr).add j) = some u := by
    have := cells_new (Wa.alloc (.cells #[.int .i64 1] 3)) #[.string ⟨#[109]⟩, .slice none 0 0, .slice (some ⟨Wa.heap.size, 0, none⟩) 1 1] 65
    rw [World.size_alloc, hW1] at this
    exact this
  have B1' : Below W.heap.size W W1 := B9.trans ((hba.mono B9.size).trans (hb1.mono (by have := B9.size; omega)))
  clear hba hT9 hS9 hxa
  go_wp2_with (at_builtin; refine wpList_append_own _ rfl _ _ 23 rfl base 65 i1 (.agg #[.string ⟨#[]⟩, .slice none 0 0, .slice none 0 0]) 3 64 Tryd.underlying23 htr hr0 hr1 hr2 rfl (by decide) (.slice (some ⟨g9, 0, none⟩) 2 ct9) 2 (cellsF cellT [(trS, ja, jb), (trE, jc, jd)]) rfl hT1.1 ⟨Wa.heap.size + 1, 0, none⟩ 1 1 (cellT (⟨⟨#[109]⟩, [], [1]⟩, .slice none 0 0, .slice (some ⟨Wa.heap.size, 0, none⟩) 1 1)) rfl rfl hn1 (fun u hu => by simp [cellT] at hu; rcases hu with rfl | rfl | rfl <;> rfl) (by unfold maxLen; omega) (by omega) (by omega) ?_; intro v10 w10 hown10 hg10 _; refine Hid.out ?_)
  refine Lib.hid ?_
  clear hW1
  have hT10 : OwnT w10 base v10 [(trS, ja, jb), (trE, jc, jd), (⟨⟨#[109]⟩, [], [1]⟩, .slice none 0 0, .slice (some ⟨Wa.heap.size, 0, none⟩) 1 1)] := hT1.app (B := [(⟨⟨#[109]⟩, [], [1]⟩, .slice none 0 0, .slice (some ⟨Wa.heap.size, 0, none⟩) 1 1)]) hg10 hown10 (fun x hx => by obtain rfl := List.mem_singleton.1 hx; exact ⟨OwnI.nil _ _, hI1⟩)
  have hS10 : OwnS w10 base (.slice as9 place3.length cs9) place3 := hS1.turnedT hg10 (fun b cur hb e => by
    obtain ⟨cur', hc, _⟩ := hT1.1.block
    obtain rfl : g9 = b := Option.some.inj hb
    rw [hc] at e; injection e with e; injection e with _ e _; exact absurd e (by decide))
  have hx10 := (hg10.block w9.heap.size (by omega) (by intro e; have e2 : w9.heap.size = g9 := Option.some.inj e; omega)).trans hx1
  have B10 : Below W.heap.size W w10 := B1'.grown hg10 B1'.size (fun k hk => by have e2 : g9 = k := Option.some.inj hk; omega)
  obtain ⟨a10, c10, rfl⟩ := hT10.1.shape
  obtain ⟨hxs, hSs, hTs⟩ := box_net hx10 hS10 hT10
  obtain ⟨x0, x1, x2, x3⟩ := box4' hx10
  have f1 := free_of_block hx10 1
  have Bs : Below W.heap.size W (w10.setCell ⟨w9.heap.size, 1, none⟩ (.slice a10 3 c10)) := B10.setCell (by have := B9.size; omega) _
  obtain ⟨w11, hw11⟩ : ∃ w11, w10.setCell ⟨w9.heap.size, 1, none⟩ (.slice a10 3 c10) = w11 := ⟨_, rfl⟩
  have Bs : Below W.heap.size W w11 := by rw [← hw11]; exact Bs
  have hn11 : NtR w11 w11.heap.size (.slice as9 place3.length cs9) (.slice a10 3 c10) moreN := by
    rw [← hw11]
    exact own_net (n := moreN) hSs hTs rfl (by decide) (by simp) (by intro x hx; simp at hx; rcases hx with rfl | rfl | rfl <;> simp [trS, trE])
  have hx11 : w11.heap[w9.heap.size]? = some (.cells #[.slice as9 place3.length cs9, .slice a10 3 c10, .int .i64 0, .int .i64 2] 25) := by rw [← hw11]; exact hxs
  obtain ⟨z0, z1, z2, z3⟩ := box4' hx11
  have HC := Lib.hid (exp_no _ _ (Nat.le_refl _) _ _ moreN hn11 1024 (tb _ Bs) names_more)
  clear hxs hSs hTs hx10 hx11 hn11 hT10 hS10 hg10 hown10 hn1 hT1 hS1 hI1 hx1 B10 B1' hb1 hb1s hz1
  go_wp2_with (first | (go_at_call 13; refine HC.out.mono ?_; rintro e w12 ⟨rfl, hb12⟩; refine Hid.out ?_))
  refine Lib.hid ?_
  have B12 := Bs.trans (hb12.mono Bs.size)
  clear x0 x1 x2 x3 f1 z0 z1 z2 z3 hw11 HC hb12 Bs hza
  go_wp2_with fail
  refine (small_any _).mono ?_
  rintro e w13 ⟨vp13, vt13, rfl, hn13, hb13⟩
  have B13 := B12.trans (hb13.mono B12.size)
  go_wp2_with fail
  refine (exp_ok _ _ (Nat.le_refl _) _ _ smallC hn13 1024 (tb _ B13) names_1024).mono ?_
  rintro e w14 ⟨p14, rfl, hg14, hb14⟩
  have B14 := B13.trans (hb14.mono B13.size)
  clear hn13 hb13 hb14
  go_wp2_with fail
  refine (gmark_no _ _ p14 _ smallG _ hg14 3 (by decide)).mono ?_
  rintro e w15 ⟨v15, rfl, ho15, hb15⟩
  have B15 := B14.trans (hb15.mono B14.size)
  obtain ⟨a15, c15, rfl⟩ := ho15.shape
  clear hg14 ho15 hb15
  go_wp2_with fail
  refine (small_own _).mono ?_
  rintro e w16 ⟨vp16, vt16, ka, kb, kc, kd, rfl, hS16, hT16, hb16⟩
  have B16 := B15.trans (hb16.mono B15.size)
  obtain ⟨as16, cs16, rfl⟩ := hS16.shape
  obtain ⟨at16, ct16, rfl⟩ := hT16.1.shape
  obtain ⟨g16, rfl, -, hg16, hl16⟩ := OwnF.some hT16.1 (by simp)
  obtain ⟨bas2, hbas2⟩ : ∃ base, w15.heap.size = base := ⟨_, rfl⟩
  rw [hbas2] at hS16 hT16 hg16
  have hWb2 : W.heap.size ≤ bas2 := by rw [← hbas2]; exact B15.size
  have hb16s : bas2 ≤ w16.heap.size := by rw [← hbas2]; exact hb16.size
  clear hbas2 hb16
  have hT16 : OwnT w16 bas2 (.slice (some ⟨g16, 0, none⟩) 2 ct16) [(trS, ka, kb), (trE, kc, kd)] := hT16
  go_upto_region 13 with fail
  obtain ⟨Wa, hWa⟩ : ∃ Wa, w16.alloc (.cells #[.slice as16 place3.length cs16, .slice (some ⟨g16, 0, none⟩) 2 ct16, .int .i64 0, .int .i64 2] 25) = Wa := ⟨_, rfl⟩
  have hba : Below w16.heap.size w16 Wa := by rw [← hWa]; exact (Below.refl _ _).alloc (Nat.le_refl _) _
  have hxa : Wa.heap[w16.heap.size]? = some (.cells #[.slice as16 place3.length cs16, .slice (some ⟨g16, 0, none⟩) 2 ct16, .int .i64 0, .int .i64 2] 25) := by rw [← hWa]; exact heap_alloc_new _ _
  have hza : w16.heap.size + 1 ≤ Wa.heap.size := by rw [← hWa]; simp
  rw [hWa]
  clear hWa
  obtain ⟨x0, x1, x2, x3⟩ := box4' hxa
  obtain ⟨W1, hW1⟩ : ∃ W1, Wa.alloc (.cells #[.int .i64 0] 3) = W1 := ⟨_, rfl⟩
  have hb1 : Below Wa.heap.size Wa W1 := by rw [← hW1]; exact (Below.refl _ _).alloc (by simp) _
  have hI1 : OwnI W1 bas2 (.slice (some ⟨Wa.heap.size, 0, none⟩) 1 1) [0] := own_lit (l := [0]) (by rw [← hW1]; exact heap_alloc_new _ _) (by omega) (by decide)
  have hT1 := (hT16.kept hba).kept hb1
  have hS1 := (hS16.kept hba).kept hb1
  have hx1 := (hb1.block _ (by omega)).trans hxa
  have B1' : Below W.heap.size W W1 := B16.trans ((hba.mono B16.size).trans (hb1.mono (by have := B16.size; omega)))
  have y5 : W1.cell? ⟨g16, 5, none⟩ = some kd := OwnF.at cellT_len hT1.1 (i := 1) (j := 2) (by simp) (by omega)
  have f5 : W1.frozen? ⟨g16, 5, none⟩ = false := OwnF.free hT1.1 5
  have hTs := hT1.set (i := 1) (by simp) hI1
  obtain ⟨w17, hw17⟩ : ∃ w17, W1.setCell ⟨g16, 5, none⟩ (.slice (some ⟨Wa.heap.size, 0, none⟩) 1 1) = w17 := ⟨_, rfl⟩
  have hTs : OwnT w17 bas2 (.slice (some ⟨g16, 0, none⟩) 2 ct16) [(trS, ka, kb), (⟨⟨#[101]⟩, [1], [0]⟩, kc, .slice (some ⟨Wa.heap.size, 0, none⟩) 1 1)] := by rw [← hw17]; exact hTs
  have hSs : OwnS w17 bas2 (.slice as16 place3.length cs16) place3 := by
    rw [← hw17]
    refine hS1.turned (grownBy_setCell _ _ _ _) (fun cur e => ?_)
    obtain ⟨cur', hc, _⟩ := hT1.1.block
    rw [hc] at e; injection e with e; injection e with _ e _; exact absurd e (by decide)
  have hxs : w17.heap[w16.heap.size]? = some (.cells #[.slice as16 place3.length cs16, .slice (some ⟨g16, 0, none⟩) 2 ct16, .int .i64 0, .int .i64 2] 25) := by rw [← hw17, heap_setCell_ne _ _ (by show w16.heap.size ≠ g16; omega)]; exact hx1
  have Bs : Below W.heap.size W w17 := by rw [← hw17]; exact B1'.setCell (by show W.heap.size ≤ g16; omega) _
  have hnR : NtR w17 w17.heap.size (.slice as16 place3.length cs16) (.slice (some ⟨g16, 0, none⟩) 2 ct16) ringN :=
    own_net (n := ringN) hSs hTs rfl (by decide) (by simp) (by intro x hx; simp at hx; rcases hx with rfl | rfl <;> simp [trS])
  obtain ⟨z0, z1, z2, z3⟩ := box4' hxs
  have HC := Lib.hid (exp_ok _ _ (Nat.le_refl _) _ _ ringN hnR 9 (tb _ Bs) names_ring)
  clear hT1 hS1 hx1 hI1 hTs hSs hxs hnR hT16 hS16 hba hxa B1'
  go_wp2_with (first | (go_at_call 13; refine HC.out.mono ?_; rintro e w18 ⟨p18, rfl, hg18, hb18⟩; refine Hid.out ?_))
  refine Lib.hid ?_
  have B18 := Bs.trans (hb18.mono Bs.size)
  rw [ring_homes] at hg18
  have hg18 : GrR w18 w18.heap.size p18 2 ringG [0, 1] := hg18
  clear x0 x1 x2 x3 f5 y5 z0 z1 z2 z3 hw17 hW1 HC hb18 Bs hza hb1
  go_wp2_with fail
  refine (ghomes_any _ _ p18 _ ringG _ hg18 (Nat.le_refl _)).mono ?_
  rintro e w19 ⟨v19, rfl, ho19, hb19⟩
  have B19 := B18.trans (hb19.mono B18.size)
  have hg19 := hg18.mono hb19 hb19.size
  obtain ⟨a19, c19, rfl⟩ := ho19.shape
  clear hg18 ho19 hb19
  go_wp2_with fail
  refine (glen_is _ _ p18 _ ringG _ hg19 (t := 2) rfl).mono ?_
  rintro e w20 ⟨rfl, rfl⟩
  clear hg19
  go_wp2_with fail
  refine (small_own _).mono ?_
  rintro e w20 ⟨vp20, vt20, la, lb, lc, ld, rfl, hS20, hT20, hb20⟩
  have B20 := B19.trans (hb20.mono B19.size)
  obtain ⟨as20, cs20, rfl⟩ := hS20.shape
  obtain ⟨at20, ct20, rfl⟩ := hT20.1.shape
  obtain ⟨g20, rfl, -, hg20, hl20⟩ := OwnF.some hT20.1 (by simp)
  obtain ⟨bas3, hbas3⟩ : ∃ base, w19.heap.size = base := ⟨_, rfl⟩
  rw [hbas3] at hS20 hT20 hg20
  have hWb3 : W.heap.size ≤ bas3 := by rw [← hbas3]; exact B19.size
  have hb20s : bas3 ≤ w20.heap.size := by rw [← hbas3]; exact hb20.size
  clear hbas3 hb20
  have hT20 : OwnT w20 bas3 (.slice (some ⟨g20, 0, none⟩) 2 ct20) [(trS, la, lb), (trE, lc, ld)] := hT20
  go_upto_region 18 with fail
  obtain ⟨Wa, hWa⟩ : ∃ Wa, w20.alloc (.cells #[.slice as20 place3.length cs20, .slice (some ⟨g20, 0, none⟩) 2 ct20, .int .i64 0, .int .i64 2] 25) = Wa := ⟨_, rfl⟩
  have hba : Below w20.heap.size w20 Wa := by rw [← hWa]; exact (Below.refl _ _).alloc (Nat.le_refl _) _
  have hxa : Wa.heap[w20.heap.size]? = some (.cells #[.slice as20 place3.length cs20, .slice (some ⟨g20, 0, none⟩) 2 ct20, .int .i64 0, .int .i64 2] 25) := by rw [← hWa]; exact heap_alloc_new _ _
  have hza : w20.heap.size + 1 ≤ Wa.heap.size := by rw [← hWa]; simp
  rw [hWa]
  clear hWa
  obtain ⟨x0, x1, x2, x3⟩ := box4' hxa
  obtain ⟨W1, hW1⟩ : ∃ W1, ((Wa.alloc (.cells #[.int .i64 0] 3)).alloc (.cells #[.int .i64 0, .int .i64 1] 3)).alloc (.cells #[.string ⟨#[120]⟩, .slice (some ⟨Wa.heap.size, 0, none⟩) 1 1, .slice none 0 0, .string ⟨#[121]⟩, .slice (some ⟨Wa.heap.size + 1, 0, none⟩) 2 2, .slice none 0 0] 65) = W1 := ⟨_, rfl⟩
  have hb1 : Below Wa.heap.size Wa W1 := by rw [← hW1]; exact (((Below.refl _ _).alloc (by simp) _).alloc (by simp <;> omega) _).alloc (by simp <;> omega) _
  have hI1 : OwnI W1 bas3 (.slice (some ⟨Wa.heap.size, 0, none⟩) 1 1) [0] := own_lit (l := [0]) (by rw [← hW1]; simp only [alloc_get', World.size_alloc]; repeat (first | rfl | rw [if_pos trivial] | rw [if_pos (by omega)] | rw [if_neg (by omega)])) (by omega) (by decide)
  have hI2 : OwnI W1 bas3 (.slice (some ⟨Wa.heap.size + 1, 0, none⟩) 2 2) [0, 1] := own_lit (l := [0, 1]) (by rw [← hW1]; simp only [alloc_get', World.size_alloc]; repeat (first | rfl | rw [if_pos trivial] | rw [if_pos (by omega)] | rw [if_neg (by omega)])) (by omega) (by decide)
  have hT1 := (hT20.kept hba).kept hb1
  have hS1 := (hS20.kept hba).kept hb1
  have hx1 := (hb1.block _ (by omega)).trans hxa
  have hz1 : Wa.heap.size + 3 ≤ W1.heap.size := by rw [← hW1]; simp
  have hb1s := hb1.size
  obtain ⟨NB, hNB⟩ : ∃ NB : List (Tr × Value × Value), [(⟨⟨#[120]⟩, [0], []⟩, .slice (some ⟨Wa.heap.size, 0, none⟩) 1 1, .slice none 0 0), (⟨⟨#[121]⟩, [0, 1], []⟩, .slice (some ⟨Wa.heap.size + 1, 0, none⟩) 2 2, .slice none 0 0)] = NB := ⟨_, rfl⟩
  have hn1 : ∀ j u, (cellsF cellT NB)[j]? = some u → W1.cell? ((⟨Wa.heap.size + 2, 0, none⟩ : Addr).add j) = some u := by
    have := cells_new ((Wa.alloc (.cells #[.int .i64 0] 3)).alloc (.cells #[.int .i64 0, .int .i64 1] 3)) #[.string ⟨#[120]⟩, .slice (some ⟨Wa.heap.size, 0, none⟩) 1 1, .slice none 0 0, .string ⟨#[121]⟩, .slice (some ⟨Wa.heap.size + 1, 0, none⟩) 2 2, .slice none 0 0] 65
    rw [World.size_alloc, World.size_alloc, hW1] at this
    rw [← hNB]
    exact this
  have hnc : ∀ u ∈ cellsF cellT NB, u.oneCell' = true := by rw [← hNB]; intro u hu; simp [cellsF, cellT] at hu; rcases hu with rfl | rfl | rfl | rfl | rfl | rfl <;> rfl
  have hnl : (cellsF cellT NB).length = 2 * 3 := by rw [← hNB]; rfl
  have hnb : ∀ x ∈ NB, OwnI W1 bas3 x.2.1 x.1.inn ∧ OwnI W1 bas3 x.2.2 x.1.out := by
    rw [← hNB]
    intro x hx
    simp only [List.mem_cons, List.mem_nil_iff, or_false] at hx
    rcases hx with rfl | rfl
    · exact ⟨hI1, OwnI.nil _ _⟩
    · exact ⟨hI2, OwnI.nil _ _⟩
  have hNBm : NB.map Prod.fst = [⟨⟨#[120]⟩, [0], []⟩, ⟨⟨#[121]⟩, [0, 1], []⟩] := by rw [← hNB]; rfl
  have hNBl : NB.length = 2 := by rw [← hNB]; rfl
  clear hNB
  have B1' : Below W.heap.size W W1 := B20.trans ((hba.mono B20.size).trans (hb1.mono (by have := B20.size; omega)))
  clear hba hT20 hS20 hxa
  go_wp2_with (at_builtin; refine wpList_append_own _ rfl _ _ 23 rfl bas3 65 i1 (.agg #[.string ⟨#[]⟩, .slice none 0 0, .slice none 0 0]) 3 64 Tryd.underlying23 htr hr0 hr1 hr2 rfl (by decide) (.slice (some ⟨g20, 0, none⟩) 2 ct20) 2 (cellsF cellT [(trS, la, lb), (trE, lc, ld)]) rfl hT1.1 ⟨Wa.heap.size + 2, 0, none⟩ 2 2 (cellsF cellT NB) rfl hnl hn1 hnc (by unfold maxLen; omega) (by omega) (by omega) ?_; intro v21 w21 hown21 hg21 _; refine Hid.out ?_)
  refine Lib.hid ?_
  clear hW1
  have hT21 : OwnT w21 bas3 v21 ([(trS, la, lb), (trE, lc, ld)] ++ NB) := hT1.app hg21 (by rw [hNBl]; exact hown21) hnb
  have hS21 : OwnS w21 bas3 (.slice as20 place3.length cs20) place3 := hS1.turnedT hg21 (fun b cur hb e => by
    obtain ⟨cur', hc, _⟩ := hT1.1.block
    obtain rfl : g20 = b := Option.some.inj hb
    rw [hc] at e; injection e with e; injection e with _ e _; exact absurd e (by decide))
  have hx21 := (hg21.block w20.heap.size (by omega) (by intro e; have e2 : w20.heap.size = g20 := Option.some.inj e; omega)).trans hx1
  have B21 : Below W.heap.size W w21 := B1'.grown hg21 B1'.size (fun k hk => by have e2 : g20 = k := Option.some.inj hk; omega)
  have hl21 : ([(trS, la, lb), (trE, lc, ld)] ++ NB).length = 4 := by rw [List.length_append, hNBl]; rfl
  obtain ⟨a21, c21, rfl⟩ := hT21.1.shape
  rw [hl21] at hT21
  rw [hl21]
  obtain ⟨hxs, hSs, hTs⟩ := box_net hx21 hS21 hT21
  obtain ⟨x0, x1, x2, x3⟩ := box4' hx21
  have f1 := free_of_block hx21 1
  have Bs : Below W.heap.size W (w21.setCell ⟨w20.heap.size, 1, none⟩ (.slice a21 4 c21)) := B21.setCell (by have := B20.size; omega) _
  obtain ⟨w22, hw22⟩ : ∃ w22, w21.setCell ⟨w20.heap.size, 1, none⟩ (.slice a21 4 c21) = w22 := ⟨_, rfl⟩
  have Bs : Below W.heap.size W w22 := by rw [← hw22]; exact Bs
  have hn22 : NtR w22 w22.heap.size (.slice as20 place3.length cs20) (.slice a21 4 c21) twoN := by
    rw [← hw22]
    refine own_net (n := twoN) hSs hTs ?_ (by decide) (by omega) ?_
    · rw [List.map_append, hNBm]; rfl
    · intro x hx
      rcases List.mem_append.1 hx with hx | hx
      · simp at hx; rcases hx with rfl | rfl <;> simp [trS, trE]
      · have := List.mem_map_of_mem (f := Prod.fst) hx
        rw [hNBm] at this
        simp at this
        rcases this with e | e <;> rw [e] <;> simp
  have hx22 : w22.heap[w20.heap.size]? = some (.cells #[.slice as20 place3.length cs20, .slice a21 4 c21, .int .i64 0, .int .i64 2] 25) := by rw [← hw22]; exact hxs
  obtain ⟨z0, z1, z2, z3⟩ := box4' hx22
  have HC := Lib.hid (exp_ok _ _ (Nat.le_refl _) _ _ twoN hn22 9 (tb _ Bs) names_two)
  have hE := twoX.eok (by omega) (by decide)
  have hE2 : ∀ l ∈ twoG.edges, ∀ e ∈ l, 0 ≤ e.1 ∧ e.1 < ((4 : Nat) : Int) := fun l hl e he => (twoX.ok.edge l hl e he).1
  have HE := Lib.hid (And.intro hE hE2)
  clear hxs hSs hTs hx21 hx22 hn22 hT21 hS21 hg21 hown21 hn1 hT1 hS1 hI1 hx1 B21 B1' hb1 hb1s hz1 hnb hnc hnl hNBm hNBl hl21 hE hE2 hI2
  go_wp2_with (first | (go_at_call 13; refine HC.out.mono ?_; rintro e w23 ⟨p23, rfl, hg23, hb23⟩; refine Hid.out ?_))
  refine Lib.hid ?_
  have B23 := Bs.trans (hb23.mono Bs.size)
  rw [two_homes] at hg23
  have hg23 : GrR w23 w23.heap.size p23 4 twoG [] := hg23
  clear x0 x1 x2 x3 f1 z0 z1 z2 z3 hw22 HC hb23 Bs hza
  go_wp2_with fail
  refine (gdeadl_any _ _ p23 4 twoG _ hg23 (Nat.le_refl _) HE.out.1).mono ?_
  rintro e w24 ⟨v24, rfl, ho24, hb24⟩
  have B24 := B23.trans (hb24.mono B23.size)
  have hg24 := hg23.mono hb24 hb24.size
  rw [two_dl] at ho24
  obtain ⟨a24, c24, rfl⟩ := ho24.shape
  clear hg23 ho24 hb24
  go_wp2_with fail
  refine (ghomes_any _ _ p23 4 twoG _ hg24 (Nat.le_refl _)).mono ?_
  rintro e w25 ⟨v25, rfl, ho25, hb25⟩
  have B25 := B24.trans (hb25.mono B24.size)
  have hg25 := hg24.mono hb25 hb25.size
  obtain ⟨a25, c25, rfl⟩ := ho25.shape
  clear hg24 ho25 hb25
  go_wp2_with fail
  refine (gdead_any _ _ p23 4 twoG _ hg25 (Nat.le_refl _) HE.out.1 HE.out.2).mono ?_
  rintro e w26 ⟨v26, rfl, ho26, hb26⟩
  have B26 := B25.trans (hb26.mono B25.size)
  have hg26 := hg25.mono hb26 hb26.size
  rw [two_dt] at ho26
  obtain ⟨a26, c26, rfl⟩ := ho26.shape
  clear hg25 ho26 hb26
  go_wp2_with fail
  refine (gdead_any _ _ p23 4 twoG _ hg26 (Nat.le_refl _) HE.out.1 HE.out.2).mono ?_
  rintro e w27 ⟨v27, rfl, ho27, hb27⟩
  have B27 := B26.trans (hb27.mono B26.size)
  rw [two_dt] at ho27
  obtain ⟨a27, c27, rfl⟩ := ho27.shape
  rcases ho27.val with ⟨-, h0⟩ | ⟨g27, cap27, hv27, -, -⟩
  · cases h0
  obtain rfl : a27 = some ⟨g27, 0, none⟩ := by injection hv27
  have y0 : w27.cell? ⟨g27, 0, none⟩ = some (.int .i64 3) := (ho27.at (i := 0) (by decide)).1
  clear ho27 hb27 hg26 hv27
  go_wp2_with fail
  go_ret
  exact ⟨rfl, B27⟩

end Go.Proofs.YtapnkkoplnhleaaDoor
