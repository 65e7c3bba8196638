/- Texts fused by fuse.py: KLRuleNames. -/
import Derived.Test.YtjcaaahbfkjipaaGreatDoorKZ43
/- Of LRuleNames: what FRuleNames uses (shake.py). -/
set_option maxRecDepth 100000
/- The walk of the law RuleNames. -/
namespace Go.Proofs.YtjcaaahbfkjipaaGreatDoor
open Go.RowKit
def nmM0 : Md := ⟨nS, nS, [], [], []⟩
def nmM2 : Md := ⟨⟨#[112]⟩, nS, [], [smS, smE], []⟩
def nmM3 : Md := ⟨⟨#[112]⟩, nS, [], [smS, smE], [smF, smF]⟩
def nmM4 : Md := ⟨⟨#[112]⟩, nS, [], [smS], [smF]⟩
def nmF : Fl := ⟨⟨#[102]⟩, ⟨#[115]⟩, ⟨#[101]⟩, ⟨#[116, 114, 117, 101]⟩⟩
def nmM5 : Md := ⟨⟨#[112]⟩, nS, [], [smS, smE], [nmF]⟩
theorem nm_r0 : ruleE nmM0 = (1, nS, 140) := by kernel_rfl
theorem nm_r2 : ruleE nmM2 = (4, ⟨#[115]⟩, 140) := by kernel_rfl
theorem nm_r3 : ruleE nmM3 = (1, ⟨#[102]⟩, 140) := by kernel_rfl
theorem nm_r4 : ruleE nmM4 = (3, ⟨#[102]⟩, 140) := by kernel_rfl
theorem nm_r5 : ruleE nmM5 = (6, ⟨#[102]⟩, 140) := by kernel_rfl
theorem nmF_W : FlW nmF := ⟨by decide, by decide, by decide, by decide⟩
theorem els_0 (w : World) (B : Nat) : ElsR w B (.slice none 0 0) [] := RowsW.nil _ _
theorem fls_0 (w : World) (B : Nat) : FlsR w B (.slice none 0 0) [] := RowsW.nil _ _
theorem els_1 {w : World} {p : Nat} {a b : El} {t : TypeId} {fr : Nat × Nat} (h : w.heap[p]? = some (.cells (cellEl a ++ cellEl b).toArray t fr)) (ha : ElW a) (cap : Nat) (hc : 1 ≤ cap) : ElsR w w.heap.size (.slice (some ⟨p, 0, none⟩) 1 cap) [a] := by
  refine ⟨_, cap, rfl, by simp, hc, fun i hi => ⟨p, 0, rfl, lt_of_block h, fun j hj => ?_⟩, ?_⟩
  · rw [cell_of_block h]
    obtain rfl : i = 0 := by simp at hi; omega
    rw [List.getElem?_toArray, List.getElem?_append_left (by rw [cellEl_len]; omega)]
    simp
  · intro y hy
    rw [List.mem_singleton] at hy
    rw [hy]; exact ha
/-- A model's five cells turned. -/
abbrev set5 (W : World) (p : Nat) (v0 v1 v2 v3 v4 : Value) : World := ((((W.setCell ⟨p, 0, none⟩ v0).setCell ⟨p, 1, none⟩ v1).setCell ⟨p, 2, none⟩ v2).setCell ⟨p, 3, none⟩ v3).setCell ⟨p, 4, none⟩ v4
theorem set5_grown (W : World) (p : Nat) (v0 v1 v2 v3 v4 : Value) : W.grownBy (set5 W p v0 v1 v2 v3 v4) (some p) :=
  ((((grownBy_setCell W p 0 _).trans (grownBy_setCell _ p 1 _)).trans (grownBy_setCell _ p 2 _)).trans (grownBy_setCell _ p 3 _)).trans (grownBy_setCell _ p 4 _)
theorem set5_is {W : World} {p : Nat} {a0 a1 a2 a3 a4 : Value} {t : TypeId} (h : W.heap[p]? = some (.cells #[a0, a1, a2, a3, a4] t (0, 0))) (v0 v1 v2 v3 v4 : Value) : (set5 W p v0 v1 v2 v3 v4).heap[p]? = some (.cells #[v0, v1, v2, v3, v4] t (0, 0)) := by
  have := heap_setCell_self (i := 4) v4 (heap_setCell_self (i := 3) v3 (heap_setCell_self (i := 2) v2 (heap_setCell_self (i := 1) v1 (heap_setCell_self (i := 0) v0 h))))
  simpa using this
theorem box5v {W : World} {p : Nat} {a0 a1 a2 a3 a4 : Value} {t : TypeId} {fr : Nat × Nat} (h : W.heap[p]? = some (.cells #[a0, a1, a2, a3, a4] t fr)) : W.cell? ⟨p, 0, none⟩ = some a0 ∧ W.cell? ⟨p, 1, none⟩ = some a1 ∧ W.cell? ⟨p, 2, none⟩ = some a2 ∧ W.cell? ⟨p, 3, none⟩ = some a3 ∧ W.cell? ⟨p, 4, none⟩ = some a4 :=
  ⟨(cell_of_block h 0).trans rfl, (cell_of_block h 1).trans rfl, (cell_of_block h 2).trans rfl, (cell_of_block h 3).trans rfl, (cell_of_block h 4).trans rfl⟩
section
variable {w : World}
theorem nm_check (M : Md) {W : World} {vv ve vf : Value} {a : Int} {b : ByteArray} (h : MdR W W.heap.size vv ve vf M) (hg : Gr W) (hr : ruleE M = (a, b, 140)) (h1 : M.els.length ≤ 1000) (h2 : M.fls.length ≤ 1000000) :
    Calls Tryz.prog 11 #[.agg #[.string M.id, .string M.name, vv, ve, vf]] W fun e w' => e = .returned (.tuple #[.int .i64 a, .string b, .int .i64 140]) ∧ Below W.heap.size W w' := by
  have := check_any (w := W) vv ve vf h hg h1 h2
  rw [hr] at this
  exact this
theorem SmR.turn {w w' : World} {B pe pf pm : Nat} (h : SmR w B pe pf) (hg : w.grownBy w' (some pm)) (h1 : pe ≠ pm) (h2 : pf ≠ pm) : SmR w' B pe pf :=
  { h with els := (hg.block pe (lt_of_block h.els) (fun e => h1 (Option.some.inj e))).trans h.els, fls := (hg.block pf (lt_of_block h.fls) (fun e => h2 (Option.some.inj e))).trans h.fls }
set_option maxHeartbeats 16000000 in
theorem ruleNames_walk (w : World) (hg : Gr w) : Calls Tryz.prog 4 #[] w fun e w' => e = .returned (.bool true) ∧ Below w.heap.size w w' := by
  have HG := Lib.hid hg
  have HC0 := Lib.hid (nm_check nmM0 (W := w) ⟨bds_0 _ _, els_0 _ _, fls_0 _ _, by decide, by decide⟩ hg nm_r0 (by decide) (by decide))
  clear hg
  go_enter Tryz.func4, Tryz.ntmps4
  go_wp2_with (first
    | (go_at_call 11; refine HC0.out.mono ?_; rintro e w1 ⟨rfl, hb1⟩; have HB1 := Lib.hid hb1; clear hb1)
    | (go_at_call 14; refine small_any.mono ?_; rintro e w2 ⟨pe, pf, rfl, hs2, hb2⟩; have H2 := Lib.hid (And.intro hs2 (HB1.out.trans (hb2.mono HB1.out.size))); clear hs2 hb2; refine Hid.out ?_))
  refine Lib.hid ?_
  obtain ⟨wA, pm, hpA, hwA, lA, nA, bA⟩ := box_new w2 (.cells #[.string smM.id, .string smM.name, .slice none 0 0, .slice (some ⟨pe, 0, none⟩) 2 2, .slice (some ⟨pf, 0, none⟩) 1 1] 26)
  obtain ⟨w3, hw3⟩ : ∃ W, wA.setCell ⟨pm, 4, none⟩ (.slice none 0 0) = W := ⟨_, rfl⟩
  have n3 : w3.heap[pm]? = some (.cells #[.string smM.id, .string smM.name, .slice none 0 0, .slice (some ⟨pe, 0, none⟩) 2 2, .slice none 0 0] 26 (0, 0)) := hw3 ▸ heap_setCell_self _ nA
  have gA : wA.grownBy w3 (some pm) := hw3 ▸ grownBy_setCell wA pm 4 _
  have lpm : w.heap.size ≤ pm := by have := H2.out.2.size; omega
  have H3 := Lib.hid (And.intro ((H2.out.1.below bA).turn gA (by have := lt_of_block H2.out.1.els; omega) (by have := lt_of_block H2.out.1.fls; omega)) ((H2.out.2.trans (bA.mono H2.out.2.size)).grown gA (H2.out.2.trans (bA.mono H2.out.2.size)).size (fun r hr => by cases hr; exact lpm)))
  obtain ⟨a0, a1, a2, a3, a4⟩ := box5v nA
  have af := free_of_block nA
  have HC3 := Lib.hid (nm_check nmM2 (W := w3) ⟨bds_0 _ _, H3.out.1.md.els, fls_0 _ _, by decide, by decide⟩ (HG.out.up H3.out.2) nm_r2 (by decide) (by decide))
  obtain ⟨c0, c1, c2, c3, c4⟩ := box5v n3
  have HN3 := Lib.hid n3
  have l3 : pm < w3.heap.size := lt_of_block n3
  clear n3 nA bA gA
  go_wp2_with (first
    | (go_at_call 11; refine HC3.out.mono ?_; rintro e w4 ⟨rfl, hb4⟩; have HB4 := Lib.hid hb4; clear hb4)
    | (go_at_call 14; have _ := HB4; refine small_any.mono ?_; rintro e w5 ⟨pe5, pf5, rfl, hs5, hb5⟩; have H5 := Lib.hid (And.intro hs5 hb5); clear hs5 hb5; refine Hid.out ?_))
  refine Lib.hid ?_
  have B5 : Below w3.heap.size w3 w5 := HB4.out.trans (H5.out.2.mono HB4.out.size)
  have BW5 := Lib.hid (H3.out.2.trans (B5.mono H3.out.2.size))
  have n5 := (B5.block pm l3).trans HN3.out
  obtain ⟨w6, hw6⟩ : ∃ W, set5 w5 pm (.string smM.id) (.string smM.name) (.slice none 0 0) (.slice (some ⟨pe5, 0, none⟩) 2 2) (.slice (some ⟨pf5, 0, none⟩) 1 1) = W := ⟨_, rfl⟩
  have n6 : w6.heap[pm]? = some (.cells #[.string smM.id, .string smM.name, .slice none 0 0, .slice (some ⟨pe5, 0, none⟩) 2 2, .slice (some ⟨pf5, 0, none⟩) 1 1] 26 (0, 0)) := hw6 ▸ set5_is n5 _ _ _ _ _
  have g6 : w5.grownBy w6 (some pm) := hw6 ▸ set5_grown w5 pm _ _ _ _ _
  have pml : pm < w4.heap.size := Nat.lt_of_lt_of_le l3 HB4.out.size
  have H6 := Lib.hid (And.intro (H5.out.1.turn g6 (by have := H5.out.1.b1; omega) (by have := H5.out.1.b2; omega)) (BW5.out.grown g6 BW5.out.size (fun r hr => by cases hr; exact lpm)))
  have pfpm : pf5 ≠ pm := by have := H5.out.1.b2; omega
  have lpf : w.heap.size ≤ pf5 := by have := H5.out.1.b2; have := HB4.out.size; have := H3.out.2.size; omega
  obtain ⟨i0, hti, hz0, hz1, hz2⟩ := info_parts info_fl
  have hO6 : OwnF cellFl 36 4 w6 w.heap.size (.slice (some ⟨pf5, 0, none⟩) 1 1) [smF] := ⟨by simp [cellsF, cellFl], .inr ⟨pf5, 1, _, rfl, lpf, H6.out.1.fls, Nat.le_refl _, by unfold maxLen; omega, rfl, by simp [cellsF, cellFl]⟩⟩
  have HO6 := Lib.hid hO6
  have HST : Hid (∀ (W' w7 : World) (v7 : Value), Below w6.heap.size w6 W' → W'.grownBy w7 (some pf5) → w7.ownsRow w.heap.size 36 4 v7 (1 + 1) (cellsF cellFl [smF] ++ cellFl smF) → ∃ a7 c7 w8, v7 = .slice a7 2 c7 ∧ w7.setCell ⟨pm, 4, none⟩ (.slice a7 2 c7) = w8 ∧
      w7.heap[pm]? = some (.cells #[.string smM.id, .string smM.name, .slice none 0 0, .slice (some ⟨pe5, 0, none⟩) 2 2, .slice (some ⟨pf5, 0, none⟩) 1 1] 26 (0, 0)) ∧ w8.heap[pm]? = some (.cells #[.string smM.id, .string smM.name, .slice none 0 0, .slice (some ⟨pe5, 0, none⟩) 2 2, .slice a7 2 c7] 26 (0, 0)) ∧
      MdR w8 w8.heap.size (.slice none 0 0) (.slice (some ⟨pe5, 0, none⟩) 2 2) (.slice a7 2 c7) nmM3 ∧ Below w.heap.size w w8) := Lib.hid (fun W' w7 v7 hb hg ho => by
    have hO7 : OwnF cellFl 36 4 w7 w.heap.size v7 [smF, smF] := ho
    obtain ⟨a7, c7, rfl⟩ := OwnF.shape hO7
    have n7 := (hg.block pm (Nat.lt_of_lt_of_le (lt_of_block n6) hb.size) (fun e => pfpm (Option.some.inj e).symm)).trans ((hb.block pm (lt_of_block n6)).trans n6)
    have g8 := grownBy_setCell w7 pm 4 (.slice a7 2 c7)
    have e7 : w7.heap[pe5]? = some (oEls2 smS smE) := (hg.block pe5 (Nat.lt_of_lt_of_le (lt_of_block H6.out.1.els) hb.size) (fun e => H6.out.1.ne (Option.some.inj e))).trans ((hb.block pe5 (lt_of_block H6.out.1.els)).trans H6.out.1.els)
    have e8 := (g8.block pe5 (lt_of_block e7) (fun e => by have := Option.some.inj e; have := H5.out.1.b1; omega)).trans e7
    have hO8 : OwnF cellFl 36 4 (w7.setCell ⟨pm, 4, none⟩ (.slice a7 2 c7)) w.heap.size (.slice a7 2 c7) [smF, smF] := hO7.turned g8 (fun g n c hv2 e => by
      have e := Option.some.inj e
      obtain ⟨cur, hcur, _⟩ := ownF_cells hO7 (g := g) (by rw [hv2]; rfl)
      rw [e, n7] at hcur
      injection hcur with hcur
      injection hcur with _ h2
      exact absurd h2 (by decide))
    have b7 := (H6.out.2.trans (hb.mono H6.out.2.size)).grown hg (H6.out.2.trans (hb.mono H6.out.2.size)).size (fun r hr => by cases hr; exact lpf)
    refine ⟨a7, c7, _, rfl, rfl, n7, heap_setCell_self _ n7, ⟨bds_0 _ _, els_2 e8 elW_S elW_E 2 (Nat.le_refl _), ?_, by decide, by decide⟩, b7.grown g8 b7.size (fun r hr => by cases hr; exact lpm)⟩
    exact rowsF_of (l := [smF, smF]) hO8 (by decide) (fun y hy => by
      simp only [List.mem_cons, List.not_mem_nil, or_false, or_self] at hy
      rw [hy]; exact flW_F))
  obtain ⟨b0, b1, b2, b3', b4⟩ := box5v n5
  have bf := free_of_block n5
  obtain ⟨d0, d1, d2, d3, d4⟩ := box5v n6
  have df := free_of_block n6
  obtain ⟨f0, f1, f2, f3⟩ := boxFl H6.out.1.fls
  have hzw : w.heap.size ≤ w6.heap.size := H6.out.2.size
  have lpm6 : pm < w6.heap.size := lt_of_block n6
  have lpf6 : pf5 < w6.heap.size := lt_of_block H6.out.1.fls
  unfold set5 at hw6
  clear B5 n5 n6 g6 hO6
  go_wp2_with fail
  go_region_law (first
    | (refine step_append_own _ (by rfl) (.tmp 33) (.tmp 38) 24 (by rfl) w.heap.size 36 i0 _ 4 64 Tryz.underlying24 hti hz0 hz1 hz2 rfl (by decide) (.slice (some ⟨pf5, 0, none⟩) 1 1) 1 (cellsF cellFl [smF]) (by rfl) (by first | exact OwnF.kept HO6.out (((Below.refl _ _).drew).alloc (Nat.le_refl _) _) | exact OwnF.kept HO6.out (((Below.refl _ _).alloc (Nat.le_refl _) _).drew)) _ 1 1 (cellFl smF) (by rfl) rfl (cells_new _ _ _) (cellFl_one smF) (by unfold maxLen; omega) (by omega) (by simp; omega) ?_; intro v7 w7 hown7 hg7 _
       have hst := (by first | exact HST.out _ w7 v7 (((Below.refl _ _).drew).alloc (Nat.le_refl _) _) hg7 hown7 | exact HST.out _ w7 v7 (((Below.refl _ _).alloc (Nat.le_refl _) _).drew) hg7 hown7 : ∃ a7 c7 w8, v7 = .slice a7 2 c7 ∧ w7.setCell ⟨pm, 4, none⟩ (.slice a7 2 c7) = w8 ∧ w7.heap[pm]? = some (.cells #[.string smM.id, .string smM.name, .slice none 0 0, .slice (some ⟨pe5, 0, none⟩) 2 2, .slice (some ⟨pf5, 0, none⟩) 1 1] 26 (0, 0)) ∧ w8.heap[pm]? = some (.cells #[.string smM.id, .string smM.name, .slice none 0 0, .slice (some ⟨pe5, 0, none⟩) 2 2, .slice a7 2 c7] 26 (0, 0)) ∧ MdR w8 w8.heap.size (.slice none 0 0) (.slice (some ⟨pe5, 0, none⟩) 2 2) (.slice a7 2 c7) nmM3 ∧ Below w.heap.size w w8)
       obtain ⟨a7, c7, w8, rfl, hw8, n7, n8, hm8, hb8⟩ := hst
       obtain ⟨k0, k1, k2, k3, k4⟩ := box5v n7; have kf := free_of_block n7; obtain ⟨q0, q1, q2, q3, q4⟩ := box5v n8; have qf := free_of_block n8; have HN8 := Lib.hid (And.intro n8 hb8); have HC8 := Lib.hid (nm_check nmM3 hm8 (HG.out.up hb8) nm_r3 (by decide) (by decide)); clear n7 n8 hm8 hb8 hown7 hg7))
  all_goals
    go_wp2_with (first
      | (go_at_call 11; refine HC8.out.mono ?_; rintro e w9 ⟨rfl, hb9⟩; have HB9 := Lib.hid hb9; clear hb9)
      | (go_at_call 14; have _ := HB9; refine small_any.mono ?_; rintro e w10 ⟨pe10, pf10, rfl, hs10, hb10⟩; have H10 := Lib.hid (And.intro hs10 hb10); clear hs10 hb10; refine Hid.out ?_))
    refine Lib.hid ?_
    have l8 : pm < w8.heap.size := lt_of_block HN8.out.1
    have BW10 := Lib.hid (HN8.out.2.trans ((HB9.out.trans (H10.out.2.mono HB9.out.size)).mono HN8.out.2.size))
    have n10 := ((HB9.out.trans (H10.out.2.mono HB9.out.size)).block pm l8).trans HN8.out.1
    have l9 : pm < w9.heap.size := Nat.lt_of_lt_of_le l8 HB9.out.size
    obtain ⟨w11, hw11⟩ : ∃ W, set5 w10 pm (.string smM.id) (.string smM.name) (.slice none 0 0) (.slice (some ⟨pe10, 0, none⟩) 2 2) (.slice (some ⟨pf10, 0, none⟩) 1 1) = W := ⟨_, rfl⟩
    have n11 : w11.heap[pm]? = some (.cells #[.string smM.id, .string smM.name, .slice none 0 0, .slice (some ⟨pe10, 0, none⟩) 2 2, .slice (some ⟨pf10, 0, none⟩) 1 1] 26 (0, 0)) := hw11 ▸ set5_is n10 _ _ _ _ _
    have g11 : w10.grownBy w11 (some pm) := hw11 ▸ set5_grown w10 pm _ _ _ _ _
    obtain ⟨w12, hw12⟩ : ∃ W, w11.setCell ⟨pm, 3, none⟩ (.slice (some ⟨pe10, 0, none⟩) 1 2) = W := ⟨_, rfl⟩
    have n12 : w12.heap[pm]? = some (.cells #[.string smM.id, .string smM.name, .slice none 0 0, .slice (some ⟨pe10, 0, none⟩) 1 2, .slice (some ⟨pf10, 0, none⟩) 1 1] 26 (0, 0)) := hw12 ▸ heap_setCell_self _ n11
    have g12 : w11.grownBy w12 (some pm) := hw12 ▸ grownBy_setCell w11 pm 3 _
    have H12 := Lib.hid (And.intro (H10.out.1.turn (g11.trans g12) (by have := H10.out.1.b1; omega) (by have := H10.out.1.b2; omega)) (BW10.out.grown (g11.trans g12) BW10.out.size (fun r hr => by cases hr; exact lpm)))
    have HC12 := Lib.hid (nm_check nmM4 (W := w12) ⟨bds_0 _ _, els_1 H12.out.1.els elW_S 2 (by omega), H12.out.1.md.fls, by decide, by decide⟩ (HG.out.up H12.out.2) nm_r4 (by decide) (by decide))
    obtain ⟨r0, r1, r2, r3, r4⟩ := box5v n10
    have rf := free_of_block n10
    obtain ⟨s0, s1, s2, s3, s4⟩ := box5v n11
    have sf := free_of_block n11
    obtain ⟨t0, t1, t2, t3, t4⟩ := box5v n12
    have HN12 := Lib.hid n12
    unfold set5 at hw11
    clear n10 n11 g11 g12 n12
    go_wp2_with (first
      | (go_at_call 11; refine HC12.out.mono ?_; rintro e w13 ⟨rfl, hb13⟩; have HB13 := Lib.hid hb13; clear hb13)
      | (go_at_call 14; have _ := HB13; refine small_any.mono ?_; rintro e w14 ⟨pe14, pf14, rfl, hs14, hb14⟩; have H14 := Lib.hid (And.intro hs14 hb14); clear hs14 hb14; refine Hid.out ?_))
    refine Lib.hid ?_
    have l12 : pm < w12.heap.size := lt_of_block HN12.out
    have BW14 := Lib.hid (H12.out.2.trans ((HB13.out.trans (H14.out.2.mono HB13.out.size)).mono H12.out.2.size))
    have n14 := ((HB13.out.trans (H14.out.2.mono HB13.out.size)).block pm l12).trans HN12.out
    have l13 : pm < w13.heap.size := Nat.lt_of_lt_of_le l12 HB13.out.size
    obtain ⟨w15, hw15⟩ : ∃ W, set5 w14 pm (.string smM.id) (.string smM.name) (.slice none 0 0) (.slice (some ⟨pe14, 0, none⟩) 2 2) (.slice (some ⟨pf14, 0, none⟩) 1 1) = W := ⟨_, rfl⟩
    have n15 : w15.heap[pm]? = some (.cells #[.string smM.id, .string smM.name, .slice none 0 0, .slice (some ⟨pe14, 0, none⟩) 2 2, .slice (some ⟨pf14, 0, none⟩) 1 1] 26 (0, 0)) := hw15 ▸ set5_is n14 _ _ _ _ _
    have g15 : w14.grownBy w15 (some pm) := hw15 ▸ set5_grown w14 pm _ _ _ _ _
    have H15 := Lib.hid (And.intro (H14.out.1.turn g15 (by have := H14.out.1.b1; omega) (by have := H14.out.1.b2; omega)) (BW14.out.grown g15 BW14.out.size (fun r hr => by cases hr; exact lpm)))
    obtain ⟨w16, hw16⟩ : ∃ W, w15.setCell ⟨pf14, 3, none⟩ (.string ⟨#[116, 114, 117, 101]⟩) = W := ⟨_, rfl⟩
    have g16 : w15.grownBy w16 (some pf14) := hw16 ▸ grownBy_setCell w15 pf14 3 _
    have f16 : w16.heap[pf14]? = some (oFl nmF) := hw16 ▸ heap_setCell_self _ H15.out.1.fls
    have lpf14 : w.heap.size ≤ pf14 := by have := H14.out.1.b2; have := HB13.out.size; have := H12.out.2.size; omega
    have n16 := (g16.block pm (lt_of_block n15) (fun e => by have := Option.some.inj e; have := H14.out.1.b2; omega)).trans n15
    have e16 := (g16.block pe14 (lt_of_block H15.out.1.els) (fun e => H15.out.1.ne (Option.some.inj e))).trans H15.out.1.els
    have H16 := Lib.hid (H15.out.2.grown g16 H15.out.2.size (fun r hr => by cases hr; exact lpf14))
    have HC16 := Lib.hid (nm_check nmM5 (W := w16) ⟨bds_0 _ _, els_2 e16 elW_S elW_E 2 (Nat.le_refl _), fls_1 f16 nmF_W 1 (Nat.le_refl _), by decide, by decide⟩ (HG.out.up H16.out) nm_r5 (by decide) (by decide))
    obtain ⟨u0, u1, u2, u3, u4⟩ := box5v n14
    have uf := free_of_block n14
    obtain ⟨v0, v1, v2, v3, v4⟩ := box5v n15
    have vf := free_of_block n15
    obtain ⟨x0, x1, x2, x3⟩ := boxFl H15.out.1.fls
    have xf := free_of_block H15.out.1.fls
    obtain ⟨y0, y1, y2, y3, y4⟩ := box5v n16
    unfold set5 at hw15
    clear n14 n15 g15 g16 f16 n16 e16
    go_wp2_with (first
      | (go_at_call 11; refine HC16.out.mono ?_; rintro e w17 ⟨rfl, hb17⟩; have HB17 := Lib.hid (H16.out.trans (hb17.mono H16.out.size)); clear hb17)
      | (go_at_call 9; refine (awake_any (HG.out.up HB17.out)).mono ?_; rintro e w18 ⟨rfl, hb18⟩; have HB18 := Lib.hid (HB17.out.trans (hb18.mono HB17.out.size)); clear hb18))
    go_ret
    exact ⟨rfl, HB18.out⟩
end
end Go.Proofs.YtjcaaahbfkjipaaGreatDoor
