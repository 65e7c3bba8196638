/- value.Less, Neg. -/
import Derived.Test.YtbephgifbghilaaGreatDoorEvalCmp
set_option maxRecDepth 100000
namespace Go.Proofs.YtbephgifbghilaaGreatDoor
open Go.RowKit

set_option maxHeartbeats 4000000 in
theorem vless_any (w : World) (a b : Vl) (ha : VlW a) (hb : VlW b) (hT : Tabs8 w) : Calls Tryz.prog 161 #[valV a, valV b] w fun e w' => e = .returned (.tuple #[.bool (lessE a b).1, .int .i64 (lessE a b).2]) ∧ Below w.heap.size w w' := by
  obtain ⟨w1, p0, hp0, hw1, l1, n1, b1⟩ := box_new w (objV a)
  obtain ⟨w2, p1, hp1, hw2, l2, n2, b2⟩ := box_new w1 (objV b)
  have hw1' : w.alloc (.cells #[.int .u8 a.kind, .int .i64 a.num, .bool a.tr, .string a.text] 26) = w1 := hw1
  have hw2' : w1.alloc (.cells #[.int .u8 b.kind, .int .i64 b.num, .bool b.tr, .string b.text] 26) = w2 := hw2
  have HB := Lib.hid (b1.trans (b2.mono (by omega)))
  have HK := Lib.hid (show ∀ W, Below w2.heap.size w2 W → W.heap[p0]? = some (objV a) ∧ W.heap[p1]? = some (objV b) ∧ Below w.heap.size w W from fun W h => ⟨(h.block p0 (by omega)).trans ((b2.block p0 (by omega)).trans n1), (h.block p1 (by omega)).trans n2, HB.out.trans (h.mono HB.out.size)⟩)
  obtain ⟨k0, k1, -⟩ := HK.out w2 (Below.refl _ _)
  obtain ⟨a0, a1, a2, a3⟩ := v_cells k0
  obtain ⟨c0, c1, c2, c3⟩ := v_cells k1
  have HT := Lib.hid hT
  have HA := Lib.hid ha
  have HBb := Lib.hid hb
  clear n1 b1 n2 b2 hw1 hw2 k0 k1 ha hb hT
  by_cases hk : a.kind = b.kind
  · have d0 : (a.kind != b.kind) = false := by simpa using hk
    have e0 : (a.kind == b.kind) = true := by simpa using hk
    by_cases h2 : a.kind = 2
    · have d1 : (a.kind == 2) = true := by simpa using h2
      have hE : lessE a b = (false, 90) := by unfold lessE; rw [d1, e0]; rfl
      rw [hE]
      clear hE hk h2 e0
      go_enter Tryz.func161, Tryz.ntmps161
      go_wp2_with fail
      go_ret2
      exact ⟨rfl, HB.out⟩
    · have d1 : (a.kind == 2) = false := by simpa using h2
      have S1 := Lib.hid (vcheck_any w2 a HA.out (Utf8Tabs_below HT.out HB.out))
      unfold checkE at S1
      cases hca : checkB a with
      | false =>
        have hE : lessE a b = (false, 90) := by unfold lessE; rw [d1, e0, hca]; rfl
        rw [hE]
        rw [hca] at S1
        clear hE hk h2 e0 hca
        go_enter Tryz.func161, Tryz.ntmps161
        go_wp2_with (go_at_call 47; refine S1.out.mono ?_; rintro e w3 ⟨rfl, hb3⟩)
        go_ret2
        exact ⟨rfl, (HK.out _ hb3).2.2⟩
      | true =>
        rw [hca] at S1
        have HE0 := Lib.hid e0
        have HC := Lib.hid hca
        clear hk h2 e0 hca
        go_enter Tryz.func161, Tryz.ntmps161
        go_wp2_with (go_at_call 47; refine S1.out.mono ?_; rintro e w3 ⟨rfl, hb3⟩; refine Hid.out ?_)
        refine Lib.hid ?_
        have HB3 := Lib.hid hb3
        have HK3 := Lib.hid (HK.out w3 hb3)
        have S2 := Lib.hid (vcheck_any w3 b HBb.out (Utf8Tabs_below HT.out HK3.out.2.2))
        unfold checkE at S2
        clear hb3 a0 a1 a2 a3 c0 c1 c2 c3
        obtain ⟨c0, c1, c2, c3⟩ := v_cells HK3.out.2.1
        cases hcb : checkB b with
        | false =>
          have hE : Hid (lessE a b = (false, 90)) := Lib.hid (by unfold lessE; rw [d1, HE0.out, HC.out, hcb]; rfl)
          rw [hcb] at S2
          clear hcb
          go_wp2_with (go_at_call 47; refine S2.out.mono ?_; rintro e w4 ⟨rfl, hb4⟩)
          go_ret2
          exact ⟨by rw [hE.out]; rfl, (HK.out _ (HB3.out.trans (hb4.mono HB3.out.size))).2.2⟩
        | true =>
          have hE : Hid (lessE a b = (decide (cmpV a b < 0), 0)) := Lib.hid (by unfold lessE; rw [d1, HE0.out, HC.out, hcb]; rfl)
          rw [hcb] at S2
          clear hcb
          go_wp2_with (go_at_call 47; refine S2.out.mono ?_; rintro e w4 ⟨rfl, hb4⟩; refine Hid.out ?_)
          refine Lib.hid ?_
          have HB4 := Lib.hid (HB3.out.trans (hb4.mono HB3.out.size))
          have HK4 := Lib.hid (HK.out w4 HB4.out)
          clear hb4 c0 c1 c2 c3
          obtain ⟨a0, a1, a2, a3⟩ := v_cells HK4.out.1
          obtain ⟨c0, c1, c2, c3⟩ := v_cells HK4.out.2.1
          have S3 := Lib.hid (vcmp_any w4 a b)
          go_wp2_with (go_at_call 191; refine S3.out.mono ?_; rintro e w5 ⟨rfl, hb5⟩)
          go_ret2
          exact ⟨by rw [hE.out]; rfl, (HK.out _ (HB4.out.trans (hb5.mono HB4.out.size))).2.2⟩
  · have d0 : (a.kind != b.kind) = true := by simpa using hk
    have hE : lessE a b = (false, 90) := by
      unfold lessE
      rw [show (a.kind == b.kind) = false by simpa using hk]; rfl
    rw [hE]
    clear hE hk
    go_enter Tryz.func161, Tryz.ntmps161
    go_wp2_with fail
    go_ret2
    exact ⟨rfl, HB.out⟩

theorem chain_far (w : World) {p b : Nat} (v : Vl) (i : Nat) (h : b ≠ p) : (chainV w p v).cell? ⟨b, i, none⟩ = w.cell? ⟨b, i, none⟩ := by
  unfold chainV
  rw [World.cell?_setCell_other, World.cell?_setCell_other, World.cell?_setCell_other, World.cell?_setCell_other]
  all_goals simp []
set_option maxHeartbeats 4000000 in
theorem vneg_any (w : World) (a : Vl) (ha : VlW a) (hT : Tabs8 w) : Calls Tryz.prog 128 #[valV a] w fun e w' => e = .returned (.tuple #[valV (negE a).1, .int .i64 (negE a).2]) ∧ Below w.heap.size w w' := by
  obtain ⟨w1, p0, hp0, hw1, l1, n1, b1⟩ := box_new w (objV a)
  obtain ⟨w2, p1, hp1, hw2, l2, n2, b2⟩ := box_new w1 objZ
  have hw1' : w.alloc (.cells #[.int .u8 a.kind, .int .i64 a.num, .bool a.tr, .string a.text] 26) = w1 := hw1
  have hw2' : w1.alloc (.cells #[.int .u8 0, .int .i64 0, .bool false, .string ⟨#[]⟩] 26) = w2 := hw2
  have HB := Lib.hid (b1.trans (b2.mono (by omega)))
  have HK := Lib.hid (show ∀ W, Below w2.heap.size w2 W → W.heap[p0]? = some (objV a) ∧ W.heap[p1]? = some objZ ∧ Below w.heap.size w W from fun W h => ⟨(h.block p0 (by omega)).trans ((b2.block p0 (by omega)).trans n1), (h.block p1 (by omega)).trans n2, HB.out.trans (h.mono HB.out.size)⟩)
  obtain ⟨k0, k1, -⟩ := HK.out w2 (Below.refl _ _)
  obtain ⟨a0, a1, a2, a3⟩ := v_cells k0
  have HT := Lib.hid hT
  have HA := Lib.hid ha
  have lp : w.heap.size ≤ p1 := by omega
  have hne : p0 ≠ p1 := by omega
  obtain ⟨⟨v, ee⟩, hr⟩ : ∃ r, negE a = r := ⟨_, rfl⟩
  have hsub : Hid (∀ (W : World), Below w2.heap.size w2 W → Calls Tryz.prog 123 #[valV (numV 0), valV a] W fun e w' => e = .returned (.tuple #[valV v, .int .i64 ee]) ∧ Below W.heap.size W w') := Lib.hid (fun W h => by
    have := vsub_any W (numV 0) a (VlW.num (by omega) (by omega)) HA.out (Utf8Tabs_below HT.out (HK.out W h).2.2)
    rw [show subE (numV 0) a = (v, ee) from hr] at this
    exact this)
  rw [hr]
  have cur : Below w2.heap.size w2 w2.drew := (Below.refl _ _).drew
  have hkeep : ∀ W, Below w2.heap.size w2 W → W.cell? ⟨p0, 0, none⟩ = some (.int .u8 a.kind) ∧ W.cell? ⟨p0, 1, none⟩ = some (.int .i64 a.num) ∧ W.cell? ⟨p0, 2, none⟩ = some (.bool a.tr) ∧ W.cell? ⟨p0, 3, none⟩ = some (.string a.text) := fun W h => v_cells (HK.out W h).1
  have HKp := Lib.hid hkeep
  clear n1 b1 n2 b2 hw1 hw2 k0 k1 ha hT hr hkeep
  go_enter Tryz.func128, Tryz.ntmps128
  go_wp2_with fail
  go_region_held3 (fun w' => w'.cell? ⟨p0, 0, none⟩ = some (.int .u8 a.kind) ∧ w'.cell? ⟨p0, 1, none⟩ = some (.int .i64 a.num) ∧ w'.cell? ⟨p0, 2, none⟩ = some (.bool a.tr) ∧ w'.cell? ⟨p0, 3, none⟩ = some (.string a.text)) (first | exact HKp.out _ (Below.refl _ _).drew | exact HKp.out _ cur | exact ⟨(chain_far _ v 0 hne).trans (HKp.out _ cur).1, (chain_far _ v 1 hne).trans (HKp.out _ cur).2.1, (chain_far _ v 2 hne).trans (HKp.out _ cur).2.2.1, (chain_far _ v 3 hne).trans (HKp.out _ cur).2.2.2⟩ | go_keep)
    (first
      | (go_at_call 25; refine (number_any _ 0).mono ?_; rintro e wz ⟨rfl, hbz⟩; have cur := cur.trans (hbz.mono cur.size))
      | (go_at_call 123; refine (hsub.out _ cur).mono ?_; rintro e wy ⟨rfl, hby⟩; have cur := cur.trans (hby.mono cur.size); have hz := HK.out _ cur; obtain ⟨⟨m0, m1, m2, m3⟩, f0, f1, f2, f3⟩ := zero_blk hz.2.1))
  all_goals
    have HE := Lib.hid (chain_below (HK.out _ cur).2.2 lp v)
    go_wp2_with fail
    exact bodyPost_ret (v := .tuple #[valV v, .int .i64 ee]) (by simp [results, Tryz.results128, go_sem, m0, m1, m2, m3]) rfl ⟨rfl, HE.out⟩
end Go.Proofs.YtbephgifbghilaaGreatDoor
