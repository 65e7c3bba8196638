/- package eval: the operations of two values. -/
import Derived.Test.YtbephgifbghilaaGreatDoorEvalFind
set_option maxRecDepth 100000
namespace Go.Proofs.YtbephgifbghilaaGreatDoor
open Go.RowKit

set_option maxHeartbeats 1000000 in
theorem truth_any (w : World) (b : Bool) (e0 : Int) : Calls Tryz.prog 159 #[.bool b, .int .i64 e0] w fun e w' => e = .returned (.tuple #[valV (truthE b e0).1, .int .i64 (truthE b e0).2]) ∧ Below w.heap.size w w' := by
  obtain ⟨w1, p0, hp0, hw1, l1, n1, b1⟩ := box_new w objZ
  have hw1' : w.alloc (.cells #[.int .u8 0, .int .i64 0, .bool false, .string ⟨#[]⟩] 26) = w1 := hw1
  have lp : w.heap.size ≤ p0 := by omega
  have HB := Lib.hid b1
  have HN := Lib.hid n1
  have HR : Hid (w.heap.size = p0) := Lib.hid hp0
  clear n1 b1 hw1
  by_cases he : e0 = 0
  · subst he
    rw [show truthE b 0 = (trV b, 0) from rfl]
    go_enter Tryz.func159, Tryz.ntmps159
    go_wp2_with (go_at_call 54; refine (truthV_any _ b).mono ?_; rintro e w2 ⟨rfl, hb2⟩; refine Hid.out ?_)
    refine Lib.hid ?_
    obtain ⟨⟨m0, m1, m2, m3⟩, f0, f1, f2, f3⟩ := zero_blk ((hb2.block p0 l1).trans HN.out)
    have HE := Lib.hid (chain_below (HB.out.trans (hb2.mono HB.out.size)) lp (trV b))
    clear hb2
    go_wp2_with fail
    exact bodyPost_ret (v := .tuple #[valV (trV b), .int .i64 0]) (by simp [results, Tryz.results159, go_sem, trV, m0, m1, m2, m3]) rfl ⟨rfl, HE.out⟩
  · have d0 : (e0 != 0) = true := by simpa using he
    rw [show truthE b e0 = (Vl.zero, e0) by unfold truthE; rw [if_neg he]]
    obtain ⟨⟨m0, m1, m2, m3⟩, f0, f1, f2, f3⟩ := zero_blk HN.out
    have HE := Lib.hid (chain_below HB.out lp Vl.zero)
    clear he
    go_enter Tryz.func159, Tryz.ntmps159
    go_wp2_with fail
    exact bodyPost_ret (v := .tuple #[valV Vl.zero, .int .i64 e0]) (by simp [results, Tryz.results159, go_sem, Vl.zero, m0, m1, m2, m3]) rfl ⟨rfl, HE.out⟩
set_option maxHeartbeats 2000000 in
theorem equal_any (w : World) (a b : Vl) (want : Bool) : Calls Tryz.prog 115 #[valV a, valV b, .bool want] w fun e w' => e = .returned (.tuple #[valV (equalT a b want).1, .int .i64 (equalT a b want).2]) ∧ Below w.heap.size w w' := by
  obtain ⟨w1, w2, w3, w4, p0, p1, p2, p3, hp0, hw1, hp1, hw2, hp2, hw3, hp3, hw4, l01, l12, l23, HK, HN4, HB34⟩ := ar_start w a b
  obtain ⟨k0, k1, z0, hb0⟩ := HK.out w3 (Below.refl _ _)
  obtain ⟨a0, a1, a2, a3⟩ := v_cells k0
  obtain ⟨b0, b1, b2, b3⟩ := v_cells k1
  have lp : w.heap.size ≤ p2 := by omega
  have HB3 := Lib.hid hb0
  have HZ := Lib.hid z0
  clear k0 k1 z0 hb0 hw4 HN4 HB34 hp3
  by_cases hk : a.kind = b.kind
  · have d0 : (a.kind != b.kind) = false := by simpa using hk
    have hE : equalT a b want = truthE (vlEq a b == want) 0 := by unfold equalT; rw [if_pos hk]
    rw [hE]
    have S1 := Lib.hid (vsame_any w3 a b)
    obtain ⟨q, hq⟩ : ∃ q, vlEq a b = q := ⟨_, rfl⟩
    rw [hq] at S1 ⊢
    have HTr := Lib.hid (fun W => truth_any W (q == want) 0)
    obtain ⟨⟨v, ee⟩, hr⟩ : ∃ r, truthE (q == want) 0 = r := ⟨_, rfl⟩
    rw [hr] at HTr ⊢
    obtain ⟨qw, hqw⟩ : ∃ qw, (q == want) = qw := ⟨_, rfl⟩
    rw [hqw] at HTr
    clear hk hE hq hr
    go_enter Tryz.func115, Tryz.ntmps115
    go_wp2_with (go_at_call 160; refine (S1.out).mono ?_; rintro e w5 ⟨rfl, hbx⟩; refine Hid.out ?_)
    refine Lib.hid ?_
    have HB5 := Lib.hid hbx
    clear hbx
    go_wp2_with (go_at_call 159; refine (HTr.out _).mono ?_; rintro e w6 ⟨rfl, hbx⟩; refine Hid.out ?_)
    refine Lib.hid ?_
    have HB6 := Lib.hid (HB5.out.trans (hbx.mono HB5.out.size))
    clear hbx a0 a1 a2 a3 b0 b1 b2 b3
    obtain ⟨⟨m0, m1, m2, m3⟩, f0, f1, f2, f3⟩ := zero_blk (HK.out w6 HB6.out).2.2.1
    have HE := Lib.hid (chain_below (HK.out w6 HB6.out).2.2.2 lp v)
    go_wp2_with fail
    exact bodyPost_ret (v := .tuple #[valV v, .int .i64 ee]) (by simp [results, Tryz.results115, go_sem, m0, m1, m2, m3]) rfl ⟨rfl, HE.out⟩
  · have d0 : (a.kind != b.kind) = true := by simpa using hk
    rw [show equalT a b want = (Vl.zero, 90) by unfold equalT; rw [if_neg hk]]
    clear hk
    go_enter Tryz.func115, Tryz.ntmps115
    obtain ⟨⟨m0, m1, m2, m3⟩, f0, f1, f2, f3⟩ := zero_blk (HK.out w3 (Below.refl _ _)).2.2.1
    have HE := Lib.hid (chain_below (HK.out w3 (Below.refl _ _)).2.2.2 lp Vl.zero)
    go_wp2_with fail
    exact bodyPost_ret (v := .tuple #[valV Vl.zero, .int .i64 90]) (by simp [results, Tryz.results115, go_sem, Vl.zero, m0, m1, m2, m3]) rfl ⟨rfl, HE.out⟩
set_option maxHeartbeats 2000000 in
theorem less_any (w : World) (a b : Vl) (want : Bool) (ha : VlW a) (hb : VlW b) (hT : Tabs8 w) : Calls Tryz.prog 118 #[valV a, valV b, .bool want] w fun e w' => e = .returned (.tuple #[valV (lessT a b want).1, .int .i64 (lessT a b want).2]) ∧ Below w.heap.size w w' := by
  obtain ⟨w1, w2, w3, w4, p0, p1, p2, p3, hp0, hw1, hp1, hw2, hp2, hw3, hp3, hw4, l01, l12, l23, HK, HN4, HB34⟩ := ar_start w a b
  obtain ⟨k0, k1, z0, hb0⟩ := HK.out w3 (Below.refl _ _)
  obtain ⟨a0, a1, a2, a3⟩ := v_cells k0
  obtain ⟨b0, b1, b2, b3⟩ := v_cells k1
  have lp : w.heap.size ≤ p2 := by omega
  have HB3 := Lib.hid hb0
  have HZ := Lib.hid z0
  clear k0 k1 z0 hb0 hw4 HN4 HB34 hp3
  have S1 := Lib.hid (vless_any w3 a b ha hb (Utf8Tabs_below hT HB3.out))
  unfold lessT
  obtain ⟨⟨q, e0⟩, hq⟩ : ∃ q, lessE a b = q := ⟨_, rfl⟩
  rw [hq] at S1 ⊢
  have HTr := Lib.hid (fun W => truth_any W (q == want) e0)
  obtain ⟨⟨v, ee⟩, hr⟩ : ∃ r, truthE (q == want) e0 = r := ⟨_, rfl⟩
  simp only at S1 ⊢
  rw [hr] at HTr ⊢
  obtain ⟨qw, hqw⟩ : ∃ qw, (q == want) = qw := ⟨_, rfl⟩
  rw [hqw] at HTr
  clear hq hr ha hb hT
  go_enter Tryz.func118, Tryz.ntmps118
  go_wp2_with (go_at_call 161; refine (S1.out).mono ?_; rintro e w5 ⟨rfl, hbx⟩; refine Hid.out ?_)
  refine Lib.hid ?_
  have HB5 := Lib.hid hbx
  clear hbx
  go_wp2_with (go_at_call 159; refine (HTr.out _).mono ?_; rintro e w6 ⟨rfl, hbx⟩; refine Hid.out ?_)
  refine Lib.hid ?_
  have HB6 := Lib.hid (HB5.out.trans (hbx.mono HB5.out.size))
  clear hbx a0 a1 a2 a3 b0 b1 b2 b3
  obtain ⟨⟨m0, m1, m2, m3⟩, f0, f1, f2, f3⟩ := zero_blk (HK.out w6 HB6.out).2.2.1
  have HE := Lib.hid (chain_below (HK.out w6 HB6.out).2.2.2 lp v)
  go_wp2_with fail
  exact bodyPost_ret (v := .tuple #[valV v, .int .i64 ee]) (by simp [results, Tryz.results118, go_sem, m0, m1, m2, m3]) rfl ⟨rfl, HE.out⟩
set_option maxHeartbeats 2000000 in
theorem both1_any (w : World) (a b : Vl) (_ha : VlW a) (_hb : VlW b) (_hT : Tabs8 w) : Calls Tryz.prog 114 #[valV a, valV b] w fun e w' => e = .returned (.tuple #[valV (equalT a b true).1, .int .i64 (equalT a b true).2]) ∧ Below w.heap.size w w' := by
  obtain ⟨w1, w2, w3, w4, p0, p1, p2, p3, hp0, hw1, hp1, hw2, hp2, hw3, hp3, hw4, l01, l12, l23, HK, HN4, HB34⟩ := ar_start w a b
  obtain ⟨k0, k1, z0, hb0⟩ := HK.out w3 (Below.refl _ _)
  obtain ⟨a0, a1, a2, a3⟩ := v_cells k0
  obtain ⟨b0, b1, b2, b3⟩ := v_cells k1
  have lp : w.heap.size ≤ p2 := by omega
  have HB3 := Lib.hid hb0
  have HZ := Lib.hid z0
  clear k0 k1 z0 hb0 hw4 HN4 HB34 hp3
  have S1 := Lib.hid (equal_any w3 a b true)
  obtain ⟨⟨v, ee⟩, hr⟩ : ∃ r, equalT a b true = r := ⟨_, rfl⟩
  rw [hr] at S1 ⊢
  clear hr
  go_enter Tryz.func114, Tryz.ntmps114
  go_wp2_with (go_at_call 115; refine (S1.out).mono ?_; rintro e w5 ⟨rfl, hbx⟩; refine Hid.out ?_)
  refine Lib.hid ?_
  have HB5 := Lib.hid hbx
  clear hbx a0 a1 a2 a3 b0 b1 b2 b3
  obtain ⟨⟨m0, m1, m2, m3⟩, f0, f1, f2, f3⟩ := zero_blk (HK.out w5 HB5.out).2.2.1
  have HE := Lib.hid (chain_below (HK.out w5 HB5.out).2.2.2 lp v)
  go_wp2_with fail
  exact bodyPost_ret (v := .tuple #[valV v, .int .i64 ee]) (by simp [results, Tryz.results114, go_sem, m0, m1, m2, m3]) rfl ⟨rfl, HE.out⟩
set_option maxHeartbeats 2000000 in
theorem both2_any (w : World) (a b : Vl) (_ha : VlW a) (_hb : VlW b) (_hT : Tabs8 w) : Calls Tryz.prog 116 #[valV a, valV b] w fun e w' => e = .returned (.tuple #[valV (equalT a b false).1, .int .i64 (equalT a b false).2]) ∧ Below w.heap.size w w' := by
  obtain ⟨w1, w2, w3, w4, p0, p1, p2, p3, hp0, hw1, hp1, hw2, hp2, hw3, hp3, hw4, l01, l12, l23, HK, HN4, HB34⟩ := ar_start w a b
  obtain ⟨k0, k1, z0, hb0⟩ := HK.out w3 (Below.refl _ _)
  obtain ⟨a0, a1, a2, a3⟩ := v_cells k0
  obtain ⟨b0, b1, b2, b3⟩ := v_cells k1
  have lp : w.heap.size ≤ p2 := by omega
  have HB3 := Lib.hid hb0
  have HZ := Lib.hid z0
  clear k0 k1 z0 hb0 hw4 HN4 HB34 hp3
  have S1 := Lib.hid (equal_any w3 a b false)
  obtain ⟨⟨v, ee⟩, hr⟩ : ∃ r, equalT a b false = r := ⟨_, rfl⟩
  rw [hr] at S1 ⊢
  clear hr
  go_enter Tryz.func116, Tryz.ntmps116
  go_wp2_with (go_at_call 115; refine (S1.out).mono ?_; rintro e w5 ⟨rfl, hbx⟩; refine Hid.out ?_)
  refine Lib.hid ?_
  have HB5 := Lib.hid hbx
  clear hbx a0 a1 a2 a3 b0 b1 b2 b3
  obtain ⟨⟨m0, m1, m2, m3⟩, f0, f1, f2, f3⟩ := zero_blk (HK.out w5 HB5.out).2.2.1
  have HE := Lib.hid (chain_below (HK.out w5 HB5.out).2.2.2 lp v)
  go_wp2_with fail
  exact bodyPost_ret (v := .tuple #[valV v, .int .i64 ee]) (by simp [results, Tryz.results116, go_sem, m0, m1, m2, m3]) rfl ⟨rfl, HE.out⟩
set_option maxHeartbeats 2000000 in
theorem both3_any (w : World) (a b : Vl) (ha : VlW a) (hb : VlW b) (hT : Tabs8 w) : Calls Tryz.prog 117 #[valV a, valV b] w fun e w' => e = .returned (.tuple #[valV (lessT a b true).1, .int .i64 (lessT a b true).2]) ∧ Below w.heap.size w w' := by
  obtain ⟨w1, w2, w3, w4, p0, p1, p2, p3, hp0, hw1, hp1, hw2, hp2, hw3, hp3, hw4, l01, l12, l23, HK, HN4, HB34⟩ := ar_start w a b
  obtain ⟨k0, k1, z0, hb0⟩ := HK.out w3 (Below.refl _ _)
  obtain ⟨a0, a1, a2, a3⟩ := v_cells k0
  obtain ⟨b0, b1, b2, b3⟩ := v_cells k1
  have lp : w.heap.size ≤ p2 := by omega
  have HB3 := Lib.hid hb0
  have HZ := Lib.hid z0
  clear k0 k1 z0 hb0 hw4 HN4 HB34 hp3
  have S1 := Lib.hid (less_any w3 a b true ha hb (Utf8Tabs_below hT HB3.out))
  obtain ⟨⟨v, ee⟩, hr⟩ : ∃ r, lessT a b true = r := ⟨_, rfl⟩
  rw [hr] at S1 ⊢
  clear hr ha hb hT
  go_enter Tryz.func117, Tryz.ntmps117
  go_wp2_with (go_at_call 118; refine (S1.out).mono ?_; rintro e w5 ⟨rfl, hbx⟩; refine Hid.out ?_)
  refine Lib.hid ?_
  have HB5 := Lib.hid hbx
  clear hbx a0 a1 a2 a3 b0 b1 b2 b3
  obtain ⟨⟨m0, m1, m2, m3⟩, f0, f1, f2, f3⟩ := zero_blk (HK.out w5 HB5.out).2.2.1
  have HE := Lib.hid (chain_below (HK.out w5 HB5.out).2.2.2 lp v)
  go_wp2_with fail
  exact bodyPost_ret (v := .tuple #[valV v, .int .i64 ee]) (by simp [results, Tryz.results117, go_sem, m0, m1, m2, m3]) rfl ⟨rfl, HE.out⟩
set_option maxHeartbeats 2000000 in
theorem both4_any (w : World) (a b : Vl) (ha : VlW a) (hb : VlW b) (hT : Tabs8 w) : Calls Tryz.prog 119 #[valV a, valV b] w fun e w' => e = .returned (.tuple #[valV (lessT a b false).1, .int .i64 (lessT a b false).2]) ∧ Below w.heap.size w w' := by
  obtain ⟨w1, w2, w3, w4, p0, p1, p2, p3, hp0, hw1, hp1, hw2, hp2, hw3, hp3, hw4, l01, l12, l23, HK, HN4, HB34⟩ := ar_start w a b
  obtain ⟨k0, k1, z0, hb0⟩ := HK.out w3 (Below.refl _ _)
  obtain ⟨a0, a1, a2, a3⟩ := v_cells k0
  obtain ⟨b0, b1, b2, b3⟩ := v_cells k1
  have lp : w.heap.size ≤ p2 := by omega
  have HB3 := Lib.hid hb0
  have HZ := Lib.hid z0
  clear k0 k1 z0 hb0 hw4 HN4 HB34 hp3
  have S1 := Lib.hid (less_any w3 a b false ha hb (Utf8Tabs_below hT HB3.out))
  obtain ⟨⟨v, ee⟩, hr⟩ : ∃ r, lessT a b false = r := ⟨_, rfl⟩
  rw [hr] at S1 ⊢
  clear hr ha hb hT
  go_enter Tryz.func119, Tryz.ntmps119
  go_wp2_with (go_at_call 118; refine (S1.out).mono ?_; rintro e w5 ⟨rfl, hbx⟩; refine Hid.out ?_)
  refine Lib.hid ?_
  have HB5 := Lib.hid hbx
  clear hbx a0 a1 a2 a3 b0 b1 b2 b3
  obtain ⟨⟨m0, m1, m2, m3⟩, f0, f1, f2, f3⟩ := zero_blk (HK.out w5 HB5.out).2.2.1
  have HE := Lib.hid (chain_below (HK.out w5 HB5.out).2.2.2 lp v)
  go_wp2_with fail
  exact bodyPost_ret (v := .tuple #[valV v, .int .i64 ee]) (by simp [results, Tryz.results119, go_sem, m0, m1, m2, m3]) rfl ⟨rfl, HE.out⟩
set_option maxHeartbeats 2000000 in
theorem both5_any (w : World) (a b : Vl) (ha : VlW a) (hb : VlW b) (hT : Tabs8 w) : Calls Tryz.prog 120 #[valV a, valV b] w fun e w' => e = .returned (.tuple #[valV (lessT b a true).1, .int .i64 (lessT b a true).2]) ∧ Below w.heap.size w w' := by
  obtain ⟨w1, w2, w3, w4, p0, p1, p2, p3, hp0, hw1, hp1, hw2, hp2, hw3, hp3, hw4, l01, l12, l23, HK, HN4, HB34⟩ := ar_start w a b
  obtain ⟨k0, k1, z0, hb0⟩ := HK.out w3 (Below.refl _ _)
  obtain ⟨a0, a1, a2, a3⟩ := v_cells k0
  obtain ⟨b0, b1, b2, b3⟩ := v_cells k1
  have lp : w.heap.size ≤ p2 := by omega
  have HB3 := Lib.hid hb0
  have HZ := Lib.hid z0
  clear k0 k1 z0 hb0 hw4 HN4 HB34 hp3
  have S1 := Lib.hid (less_any w3 b a true hb ha (Utf8Tabs_below hT HB3.out))
  obtain ⟨⟨v, ee⟩, hr⟩ : ∃ r, lessT b a true = r := ⟨_, rfl⟩
  rw [hr] at S1 ⊢
  clear hr ha hb hT
  go_enter Tryz.func120, Tryz.ntmps120
  go_wp2_with (go_at_call 118; refine (S1.out).mono ?_; rintro e w5 ⟨rfl, hbx⟩; refine Hid.out ?_)
  refine Lib.hid ?_
  have HB5 := Lib.hid hbx
  clear hbx a0 a1 a2 a3 b0 b1 b2 b3
  obtain ⟨⟨m0, m1, m2, m3⟩, f0, f1, f2, f3⟩ := zero_blk (HK.out w5 HB5.out).2.2.1
  have HE := Lib.hid (chain_below (HK.out w5 HB5.out).2.2.2 lp v)
  go_wp2_with fail
  exact bodyPost_ret (v := .tuple #[valV v, .int .i64 ee]) (by simp [results, Tryz.results120, go_sem, m0, m1, m2, m3]) rfl ⟨rfl, HE.out⟩
set_option maxHeartbeats 2000000 in
theorem both6_any (w : World) (a b : Vl) (ha : VlW a) (hb : VlW b) (hT : Tabs8 w) : Calls Tryz.prog 121 #[valV a, valV b] w fun e w' => e = .returned (.tuple #[valV (lessT b a false).1, .int .i64 (lessT b a false).2]) ∧ Below w.heap.size w w' := by
  obtain ⟨w1, w2, w3, w4, p0, p1, p2, p3, hp0, hw1, hp1, hw2, hp2, hw3, hp3, hw4, l01, l12, l23, HK, HN4, HB34⟩ := ar_start w a b
  obtain ⟨k0, k1, z0, hb0⟩ := HK.out w3 (Below.refl _ _)
  obtain ⟨a0, a1, a2, a3⟩ := v_cells k0
  obtain ⟨b0, b1, b2, b3⟩ := v_cells k1
  have lp : w.heap.size ≤ p2 := by omega
  have HB3 := Lib.hid hb0
  have HZ := Lib.hid z0
  clear k0 k1 z0 hb0 hw4 HN4 HB34 hp3
  have S1 := Lib.hid (less_any w3 b a false hb ha (Utf8Tabs_below hT HB3.out))
  obtain ⟨⟨v, ee⟩, hr⟩ : ∃ r, lessT b a false = r := ⟨_, rfl⟩
  rw [hr] at S1 ⊢
  clear hr ha hb hT
  go_enter Tryz.func121, Tryz.ntmps121
  go_wp2_with (go_at_call 118; refine (S1.out).mono ?_; rintro e w5 ⟨rfl, hbx⟩; refine Hid.out ?_)
  refine Lib.hid ?_
  have HB5 := Lib.hid hbx
  clear hbx a0 a1 a2 a3 b0 b1 b2 b3
  obtain ⟨⟨m0, m1, m2, m3⟩, f0, f1, f2, f3⟩ := zero_blk (HK.out w5 HB5.out).2.2.1
  have HE := Lib.hid (chain_below (HK.out w5 HB5.out).2.2.2 lp v)
  go_wp2_with fail
  exact bodyPost_ret (v := .tuple #[valV v, .int .i64 ee]) (by simp [results, Tryz.results121, go_sem, m0, m1, m2, m3]) rfl ⟨rfl, HE.out⟩
theorem sum_size (a b : ByteArray) : (a ++ b).size = a.size + b.size := ByteArray.size_append
set_option maxHeartbeats 2000000 in
theorem add_any (w : World) (a b : Vl) (ha : VlW a) (hb : VlW b) (hT : Tabs8 w) (hs : a.text.size + b.text.size ≤ 140737488355328) : Calls Tryz.prog 122 #[valV a, valV b] w fun e w' => e = .returned (.tuple #[valV (addT a b).1, .int .i64 (addT a b).2]) ∧ Below w.heap.size w w' := by
  obtain ⟨w1, w2, w3, w4, p0, p1, p2, p3, hp0, hw1, hp1, hw2, hp2, hw3, hp3, hw4, l01, l12, l23, HK, HN4, HB34⟩ := ar_start w a b
  obtain ⟨k0, k1, z0, hb0⟩ := HK.out w3 (Below.refl _ _)
  obtain ⟨a0, a1, a2, a3⟩ := v_cells k0
  obtain ⟨b0, b1, b2, b3⟩ := v_cells k1
  have lp : w.heap.size ≤ p2 := by omega
  have HB3 := Lib.hid hb0
  have HZ := Lib.hid z0
  clear k0 k1 z0 hb0 hw4 HN4 HB34 hp3
  have SA := Lib.hid (vadd_any w3 a b ha hb (Utf8Tabs_below hT HB3.out))
  have HT := Lib.hid hT
  by_cases hk : a.kind = 3 ∧ b.kind = 3
  · have d0 : (a.kind != 3) = false := by rw [hk.1]; rfl
    have d1 : (b.kind != 3) = false := by rw [hk.2]; rfl
    have hE : addT a b = if checkB (txV (a.text ++ b.text)) then (txV (a.text ++ b.text), 0) else (Vl.zero, 91) := by unfold addT; rw [if_pos (by rw [hk.1, hk.2]; rfl)]
    rw [hE]
    have hsz : (a.text ++ b.text).size ≤ 140737488355328 := by rw [sum_size]; exact hs
    obtain ⟨s, hsE⟩ : ∃ s, a.text ++ b.text = s := ⟨_, rfl⟩
    rw [hsE] at hsz ⊢
    have hvw : VlW (txV s) := ⟨by show (0 : Int) ≤ 3; omega, by show (3 : Int) ≤ 255; omega, by show _ ≤ (0 : Int); omega, by show (0 : Int) ≤ _; omega, hsz⟩
    have HVW := Lib.hid hvw
    clear hk hE ha hb hT hvw
    cases hc : checkB (txV s) with
    | false =>
      rw [if_neg (by simp)]
      go_enter Tryz.func122, Tryz.ntmps122
      go_wp2_with (go_at_call 20; refine (words_any _ s).mono ?_; rintro e w5 ⟨rfl, hbx⟩; refine Hid.out ?_)
      refine Lib.hid ?_
      have HB5 := Lib.hid hbx
      obtain ⟨w6, p6, hp6, hw6, l6, n6, b6⟩ := box_new w5 (objV (txV s))
      have hw6' : w5.alloc (.cells #[.int .u8 (txV s).kind, .int .i64 (txV s).num, .bool (txV s).tr, .string (txV s).text] 26) = w6 := hw6
      have HB6 := Lib.hid (HB5.out.trans (b6.mono HB5.out.size))
      have HN6 := Lib.hid n6
      obtain ⟨t0, t1, t2, t3⟩ := v_cells n6
      have SC := Lib.hid (vcheck_any w6 (txV s) HVW.out (Utf8Tabs_below HT.out (HK.out w6 HB6.out).2.2.2))
      unfold checkE at SC
      rw [hc] at SC
      clear hbx n6 b6 hw6 hc a0 a1 a2 a3 b0 b1 b2 b3
      go_wp2_with (go_at_call 47; refine SC.out.mono ?_; rintro e w7 ⟨rfl, hb7⟩; refine Hid.out ?_)
      refine Lib.hid ?_
      have HB7 := Lib.hid (HB6.out.trans (hb7.mono HB6.out.size))
      have hn7 := (hb7.block p6 l6).trans HN6.out
      clear hb7 t0 t1 t2 t3
      obtain ⟨t0, t1, t2, t3⟩ := v_cells hn7
      clear hn7
      obtain ⟨⟨m0, m1, m2, m3⟩, f0, f1, f2, f3⟩ := zero_blk (HK.out w7 HB7.out).2.2.1
      have HE := Lib.hid (chain_below (HK.out w7 HB7.out).2.2.2 lp Vl.zero)
      go_wp2_with fail
      exact bodyPost_ret (v := .tuple #[valV Vl.zero, .int .i64 91]) (by simp [results, Tryz.results122, go_sem, Vl.zero, m0, m1, m2, m3]) rfl ⟨rfl, by first | exact HE.out | (rw [← hp0]; exact HE.out)⟩
    | true =>
      rw [if_pos rfl]
      go_enter Tryz.func122, Tryz.ntmps122
      go_wp2_with (go_at_call 20; refine (words_any _ s).mono ?_; rintro e w5 ⟨rfl, hbx⟩; refine Hid.out ?_)
      refine Lib.hid ?_
      have HB5 := Lib.hid hbx
      obtain ⟨w6, p6, hp6, hw6, l6, n6, b6⟩ := box_new w5 (objV (txV s))
      have hw6' : w5.alloc (.cells #[.int .u8 (txV s).kind, .int .i64 (txV s).num, .bool (txV s).tr, .string (txV s).text] 26) = w6 := hw6
      have HB6 := Lib.hid (HB5.out.trans (b6.mono HB5.out.size))
      have HN6 := Lib.hid n6
      obtain ⟨t0, t1, t2, t3⟩ := v_cells n6
      have SC := Lib.hid (vcheck_any w6 (txV s) HVW.out (Utf8Tabs_below HT.out (HK.out w6 HB6.out).2.2.2))
      unfold checkE at SC
      rw [hc] at SC
      clear hbx n6 b6 hw6 hc a0 a1 a2 a3 b0 b1 b2 b3
      go_wp2_with (go_at_call 47; refine SC.out.mono ?_; rintro e w7 ⟨rfl, hb7⟩; refine Hid.out ?_)
      refine Lib.hid ?_
      have HB7 := Lib.hid (HB6.out.trans (hb7.mono HB6.out.size))
      have hn7 := (hb7.block p6 l6).trans HN6.out
      clear hb7 t0 t1 t2 t3
      obtain ⟨t0, t1, t2, t3⟩ := v_cells hn7
      clear hn7
      obtain ⟨⟨m0, m1, m2, m3⟩, f0, f1, f2, f3⟩ := zero_blk (HK.out w7 HB7.out).2.2.1
      have HE := Lib.hid (chain_below (HK.out w7 HB7.out).2.2.2 lp (txV s))
      go_wp2_with fail
      exact bodyPost_ret (v := .tuple #[valV (txV s), .int .i64 0]) (by simp [results, Tryz.results122, go_sem, m0, m1, m2, m3]) rfl ⟨rfl, by first | exact HE.out | (rw [← hp0]; exact HE.out)⟩
  · have hE : addT a b = addE a b := by
      unfold addT
      rw [if_neg (by simpa using hk)]
    rw [hE]
    obtain ⟨⟨v, ee⟩, hr⟩ : ∃ r, addE a b = r := ⟨_, rfl⟩
    rw [hr] at SA ⊢
    have hcase : (a.kind != 3) = true ∨ ((a.kind != 3) = false ∧ (b.kind != 3) = true) := by
      by_cases h3 : a.kind = 3
      · exact Or.inr ⟨by rw [h3]; rfl, by simpa using fun h => hk ⟨h3, h⟩⟩
      · exact Or.inl (by simpa using h3)
    clear hk hE hr ha hb hT
    rcases hcase with d0 | ⟨d0, d1⟩
    all_goals
      go_enter Tryz.func122, Tryz.ntmps122
      go_wp2_with (go_at_call 162; refine (SA.out).mono ?_; rintro e w5 ⟨rfl, hbx⟩; refine Hid.out ?_)
      refine Lib.hid ?_
      have HB5 := Lib.hid hbx
      clear hbx a0 a1 a2 a3 b0 b1 b2 b3
      obtain ⟨⟨m0, m1, m2, m3⟩, f0, f1, f2, f3⟩ := zero_blk (HK.out w5 HB5.out).2.2.1
      have HE := Lib.hid (chain_below (HK.out w5 HB5.out).2.2.2 lp v)
      go_wp2_with fail
      exact bodyPost_ret (v := .tuple #[valV v, .int .i64 ee]) (by simp [results, Tryz.results122, go_sem, m0, m1, m2, m3]) rfl ⟨rfl, HE.out⟩
end Go.Proofs.YtbephgifbghilaaGreatDoor
