/- value.Add, Sub, Mul, Div, Mod, Neg. -/
import Derived.Test.YtbephgifbghilaaGreatDoorEvalNum
set_option maxRecDepth 100000
namespace Go.Proofs.YtbephgifbghilaaGreatDoor
open Go.RowKit

abbrev objV (v : Vl) : Obj := .cells #[.int .u8 v.kind, .int .i64 v.num, .bool v.tr, .string v.text] 26
abbrev objVV (a b : Vl) : Obj := .cells #[.int .u8 a.kind, .int .i64 a.num, .bool a.tr, .string a.text, .int .u8 b.kind, .int .i64 b.num, .bool b.tr, .string b.text] 26
abbrev objZ : Obj := .cells #[.int .u8 0, .int .i64 0, .bool false, .string ⟨#[]⟩] 26
theorem numbers2 (w : World) (p : Nat) (a b : Vl) (hp : w.heap[p]? = some (objVV a b)) (ha : VlW a) (hb : VlW b) (hT : Tabs8 w) :
    Calls Tryz.prog 163 #[.slice (some ⟨p, 0, none⟩) 2 2] w fun e w' => e = .returned (.int .i64 (if numsB a b then 0 else 90)) ∧ Below w.heap.size w w' := by
  have h := numbers_any w (some ⟨p, 0, none⟩) 2 [a, b] (fun i hi => ⟨p, 0, rfl, lt_of_block hp, fun j hj => by
    rw [cell_of_block hp]
    match i, hi with
    | 0, _ =>
      rcases (show j = 0 ∨ j = 1 ∨ j = 2 ∨ j = 3 by omega) with rfl | rfl | rfl | rfl <;> rfl
    | 1, _ =>
      rcases (show j = 0 ∨ j = 1 ∨ j = 2 ∨ j = 3 by omega) with rfl | rfl | rfl | rfl <;> rfl⟩) (fun x hx => by
    rcases List.mem_cons.1 hx with rfl | hx
    · exact ha
    · rw [List.mem_singleton.1 hx]; exact hb) (by show 2 ≤ 100; omega) hT
  rw [numsL_two] at h
  exact h
/-- The two arguments' blocks, the answer's, and the list's. -/
theorem ar_start (w : World) (a b : Vl) : ∃ (w1 w2 w3 w4 : World) (p0 p1 p2 p3 : Nat), w.heap.size = p0 ∧ w.alloc (objV a) = w1 ∧ w1.heap.size = p1 ∧ w1.alloc (objV b) = w2 ∧ w2.heap.size = p2 ∧ w2.alloc objZ = w3 ∧ w3.heap.size = p3 ∧ w3.alloc (objVV a b) = w4 ∧ p0 < p1 ∧ p1 < p2 ∧ p2 < p3 ∧
    Hid (∀ W, Below w3.heap.size w3 W → W.heap[p0]? = some (objV a) ∧ W.heap[p1]? = some (objV b) ∧ W.heap[p2]? = some objZ ∧ Below w.heap.size w W) ∧ Hid (w4.heap[p3]? = some (objVV a b)) ∧ Hid (Below w3.heap.size w3 w4) := by
  obtain ⟨w1, p0, hp0, hw1, l1, n1, b1⟩ := box_new w (objV a)
  obtain ⟨w2, p1, hp1, hw2, l2, n2, b2⟩ := box_new w1 (objV b)
  obtain ⟨w3, p2, hp2, hw3, l3, n3, b3⟩ := box_new w2 objZ
  obtain ⟨w4, p3, hp3, hw4, l4, n4, b4⟩ := box_new w3 (objVV a b)
  refine ⟨w1, w2, w3, w4, p0, p1, p2, p3, hp0, hw1, hp1, hw2, hp2, hw3, hp3, hw4, by omega, by omega, by omega, Lib.hid (fun W h => ?_), Lib.hid n4, Lib.hid b4⟩
  refine ⟨(h.block p0 (by omega)).trans ((b3.block p0 (by omega)).trans ((b2.block p0 (by omega)).trans n1)), (h.block p1 (by omega)).trans ((b3.block p1 (by omega)).trans n2), (h.block p2 (by omega)).trans n3, ?_⟩
  exact ((b1.trans (b2.mono (by omega))).trans (b3.mono (by omega))).trans (h.mono (by omega))
theorem zero_end {w W : World} {p : Nat} (h : Below w.heap.size w W) (hp : w.heap.size ≤ p) (v : Vl) : Below w.heap.size w (chainV W p v) := chain_below h hp v
theorem wrap_out {x n : Int} (e : IntKind.i64.wrap x = n) (h1 : -18446744073709551616 ≤ x) (h2 : x ≤ 18446744073709551615) (hr : ¬ (-9223372036854775808 ≤ x ∧ x ≤ 9223372036854775807)) : (9223372036854775807 < x ∧ n = x - 18446744073709551616) ∨ (x < -9223372036854775808 ∧ n = x + 18446744073709551616) := by
  rw [← e]
  unfold IntKind.wrap
  simp [IntKind.signed, IntKind.bits]
  omega
theorem add_is {a b : Vl} (ha : VlW a) (hb : VlW b) (hn : numsB a b = true) {n : Int} (e : IntKind.i64.wrap (a.num + b.num) = n) {x y : Bool} (hx : decide (n < a.num) = x) (hy : decide (b.num < 0) = y) : ansE n (x == y) = addE a b := by
  unfold addE
  rw [if_pos hn]
  have h1 := ha.n0; have h2 := ha.n1; have h3 := hb.n0; have h4 := hb.n1
  by_cases hr : -9223372036854775808 ≤ a.num + b.num ∧ a.num + b.num ≤ 9223372036854775807
  · have hw : n = a.num + b.num := by rw [← e]; exact IntWalk.i64_in _ hr
    have hi : inR (a.num + b.num) = true := by unfold inR; rw [decide_eq_true hr.1, decide_eq_true hr.2]; rfl
    rw [hi, hw]
    have : (x == y) = true := by
      rw [← hx, ← hy, hw, beq_iff_eq]
      exact decide_eq_decide.2 (by omega)
    rw [this]
  · have hi : inR (a.num + b.num) = false := by
      unfold inR
      rw [Bool.and_eq_false_iff, decide_eq_false_iff_not, decide_eq_false_iff_not]
      omega
    rw [hi]
    have hw := wrap_out e (by omega) (by omega) hr
    have : (x == y) = false := by
      rw [← hx, ← hy, beq_eq_false_iff_ne]
      intro h
      have hh : n < a.num ↔ b.num < 0 := decide_eq_decide.1 h
      rcases hw with ⟨_, hw⟩ | ⟨_, hw⟩
      · exact (show ¬ b.num < 0 by omega) (hh.1 (by omega))
      · exact (show ¬ n < a.num by omega) (hh.2 (by omega))
    rw [this]
    rfl
theorem sub_is {a b : Vl} (ha : VlW a) (hb : VlW b) (hn : numsB a b = true) {n : Int} (e : IntKind.i64.wrap (a.num - b.num) = n) {x y : Bool} (hx : decide (a.num < n) = x) (hy : decide (b.num < 0) = y) : ansE n (x == y) = subE a b := by
  unfold subE
  rw [if_pos hn]
  have h1 := ha.n0; have h2 := ha.n1; have h3 := hb.n0; have h4 := hb.n1
  by_cases hr : -9223372036854775808 ≤ a.num - b.num ∧ a.num - b.num ≤ 9223372036854775807
  · have hw : n = a.num - b.num := by rw [← e]; exact IntWalk.i64_in _ hr
    have hi : inR (a.num - b.num) = true := by unfold inR; rw [decide_eq_true hr.1, decide_eq_true hr.2]; rfl
    rw [hi, hw]
    have : (x == y) = true := by
      rw [← hx, ← hy, hw, beq_iff_eq]
      exact decide_eq_decide.2 (by omega)
    rw [this]
  · have hi : inR (a.num - b.num) = false := by
      unfold inR
      rw [Bool.and_eq_false_iff, decide_eq_false_iff_not, decide_eq_false_iff_not]
      omega
    rw [hi]
    have hw := wrap_out e (by omega) (by omega) hr
    have : (x == y) = false := by
      rw [← hx, ← hy, beq_eq_false_iff_ne]
      intro h
      have hh : a.num < n ↔ b.num < 0 := decide_eq_decide.1 h
      rcases hw with ⟨_, hw⟩ | ⟨_, hw⟩
      · exact (show ¬ a.num < n by omega) (hh.2 (by omega))
      · exact (show ¬ b.num < 0 by omega) (hh.1 (by omega))
    rw [this]
    rfl

theorem div_in {a b : Vl} (ha : VlW a) (_hb : VlW b) (hd : b.num ≠ 0) (hm : ¬ (a.num = -9223372036854775808 ∧ b.num = -1)) : IntKind.i64.wrap (a.num.tdiv b.num) = a.num.tdiv b.num := by
  have h1 := ha.n0; have h2 := ha.n1
  refine IntWalk.i64_in _ ?_
  have habs : (a.num.tdiv b.num).natAbs ≤ a.num.natAbs := by rw [Int.natAbs_tdiv]; exact Nat.div_le_self _ _
  by_cases hmin : a.num = -9223372036854775808
  · have hb1 : b.num ≠ -1 := fun e => hm ⟨hmin, e⟩
    by_cases hb2 : b.num = 1
    · rw [hb2, Int.tdiv_one]; omega
    · have h2' : 2 ≤ b.num.natAbs := by omega
      have : (a.num.tdiv b.num).natAbs ≤ a.num.natAbs / 2 := by rw [Int.natAbs_tdiv]; exact Nat.div_le_div_left h2' (by omega)
      omega
  · omega

set_option maxHeartbeats 4000000 in
theorem vadd_any (w : World) (a b : Vl) (ha : VlW a) (hb : VlW b) (hT : Tabs8 w) : Calls Tryz.prog 162 #[valV a, valV b] w fun e w' => e = .returned (.tuple #[valV (addE a b).1, .int .i64 (addE a b).2]) ∧ Below w.heap.size w w' := by
  obtain ⟨w1, w2, w3, w4, p0, p1, p2, p3, hp0, hw1, hp1, hw2, hp2, hw3, hp3, hw4, l01, l12, l23, HK, HN4, HB34⟩ := ar_start w a b
  obtain ⟨k0, k1, -, -⟩ := HK.out w3 (Below.refl _ _)
  have HB4 := Lib.hid (HK.out w4 HB34.out).2.2.2
  have S1 := Lib.hid (numbers2 w4 p3 a b HN4.out ha hb (Utf8Tabs_below hT HB4.out))
  obtain ⟨a0, a1, a2, a3⟩ := v_cells k0
  obtain ⟨b0, b1, b2, b3⟩ := v_cells k1
  have lp : w.heap.size ≤ p2 := by omega
  have HA := Lib.hid ha
  have HB := Lib.hid hb
  clear k0 k1 ha hb hT
  cases hnb : numsB a b with
  | false =>
    have hE : addE a b = (Vl.zero, 90) := by unfold addE; rw [hnb]; rfl
    rw [hE]
    rw [hnb] at S1
    clear hnb hE
    go_enter Tryz.func162, Tryz.ntmps162
    go_wp2_with (go_at_call 163; refine S1.out.mono ?_; rintro e w5 ⟨rfl, hb5⟩; refine Hid.out ?_)
    refine Lib.hid ?_
    obtain ⟨-, -, z0, hB5⟩ := HK.out w5 (HB34.out.trans (hb5.mono HB34.out.size))
    obtain ⟨⟨n0, n1, n2, n3⟩, f0, f1, f2, f3⟩ := zero_blk z0
    have HE := Lib.hid (chain_below hB5 lp Vl.zero)
    clear hb5 z0 hB5 a0 a1 a2 a3 b0 b1 b2 b3
    go_wp2_with fail
    exact bodyPost_ret (v := .tuple #[valV Vl.zero, .int .i64 90]) (by simp [results, Tryz.results162, go_sem, Vl.zero, n0, n1, n2, n3]) rfl ⟨rfl, HE.out⟩
  | true =>
    rw [hnb] at S1
    have HNB := Lib.hid hnb
    have HK5 : Hid (∀ W, Below w4.heap.size w4 W → (W.cell? ⟨p0, 1, none⟩ = some (.int .i64 a.num) ∧ W.cell? ⟨p1, 1, none⟩ = some (.int .i64 b.num)) ∧ W.heap[p2]? = some objZ ∧ Below w.heap.size w W) := Lib.hid (fun W h => by
      obtain ⟨q0, q1, q2, q3⟩ := HK.out W (HB34.out.trans (h.mono HB34.out.size))
      exact ⟨⟨(v_cells q0).2.1, (v_cells q1).2.1⟩, q2, q3⟩)
    have hfin : ∀ (W : World) (v : Vl), Below w4.heap.size w4 W → Below w.heap.size w (chainV W p2 v) := fun W v h => chain_below (HK5.out W h).2.2 lp v
    have HFin := Lib.hid hfin
    clear hnb hfin
    obtain ⟨n, hn⟩ : ∃ n, IntKind.i64.wrap (a.num + b.num) = n := ⟨_, rfl⟩
    have hA : ∀ x y, decide (n < a.num) = x → decide (b.num < 0) = y → ansE n (x == y) = addE a b := fun x y hx hy => add_is HA.out HB.out HNB.out hn hx hy
    have HAA := Lib.hid hA
    clear hA
    cases hx : decide (n < a.num)
    all_goals cases hy : decide (b.num < 0)
    all_goals
      have hA := HAA.out _ _ hx hy
      have HA2 := Lib.hid hA
      clear hA
      go_enter Tryz.func162, Tryz.ntmps162
      go_wp2_with (go_at_call 163; refine S1.out.mono ?_; rintro e w5 ⟨rfl, hb5⟩; refine Hid.out ?_)
      refine Lib.hid ?_
      obtain ⟨⟨c0, c1⟩, -, -⟩ := HK5.out w5 hb5
      have HB5 := Lib.hid hb5
      clear hb5 a0 a1 a2 a3 b0 b1 b2 b3
      go_wp2_with (go_at_call 164; refine (answer_any _ n _).mono ?_; rintro e w6 ⟨rfl, hb6⟩; refine Hid.out ?_)
      refine Lib.hid ?_
      first | rw [HA2.out] | rw [show ansE n true = addE a b from HA2.out] | rw [show ansE n false = addE a b from HA2.out]
      obtain ⟨⟨v, ee⟩, hr⟩ : ∃ r, addE a b = r := ⟨_, rfl⟩
      rw [hr]
      have hb56 := HB5.out.trans (hb6.mono HB5.out.size)
      obtain ⟨-, z0, -⟩ := HK5.out w6 hb56
      obtain ⟨⟨n0, n1, n2, n3⟩, f0, f1, f2, f3⟩ := zero_blk z0
      have HE := Lib.hid (HFin.out w6 v hb56)
      have HR := Lib.hid hr
      clear hb6 hb56 z0 hr
      go_wp2_with fail
      exact bodyPost_ret (v := .tuple #[valV v, .int .i64 ee]) (by simp [results, Tryz.results162, go_sem, n0, n1, n2, n3]) rfl ⟨by rw [HR.out], HE.out⟩


set_option maxHeartbeats 4000000 in
theorem vsub_any (w : World) (a b : Vl) (ha : VlW a) (hb : VlW b) (hT : Tabs8 w) : Calls Tryz.prog 123 #[valV a, valV b] w fun e w' => e = .returned (.tuple #[valV (subE a b).1, .int .i64 (subE a b).2]) ∧ Below w.heap.size w w' := by
  obtain ⟨w1, w2, w3, w4, p0, p1, p2, p3, hp0, hw1, hp1, hw2, hp2, hw3, hp3, hw4, l01, l12, l23, HK, HN4, HB34⟩ := ar_start w a b
  obtain ⟨k0, k1, -, -⟩ := HK.out w3 (Below.refl _ _)
  have HB4 := Lib.hid (HK.out w4 HB34.out).2.2.2
  have S1 := Lib.hid (numbers2 w4 p3 a b HN4.out ha hb (Utf8Tabs_below hT HB4.out))
  obtain ⟨a0, a1, a2, a3⟩ := v_cells k0
  obtain ⟨b0, b1, b2, b3⟩ := v_cells k1
  have lp : w.heap.size ≤ p2 := by omega
  have HA := Lib.hid ha
  have HB := Lib.hid hb
  clear k0 k1 ha hb hT
  cases hnb : numsB a b with
  | false =>
    have hE : subE a b = (Vl.zero, 90) := by unfold subE; rw [hnb]; rfl
    rw [hE]
    rw [hnb] at S1
    clear hnb hE
    go_enter Tryz.func123, Tryz.ntmps123
    go_wp2_with (go_at_call 163; refine S1.out.mono ?_; rintro e w5 ⟨rfl, hb5⟩; refine Hid.out ?_)
    refine Lib.hid ?_
    obtain ⟨-, -, z0, hB5⟩ := HK.out w5 (HB34.out.trans (hb5.mono HB34.out.size))
    obtain ⟨⟨n0, n1, n2, n3⟩, f0, f1, f2, f3⟩ := zero_blk z0
    have HE := Lib.hid (chain_below hB5 lp Vl.zero)
    clear hb5 z0 hB5 a0 a1 a2 a3 b0 b1 b2 b3
    go_wp2_with fail
    exact bodyPost_ret (v := .tuple #[valV Vl.zero, .int .i64 90]) (by simp [results, Tryz.results123, go_sem, Vl.zero, n0, n1, n2, n3]) rfl ⟨rfl, HE.out⟩
  | true =>
    rw [hnb] at S1
    have HNB := Lib.hid hnb
    have HK5 : Hid (∀ W, Below w4.heap.size w4 W → (W.cell? ⟨p0, 1, none⟩ = some (.int .i64 a.num) ∧ W.cell? ⟨p1, 1, none⟩ = some (.int .i64 b.num)) ∧ W.heap[p2]? = some objZ ∧ Below w.heap.size w W) := Lib.hid (fun W h => by
      obtain ⟨q0, q1, q2, q3⟩ := HK.out W (HB34.out.trans (h.mono HB34.out.size))
      exact ⟨⟨(v_cells q0).2.1, (v_cells q1).2.1⟩, q2, q3⟩)
    have hfin : ∀ (W : World) (v : Vl), Below w4.heap.size w4 W → Below w.heap.size w (chainV W p2 v) := fun W v h => chain_below (HK5.out W h).2.2 lp v
    have HFin := Lib.hid hfin
    clear hnb hfin
    obtain ⟨n, hn⟩ : ∃ n, IntKind.i64.wrap (a.num - b.num) = n := ⟨_, rfl⟩
    have hA : ∀ x y, decide (a.num < n) = x → decide (b.num < 0) = y → ansE n (x == y) = subE a b := fun x y hx hy => sub_is HA.out HB.out HNB.out hn hx hy
    have HAA := Lib.hid hA
    clear hA
    cases hx : decide (a.num < n)
    all_goals cases hy : decide (b.num < 0)
    all_goals
      have hA := HAA.out _ _ hx hy
      have HA2 := Lib.hid hA
      clear hA
      go_enter Tryz.func123, Tryz.ntmps123
      go_wp2_with (go_at_call 163; refine S1.out.mono ?_; rintro e w5 ⟨rfl, hb5⟩; refine Hid.out ?_)
      refine Lib.hid ?_
      obtain ⟨⟨c0, c1⟩, -, -⟩ := HK5.out w5 hb5
      have HB5 := Lib.hid hb5
      clear hb5 a0 a1 a2 a3 b0 b1 b2 b3
      go_wp2_with (go_at_call 164; refine (answer_any _ n _).mono ?_; rintro e w6 ⟨rfl, hb6⟩; refine Hid.out ?_)
      refine Lib.hid ?_
      first | rw [HA2.out] | rw [show ansE n true = subE a b from HA2.out] | rw [show ansE n false = subE a b from HA2.out]
      obtain ⟨⟨v, ee⟩, hr⟩ : ∃ r, subE a b = r := ⟨_, rfl⟩
      rw [hr]
      have hb56 := HB5.out.trans (hb6.mono HB5.out.size)
      obtain ⟨-, z0, -⟩ := HK5.out w6 hb56
      obtain ⟨⟨n0, n1, n2, n3⟩, f0, f1, f2, f3⟩ := zero_blk z0
      have HE := Lib.hid (HFin.out w6 v hb56)
      have HR := Lib.hid hr
      clear hb6 hb56 z0 hr
      go_wp2_with fail
      exact bodyPost_ret (v := .tuple #[valV v, .int .i64 ee]) (by simp [results, Tryz.results123, go_sem, n0, n1, n2, n3]) rfl ⟨by rw [HR.out], HE.out⟩


set_option maxHeartbeats 4000000 in
theorem vdiv_any (w : World) (a b : Vl) (ha : VlW a) (hb : VlW b) (hT : Tabs8 w) : Calls Tryz.prog 125 #[valV a, valV b] w fun e w' => e = .returned (.tuple #[valV (divE a b).1, .int .i64 (divE a b).2]) ∧ Below w.heap.size w w' := by
  obtain ⟨w1, w2, w3, w4, p0, p1, p2, p3, hp0, hw1, hp1, hw2, hp2, hw3, hp3, hw4, l01, l12, l23, HK, HN4, HB34⟩ := ar_start w a b
  obtain ⟨k0, k1, -, -⟩ := HK.out w3 (Below.refl _ _)
  have HB4 := Lib.hid (HK.out w4 HB34.out).2.2.2
  have S1 := Lib.hid (numbers2 w4 p3 a b HN4.out ha hb (Utf8Tabs_below hT HB4.out))
  obtain ⟨a0, a1, a2, a3⟩ := v_cells k0
  obtain ⟨b0, b1, b2, b3⟩ := v_cells k1
  have lp : w.heap.size ≤ p2 := by omega
  have HA := Lib.hid ha
  have HB := Lib.hid hb
  clear k0 k1 ha hb hT
  cases hnb : numsB a b with
  | false =>
    have hE : divE a b = (Vl.zero, 90) := by unfold divE; rw [hnb]; rfl
    rw [hE]
    rw [hnb] at S1
    clear hnb hE
    go_enter Tryz.func125, Tryz.ntmps125
    go_wp2_with (go_at_call 163; refine S1.out.mono ?_; rintro e w5 ⟨rfl, hb5⟩; refine Hid.out ?_)
    refine Lib.hid ?_
    obtain ⟨-, -, z0, hB5⟩ := HK.out w5 (HB34.out.trans (hb5.mono HB34.out.size))
    obtain ⟨⟨n0, n1, n2, n3⟩, f0, f1, f2, f3⟩ := zero_blk z0
    have HE := Lib.hid (chain_below hB5 lp Vl.zero)
    clear hb5 z0 hB5 a0 a1 a2 a3 b0 b1 b2 b3
    go_wp2_with fail
    exact bodyPost_ret (v := .tuple #[valV Vl.zero, .int .i64 90]) (by simp [results, Tryz.results125, go_sem, Vl.zero, n0, n1, n2, n3]) rfl ⟨rfl, HE.out⟩
  | true =>
    rw [hnb] at S1
    have HNB := Lib.hid hnb
    have HK5 : Hid (∀ W, Below w4.heap.size w4 W → (W.cell? ⟨p0, 1, none⟩ = some (.int .i64 a.num) ∧ W.cell? ⟨p1, 1, none⟩ = some (.int .i64 b.num)) ∧ W.heap[p2]? = some objZ ∧ Below w.heap.size w W) := Lib.hid (fun W h => by
      obtain ⟨q0, q1, q2, q3⟩ := HK.out W (HB34.out.trans (h.mono HB34.out.size))
      exact ⟨⟨(v_cells q0).2.1, (v_cells q1).2.1⟩, q2, q3⟩)
    have hfin : ∀ (W : World) (v : Vl), Below w4.heap.size w4 W → Below w.heap.size w (chainV W p2 v) := fun W v h => chain_below (HK5.out W h).2.2 lp v
    have HFin := Lib.hid hfin
    clear hnb hfin
    by_cases hd : b.num = 0
    · have d0 : (b.num == 0) = true := by simpa using hd
      have hA : ansE 0 false = divE a b := by unfold divE; rw [HNB.out, d0]; rfl
      have HA2 := Lib.hid hA
      clear hA hd
      go_enter Tryz.func125, Tryz.ntmps125
      go_wp2_with (go_at_call 163; refine S1.out.mono ?_; rintro e w5 ⟨rfl, hb5⟩; refine Hid.out ?_)
      refine Lib.hid ?_
      obtain ⟨⟨c0, c1⟩, -, -⟩ := HK5.out w5 hb5
      have HB5 := Lib.hid hb5
      clear hb5 a0 a1 a2 a3 b0 b1 b2 b3
      go_wp2_with (go_at_call 164; refine (answer_any _ _ _).mono ?_; rintro e w6 ⟨rfl, hb6⟩; refine Hid.out ?_)
      refine Lib.hid ?_
      rw [HA2.out]
      obtain ⟨⟨v, ee⟩, hr⟩ : ∃ r, divE a b = r := ⟨_, rfl⟩
      rw [hr]
      have hb56 := HB5.out.trans (hb6.mono HB5.out.size)
      obtain ⟨-, z0, -⟩ := HK5.out w6 hb56
      obtain ⟨⟨n0, n1, n2, n3⟩, f0, f1, f2, f3⟩ := zero_blk z0
      have HE := Lib.hid (HFin.out w6 v hb56)
      have HR := Lib.hid hr
      clear hb6 hb56 z0 hr
      go_wp2_with fail
      exact bodyPost_ret (v := .tuple #[valV v, .int .i64 ee]) (by simp [results, Tryz.results125, go_sem, n0, n1, n2, n3]) rfl ⟨by rw [HR.out], HE.out⟩
    · have d0 : (b.num == 0) = false := by simpa using hd
      by_cases hm : a.num = -9223372036854775808 ∧ b.num = -1
      · have d1 : (a.num == -9223372036854775808) = true := by simpa using hm.1
        have d2 : (b.num == -1) = true := by simpa using hm.2
        have hA : ansE 0 false = divE a b := by unfold divE; rw [HNB.out, d0, d1, d2]; rfl
        have HA2 := Lib.hid hA
        clear hA hd hm
        go_enter Tryz.func125, Tryz.ntmps125
        go_wp2_with (go_at_call 163; refine S1.out.mono ?_; rintro e w5 ⟨rfl, hb5⟩; refine Hid.out ?_)
        refine Lib.hid ?_
        obtain ⟨⟨c0, c1⟩, -, -⟩ := HK5.out w5 hb5
        have HB5 := Lib.hid hb5
        clear hb5 a0 a1 a2 a3 b0 b1 b2 b3
        go_wp2_with (go_at_call 164; refine (answer_any _ _ _).mono ?_; rintro e w6 ⟨rfl, hb6⟩; refine Hid.out ?_)
        refine Lib.hid ?_
        rw [HA2.out]
        obtain ⟨⟨v, ee⟩, hr⟩ : ∃ r, divE a b = r := ⟨_, rfl⟩
        rw [hr]
        have hb56 := HB5.out.trans (hb6.mono HB5.out.size)
        obtain ⟨-, z0, -⟩ := HK5.out w6 hb56
        obtain ⟨⟨n0, n1, n2, n3⟩, f0, f1, f2, f3⟩ := zero_blk z0
        have HE := Lib.hid (HFin.out w6 v hb56)
        have HR := Lib.hid hr
        clear hb6 hb56 z0 hr
        go_wp2_with fail
        exact bodyPost_ret (v := .tuple #[valV v, .int .i64 ee]) (by simp [results, Tryz.results125, go_sem, n0, n1, n2, n3]) rfl ⟨by rw [HR.out], HE.out⟩
      · have hq : ((a.num == -9223372036854775808) && (b.num == -1)) = false := by
          rw [Bool.and_eq_false_iff, beq_eq_false_iff_ne, beq_eq_false_iff_ne]
          by_cases h : a.num = -9223372036854775808
          · exact Or.inr (fun e => hm ⟨h, e⟩)
          · exact Or.inl h
        have hA : ansE (a.num.tdiv b.num) true = divE a b := by unfold divE; rw [HNB.out, d0, hq]; rfl
        have HA2 := Lib.hid hA
        have hw : IntKind.i64.wrap (a.num.tdiv b.num) = a.num.tdiv b.num := div_in HA.out HB.out hd hm
        have HQ := Lib.hid hm
        clear hA hm hq
        cases d1 : (a.num == -9223372036854775808)
        all_goals cases d2 : (b.num == -1)
        all_goals
          first
          | (exfalso; have h1 := beq_iff_eq.1 d1; have h2 := beq_iff_eq.1 d2; exact HQ.out ⟨h1, h2⟩)
          | skip
        all_goals
          go_enter Tryz.func125, Tryz.ntmps125
          go_wp2_with (go_at_call 163; refine S1.out.mono ?_; rintro e w5 ⟨rfl, hb5⟩; refine Hid.out ?_)
          refine Lib.hid ?_
          obtain ⟨⟨c0, c1⟩, -, -⟩ := HK5.out w5 hb5
          have HB5 := Lib.hid hb5
          clear hb5 a0 a1 a2 a3 b0 b1 b2 b3
          go_wp2_with (go_at_call 164; refine (answer_any _ (a.num.tdiv b.num) true).mono ?_; rintro e w6 ⟨rfl, hb6⟩; refine Hid.out ?_)
          refine Lib.hid ?_
          rw [HA2.out]
          obtain ⟨⟨v, ee⟩, hr⟩ : ∃ r, divE a b = r := ⟨_, rfl⟩
          rw [hr]
          have hb56 := HB5.out.trans (hb6.mono HB5.out.size)
          obtain ⟨-, z0, -⟩ := HK5.out w6 hb56
          obtain ⟨⟨n0, n1, n2, n3⟩, f0, f1, f2, f3⟩ := zero_blk z0
          have HE := Lib.hid (HFin.out w6 v hb56)
          have HR := Lib.hid hr
          clear hb6 hb56 z0 hr
          go_wp2_with fail
          exact bodyPost_ret (v := .tuple #[valV v, .int .i64 ee]) (by simp [results, Tryz.results125, go_sem, n0, n1, n2, n3]) rfl ⟨by rw [HR.out], HE.out⟩

end Go.Proofs.YtbephgifbghilaaGreatDoor
