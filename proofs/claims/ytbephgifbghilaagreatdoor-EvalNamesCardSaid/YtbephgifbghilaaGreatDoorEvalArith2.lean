/- value.Mod, size, Mul, Neg. -/
import Derived.Test.YtbephgifbghilaaGreatDoorEvalArith
set_option maxRecDepth 100000
namespace Go.Proofs.YtbephgifbghilaaGreatDoor
open Go.RowKit

theorem mod_in {a b : Vl} (ha : VlW a) : IntKind.i64.wrap (a.num.tmod b.num) = a.num.tmod b.num := by
  have h1 := ha.n0; have h2 := ha.n1
  refine IntWalk.i64_in _ ?_
  have habs : (a.num.tmod b.num).natAbs ≤ a.num.natAbs := by rw [Int.natAbs_tmod]; exact Nat.mod_le _ _
  have hs : a.num ≤ 0 → a.num.tmod b.num ≤ 0 := fun h => by
    have := Int.tmod_nonneg b.num (show 0 ≤ -a.num by omega)
    rw [Int.neg_tmod] at this
    omega
  omega
theorem size_any (w : World) (n : Int) (h0 : -9223372036854775808 ≤ n) (h1 : n ≤ 9223372036854775807) : Calls Tryz.prog 166 #[.int .i64 n] w fun e w' => e = .returned (.int .u64 ((n.natAbs : Nat) : Int)) ∧ w = w' := by
  by_cases h : n < 0
  · have e1 : IntKind.u64.wrap (-(IntKind.u64.wrap n)) = ((n.natAbs : Nat) : Int) := by
      unfold IntKind.wrap
      simp [IntKind.signed, IntKind.bits]
      omega
    have d : decide (n < 0) = true := decide_eq_true h
    have E := Lib.hid e1
    clear h e1
    go_enter Tryz.func166, Tryz.ntmps166
    go_wp2_with fail
    go_ret
    exact ⟨by rw [← E.out]; rfl, rfl⟩
  · have e1 : IntKind.u64.wrap n = ((n.natAbs : Nat) : Int) := by
      unfold IntKind.wrap
      simp [IntKind.signed, IntKind.bits]
      omega
    have d : decide (n < 0) = false := decide_eq_false h
    have E := Lib.hid e1
    clear h e1
    go_enter Tryz.func166, Tryz.ntmps166
    go_wp2_with fail
    go_ret
    exact ⟨by rw [← E.out]; rfl, rfl⟩
/-- The product's range by its two words. -/
theorem mul_is {a b : Vl} (_ha : VlW a) (_hb : VlW b) (hn : numsB a b = true) {n : Int} (e : IntKind.i64.wrap (a.num * b.num) = n) {hi lo : Nat} (h1 : a.num.natAbs * b.num.natAbs / 18446744073709551616 = hi) (h2 : a.num.natAbs * b.num.natAbs % 18446744073709551616 = lo)
    {x y : Bool} (hx : decide (a.num < 0) = x) (hy : decide (b.num < 0) = y) : ansE n (((hi : Int) == 0) && decide ((lo : Int) ≤ (if x = y then 9223372036854775807 else 9223372036854775808))) = mulE a b := by
  unfold mulE
  rw [if_pos hn]
  obtain ⟨P, hP⟩ : ∃ P, a.num.natAbs * b.num.natAbs = P := ⟨_, rfl⟩
  rw [hP] at h1 h2
  have hprod : (x = y → a.num * b.num = (P : Int)) ∧ (x ≠ y → a.num * b.num = -(P : Int)) := by
    have ea : a.num = if x then -((a.num.natAbs : Nat) : Int) else ((a.num.natAbs : Nat) : Int) := by
      rw [← hx]
      by_cases h : a.num < 0
      · rw [decide_eq_true h]; simp; omega
      · rw [decide_eq_false h]; simp; omega
    have eb : b.num = if y then -((b.num.natAbs : Nat) : Int) else ((b.num.natAbs : Nat) : Int) := by
      rw [← hy]
      by_cases h : b.num < 0
      · rw [decide_eq_true h]; simp; omega
      · rw [decide_eq_false h]; simp; omega
    have hc : ((a.num.natAbs : Nat) : Int) * ((b.num.natAbs : Nat) : Int) = (P : Int) := by rw [← hP]; exact (Int.natCast_mul _ _).symm
    generalize a.num.natAbs = A at ea hc
    generalize b.num.natAbs = B at eb hc
    rw [ea, eb]
    cases x <;> cases y <;> simp [hc, Int.neg_mul, Int.mul_neg]
  by_cases hxy : x = y
  · rw [if_pos hxy, hprod.1 hxy]
    rw [hprod.1 hxy] at e
    by_cases hr : P ≤ 9223372036854775807
    · have hh : hi = 0 := by omega
      have hl : lo = P := by omega
      subst hh hl
      have hi2 : inR (lo : Int) = true := by unfold inR; rw [decide_eq_true (by omega), decide_eq_true (by omega)]; rfl
      rw [hi2, decide_eq_true (show ((lo : Int)) ≤ 9223372036854775807 by omega), ← e, IntWalk.i64_in _ (by omega)]
      rfl
    · have hi2 : inR (P : Int) = false := by unfold inR; rw [Bool.and_eq_false_iff, decide_eq_false_iff_not, decide_eq_false_iff_not]; omega
      have : (((hi : Int) == 0) && decide ((lo : Int) ≤ 9223372036854775807)) = false := by
        rw [Bool.and_eq_false_iff, beq_eq_false_iff_ne, decide_eq_false_iff_not]
        omega
      rw [hi2, this]
      rfl
  · rw [if_neg hxy, hprod.2 hxy]
    rw [hprod.2 hxy] at e
    by_cases hr : P ≤ 9223372036854775808
    · have hh : hi = 0 := by omega
      have hl : lo = P := by omega
      subst hh hl
      have hi2 : inR (-(lo : Int)) = true := by unfold inR; rw [decide_eq_true (by omega), decide_eq_true (by omega)]; rfl
      rw [hi2, decide_eq_true (show ((lo : Int)) ≤ 9223372036854775808 by omega), ← e, IntWalk.i64_in _ (by omega)]
      rfl
    · have hi2 : inR (-(P : Int)) = false := by unfold inR; rw [Bool.and_eq_false_iff, decide_eq_false_iff_not, decide_eq_false_iff_not]; omega
      have : (((hi : Int) == 0) && decide ((lo : Int) ≤ 9223372036854775808)) = false := by
        rw [Bool.and_eq_false_iff, beq_eq_false_iff_ne, decide_eq_false_iff_not]
        omega
      rw [hi2, this]
      rfl

set_option maxHeartbeats 4000000 in
theorem vmod_any (w : World) (a b : Vl) (ha : VlW a) (hb : VlW b) (hT : Tabs8 w) : Calls Tryz.prog 126 #[valV a, valV b] w fun e w' => e = .returned (.tuple #[valV (modE a b).1, .int .i64 (modE a b).2]) ∧ Below w.heap.size w w' := by
  obtain ⟨w1, w2, w3, w4, p0, p1, p2, p3, hp0, hw1, hp1, hw2, hp2, hw3, hp3, hw4, l01, l12, l23, HK, HN4, HB34⟩ := ar_start w a b
  obtain ⟨k0, k1, -, -⟩ := HK.out w3 (Below.refl _ _)
  have HB4 := Lib.hid (HK.out w4 HB34.out).2.2.2
  have S1 := Lib.hid (numbers2 w4 p3 a b HN4.out ha hb (Utf8Tabs_below hT HB4.out))
  obtain ⟨a0, a1, a2, a3⟩ := v_cells k0
  obtain ⟨b0, b1, b2, b3⟩ := v_cells k1
  have lp : w.heap.size ≤ p2 := by omega
  have HA := Lib.hid ha
  have HB := Lib.hid hb
  clear k0 k1 ha hb hT
  cases hnb : numsB a b with
  | false =>
    have hE : modE a b = (Vl.zero, 90) := by unfold modE; rw [hnb]; rfl
    rw [hE]
    rw [hnb] at S1
    clear hnb hE
    go_enter Tryz.func126, Tryz.ntmps126
    go_wp2_with (go_at_call 163; refine S1.out.mono ?_; rintro e w5 ⟨rfl, hb5⟩; refine Hid.out ?_)
    refine Lib.hid ?_
    obtain ⟨-, -, z0, hB5⟩ := HK.out w5 (HB34.out.trans (hb5.mono HB34.out.size))
    obtain ⟨⟨n0, n1, n2, n3⟩, f0, f1, f2, f3⟩ := zero_blk z0
    have HE := Lib.hid (chain_below hB5 lp Vl.zero)
    clear hb5 z0 hB5 a0 a1 a2 a3 b0 b1 b2 b3
    go_wp2_with fail
    exact bodyPost_ret (v := .tuple #[valV Vl.zero, .int .i64 90]) (by simp [results, Tryz.results126, go_sem, Vl.zero, n0, n1, n2, n3]) rfl ⟨rfl, HE.out⟩
  | true =>
    rw [hnb] at S1
    have HNB := Lib.hid hnb
    have HK5 : Hid (∀ W, Below w4.heap.size w4 W → (W.cell? ⟨p0, 1, none⟩ = some (.int .i64 a.num) ∧ W.cell? ⟨p1, 1, none⟩ = some (.int .i64 b.num)) ∧ W.heap[p2]? = some objZ ∧ Below w.heap.size w W) := Lib.hid (fun W h => by
      obtain ⟨q0, q1, q2, q3⟩ := HK.out W (HB34.out.trans (h.mono HB34.out.size))
      exact ⟨⟨(v_cells q0).2.1, (v_cells q1).2.1⟩, q2, q3⟩)
    have hfin : ∀ (W : World) (v : Vl), Below w4.heap.size w4 W → Below w.heap.size w (chainV W p2 v) := fun W v h => chain_below (HK5.out W h).2.2 lp v
    have HFin := Lib.hid hfin
    clear hnb hfin
    by_cases hd : b.num = 0
    · have d0 : (b.num == 0) = true := by simpa using hd
      have d1 : (b.num != 0) = false := by rw [hd]; rfl
      have hA : ansE 0 false = modE a b := by unfold modE; rw [HNB.out, d0]; rfl
      have HA2 := Lib.hid hA
      clear hA hd
      go_enter Tryz.func126, Tryz.ntmps126
      go_wp2_with (go_at_call 163; refine S1.out.mono ?_; rintro e w5 ⟨rfl, hb5⟩; refine Hid.out ?_)
      refine Lib.hid ?_
      obtain ⟨⟨c0, c1⟩, -, -⟩ := HK5.out w5 hb5
      have HB5 := Lib.hid hb5
      clear hb5 a0 a1 a2 a3 b0 b1 b2 b3
      go_wp2_with (go_at_call 164; refine (answer_any _ _ _).mono ?_; rintro e w6 ⟨rfl, hb6⟩; refine Hid.out ?_)
      refine Lib.hid ?_
      rw [HA2.out]
      obtain ⟨⟨v, ee⟩, hr⟩ : ∃ r, modE a b = r := ⟨_, rfl⟩
      rw [hr]
      have hb56 := HB5.out.trans (hb6.mono HB5.out.size)
      obtain ⟨-, z0, -⟩ := HK5.out w6 hb56
      obtain ⟨⟨n0, n1, n2, n3⟩, f0, f1, f2, f3⟩ := zero_blk z0
      have HE := Lib.hid (HFin.out w6 v hb56)
      have HR := Lib.hid hr
      clear hb6 hb56 z0 hr
      go_wp2_with fail
      exact bodyPost_ret (v := .tuple #[valV v, .int .i64 ee]) (by simp [results, Tryz.results126, go_sem, n0, n1, n2, n3]) rfl ⟨by rw [HR.out], HE.out⟩
    · have d0 : (b.num == 0) = false := by simpa using hd
      have d1 : (b.num != 0) = true := by simpa using hd
      by_cases hm : b.num = -1
      · have d2 : (b.num == -1) = true := by simpa using hm
        have hA : ansE 0 true = modE a b := by unfold modE; rw [HNB.out, d0, hm, Int.tmod_neg, Int.tmod_one]; rfl
        have HA2 := Lib.hid hA
        clear hA hd hm
        go_enter Tryz.func126, Tryz.ntmps126
        go_wp2_with (go_at_call 163; refine S1.out.mono ?_; rintro e w5 ⟨rfl, hb5⟩; refine Hid.out ?_)
        refine Lib.hid ?_
        obtain ⟨⟨c0, c1⟩, -, -⟩ := HK5.out w5 hb5
        have HB5 := Lib.hid hb5
        clear hb5 a0 a1 a2 a3 b0 b1 b2 b3
        go_wp2_with (go_at_call 164; refine (answer_any _ _ _).mono ?_; rintro e w6 ⟨rfl, hb6⟩; refine Hid.out ?_)
        refine Lib.hid ?_
        rw [HA2.out]
        obtain ⟨⟨v, ee⟩, hr⟩ : ∃ r, modE a b = r := ⟨_, rfl⟩
        rw [hr]
        have hb56 := HB5.out.trans (hb6.mono HB5.out.size)
        obtain ⟨-, z0, -⟩ := HK5.out w6 hb56
        obtain ⟨⟨n0, n1, n2, n3⟩, f0, f1, f2, f3⟩ := zero_blk z0
        have HE := Lib.hid (HFin.out w6 v hb56)
        have HR := Lib.hid hr
        clear hb6 hb56 z0 hr
        go_wp2_with fail
        exact bodyPost_ret (v := .tuple #[valV v, .int .i64 ee]) (by simp [results, Tryz.results126, go_sem, n0, n1, n2, n3]) rfl ⟨by rw [HR.out], HE.out⟩
      · have d2 : (b.num == -1) = false := by simpa using hm
        have hA : ansE (a.num.tmod b.num) true = modE a b := by unfold modE; rw [HNB.out, d0]; rfl
        have HA2 := Lib.hid hA
        have hw : IntKind.i64.wrap (a.num.tmod b.num) = a.num.tmod b.num := mod_in HA.out
        clear hA hm
        go_enter Tryz.func126, Tryz.ntmps126
        go_wp2_with (go_at_call 163; refine S1.out.mono ?_; rintro e w5 ⟨rfl, hb5⟩; refine Hid.out ?_)
        refine Lib.hid ?_
        obtain ⟨⟨c0, c1⟩, -, -⟩ := HK5.out w5 hb5
        have HB5 := Lib.hid hb5
        clear hb5 a0 a1 a2 a3 b0 b1 b2 b3
        go_wp2_with (go_at_call 164; refine (answer_any _ (a.num.tmod b.num) true).mono ?_; rintro e w6 ⟨rfl, hb6⟩; refine Hid.out ?_)
        refine Lib.hid ?_
        rw [HA2.out]
        obtain ⟨⟨v, ee⟩, hr⟩ : ∃ r, modE a b = r := ⟨_, rfl⟩
        rw [hr]
        have hb56 := HB5.out.trans (hb6.mono HB5.out.size)
        obtain ⟨-, z0, -⟩ := HK5.out w6 hb56
        obtain ⟨⟨n0, n1, n2, n3⟩, f0, f1, f2, f3⟩ := zero_blk z0
        have HE := Lib.hid (HFin.out w6 v hb56)
        have HR := Lib.hid hr
        clear hb6 hb56 z0 hr
        go_wp2_with fail
        exact bodyPost_ret (v := .tuple #[valV v, .int .i64 ee]) (by simp [results, Tryz.results126, go_sem, n0, n1, n2, n3]) rfl ⟨by rw [HR.out], HE.out⟩


set_option maxHeartbeats 4000000 in
theorem vmul_any (w : World) (a b : Vl) (ha : VlW a) (hb : VlW b) (hT : Tabs8 w) : Calls Tryz.prog 124 #[valV a, valV b] w fun e w' => e = .returned (.tuple #[valV (mulE a b).1, .int .i64 (mulE a b).2]) ∧ Below w.heap.size w w' := by
  obtain ⟨w1, w2, w3, w4, p0, p1, p2, p3, hp0, hw1, hp1, hw2, hp2, hw3, hp3, hw4, l01, l12, l23, HK, HN4, HB34⟩ := ar_start w a b
  obtain ⟨k0, k1, -, -⟩ := HK.out w3 (Below.refl _ _)
  have HB4 := Lib.hid (HK.out w4 HB34.out).2.2.2
  have S1 := Lib.hid (numbers2 w4 p3 a b HN4.out ha hb (Utf8Tabs_below hT HB4.out))
  obtain ⟨a0, a1, a2, a3⟩ := v_cells k0
  obtain ⟨b0, b1, b2, b3⟩ := v_cells k1
  have lp : w.heap.size ≤ p2 := by omega
  have HA := Lib.hid ha
  have HB := Lib.hid hb
  clear k0 k1 ha hb hT
  cases hnb : numsB a b with
  | false =>
    have hE : mulE a b = (Vl.zero, 90) := by unfold mulE; rw [hnb]; rfl
    rw [hE]
    rw [hnb] at S1
    clear hnb hE
    go_enter Tryz.func124, Tryz.ntmps124
    go_wp2_with (go_at_call 163; refine S1.out.mono ?_; rintro e w5 ⟨rfl, hb5⟩; refine Hid.out ?_)
    refine Lib.hid ?_
    obtain ⟨-, -, z0, hB5⟩ := HK.out w5 (HB34.out.trans (hb5.mono HB34.out.size))
    obtain ⟨⟨n0, n1, n2, n3⟩, f0, f1, f2, f3⟩ := zero_blk z0
    have HE := Lib.hid (chain_below hB5 lp Vl.zero)
    clear hb5 z0 hB5 a0 a1 a2 a3 b0 b1 b2 b3
    go_wp2_with fail
    exact bodyPost_ret (v := .tuple #[valV Vl.zero, .int .i64 90]) (by simp [results, Tryz.results124, go_sem, Vl.zero, n0, n1, n2, n3]) rfl ⟨rfl, HE.out⟩
  | true =>
    rw [hnb] at S1
    have HNB := Lib.hid hnb
    have HK5 : Hid (∀ W, Below w4.heap.size w4 W → (W.cell? ⟨p0, 1, none⟩ = some (.int .i64 a.num) ∧ W.cell? ⟨p1, 1, none⟩ = some (.int .i64 b.num)) ∧ W.heap[p2]? = some objZ ∧ Below w.heap.size w W) := Lib.hid (fun W h => by
      obtain ⟨q0, q1, q2, q3⟩ := HK.out W (HB34.out.trans (h.mono HB34.out.size))
      exact ⟨⟨(v_cells q0).2.1, (v_cells q1).2.1⟩, q2, q3⟩)
    have hfin : ∀ (W : World) (v : Vl), Below w4.heap.size w4 W → Below w.heap.size w (chainV W p2 v) := fun W v h => chain_below (HK5.out W h).2.2 lp v
    have HFin := Lib.hid hfin
    clear hnb hfin
    obtain ⟨n, hn⟩ : ∃ n, IntKind.i64.wrap (a.num * b.num) = n := ⟨_, rfl⟩
    obtain ⟨hi, hhi⟩ : ∃ hi, a.num.natAbs * b.num.natAbs / 18446744073709551616 = hi := ⟨_, rfl⟩
    obtain ⟨lo, hlo⟩ : ∃ lo, a.num.natAbs * b.num.natAbs % 18446744073709551616 = lo := ⟨_, rfl⟩
    have hA : ∀ x y, decide (a.num < 0) = x → decide (b.num < 0) = y → ansE n (((hi : Int) == 0) && decide ((lo : Int) ≤ (if x = y then 9223372036854775807 else 9223372036854775808))) = mulE a b := fun x y hx hy => mul_is HA.out HB.out HNB.out hn hhi hlo hx hy
    have HAA := Lib.hid hA
    have an0 := HA.out.n0
    have an1 := HA.out.n1
    have bn0 := HB.out.n0
    have bn1 := HB.out.n1
    have C3 := Lib.hid (fun W => Tryz.bits_Mul64 a.num.natAbs b.num.natAbs (by have := HA.out.n0; have := HA.out.n1; omega) (by have := HB.out.n0; have := HB.out.n1; omega) W)
    have C3 := Lib.hid (fun W => (C3.out W).mono (fun e w' h => (⟨h.1, h.2.symm⟩ : e = _ ∧ W = w')))
    rw [hhi, hlo] at C3
    clear hA hhi hlo
    cases hx : decide (a.num < 0) with
    | false =>
      cases hy : decide (b.num < 0) with
      | false =>
        have hA := HAA.out _ _ hx hy
        rw [if_pos rfl] at hA
        cases hz : ((hi : Int) == 0)
        all_goals cases hu : decide ((lo : Int) ≤ 9223372036854775807)
        all_goals
          rw [hz, hu] at hA
          have HA2 := Lib.hid hA
          clear hA
          go_enter Tryz.func124, Tryz.ntmps124
          go_wp2_with (go_at_call 163; refine S1.out.mono ?_; rintro e w5 ⟨rfl, hb5⟩; refine Hid.out ?_)
          refine Lib.hid ?_
          obtain ⟨⟨c0, c1⟩, -, -⟩ := HK5.out w5 hb5
          have HB5 := Lib.hid hb5
          clear hb5 a0 a1 a2 a3 b0 b1 b2 b3
          go_wp2_with fail
          go_quiet ((first
            | (go_at_call 166; (first | exact quiet_left (size_any _ _ (by assumption) (by assumption)) | exact quiet_add_left (size_any _ _ (by assumption) (by assumption))))
            | (go_at_call 165; (first | exact quiet_left (C3.out _) | exact quiet_add_left (C3.out _)))))
          have HB6 := Lib.hid (below_drewN HB5.out nq)
          have HK6 := Lib.hid (HK5.out _ HB6.out)
          obtain ⟨w5', hw6⟩ : ∃ w6, w5.drewN nq = w6 := ⟨_, rfl⟩
          rw [hw6] at HB6 HK6 ⊢
          clear HB5
          have HB5 := HB6
          obtain ⟨⟨c0, c1⟩, -, -⟩ := HK6.out
          clear hw6
          go_wp2_with (go_at_call 164; refine (answer_any _ n _).mono ?_; rintro e w6 ⟨rfl, hb6⟩; refine Hid.out ?_)
          refine Lib.hid ?_
          first | rw [show ansE n false = mulE a b from HA2.out] | rw [show ansE n true = mulE a b from HA2.out]
          obtain ⟨⟨v, ee⟩, hr⟩ : ∃ r, mulE a b = r := ⟨_, rfl⟩
          rw [hr]
          have hb56 := HB5.out.trans (hb6.mono HB5.out.size)
          obtain ⟨-, z0, -⟩ := HK5.out w6 hb56
          obtain ⟨⟨n0, n1, n2, n3⟩, f0, f1, f2, f3⟩ := zero_blk z0
          have HE := Lib.hid (HFin.out w6 v hb56)
          have HR := Lib.hid hr
          clear hb6 hb56 z0 hr
          go_wp2_with fail
          exact bodyPost_ret (v := .tuple #[valV v, .int .i64 ee]) (by simp [results, Tryz.results124, go_sem, n0, n1, n2, n3]) rfl ⟨by rw [HR.out], HE.out⟩
      | true =>
        have hA := HAA.out _ _ hx hy
        rw [if_neg (by decide)] at hA
        cases hz : ((hi : Int) == 0)
        all_goals cases hu : decide ((lo : Int) ≤ 9223372036854775808)
        all_goals
          rw [hz, hu] at hA
          have HA2 := Lib.hid hA
          clear hA
          go_enter Tryz.func124, Tryz.ntmps124
          go_wp2_with (go_at_call 163; refine S1.out.mono ?_; rintro e w5 ⟨rfl, hb5⟩; refine Hid.out ?_)
          refine Lib.hid ?_
          obtain ⟨⟨c0, c1⟩, -, -⟩ := HK5.out w5 hb5
          have HB5 := Lib.hid hb5
          clear hb5 a0 a1 a2 a3 b0 b1 b2 b3
          go_wp2_with fail
          go_quiet ((first
            | (go_at_call 166; (first | exact quiet_left (size_any _ _ (by assumption) (by assumption)) | exact quiet_add_left (size_any _ _ (by assumption) (by assumption))))
            | (go_at_call 165; (first | exact quiet_left (C3.out _) | exact quiet_add_left (C3.out _)))))
          have HB6 := Lib.hid (below_drewN HB5.out nq)
          have HK6 := Lib.hid (HK5.out _ HB6.out)
          obtain ⟨w5', hw6⟩ : ∃ w6, w5.drewN nq = w6 := ⟨_, rfl⟩
          rw [hw6] at HB6 HK6 ⊢
          clear HB5
          have HB5 := HB6
          obtain ⟨⟨c0, c1⟩, -, -⟩ := HK6.out
          clear hw6
          go_wp2_with (go_at_call 164; refine (answer_any _ n _).mono ?_; rintro e w6 ⟨rfl, hb6⟩; refine Hid.out ?_)
          refine Lib.hid ?_
          first | rw [show ansE n false = mulE a b from HA2.out] | rw [show ansE n true = mulE a b from HA2.out]
          obtain ⟨⟨v, ee⟩, hr⟩ : ∃ r, mulE a b = r := ⟨_, rfl⟩
          rw [hr]
          have hb56 := HB5.out.trans (hb6.mono HB5.out.size)
          obtain ⟨-, z0, -⟩ := HK5.out w6 hb56
          obtain ⟨⟨n0, n1, n2, n3⟩, f0, f1, f2, f3⟩ := zero_blk z0
          have HE := Lib.hid (HFin.out w6 v hb56)
          have HR := Lib.hid hr
          clear hb6 hb56 z0 hr
          go_wp2_with fail
          exact bodyPost_ret (v := .tuple #[valV v, .int .i64 ee]) (by simp [results, Tryz.results124, go_sem, n0, n1, n2, n3]) rfl ⟨by rw [HR.out], HE.out⟩
    | true =>
      cases hy : decide (b.num < 0) with
      | false =>
        have hA := HAA.out _ _ hx hy
        rw [if_neg (by decide)] at hA
        cases hz : ((hi : Int) == 0)
        all_goals cases hu : decide ((lo : Int) ≤ 9223372036854775808)
        all_goals
          rw [hz, hu] at hA
          have HA2 := Lib.hid hA
          clear hA
          go_enter Tryz.func124, Tryz.ntmps124
          go_wp2_with (go_at_call 163; refine S1.out.mono ?_; rintro e w5 ⟨rfl, hb5⟩; refine Hid.out ?_)
          refine Lib.hid ?_
          obtain ⟨⟨c0, c1⟩, -, -⟩ := HK5.out w5 hb5
          have HB5 := Lib.hid hb5
          clear hb5 a0 a1 a2 a3 b0 b1 b2 b3
          go_wp2_with fail
          go_quiet ((first
            | (go_at_call 166; (first | exact quiet_left (size_any _ _ (by assumption) (by assumption)) | exact quiet_add_left (size_any _ _ (by assumption) (by assumption))))
            | (go_at_call 165; (first | exact quiet_left (C3.out _) | exact quiet_add_left (C3.out _)))))
          have HB6 := Lib.hid (below_drewN HB5.out nq)
          have HK6 := Lib.hid (HK5.out _ HB6.out)
          obtain ⟨w5', hw6⟩ : ∃ w6, w5.drewN nq = w6 := ⟨_, rfl⟩
          rw [hw6] at HB6 HK6 ⊢
          clear HB5
          have HB5 := HB6
          obtain ⟨⟨c0, c1⟩, -, -⟩ := HK6.out
          clear hw6
          go_wp2_with (go_at_call 164; refine (answer_any _ n _).mono ?_; rintro e w6 ⟨rfl, hb6⟩; refine Hid.out ?_)
          refine Lib.hid ?_
          first | rw [show ansE n false = mulE a b from HA2.out] | rw [show ansE n true = mulE a b from HA2.out]
          obtain ⟨⟨v, ee⟩, hr⟩ : ∃ r, mulE a b = r := ⟨_, rfl⟩
          rw [hr]
          have hb56 := HB5.out.trans (hb6.mono HB5.out.size)
          obtain ⟨-, z0, -⟩ := HK5.out w6 hb56
          obtain ⟨⟨n0, n1, n2, n3⟩, f0, f1, f2, f3⟩ := zero_blk z0
          have HE := Lib.hid (HFin.out w6 v hb56)
          have HR := Lib.hid hr
          clear hb6 hb56 z0 hr
          go_wp2_with fail
          exact bodyPost_ret (v := .tuple #[valV v, .int .i64 ee]) (by simp [results, Tryz.results124, go_sem, n0, n1, n2, n3]) rfl ⟨by rw [HR.out], HE.out⟩
      | true =>
        have hA := HAA.out _ _ hx hy
        rw [if_pos rfl] at hA
        cases hz : ((hi : Int) == 0)
        all_goals cases hu : decide ((lo : Int) ≤ 9223372036854775807)
        all_goals
          rw [hz, hu] at hA
          have HA2 := Lib.hid hA
          clear hA
          go_enter Tryz.func124, Tryz.ntmps124
          go_wp2_with (go_at_call 163; refine S1.out.mono ?_; rintro e w5 ⟨rfl, hb5⟩; refine Hid.out ?_)
          refine Lib.hid ?_
          obtain ⟨⟨c0, c1⟩, -, -⟩ := HK5.out w5 hb5
          have HB5 := Lib.hid hb5
          clear hb5 a0 a1 a2 a3 b0 b1 b2 b3
          go_wp2_with fail
          go_quiet ((first
            | (go_at_call 166; (first | exact quiet_left (size_any _ _ (by assumption) (by assumption)) | exact quiet_add_left (size_any _ _ (by assumption) (by assumption))))
            | (go_at_call 165; (first | exact quiet_left (C3.out _) | exact quiet_add_left (C3.out _)))))
          have HB6 := Lib.hid (below_drewN HB5.out nq)
          have HK6 := Lib.hid (HK5.out _ HB6.out)
          obtain ⟨w5', hw6⟩ : ∃ w6, w5.drewN nq = w6 := ⟨_, rfl⟩
          rw [hw6] at HB6 HK6 ⊢
          clear HB5
          have HB5 := HB6
          obtain ⟨⟨c0, c1⟩, -, -⟩ := HK6.out
          clear hw6
          go_wp2_with (go_at_call 164; refine (answer_any _ n _).mono ?_; rintro e w6 ⟨rfl, hb6⟩; refine Hid.out ?_)
          refine Lib.hid ?_
          first | rw [show ansE n false = mulE a b from HA2.out] | rw [show ansE n true = mulE a b from HA2.out]
          obtain ⟨⟨v, ee⟩, hr⟩ : ∃ r, mulE a b = r := ⟨_, rfl⟩
          rw [hr]
          have hb56 := HB5.out.trans (hb6.mono HB5.out.size)
          obtain ⟨-, z0, -⟩ := HK5.out w6 hb56
          obtain ⟨⟨n0, n1, n2, n3⟩, f0, f1, f2, f3⟩ := zero_blk z0
          have HE := Lib.hid (HFin.out w6 v hb56)
          have HR := Lib.hid hr
          clear hb6 hb56 z0 hr
          go_wp2_with fail
          exact bodyPost_ret (v := .tuple #[valV v, .int .i64 ee]) (by simp [results, Tryz.results124, go_sem, n0, n1, n2, n3]) rfl ⟨by rw [HR.out], HE.out⟩

end Go.Proofs.YtbephgifbghilaaGreatDoor
