/- JobTries: a job fails just as often as its tries say. -/
import Derived.Test.YtggnheekkbideaaJobTriesP
set_option maxRecDepth 100000
namespace Go.Proofs.Ytggnheekkbideaa
open Go.RowKit

theorem u64_rem (x : Int) (m : Nat) (hm : 0 < m) : ∃ t : Nat, t < m ∧ (IntKind.u64.wrap x).tmod (m : Int) = (t : Int) := by
  have h : 0 ≤ IntKind.u64.wrap x := wrap_u64_nonneg x
  refine ⟨((IntKind.u64.wrap x) % (m : Int)).toNat, ?_, ?_⟩
  · have h1 := Int.emod_lt_of_pos (IntKind.u64.wrap x) (show (0 : Int) < (m : Int) by omega)
    have h2 := Int.emod_nonneg (IntKind.u64.wrap x) (show (m : Int) ≠ 0 by omega)
    omega
  · have h2 := Int.emod_nonneg (IntKind.u64.wrap x) (show (m : Int) ≠ 0 by omega)
    rw [Int.tmod_eq_emod_of_nonneg h]
    omega

def tokI (n i : Nat) : Tok := if i < n then tokS ((n : Int) - (i : Int)) 0 else tokS 0 2
theorem tokI_lt {n i : Nat} (h : i < n) : tokI n i = tokS ((n : Int) - (i : Int)) 0 := by unfold tokI; rw [if_pos h]
theorem tokI_next {n i : Nat} (h : i < n) : tokS ((n : Int) - (i : Int) - 1) (if (n : Int) - (i : Int) - 1 = 0 then 2 else 0) = tokI n (i + 1) := by
  unfold tokI
  by_cases e : i + 1 < n
  · rw [if_pos e, if_neg (by omega), show (n : Int) - (i : Int) - 1 = (n : Int) - ((i + 1 : Nat) : Int) by omega]
  · rw [if_neg e, if_pos (by omega), show (n : Int) - (i : Int) - 1 = 0 by omega]
/-- A number's own block, and what may be read. -/
theorem lit1_any (w : World) (x : Int) : ∃ w3 p p3, w.heap.size = p ∧ w.alloc (.cells #[.int .i64 x] 3) = w3 ∧ w3.heap.size = p3 ∧ Hid (Below w.heap.size w w3) ∧ Hid (Ints w3 w3.heap.size (.slice (some ⟨p, 0, none⟩) 1 1) [x]) := by
  obtain ⟨w3, p3, hw3, hp3, ep3, hb3, hn3⟩ := alloc_named w (.cells #[.int .i64 x] 3) rfl
  exact ⟨w3, _, p3, rfl, hw3, hp3, Lib.hid hb3, Lib.hid (ints_lit1 hn3 (by omega))⟩
/-- The first token of the first instance. -/
theorem stO_at {w : World} {v : Value} {t : Tok} (h : InsR w w.heap.size v (stO t)) : ∃ b7 o7 c7 bt ot ct, v = .slice (some ⟨b7, o7, none⟩) 1 c7 ∧ w.cell? ⟨b7, o7 + 4, none⟩ = some (.slice (some ⟨bt, ot, none⟩) 1 ct) ∧
    w.cell? ⟨bt, ot, none⟩ = some (.int .i64 t.id) ∧ w.cell? ⟨bt, ot + 1, none⟩ = some (.string t.here) ∧ w.cell? ⟨bt, ot + 2, none⟩ = some (.string t.on) ∧ w.cell? ⟨bt, ot + 3, none⟩ = some (.int .i64 t.born) ∧ w.cell? ⟨bt, ot + 4, none⟩ = some (.int .i64 t.tries) ∧
    w.cell? ⟨bt, ot + 5, none⟩ = some (.string t.worker) ∧ w.cell? ⟨bt, ot + 6, none⟩ = some (.int .i64 t.til) ∧ w.cell? ⟨bt, ot + 7, none⟩ = some (.int .u8 t.inc) ∧ w.cell? ⟨bt, ot + 8, none⟩ = some (.int .i64 t.err) := by
  obtain ⟨a7, c7, rfl⟩ := h.val
  obtain ⟨b7, o7, rfl, _⟩ := h.addr (by show 0 < 1; omega)
  obtain ⟨av, cv, at_, ct, q0, q1, q2, q3, q4, -, qT⟩ := h.at (i := 0) (by show 0 < 1; omega) (x := ⟨1, ⟨#[]⟩, 1, [], [t]⟩) rfl
  obtain ⟨bt, ot, rfl, _⟩ := qT.addr (by show 0 < 1; omega)
  obtain ⟨t0, t1, t2, t3, t4, t5, t6, t7, t8⟩ := tsR_at qT (i := 0) (by show 0 < 1; omega) (x := t) rfl
  simp only [Nat.zero_mul, Nat.add_zero] at t0 t1 t2 t3 t4 t5 t6 t7 t8 q4
  exact ⟨b7, o7, c7, bt, ot, ct, rfl, q4, t0, t1, t2, t3, t4, t5, t6, t7, t8⟩

set_option maxHeartbeats 8000000 in
theorem jobTries_walk (W : World) (x0 : Int) (_g0 : (Lit.int .i64 x0).wf = true) (x1 : Int) (_g1 : (Lit.int .i64 x1).wf = true) : Calls Try.prog 7 #[.int .i64 x0, .int .i64 x1] W fun e w' => e = .returned (.bool true) ∧ Below W.heap.size W w' := by
  obtain ⟨t0, h0, r0⟩ := u64_rem x0 100 (by omega)
  obtain ⟨t1, h1, r1⟩ := u64_rem x1 100 (by omega)
  have r0 : (IntKind.u64.wrap x0).tmod 100 = (t0 : Int) := r0
  have r1 : (IntKind.u64.wrap x1).tmod 100 = (t1 : Int) := r1
  go_enter Try.func7, Try.ntmps7
  go_wp2_with (go_at_call 10; refine (awake_any _).mono ?_; rintro e w1 ⟨rfl, hb⟩; refine Hid.out ?_)
  refine Lib.hid ?_
  have HB1 := Lib.hid hb
  obtain ⟨p1, hp1⟩ : ∃ p1, w1.heap.size = p1 := ⟨_, rfl⟩
  obtain ⟨w2, p2, hw2, hp2, ep2, hb2, hn2⟩ := alloc_named w1 (.cells (cellsF cellT [tokS (1 + (t0 : Int)) 0]).toArray 41) hp1
  obtain ⟨w3, p3, hw3, hp3, ep3, hb3, hn3⟩ := alloc_named w2 (.cells (cellsF cellI [⟨⟨1, ⟨#[]⟩, 1, [], [tokS (1 + (t0 : Int)) 0]⟩, none, 0, some ⟨p1, 0, none⟩, 1⟩]).toArray 45) hp2
  have hB : Below w1.heap.size w1 w3 := by rw [hp1]; exact hb2.trans (hb3.mono (by omega))
  have hI : InsR w3 w3.heap.size (.slice (some ⟨p2, 0, none⟩) 1 1) (stO (tokS (1 + (t0 : Int)) 0)) := insR_lit (R := [⟨⟨1, ⟨#[]⟩, 1, [], [tokS (1 + (t0 : Int)) 0]⟩, none, 0, some ⟨p1, 0, none⟩, 1⟩]) hn3 rfl (by omega) (by omega) (fun h hh => by
    rw [List.mem_singleton.1 hh]
    exact ⟨SlF.nil, slF_lit cellT_len ((hb3.block p1 (by omega)).trans hn2) rfl (by omega) (show 1 ≤ 1466015503658 by omega)⟩)
  have HB3 := Lib.hid (HB1.out.trans (hB.mono HB1.out.size))
  have HI := Lib.hid hI
  have hw2' : w1.alloc (.cells #[.int .i64 2, .string ⟨#[119]⟩, .string ⟨#[]⟩, .int .i64 0, .int .i64 (1 + (t0 : Int)), .string ⟨#[]⟩, .int .i64 0, .int .u8 0, .int .i64 0] 41) = w2 := hw2
  have hw3' : w2.alloc (.cells #[.int .i64 1, .string ⟨#[]⟩, .int .u8 1, .slice none 0 0, .slice (some ⟨p1, 0, none⟩) 1 1] 45) = w3 := hw3
  clear hw2 hw3 hn2 hn3 hb2 hb3 hB hI ep2 ep3 hb
  go_wp2_with fail
  clear r0 r1 hw2' hw3'
  obtain ⟨n0, hn0⟩ : ∃ n0, t0 + 1 = n0 := ⟨_, rfl⟩
  have hmore : ∃ m : Nat, 1 ≤ m ∧ m ≤ 100 ∧ (1 + (t1 : Int)) = (m : Int) := ⟨t1 + 1, by omega, by omega, by omega⟩
  obtain ⟨m, hm1, hm2, em⟩ := hmore
  rw [em]
  clear em
  go_loopg [0, 5, 6] 2 (fun gh s0 s5 s6 wx => ∃ (r n : Nat), r + gh = 2 ∧ s6 = .int .i64 (r : Int) ∧ s0 = .int .i64 (n : Int) ∧ 1 ≤ n ∧ n ≤ 100 ∧ Hid (InsR wx wx.heap.size s5 (stO (tokS (n : Int) 0))) ∧ Hid (Below W.heap.size W wx))
  case atStart =>
    refine ⟨0, n0, by omega, rfl, by rw [← hn0]; go_num, by omega, by omega, Lib.hid ?_, HB3⟩
    have : (1 + (t0 : Int)) = (n0 : Int) := by omega
    rw [← this]
    exact HI.out
  case round =>
    obtain ⟨r, n, hr, rfl, rfl, hn1, hn2, HX, HBx⟩ := hrel
    obtain ⟨wo, rfl⟩ : ∃ wo : World, wo = wr := ⟨_, rfl⟩
    by_cases hr2 : r < 2
    · have dr : decide ((r : Int) < 2) = true := decide_eq_true (by omega)
      go_wp2_with fail
      go_loopg [5, 7] n (fun gh s5 s7 wx => ∃ i : Nat, i + gh = n ∧ s7 = .int .i64 (i : Int) ∧ Hid (InsR wx wx.heap.size s5 (stO (tokI n i))) ∧ Hid (Below W.heap.size W wx))
      case atStart => exact ⟨0, by omega, rfl, Lib.hid (by rw [tokI_lt (by omega)]; simpa using HX.out), HBx⟩
      case round =>
        obtain ⟨i, hig, rfl, HXi, HBi⟩ := hrel
        obtain ⟨wi, rfl⟩ : ∃ wi : World, wi = wr := ⟨_, rfl⟩
        by_cases hi : i < n
        · have hX := HXi.out
          rw [tokI_lt hi] at hX
          obtain ⟨k, hk⟩ : ∃ k : Int, (n : Int) - (i : Int) = k := ⟨_, rfl⟩
          have hk0 : 0 < k := by omega
          have hk1 : k ≤ 100 := by omega
          rw [hk] at hX
          have HK := Lib.hid hk
          have S1 := Lib.hid (fetch_any wi _ (stO (tokS k 0)) (i : Int) ⟨#[97]⟩ 9 1 hX (stO_small _) (stO_many _))
          rw [ts_fetE (by omega) (by omega), ts_fetL hk0 (by omega) (by omega), ts_fetT hk0 (by omega) (by omega)] at S1
          clear hX
          have di : decide ((i : Int) < (n : Int)) = true := decide_eq_true (by omega)
          go_wp2_with (go_at_call 12; refine S1.out.mono ?_; rintro e w2 ⟨v2, vt, R2, rfl, hO2, hR2, hT2, hb2⟩; refine Hid.out ?_)
          refine Lib.hid ?_
          have HI2 := Lib.hid (hO2.readL hR2 (stO_small _))
          have HB2 := Lib.hid (HBi.out.trans (hb2.mono HBi.out.size))
          obtain ⟨w3, p2, p3, hp2, hw3, hp3, HB3, HL3⟩ := lit1_any w2 2
          have S3 := Lib.hid (numbers_any w3 vt _ [2] [2] ((OwnI.kept hT2 HB3.out (Nat.le_refl _)).col (by simp) (Nat.le_refl _)) HL3.out)
          rw [show (([2] : List Int) == [2]) = true from rfl] at S3
          clear hO2 hR2 hT2 hb2
          go_wp2_with (go_at_call 30; refine S3.out.mono ?_; rintro e w4 ⟨rfl, nd, rfl⟩; refine Hid.out ?_)
          refine Lib.hid ?_
          obtain ⟨w4, hw4⟩ : ∃ w4, w3.drewN nd = w4 := ⟨_, rfl⟩
          have hb4 : Below w2.heap.size w2 w4 := by rw [← hw4]; exact below_drewN HB3.out nd
          have HB4 := Lib.hid (HB2.out.trans (hb4.mono HB2.out.size))
          rw [hw4]
          clear hw4 hw3 hp2 hp3
          have S4 := Lib.hid (fail_any w4 v2 (stO (tokG k (i : Int))) (i : Int) ⟨#[97]⟩ 2 (HI2.out.at_all hb4) (stO_small _) (stO_tri _ (by show k ≤ _; omega)))
          rw [ts_failE hk0, ts_failL hk0] at S4
          clear hb4
          go_wp2_with (go_at_call 15; refine S4.out.mono ?_; rintro e w5 ⟨v5, R5, rfl, hO5, hR5, hb5⟩; refine Hid.out ?_)
          refine Lib.hid ?_
          have hI5 := hO5.readL hR5 (stO_small _)
          have HB5 := Lib.hid (HB4.out.trans (hb5.mono HB4.out.size))
          have HI5 := Lib.hid hI5
          obtain ⟨b7, o7, c7, bt, ot, ct, rfl, q4, -, -, -, -, t4, -, -, t7, -⟩ := stO_at hI5
          dsimp only [tokS] at t4 t7
          have HE := Lib.hid (tokI_next hi)
          clear hO5 hR5 hb5 hI5
          have HI6 : Hid (InsR w5 w5.heap.size (.slice (some ⟨b7, o7, none⟩) 1 c7) (stO (tokI n (i + 1)))) := Lib.hid (by rw [← HE.out, HK.out]; exact HI5.out)
          by_cases hz : k - 1 = 0
          · rw [if_pos hz] at t7
            have d1 : ((i : Int) == (n : Int) - 1) = true := beq_iff_eq.2 (by omega)
            clear hz
            rw [← hk] at t4
            clear hk
            go_wp2_with fail
            go_roundg (n - (i + 1))
            case measure => omega
            case rel => exact ⟨i + 1, by omega, by go_num, HI6, HB5⟩
          · rw [if_neg hz] at t7
            have d1 : ((i : Int) == (n : Int) - 1) = false := beq_eq_false_iff_ne.2 (by omega)
            clear hz
            rw [← hk] at t4
            clear hk
            go_wp2_with fail
            go_roundg (n - (i + 1))
            case measure => omega
            case rel => exact ⟨i + 1, by omega, by go_num, HI6, HB5⟩
        · have hX := HXi.out
          unfold tokI at hX
          rw [if_neg hi] at hX
          have HX2 := Lib.hid hX
          have S1 := Lib.hid (fetch_any wi _ (stO (tokS 0 2)) 1000 ⟨#[97]⟩ 9 1 hX (stO_small _) (stO_many _))
          rw [ts_fetE (by omega) (by omega), ts_endT] at S1
          clear hX
          have di : decide ((i : Int) < (n : Int)) = false := decide_eq_false (by omega)
          go_wp2_with (go_at_call 12; refine S1.out.mono ?_; rintro e w2 ⟨v2, vt, R2, rfl, -, -, hT2, hb2⟩; refine Hid.out ?_)
          refine Lib.hid ?_
          obtain ⟨at2, ct2, rfl⟩ := hT2.shape
          have HB2 := Lib.hid (HBi.out.trans (hb2.mono HBi.out.size))
          have S2 := Lib.hid (fail_any w2 _ (stO (tokS 0 2)) 1000 ⟨#[97]⟩ 2 (HX2.out.at_all hb2) (stO_small _) (stO_tri _ (by show (0 : Int) ≤ _; omega)))
          rw [ts_endE] at S2
          have HXA := Lib.hid (HX2.out.at_all hb2)
          clear hT2 hb2
          go_wp2_with (go_at_call 15; refine S2.out.mono ?_; rintro e w3 ⟨v3, R3, rfl, -, -, hb3⟩; refine Hid.out ?_)
          refine Lib.hid ?_
          have HB3 := Lib.hid (HB2.out.trans (hb3.mono HB2.out.size))
          have S3 := Lib.hid (revive_any w3 _ (stO (tokS 0 2)) 2 (m : Int) (HXA.out.at_all hb3) (stO_small _) (stO_tri _ (by show (0 : Int) ≤ _; omega)))
          rw [ts_revE (by omega) (by omega), ts_revL (by omega) (by omega)] at S3
          clear hb3
          go_wp2_with (go_at_call 28; refine S3.out.mono ?_; rintro e w4 ⟨v4, R4, rfl, hO4, hR4, hb4⟩; refine Hid.out ?_)
          refine Lib.hid ?_
          have hI4 := hO4.readL hR4 (stO_small _)
          have HI4 := Lib.hid hI4
          have HB4 := Lib.hid (HB3.out.trans (hb4.mono HB3.out.size))
          obtain ⟨b7, o7, c7, bt, ot, ct, rfl, q4, t0, t1', t2, t3, t4, t5, t6, t7, t8⟩ := stO_at hI4
          dsimp only [tokS] at t0 t1' t2 t3 t4 t5 t6 t7 t8
          clear hO4 hR4 hb4 hI4
          go_wp2_with fail
          go_roundg (2 - (r + 1))
          case measure => omega
          case rel => exact ⟨r + 1, m, by omega, by go_num, rfl, by omega, by omega, HI4, HB4⟩
    · have dr : decide ((r : Int) < 2) = false := decide_eq_false (by omega)
      go_wp2_with fail
      go_ret
      exact ⟨ret_bool rfl, HBx.out⟩

end Go.Proofs.Ytggnheekkbideaa
