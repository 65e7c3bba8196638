/- The law 'WireCuts' (seat wire; under way). -/
import Derived.Test.YtlgfhbfdjckdnaaGreatDoorWireCutsP
import Derived.Test.YtlgfhbfdjckdnaaGreatDoorWireWorks
set_option maxRecDepth 100000
namespace Go.Proofs.YtlgfhbfdjckdnaaGreatDoor
open Go.RowKit

theorem cut_k (x : Int) (n : Nat) (hn : n ≤ 100000) : ∃ k : Nat, k ≤ n ∧ wrap64 ((IntKind.u64.wrap x).tmod ((n : Int) + 1)) = (k : Int) := by
  have h0 : 0 ≤ IntKind.u64.wrap x := by rw [IntKind.wrap_u64]; omega
  rw [Int.tmod_eq_emod_of_nonneg h0]
  have h1 := Int.emod_nonneg (IntKind.u64.wrap x) (show ((n : Int) + 1) ≠ 0 by omega)
  have h2 := Int.emod_lt_of_pos (IntKind.u64.wrap x) (show 0 < (n : Int) + 1 by omega)
  obtain ⟨m, hm⟩ : ∃ m, IntKind.u64.wrap x % ((n : Int) + 1) = m := ⟨_, rfl⟩
  rw [hm] at h1 h2 ⊢
  exact ⟨m.toNat, by omega, by unfold wrap64; omega⟩
/-- Rows of what was told stand while a reader takes bytes. -/
theorem ownF_other {w w' : World} {base b2 p2 : Nat} {v : Value} {A : List Gp} {l2 : List UInt8} {c2 : Bool} (h : OwnF fG 39 5 w base v A) (h2 : RdR w b2 p2 l2 c2) (hF : Frm [some p2] w w') : OwnF fG 39 5 w' base v A := by
  obtain ⟨v2, r1, _⟩ := h2
  obtain ⟨h1, h2⟩ := (show w.ownsRow base 39 5 v A.length (cellsF fG A) from h)
  refine (show w'.ownsRow base 39 5 v A.length (cellsF fG A) from ⟨h1, ?_⟩)
  rcases h2 with h0 | ⟨g, cap, cur, hv, hbg, hblk, r⟩
  · exact .inl h0
  · refine .inr ⟨g, cap, cur, hv, hbg, hF.block hblk (fun r hr e => ?_), r⟩
    simp only [List.mem_singleton] at hr
    subst hr
    have e2 : p2 = g := by injection e
    subst e2
    rw [r1] at hblk
    injection hblk with hblk
    injection hblk with _ ht _
    exact absurd ht (by decide)
set_option maxHeartbeats 4000000 in
theorem wireCuts_walk (W : World) (hg : Gnd W) (s : ByteArray) (hs : s.size ≤ 140737488355328) (x : Int) (_ : (Lit.int .i64 x).wf = true) :
    Calls Tryz.prog 4 #[.string s, .int .i64 x] W fun e w' => e = .returned (.bool true) ∧ Below W.heap.size W w' := by
  have HWk : Hid (∀ W', Below W.heap.size W W' → Calls Tryz.prog 14 #[] W' fun e w' => e = .returned (.bool true) ∧ Below W'.heap.size W' w') := Lib.hid (fun W' h => works_any W' (hg.up h))
  have cur : Below W.heap.size W W := Below.refl _ _
  have HG := Lib.hid hg.toB
  clear hg
  have hmx : s.size ≤ 9223372036854775807 := by omega
  by_cases hbig : 100000 < s.size
  · have e1 : decide ((100000 : Int) < (s.size : Int)) = true := decide_eq_true (by omega)
    go_enter Tryz.func4, Tryz.ntmps4
    go_wp2_with (go_at_call 14; refine (HWk.out _ cur).mono ?_; rintro e w2 ⟨rfl, hb2⟩; have cur := cur.trans (hb2.mono cur.size))
    go_ret
    exact ⟨rfl, cur⟩
  · have e1 : decide ((100000 : Int) < (s.size : Int)) = false := decide_eq_false (by omega)
    go_enter Tryz.func4, Tryz.ntmps4
    go_upto_region 3 with (go_at_call 14; refine (HWk.out _ cur).mono ?_; rintro e w2 ⟨rfl, hb2⟩; have cur := cur.trans (hb2.mono cur.size))
    obtain ⟨k0, hk0, hkx⟩ := cut_k x s.size (by omega)
    go_cut [5] (fun s5 wx => ∃ k : Nat, k ≤ s.size ∧ s5 = .int .i64 (k : Int) ∧ wx = w2)
    case first =>
      go_wp2_with fail
      go_meet
      case rel => exact ⟨k0, hk0, by rw [hkx], rfl⟩
    case rest =>
      obtain ⟨k, hk, rfl, hw⟩ := hcut
      subst wc
      have hkI : (k : Int) ≤ (s.size : Int) := by omega
      have hk0I : (0 : Int) ≤ (k : Int) := by omega
      clear hkx hk0 e1
      go_upto_region 6 with (first
        | (go_at_call 8; refine (new_any _).mono ?_; rintro e w3 ⟨p1, rfl, hR1, hp1, hb3⟩; have cur3 := cur.trans (hb3.mono cur.size); have hcv := Lib.run_convert_string_bytes (P := Tryz.prog) w3 9 27 5 s Tryz.underlying9 Tryz.underlying27 Tryz.underlying5; have hl1 : p1 < w3.heap.size := (by obtain ⟨_, q, _⟩ := hR1; exact lt_of_block q); have HF := Lib.hid (fun cap => feed_two W.heap.size w3 (HG.out.up cur3) p1 (p1 + 1) (by have := cur.size; omega) (by omega) hl1 [] false hR1 (by simp) s (by omega) cap); have HP1 := Lib.hid hp1; have cur3s := cur3.size; have HC3 := Lib.hid cur3; clear hR1 hp1 hb3 cur3)
        | (go_at_call 9; refine (HF.out _).mono ?_; rintro e w4 ⟨v1, rfl, hO1, hR4, hF4⟩; obtain ⟨A1, hA1⟩ : ∃ A, (toldT [] false s.data.toList).1 = A := ⟨_, rfl⟩; obtain ⟨L1, hL1⟩ : ∃ A, (toldT [] false s.data.toList).2.1 = A := ⟨_, rfl⟩; obtain ⟨B1, hB1⟩ : ∃ A, (toldT [] false s.data.toList).2.2 = A := ⟨_, rfl⟩; rw [hA1] at hO1; rw [hL1, hB1] at hR4; have HA1 := Lib.hid (And.intro hA1 (And.intro hL1 hB1)); clear hA1 hL1 hB1; obtain ⟨a1, c1, rfl⟩ := hO1.shape))
      have cur4 : Below W.heap.size W w4 := HC3.out.trans (hF4.toBelow cur3s (by intro r hr j hj; simp only [List.mem_singleton] at hr; subst hr; injection hj with hj; have := HP1.out; have := cur.size; omega))
      have HF4 := Lib.hid hF4
      have HR4 := Lib.hid hR4
      have HO1 := Lib.hid hO1
      have hp1l : p1 < w4.heap.size := by obtain ⟨_, q, _⟩ := hR4; exact lt_of_block q
      obtain ⟨sE, hE⟩ : ∃ x, s.extract 0 k = x := ⟨_, rfl⟩
      obtain ⟨sT, hT⟩ : ∃ x, s.extract k s.size = x := ⟨_, rfl⟩
      have hszE : sE.size ≤ 300000 := by rw [← hE, ByteArray.size_extract]; omega
      have hszT : sT.size ≤ 300000 := by rw [← hT, ByteArray.size_extract]; omega
      clear hF4 hR4 hO1 hcv HF
      go_upto_region 8 with (first
        | (go_at_call 8; refine (new_any _).mono ?_; rintro e w5 ⟨p2, rfl, hR5, hp2, hb5⟩; have cur5 := cur4.trans (hb5.mono cur4.size); have hcv := Lib.run_convert_string_bytes (P := Tryz.prog) w5 9 27 5 sE Tryz.underlying9 Tryz.underlying27 Tryz.underlying5; have hl2 : p2 < w5.heap.size := (by obtain ⟨_, q, _⟩ := hR5; exact lt_of_block q); have HF := Lib.hid (fun cap => feed_two W.heap.size w5 (HG.out.up cur5) p2 (p2 + 1) (by have := cur4.size; omega) (by omega) hl2 [] false hR5 (by simp) sE hszE cap); have HP2 := Lib.hid hp2; have HC5 := Lib.hid cur5; have HR5 := Lib.hid hR5; have HQ5 := Lib.hid (rdR_below HR4.out hb5); have HO5 := Lib.hid (HO1.out.kept hb5); clear hR5 hp2 hb5 cur5)
        | (go_at_call 9; refine (HF.out _).mono ?_; rintro e w6 ⟨v2, rfl, hO2, hR6, hF6⟩; obtain ⟨A2, hA2⟩ : ∃ A, (toldT [] false sE.data.toList).1 = A := ⟨_, rfl⟩; obtain ⟨L2, hL2⟩ : ∃ A, (toldT [] false sE.data.toList).2.1 = A := ⟨_, rfl⟩; obtain ⟨B2, hB2⟩ : ∃ A, (toldT [] false sE.data.toList).2.2 = A := ⟨_, rfl⟩; rw [hA2] at hO2; rw [hL2, hB2] at hR6; have HA2 := Lib.hid (And.intro hA2 (And.intro hL2 hB2)); clear hA2 hL2 hB2; obtain ⟨a2, c2, rfl⟩ := hO2.shape))
      have hpne : p1 ≠ p2 := by have := HP2.out; omega
      have cur6 : Below W.heap.size W w6 := HC5.out.trans (hF6.toBelow HC5.out.size (by intro r hr j hj; simp only [List.mem_singleton] at hr; subst hr; injection hj with hj; have := HP2.out; have := cur4.size; omega))
      have HQ6 := Lib.hid (rdR_other HQ5.out HR5.out hF6 hpne)
      have HO6 := Lib.hid (ownF_other HO5.out HR5.out hF6)
      have hl6 : p2 < w6.heap.size := by obtain ⟨_, q, _⟩ := hR6; exact lt_of_block q
      have HR6 := Lib.hid hR6
      have HO2 := Lib.hid hO2
      have hlz : L2.length ≤ 300000 := by
        have h := (feedS_len sE.data.toList).1
        have e : (feedS sE.data.toList).2.1 = L2 := HA2.out.2.1
        rw [e, len_list] at h
        omega
      have hcv := Lib.run_convert_string_bytes (P := Tryz.prog) w6 9 27 5 sT Tryz.underlying9 Tryz.underlying27 Tryz.underlying5
      have HF3 := Lib.hid (fun cap => feed_two W.heap.size w6 (HG.out.up cur6) p2 (p2 + 1) (by have := HP2.out; have := cur4.size; omega) (by omega) hl6 _ _ hR6 hlz sT hszT cap)
      clear hF6 hR6 hO2 HF
      go_upto_region 9 with (go_at_call 9; refine (HF3.out _).mono ?_; rintro e w7 ⟨v3, rfl, hO3, hR7, hF7⟩; obtain ⟨A3, hA3⟩ : ∃ A, (toldT L2 B2 sT.data.toList).1 = A := ⟨_, rfl⟩; obtain ⟨L3, hL3⟩ : ∃ A, (toldT L2 B2 sT.data.toList).2.1 = A := ⟨_, rfl⟩; obtain ⟨B3, hB3⟩ : ∃ A, (toldT L2 B2 sT.data.toList).2.2 = A := ⟨_, rfl⟩; rw [hA3] at hO3; rw [hL3, hB3] at hR7; have HA3 := Lib.hid (And.intro hA3 (And.intro hL3 hB3)); clear hA3 hL3 hB3; obtain ⟨a3, c3, rfl⟩ := hO3.shape)
      have hpl : A2 ++ A3 = A1 ∧ B3 = B1 ∧ L3.length = L1.length := by
        have h := cuts_plain s.data.toList k
        have e1 : s.data.toList.take k = sE.data.toList := by rw [← hE, Lib.extract_from_zero]
        have e2 : s.data.toList.drop k = sT.data.toList := by
          rw [← hT, ByteArray.data_extract, Array.toList_extract, List.extract_eq_take_drop, List.take_of_length_le]
          rw [List.length_drop, len_list]
          exact Nat.le_refl _
        have f1 : (feedS sE.data.toList).2.1 = L2 := HA2.out.2.1
        have f2 : (feedS sE.data.toList).2.2 = B2 := HA2.out.2.2
        have f3 : (feedS sE.data.toList).1 = A2 := HA2.out.1
        have f4 : (feedS s.data.toList).1 = A1 := HA1.out.1
        have f5 : (feedS s.data.toList).2.1 = L1 := HA1.out.2.1
        have f6 : (feedS s.data.toList).2.2 = B1 := HA1.out.2.2
        rw [e1, e2, f1, f2, f3, f4, f5, f6, HA3.out.1, HA3.out.2.1, HA3.out.2.2] at h
        exact h
      obtain ⟨hAA, rfl, hll⟩ := hpl
      have cur7 : Below W.heap.size W w7 := cur6.trans (hF7.toBelow cur6.size (by intro r hr j hj; simp only [List.mem_singleton] at hr; subst hr; injection hj with hj; have := HP2.out; have := cur4.size; omega))
      have RA : RdR w7 (p1 + 1) p1 L1 B3 := rdR_other HQ6.out HR6.out hF7 hpne
      have HO71 := Lib.hid (ownF_other HO6.out HR6.out hF7)
      have HO72 := Lib.hid (ownF_other HO2.out HR6.out hF7)
      have HO73 := Lib.hid hO3
      have RB : RdR w7 (p2 + 1) p2 L3 B3 := hR7
      have t1 : (((A2.length : Int) + (A3.length : Int)) != (A1.length : Int)) = false := by rw [← hAA, List.length_append]; simp
      have t1' : (((A2.length : Int) + (A3.length : Int)) == (A1.length : Int)) = true := by rw [← hAA, List.length_append]; simp
      have t2 : (B3 != B3) = false := by simp
      have t3 : ((L3.length : Int) != (L1.length : Int)) = false := by rw [hll]; simp
      have t3' : ((L3.length : Int) == (L1.length : Int)) = true := by rw [hll]; simp
      have t4 : (L3.length == L1.length) = true := by rw [hll]; simp
      have t4' : (L3.length != L1.length) = false := by rw [hll]; simp
      have t5 : (A2.length + A3.length == A1.length) = true := by rw [← hAA, List.length_append]; simp
      have t5' : (A2.length + A3.length != A1.length) = false := by rw [← hAA, List.length_append]; simp
      have t6 : (B3 == B3) = true := by simp
      have hA1z : A1.length ≤ 200001 := by
        have h := (feedS_len s.data.toList).2
        rw [show (feedS s.data.toList).1 = A1 from HA1.out.1, len_list] at h
        omega
      have t7 : wrap64 ((A2.length : Int) + (A3.length : Int)) = (A1.length : Int) := by
        have : A2.length + A3.length = A1.length := by rw [← hAA, List.length_append]
        unfold wrap64; omega
      have HAA := Lib.hid hAA
      have CUR := Lib.hid cur7
      clear hAA hll hF7 hR7 hO3 hcv cur cur4 cur6 cur7
      go_wp2_with (first
        | (go_at_call 13; refine (closed_any _ _ _ _ _ (by assumption)).mono ?_; rintro e w8 ⟨rfl, rfl⟩)
        | (go_at_call 12; refine (rest_any _ _ _ _ _ (by assumption)).mono ?_; rintro e w8 ⟨rfl, rfl⟩))
      go_loopg [11] (A1.length) (fun gh s11 wr => ∃ i : Nat, i + gh = A1.length ∧ s11 = .int .i64 (i : Int) ∧ Below w7.heap.size w7 wr)
      case atStart => exact ⟨0, by omega, rfl, Below.refl _ _⟩
      case round =>
        obtain ⟨i, hig, rfl, hwr⟩ := hrel
        have HO71 := Lib.hid (HO71.out.kept hwr)
        have HO72 := Lib.hid (HO72.out.kept hwr)
        have HO73 := Lib.hid (HO73.out.kept hwr)
        have CUR := Lib.hid (CUR.out.trans (hwr.mono CUR.out.size))
        have HWR := Lib.hid hwr
        clear hwr
        clear t1 t1' t2 t3 t3' t4 t4' t5 t5' t6 t7 hkI hk0I hszE hszT hE hT RA RB HWk HG HC3 HP1 HF4 HR4 HO1 HP2 HC5 HR5 HQ5 HO5 HQ6 HO6 HR6 HO2 HF3 HA1 HA2 HA3 hlz hmx hs
        by_cases hi : i < A1.length
        · have u1 : decide ((i : Int) < (A1.length : Int)) = true := decide_eq_true (by omega)
          have u1' : decide (i < A1.length) = true := decide_eq_true hi
          obtain ⟨g1, rfl, -, -, -⟩ := HO71.out.some (by omega)
          obtain ⟨gg, hgi⟩ : ∃ g, A1[i] = g := ⟨_, rfl⟩
          obtain ⟨gm, gp, gk, gb, gs⟩ := gg
          have at1 := fun j (hj : j < 5) => OwnF.at fG_len HO71.out (i := i) (j := j) hi hj
          rw [hgi] at at1
          have c0 : wr.cell? ⟨g1, i * 5, none⟩ = some (.string gm) := at1 0 (by omega)
          have c1 : wr.cell? ⟨g1, i * 5 + 1, none⟩ = some (.string gp) := at1 1 (by omega)
          have c2 : wr.cell? ⟨g1, i * 5 + 2, none⟩ = some (.string gk) := at1 2 (by omega)
          have c3 : wr.cell? ⟨g1, i * 5 + 3, none⟩ = some (.string gb) := at1 3 (by omega)
          have c4 : wr.cell? ⟨g1, i * 5 + 4, none⟩ = some (.int .i64 gs) := at1 4 (by omega)
          obtain ⟨r1, r2⟩ := cuts_at HAA.out hi
          rw [List.getElem?_eq_getElem hi, hgi] at r1 r2
          have s0 : (gm.toList == gm.toList) = true := beq_self_eq_true _
          have s1 : (gp.toList == gp.toList) = true := beq_self_eq_true _
          have s2 : (gk.toList == gk.toList) = true := beq_self_eq_true _
          have s3 : (gb.toList == gb.toList) = true := beq_self_eq_true _
          have s4 : (gs == gs) = true := beq_self_eq_true _
          by_cases hi2 : i < A2.length
          · have u2 : decide ((i : Int) < (A2.length : Int)) = true := decide_eq_true (by omega)
            have u2' : decide (i < A2.length) = true := decide_eq_true hi2
            have u3 : decide ((A2.length : Int) ≤ (i : Int)) = false := decide_eq_false (by omega)
            have u3' : decide (A2.length ≤ i) = false := decide_eq_false (by omega)
            obtain ⟨g2, rfl, -, -, -⟩ := HO72.out.some (by omega)
            have at2 := fun j (hj : j < 5) => OwnF.at fG_len HO72.out (i := i) (j := j) hi2 hj
            have hg2 : A2[i] = ⟨gm, gp, gk, gb, gs⟩ := by
              have := r1 hi2
              rw [List.getElem?_eq_getElem hi2] at this
              exact Option.some.inj this
            rw [hg2] at at2
            have d0 : wr.cell? ⟨g2, i * 5, none⟩ = some (.string gm) := at2 0 (by omega)
            have d1 : wr.cell? ⟨g2, i * 5 + 1, none⟩ = some (.string gp) := at2 1 (by omega)
            have d2 : wr.cell? ⟨g2, i * 5 + 2, none⟩ = some (.string gk) := at2 2 (by omega)
            have d3 : wr.cell? ⟨g2, i * 5 + 3, none⟩ = some (.string gb) := at2 3 (by omega)
            have d4 : wr.cell? ⟨g2, i * 5 + 4, none⟩ = some (.int .i64 gs) := at2 4 (by omega)
            clear at1 at2 r1 r2 hgi hg2
            go_upto_region 14 with fail
            go_quiet (fail)
            go_wp2_with fail
            go_roundg (A1.length - (i + 1))
            case measure => omega
            case rel => exact ⟨i + 1, by omega, by go_num, below_drewN HWR.out _⟩
          · have u2 : decide ((i : Int) < (A2.length : Int)) = false := decide_eq_false (by omega)
            have u2' : decide (i < A2.length) = false := decide_eq_false hi2
            have u3 : decide ((A2.length : Int) ≤ (i : Int)) = true := decide_eq_true (by omega)
            have u3' : decide (A2.length ≤ i) = true := decide_eq_true (by omega)
            have hA23 : A2.length + A3.length = A1.length := by rw [← HAA.out, List.length_append]
            obtain ⟨m, hm⟩ : ∃ m, i - A2.length = m := ⟨_, rfl⟩
            have hm3 : m < A3.length := by omega
            have u4 : wrap64 ((i : Int) - (A2.length : Int)) = (m : Int) := by unfold wrap64; omega
            have u5 : IntKind.i64.wrap ((i : Int) - (A2.length : Int)) = (m : Int) := by rw [IntKind.wrap_i64]; omega
            have u6 : (0 : Int) ≤ (m : Int) := by omega
            have u7 : (m : Int) < (A3.length : Int) := by omega
            obtain ⟨g3, rfl, -, -, -⟩ := HO73.out.some (by omega)
            have at3 := fun j (hj : j < 5) => OwnF.at fG_len HO73.out (i := m) (j := j) hm3 hj
            have hg3 : A3[m] = ⟨gm, gp, gk, gb, gs⟩ := by
              have := r2 (by omega)
              rw [hm, List.getElem?_eq_getElem hm3] at this
              exact Option.some.inj this
            rw [hg3] at at3
            have d0 : wr.cell? ⟨g3, m * 5, none⟩ = some (.string gm) := at3 0 (by omega)
            have d1 : wr.cell? ⟨g3, m * 5 + 1, none⟩ = some (.string gp) := at3 1 (by omega)
            have d2 : wr.cell? ⟨g3, m * 5 + 2, none⟩ = some (.string gk) := at3 2 (by omega)
            have d3 : wr.cell? ⟨g3, m * 5 + 3, none⟩ = some (.string gb) := at3 3 (by omega)
            have d4 : wr.cell? ⟨g3, m * 5 + 4, none⟩ = some (.int .i64 gs) := at3 4 (by omega)
            have HM := Lib.hid hm
            have HA23 := Lib.hid hA23
            clear at1 at3 r1 r2 hgi hg3 hm hA23
            go_upto_region 14 with fail
            go_quiet (fail)
            go_wp2_with fail
            go_roundg (A1.length - (i + 1))
            case measure => omega
            case rel => exact ⟨i + 1, by omega, by go_num, below_drewN HWR.out _⟩
        · have u1 : decide ((i : Int) < (A1.length : Int)) = false := decide_eq_false (by omega)
          have u1' : decide (i < A1.length) = false := decide_eq_false hi
          go_wp2_with fail
          go_ret
          exact ⟨rfl, CUR.out⟩
end Go.Proofs.YtlgfhbfdjckdnaaGreatDoor
