/- The document's first line, the walk (seat wirez). -/
import Derived.Test.YtlgfhbfdjckdnaaGreatDoorWireRLen
import Derived.Test.YtlgfhbfdjckdnaaGreatDoorWireRFirstP
set_option maxRecDepth 100000
namespace Go.Proofs.YtlgfhbfdjckdnaaGreatDoor
open Go.RowKit

theorem rh_first {W : World} {ph : Nat} {m0 p0 k0 b0 : ByteArray} {sz : Int} {L K H M : Bool} (h : RhB W ph m0 p0 k0 b0 sz L K H M) (x y : ByteArray) : RhB ((W.setCell ⟨ph, 0, none⟩ (.string x)).setCell ⟨ph, 1, none⟩ (.string y)) ph x y k0 b0 sz L K H M := set_selfH _ (set_selfH _ h)
theorem head5 {v : ByteArray} (_ : v.size = 8) : Lib.hasPrefix v.data.toList httpS = ((v.extract 0 5).toList == [72, 84, 84, 80, 47]) := by
  rw [ByteArray.toList_eq, dat_take]
  unfold Lib.hasPrefix
  rw [Bool.eq_iff_iff, List.isPrefixOf_iff_prefix, beq_iff_eq, List.prefix_iff_eq_take]
  exact ⟨fun h => h.symm, fun h => h.symm⟩

set_option maxHeartbeats 4000000 in
theorem rfirst_any (w : World) (s : ByteArray) (hs : s.size ≤ 300000) (ph : Nat) (m0 p0 k0 b0 : ByteArray) (sz : Int) (L K H M : Bool) (hb : RhB w ph m0 p0 k0 b0 sz L K H M) :
    Calls Tryz.prog 36 #[.pointer (some ⟨ph, 0, none⟩), .string s] w fun e w' => e = .returned (.int .i64 (firstS s.data.toList).1) ∧ Frm [some ph] w w' ∧
      ((firstS s.data.toList).1 = 0 → RhB w' ph (bytesL (firstS s.data.toList).2.1) (bytesL (firstS s.data.toList).2.2) k0 b0 sz L K H M) := by
  have HC : Hid (∀ (W : World) (z : ByteArray), z.size ≤ 300000 → Calls Tryz.prog 55 #[.string z, .int .u8 32] W fun e w' => ∃ x y b, e = .returned (.tuple #[.string x, .string y, .bool b]) ∧ Lib.cut z.data.toList [32] = (x.data.toList, y.data.toList, b) ∧ x.size ≤ z.size ∧ y.size ≤ z.size ∧ Below W.heap.size W w') := Lib.hid (fun W z hz => rcut_any W z hz 32)
  have hpl := lt_of_block hb
  have HB := Lib.hid hb
  clear hb
  go_enter Tryz.func36, Tryz.ntmps36
  go_upto_region 2 with (go_at_call 55; refine (HC.out _ _ hs).mono ?_; rintro e w2 ⟨m, rest, ok, rfl, hc1, hz1, hz2, hb2⟩; have HC1 := Lib.hid hc1; have HB2 := Lib.hid hb2; have hs2 := hb2.size; have hrz : rest.size ≤ 300000 := (by omega); clear hc1 hb2)
  go_upto_region 3 with (go_at_call 55; refine (HC.out _ _ hrz).mono ?_; rintro e w3 ⟨p, v, is, rfl, hc2, hz3, hz4, hb3⟩; have HC2 := Lib.hid hc2; have HB3 := Lib.hid (HB2.out.trans (hb3.mono hs2)); clear hc2 hb3)
  have hmz : m.size ≤ 300000 := by omega
  have hpz : p.size ≤ 300000 := by omega
  have hvz : v.size ≤ 300000 := by omega
  have HM := Lib.hid (fun W => rmethod_any W m (by omega))
  have HPa := Lib.hid (fun W => rpath_any W p (by omega))
  have hf := firstS_cut HC1.out HC2.out
  obtain ⟨b1, h1⟩ : ∃ b1, methodB m = b1 := ⟨_, rfl⟩
  obtain ⟨b2, h2⟩ : ∃ b2, pathB p = b2 := ⟨_, rfl⟩
  rw [← methodB_list, ← pathB_list, h1, h2] at hf
  rw [h1] at HM
  rw [h2] at HPa
  clear h1 h2 HC hz1 hz2 hz3 hz4
  have hor : (ok = false ∨ (ok = true ∧ is = false) ∨ (ok = true ∧ is = true ∧ b1 = false) ∨ (ok = true ∧ is = true ∧ b1 = true ∧ b2 = false)) ∨ (ok = true ∧ is = true ∧ b1 = true ∧ b2 = true) := by
    cases ok <;> cases is <;> cases b1 <;> cases b2 <;> simp
  rcases hor with hor | ⟨rfl, rfl, rfl, rfl⟩
  · have hf2 : firstS s.data.toList = (400, [], []) := by
      rw [hf]
      rcases hor with rfl | ⟨rfl, rfl⟩ | ⟨rfl, rfl, rfl⟩ | ⟨rfl, rfl, rfl, rfl⟩ <;> rfl
    have HF := Lib.hid hf2
    clear hf hf2
    rcases hor with rfl | ⟨rfl, rfl⟩ | ⟨rfl, rfl, rfl⟩ | ⟨rfl, rfl, rfl, rfl⟩
    all_goals
      go_wp2_with (first
        | (go_at_call 56; refine (HM.out _).mono ?_; rintro e w5 ⟨rfl, rfl⟩)
        | (go_at_call 57; refine (HPa.out _).mono ?_; rintro e w5 ⟨rfl, rfl⟩))
      go_ret
      rw [HF.out]
      exact ⟨rfl, .ofBelow HB3.out, fun h => by cases h⟩
  · have hf2 : firstS s.data.toList = if v.data.toList = http11 then (0, m.data.toList, p.data.toList) else if otherL v.data.toList then (505, [], []) else (400, [], []) := hf
    have hb3 : RhB w3 ph m0 p0 k0 b0 sz L K H M := (HB3.out.block _ hpl).trans HB.out
    have d0 : w3.cell? ⟨ph, 0, none⟩ = some (.string m0) := cell_of_block hb3 0
    have d1 : w3.cell? ⟨ph, 1, none⟩ = some (.string p0) := cell_of_block hb3 1
    have f0 := free_of_block hb3
    have HK := Lib.hid (rh_first hb3 m p)
    have HFr := Lib.hid (((Frm.ofBelow HB3.out).set (S := [some ph]) (b := ph) (i := 0) (.string m) (by simp)).set (b := ph) (i := 1) (.string p) (by simp))
    have hh11 : (v.toList == [72, 84, 84, 80, 47, 49, 46, 49]) = decide (v.data.toList = http11) := by
      rw [ByteArray.toList_eq]
      exact Bool.eq_iff_iff.2 ⟨fun h => decide_eq_true (beq_iff_eq.1 h), fun h => beq_iff_eq.2 (of_decide_eq_true h)⟩
    have HF := Lib.hid hf2
    clear hb3 hf hf2
    go_upto_region 7 with (first
      | (go_at_call 56; refine (HM.out _).mono ?_; rintro e w5 ⟨rfl, rfl⟩)
      | (go_at_call 57; refine (HPa.out _).mono ?_; rintro e w5 ⟨rfl, rfl⟩))
    obtain ⟨w5, hw5⟩ : ∃ w5, (w3.setCell ⟨ph, 0, none⟩ (.string m)).setCell ⟨ph, 1, none⟩ (.string p) = w5 := ⟨_, rfl⟩
    rw [hw5] at HK HFr ⊢
    clear hw5 d0 d1 f0
    by_cases h11 : v.data.toList = http11
    · rw [decide_eq_true h11] at hh11
      have hf3 := HF.out
      rw [if_pos h11] at hf3
      have HF3 := Lib.hid hf3
      clear h11 hf3
      go_wp2_with fail
      go_ret
      rw [HF3.out]
      refine ⟨rfl, HFr.out, fun _ => ?_⟩
      show RhB w5 ph (bytesL m.data.toList) (bytesL p.data.toList) k0 b0 sz L K H M
      rw [bytesL_data, bytesL_data]
      exact HK.out
    · rw [decide_eq_false h11] at hh11
      have hf3 := HF.out
      rw [if_neg h11] at hf3
      clear h11
      by_cases h8 : v.size = 8
      · have e8 : ((v.size : Int) == 8) = true := beq_iff_eq.2 (by omega)
        have e8' : (v.size == 8) = true := beq_iff_eq.2 h8
        have hel : ∀ k (hk : k < v.size), v.data.toList.getD k 0 = v[k] := fun k hk => by
          rw [List.getD_eq_getElem?_getD, List.getElem?_eq_getElem (by rw [dat_len]; exact hk), dat_at v hk]; rfl
        have x5 : v[5].toNat < 256 := v[5].toNat_lt
        have x6 : v[6].toNat < 256 := v[6].toNat_lt
        have x7 : v[7].toNat < 256 := v[7].toNat_lt
        have ho : otherL v.data.toList = (((v.extract 0 5).toList == [72, 84, 84, 80, 47]) && decide (48 ≤ v[5].toNat) && decide (v[5].toNat ≤ 57) && decide (v[6].toNat = 46) && decide (48 ≤ v[7].toNat) && decide (v[7].toNat ≤ 57)) := by
          unfold otherL
          rw [hel 5 (by omega), hel 6 (by omega), hel 7 (by omega), decide_eq_true (show v.data.toList.length = 8 by rw [dat_len]; exact h8), Bool.true_and, head5 h8]
          unfold digC
          cases ((v.extract 0 5).toList == [72, 84, 84, 80, 47]) <;> cases decide (48 ≤ v[5].toNat) <;> cases decide (v[5].toNat ≤ 57) <;> cases decide (v[6].toNat = 46) <;> cases decide (48 ≤ v[7].toNat) <;> cases decide (v[7].toNat ≤ 57) <;> rfl
        rw [ho] at hf3
        have HF3 := Lib.hid hf3
        have i5a : decide ((48 : Int) ≤ (v[5].toNat : Int)) = decide (48 ≤ v[5].toNat) := decide_eq_decide.2 (by omega)
        have i5b : decide ((v[5].toNat : Int) ≤ 57) = decide (v[5].toNat ≤ 57) := decide_eq_decide.2 (by omega)
        have i7a : decide ((48 : Int) ≤ (v[7].toNat : Int)) = decide (48 ≤ v[7].toNat) := decide_eq_decide.2 (by omega)
        have i7b : decide ((v[7].toNat : Int) ≤ 57) = decide (v[7].toNat ≤ 57) := decide_eq_decide.2 (by omega)
        have i6 : ((v[6].toNat : Int) == 46) = decide (v[6].toNat = 46) := Bool.eq_iff_iff.2 ⟨fun h => decide_eq_true (by have := beq_iff_eq.1 h; omega), fun h => beq_iff_eq.2 (by have := of_decide_eq_true h; omega)⟩
        have i6' : (v[6].toNat == 46) = decide (v[6].toNat = 46) := rfl
        obtain ⟨pf, hpf⟩ : ∃ b, ((v.extract 0 5).toList == [72, 84, 84, 80, 47]) = b := ⟨_, rfl⟩
        obtain ⟨a5, h5a⟩ : ∃ b, decide (48 ≤ v[5].toNat) = b := ⟨_, rfl⟩
        obtain ⟨b5, h5b⟩ : ∃ b, decide (v[5].toNat ≤ 57) = b := ⟨_, rfl⟩
        obtain ⟨t6, h6⟩ : ∃ b, decide (v[6].toNat = 46) = b := ⟨_, rfl⟩
        obtain ⟨a7, h7a⟩ : ∃ b, decide (48 ≤ v[7].toNat) = b := ⟨_, rfl⟩
        obtain ⟨b7, h7b⟩ : ∃ b, decide (v[7].toNat ≤ 57) = b := ⟨_, rfl⟩
        rw [hpf, h5a, h5b, h6, h7a, h7b] at HF3
        rw [h5a] at i5a
        rw [h5b] at i5b
        rw [h6] at i6 i6'
        rw [h7a] at i7a
        rw [h7b] at i7b
        have hor : pf = false ∨ (pf = true ∧ a5 = false) ∨ (pf = true ∧ a5 = true ∧ b5 = false) ∨ (pf = true ∧ a5 = true ∧ b5 = true ∧ t6 = false) ∨ (pf = true ∧ a5 = true ∧ b5 = true ∧ t6 = true ∧ a7 = false) ∨ (pf = true ∧ a5 = true ∧ b5 = true ∧ t6 = true ∧ a7 = true ∧ b7 = false) ∨ (pf = true ∧ a5 = true ∧ b5 = true ∧ t6 = true ∧ a7 = true ∧ b7 = true) := by
          cases pf <;> cases a5 <;> cases b5 <;> cases t6 <;> cases a7 <;> cases b7 <;> simp
        clear ho hel hf3 HF h6
        have h6 : True := trivial
        rcases hor with rfl | ⟨rfl, rfl⟩ | ⟨rfl, rfl, rfl⟩ | ⟨rfl, rfl, rfl, rfl⟩ | ⟨rfl, rfl, rfl, rfl, rfl⟩ | ⟨rfl, rfl, rfl, rfl, rfl, rfl⟩ | ⟨rfl, rfl, rfl, rfl, rfl, rfl⟩
        all_goals
          have hf4 := HF3.out
          simp only [Bool.false_and, Bool.and_false, Bool.and_self, if_true, if_false, Bool.false_eq_true] at hf4
          have HF4 := Lib.hid hf4
          clear hf4
          go_wp2_with fail
          go_ret
          rw [HF4.out]
          exact ⟨rfl, HFr.out, fun h => by cases h⟩
      · have e8 : ((v.size : Int) == 8) = false := beq_eq_false_iff_ne.2 (by omega)
        have e8' : (v.size == 8) = false := beq_eq_false_iff_ne.2 h8
        have ho : otherL v.data.toList = false := by
          unfold otherL
          rw [decide_eq_false (by rw [dat_len]; exact h8)]
          rfl
        rw [ho] at hf3
        have HF3 := Lib.hid hf3
        clear ho hf3 HF
        go_wp2_with fail
        go_ret
        rw [HF3.out]
        exact ⟨rfl, HFr.out, fun h => by cases h⟩
end Go.Proofs.YtlgfhbfdjckdnaaGreatDoor
