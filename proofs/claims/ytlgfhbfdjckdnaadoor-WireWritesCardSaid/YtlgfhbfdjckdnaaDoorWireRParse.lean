/- The document's Parse (seat wire). -/
import Derived.Test.YtlgfhbfdjckdnaaDoorWireGnd
set_option maxRecDepth 100000
namespace Go.Proofs.YtlgfhbfdjckdnaaDoor
open Go.RowKit

theorem parseV_none {s : List UInt8} (h : parseW s = none) : parseV s = .tuple #[.int .i64 0, .bool false] := by unfold parseV; rw [h]; rfl
theorem parseV_end (n : Int) (hb : I64n n) (s : List UInt8) (hm : (n - sval s) % 18446744073709551616 = 0) : parseV s = .tuple #[.int .i64 (if decide (Lib.itoa n = s) then n else 0), .bool (decide (Lib.itoa n = s))] := by
  by_cases h : Lib.itoa n = s
  · rw [decide_eq_true h]; unfold parseV; rw [rparse_yes hb h]; rfl
  · rw [decide_eq_false h]; unfold parseV; rw [rparse_no hb hm h]; rfl
theorem minus_mod {n a d : Int} (h : (n - a) % 18446744073709551616 = 0) : (wrap64 (wrap64 (10 * n) - d) - (10 * a - d)) % 18446744073709551616 = 0 := by unfold wrap64; omega
theorem plus_mod {n a d : Int} (h : (n - a) % 18446744073709551616 = 0) : (wrap64 (wrap64 (10 * n) + d) - (10 * a + d)) % 18446744073709551616 = 0 := by unfold wrap64; omega
theorem wrap64_I64n (x : Int) : I64n (wrap64 x) := by unfold wrap64 I64n; omega

theorem rparse_empty (w : World) : Calls Tryd.prog 26 #[.string ⟨#[]⟩] w fun e w' => e = .returned (parseV []) ∧ Below w.heap.size w w' := by
  have HN := Lib.hid (rnumber_zero w)
  have hne : Hid (((numB 0).toList != (ByteArray.mk #[]).toList) = true) := by
    refine Lib.hid ?_
    have e := numB_eq 0 ⟨#[]⟩
    have : ((numB 0).toList == (ByteArray.mk #[]).toList) = false := by rw [e]; exact decide_eq_false (by intro h; exact decDigits_ne _ (by unfold Lib.itoa at h; simpa using h))
    rw [bne, this]; rfl
  have hf : Hid (parseV [] = .tuple #[.int .i64 0, .bool false]) := by
    refine Lib.hid (parseV_none (parseW_none fun v _ h => ?_))
    unfold Lib.itoa at h
    split at h
    · cases h
    · exact decDigits_ne _ h
  obtain ⟨x, hx⟩ : ∃ x, numB 0 = x := ⟨_, rfl⟩
  rw [hx] at hne HN
  have hne2 := hne.out
  have hne3 : (x.toList == (ByteArray.mk #[]).toList) = false := by have := hne.out; rw [bne] at this; simpa using this
  have hne4 : x.toList.isEmpty = false := by
    cases h : x.toList with
    | nil => rw [h, ByteArray.toList_eq] at hne3; exact absurd hne3 (by decide)
    | cons a l => rfl
  go_enter Tryd.func26, Tryd.ntmps26
  go_wp2_with fail
  go_loopg [4, 6] 0 (fun gh s4 s6 wr => s4 = .int .i64 0 ∧ s6 = .int .i64 0 ∧ wr = w)
  case atStart => exact ⟨rfl, rfl, rfl⟩
  case round =>
    obtain ⟨rfl, rfl, rfl⟩ := hrel
    go_wp2_with (go_at_call 17; refine HN.out.mono ?_; rintro e w2 ⟨rfl, hb⟩)
    go_ret2
    exact ⟨congrArg Ending.returned hf.out.symm, hb⟩

set_option maxHeartbeats 2000000 in
theorem rparse_minus (w : World) (s : ByteArray) (hpos : 0 < s.size) (hs : s.size ≤ 20) (hm : (s[0].toNat == 45) = true) (hm2 : ((s[0].toNat : Int) == 45) = true) :
    Calls Tryd.prog 26 #[.string s] w fun e w' => e = .returned (parseV s.data.toList) ∧ Below w.heap.size w w' := by
  have HM := Lib.hid hm
  have dpos : decide ((0 : Int) < (s.size : Int)) = true := decide_eq_true (by omega)
  have dpos' : decide (0 < s.size) = true := decide_eq_true (by omega)
  have d20 : decide ((20 : Int) < (s.size : Int)) = false := decide_eq_false (by omega)
  have d20' : decide (20 < s.size) = false := decide_eq_false (by omega)
  go_enter Tryd.func26, Tryd.ntmps26
  go_wp2_with fail
  go_loopg [4, 6] (s.size) (fun gh s4 s6 wr => ∃ (k : Nat) (n : Int), k + gh = s.size ∧ s4 = .int .i64 n ∧ s6 = .int .i64 (k : Int) ∧ wr = w ∧ I64n n ∧ Hid ((n - sval (s.data.toList.take k)) % 18446744073709551616 = 0))
  case atStart => exact ⟨0, 0, by omega, rfl, rfl, rfl, by unfold I64n; omega, Lib.hid (by rfl)⟩
  case round =>
    obtain ⟨k, n, hkg, rfl, rfl, rfl, hI, hMod⟩ := hrel
    have HI := Lib.hid hI
    by_cases hlt : k < s.size
    · have hx : s[k].toNat < 256 := s[k].toNat_lt
      have hel : Hid (∃ h : k < s.data.toList.length, s.data.toList[k] = s[k]) := Lib.hid ⟨by simpa using hlt, by simp; rfl⟩
      by_cases h0 : k = 0
      · subst h0
        have hn2 : Hid ((n - sval (s.data.toList.take 1)) % 18446744073709551616 = 0) := by
          refine Lib.hid ?_
          obtain ⟨hk, he⟩ := hel.out
          have e1 : s.data.toList.take (0 + 1) = s.data.toList.take 0 ++ [s.data.toList[0]] := List.take_succ_eq_append_getElem hk
          have e2 : (s.data.toList[0]).toNat = 45 := by rw [he]; exact beq_iff_eq.1 HM.out
          have e3 : sval (s.data.toList.take 1) = sval (s.data.toList.take 0) := by
            rw [e1, List.take_zero, List.nil_append, sval_minus e2]; rfl
          rw [e3]; exact hMod.out
        clear hI
        go_wp2_with fail
        go_roundg (s.size - (0 + 1))
        case measure => omega
        case rel => exact ⟨1, n, by omega, rfl, by go_num, rfl, HI.out, hn2⟩
      have d0 : ((k : Int) == 0) = false := beq_eq_false_iff_ne.2 (by omega)
      have d0' : (k == 0) = false := beq_eq_false_iff_ne.2 h0
      have hbad : Hid (¬ isDig s[k] → parseV s.data.toList = .tuple #[.int .i64 0, .bool false]) := by
        refine Lib.hid (fun h => ?_)
        obtain ⟨hk, he⟩ := hel.out
        exact parseV_none (parseW_bad hk (by rw [he]; exact h) (fun h => absurd h h0))
      by_cases h1 : s[k].toNat < 48
      · have e1 : decide ((s[k].toNat : Int) < 48) = true := decide_eq_true (by omega)
        have e1' : decide (s[k].toNat < 48) = true := decide_eq_true h1
        have hf := Lib.hid (hbad.out (by unfold isDig; omega))
        clear h1 hI
        go_wp2_with fail
        go_ret2
        exact ⟨congrArg Ending.returned hf.out.symm, Below.refl _ _⟩
      have e1 : decide ((s[k].toNat : Int) < 48) = false := decide_eq_false (by omega)
      have e1' : decide (s[k].toNat < 48) = false := decide_eq_false h1
      by_cases h2 : 57 < s[k].toNat
      · have e2 : decide ((57 : Int) < (s[k].toNat : Int)) = true := decide_eq_true (by omega)
        have e2' : decide (57 < s[k].toNat) = true := decide_eq_true h2
        have hf := Lib.hid (hbad.out (by unfold isDig; omega))
        clear h1 hI
        go_wp2_with fail
        go_ret2
        exact ⟨congrArg Ending.returned hf.out.symm, Below.refl _ _⟩
      have e2 : decide ((57 : Int) < (s[k].toNat : Int)) = false := decide_eq_false (by omega)
      have e2' : decide (57 < s[k].toNat) = false := decide_eq_false h2
      have hst : Hid (sval (s.data.toList.take (k + 1)) = 10 * sval (s.data.toList.take k) - ((s[k].toNat : Int) - 48)) := by
        refine Lib.hid ?_
        obtain ⟨hk, he⟩ := hel.out
        have e := sval_take hk (by rw [he]; unfold isDig; omega)
        have e0 : (s.data.toList.getD 0 0).toNat = s[0].toNat := by
          rw [List.getD_eq_getElem?_getD, List.getElem?_eq_getElem (by simpa using hpos)]; simp; rfl
        rw [he, e0] at e
        have e9 := beq_iff_eq.1 HM.out
        rw [if_pos ⟨by omega, e9⟩] at e
        exact e
      have hn2 : Hid ((wrap64 (wrap64 (10 * n) - ((s[k].toNat : Int) - 48)) - sval (s.data.toList.take (k + 1))) % 18446744073709551616 = 0) := by
        refine Lib.hid ?_
        rw [hst.out]
        exact minus_mod hMod.out
      clear hI
      go_wp2_with fail
      go_roundg (s.size - (k + 1))
      case measure => omega
      case rel => exact ⟨k + 1, _, by omega, rfl, by go_num, rfl, wrap64_I64n _, hn2⟩
    · have hk : k = s.size := by omega
      have hfin : Hid (parseV s.data.toList = .tuple #[.int .i64 (if decide (Lib.itoa n = s.data.toList) then n else 0), .bool (decide (Lib.itoa n = s.data.toList))]) := by
        refine Lib.hid ?_
        have e := hMod.out
        rw [hk, List.take_of_length_le (by simp)] at e
        exact parseV_end n HI.out _ e
      have HN := Lib.hid (rnumber_any wr n HI.out.1 HI.out.2)
      have hne := numB_eq n s
      obtain ⟨x, hx⟩ : ∃ x, numB n = x := ⟨_, rfl⟩
      rw [hx] at hne HN
      have hn0 := HI
      clear hI hx
      obtain ⟨b, hb⟩ : ∃ b, decide (Lib.itoa n = s.data.toList) = b := ⟨_, rfl⟩
      rw [hb] at hne hfin
      clear hb
      have hn : (x.toList != s.toList) = !b := by rw [← hne]; rfl
      cases b
      · go_wp2_with (go_at_call 17; refine HN.out.mono ?_; rintro e w2 ⟨rfl, hb⟩)
        go_ret2
        exact ⟨congrArg Ending.returned hfin.out.symm, hb⟩
      · go_wp2_with (go_at_call 17; refine HN.out.mono ?_; rintro e w2 ⟨rfl, hb⟩)
        go_ret2
        exact ⟨congrArg Ending.returned hfin.out.symm, hb⟩

set_option maxHeartbeats 2000000 in
theorem rparse_plain (w : World) (s : ByteArray) (hpos : 0 < s.size) (hs : s.size ≤ 20) (hm : (s[0].toNat == 45) = false) (hm2 : ((s[0].toNat : Int) == 45) = false) :
    Calls Tryd.prog 26 #[.string s] w fun e w' => e = .returned (parseV s.data.toList) ∧ Below w.heap.size w w' := by
  have HM := Lib.hid hm
  have dpos : decide ((0 : Int) < (s.size : Int)) = true := decide_eq_true (by omega)
  have dpos' : decide (0 < s.size) = true := decide_eq_true (by omega)
  have d20 : decide ((20 : Int) < (s.size : Int)) = false := decide_eq_false (by omega)
  have d20' : decide (20 < s.size) = false := decide_eq_false (by omega)
  go_enter Tryd.func26, Tryd.ntmps26
  go_wp2_with fail
  go_loopg [4, 6] (s.size) (fun gh s4 s6 wr => ∃ (k : Nat) (n : Int), k + gh = s.size ∧ s4 = .int .i64 n ∧ s6 = .int .i64 (k : Int) ∧ wr = w ∧ I64n n ∧ Hid ((n - sval (s.data.toList.take k)) % 18446744073709551616 = 0))
  case atStart => exact ⟨0, 0, by omega, rfl, rfl, rfl, by unfold I64n; omega, Lib.hid (by rfl)⟩
  case round =>
    obtain ⟨k, n, hkg, rfl, rfl, rfl, hI, hMod⟩ := hrel
    have HI := Lib.hid hI
    by_cases hlt : k < s.size
    · have hx : s[k].toNat < 256 := s[k].toNat_lt
      have hel : Hid (∃ h : k < s.data.toList.length, s.data.toList[k] = s[k]) := Lib.hid ⟨by simpa using hlt, by simp; rfl⟩
      obtain ⟨b0, d0⟩ : ∃ b, ((k : Int) == 0) = b := ⟨_, rfl⟩
      have d0' : (k == 0) = b0 := by rw [← d0]; exact Bool.eq_iff_iff.2 ⟨fun h => beq_iff_eq.2 (by have := beq_iff_eq.1 h; omega), fun h => beq_iff_eq.2 (by have := beq_iff_eq.1 h; omega)⟩
      have hnm : Hid (k = 0 → s[k].toNat ≠ 45) := Lib.hid (fun h => by subst h; exact beq_eq_false_iff_ne.1 HM.out)
      cases b0
      all_goals
        have hbad : Hid (¬ isDig s[k] → parseV s.data.toList = .tuple #[.int .i64 0, .bool false]) := by
          refine Lib.hid (fun h => ?_)
          obtain ⟨hk, he⟩ := hel.out
          exact parseV_none (parseW_bad hk (by rw [he]; exact h) (fun h => by rw [he]; exact hnm.out h))
        by_cases h1 : s[k].toNat < 48
        · have e1 : decide ((s[k].toNat : Int) < 48) = true := decide_eq_true (by omega)
          have e1' : decide (s[k].toNat < 48) = true := decide_eq_true h1
          have hf := Lib.hid (hbad.out (by unfold isDig; omega))
          clear h1 hI
          go_wp2_with fail
          go_ret2
          exact ⟨congrArg Ending.returned hf.out.symm, Below.refl _ _⟩
        have e1 : decide ((s[k].toNat : Int) < 48) = false := decide_eq_false (by omega)
        have e1' : decide (s[k].toNat < 48) = false := decide_eq_false h1
        by_cases h2 : 57 < s[k].toNat
        · have e2 : decide ((57 : Int) < (s[k].toNat : Int)) = true := decide_eq_true (by omega)
          have e2' : decide (57 < s[k].toNat) = true := decide_eq_true h2
          have hf := Lib.hid (hbad.out (by unfold isDig; omega))
          clear h1 hI
          go_wp2_with fail
          go_ret2
          exact ⟨congrArg Ending.returned hf.out.symm, Below.refl _ _⟩
        have e2 : decide ((57 : Int) < (s[k].toNat : Int)) = false := decide_eq_false (by omega)
        have e2' : decide (57 < s[k].toNat) = false := decide_eq_false h2
        have hst : Hid (sval (s.data.toList.take (k + 1)) = 10 * sval (s.data.toList.take k) + ((s[k].toNat : Int) - 48)) := by
          refine Lib.hid ?_
          obtain ⟨hk, he⟩ := hel.out
          have e := sval_take hk (by rw [he]; unfold isDig; omega)
          have e0 : (s.data.toList.getD 0 0).toNat = s[0].toNat := by
            rw [List.getD_eq_getElem?_getD, List.getElem?_eq_getElem (by simpa using hpos)]; simp; rfl
          rw [he, e0] at e
          have e9 := beq_eq_false_iff_ne.1 HM.out
          rw [if_neg (fun h => e9 h.2)] at e
          exact e
        have hn2 : Hid ((wrap64 (wrap64 (10 * n) + ((s[k].toNat : Int) - 48)) - sval (s.data.toList.take (k + 1))) % 18446744073709551616 = 0) := by
          refine Lib.hid ?_
          rw [hst.out]
          exact plus_mod hMod.out
        clear hI
        go_wp2_with fail
        go_roundg (s.size - (k + 1))
        case measure => omega
        case rel => exact ⟨k + 1, _, by omega, rfl, by go_num, rfl, wrap64_I64n _, hn2⟩
    · have hk : k = s.size := by omega
      have hfin : Hid (parseV s.data.toList = .tuple #[.int .i64 (if decide (Lib.itoa n = s.data.toList) then n else 0), .bool (decide (Lib.itoa n = s.data.toList))]) := by
        refine Lib.hid ?_
        have e := hMod.out
        rw [hk, List.take_of_length_le (by simp)] at e
        exact parseV_end n HI.out _ e
      have HN := Lib.hid (rnumber_any wr n HI.out.1 HI.out.2)
      have hne := numB_eq n s
      obtain ⟨x, hx⟩ : ∃ x, numB n = x := ⟨_, rfl⟩
      rw [hx] at hne HN
      have hn0 := HI
      clear hI hx
      obtain ⟨b, hb⟩ : ∃ b, decide (Lib.itoa n = s.data.toList) = b := ⟨_, rfl⟩
      rw [hb] at hne hfin
      clear hb
      have hn : (x.toList != s.toList) = !b := by rw [← hne]; rfl
      cases b
      · go_wp2_with (go_at_call 17; refine HN.out.mono ?_; rintro e w2 ⟨rfl, hb⟩)
        go_ret2
        exact ⟨congrArg Ending.returned hfin.out.symm, hb⟩
      · go_wp2_with (go_at_call 17; refine HN.out.mono ?_; rintro e w2 ⟨rfl, hb⟩)
        go_ret2
        exact ⟨congrArg Ending.returned hfin.out.symm, hb⟩

theorem rparse_any (w : World) (s : ByteArray) (hs : s.size ≤ 140737488355328) : Calls Tryd.prog 26 #[.string s] w fun e w' => e = .returned (parseV s.data.toList) ∧ Below w.heap.size w w' := by
  by_cases h20 : 20 < s.size
  · have d20 : decide ((20 : Int) < (s.size : Int)) = true := decide_eq_true (by omega)
    have d20' : decide (20 < s.size) = true := decide_eq_true (by omega)
    have hf : Hid (parseV s.data.toList = .tuple #[.int .i64 0, .bool false]) := Lib.hid (parseV_none (parseW_long (by simpa using h20)))
    go_enter Tryd.func26, Tryd.ntmps26
    go_wp2_with fail
    go_ret2
    exact ⟨congrArg Ending.returned hf.out.symm, Below.refl _ _⟩
  · by_cases h0 : s.size = 0
    · have e : s = ⟨#[]⟩ := by
        cases s with | mk d => exact congrArg ByteArray.mk (Array.eq_empty_of_size_eq_zero h0)
      subst e
      exact rparse_empty w
    · by_cases hm : s[0].toNat = 45
      · exact rparse_minus w s (by omega) (by omega) (beq_iff_eq.2 hm) (beq_iff_eq.2 (by omega))
      · exact rparse_plain w s (by omega) (by omega) (beq_eq_false_iff_ne.2 hm) (beq_eq_false_iff_ne.2 (by omega))
end Go.Proofs.YtlgfhbfdjckdnaaDoor
