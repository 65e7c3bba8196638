/- The document's cut and bare (seat wirez). -/
import Derived.Test.YtlgfhbfdjckdnaaGreatDoorWireTok
import Derived.Test.YtlgfhbfdjckdnaaGreatDoorWireSplitP
set_option maxRecDepth 100000
namespace Go.Proofs.YtlgfhbfdjckdnaaGreatDoor
open Go.RowKit

theorem dat_len (s : ByteArray) : s.data.toList.length = s.size := by rw [Array.length_toList]; rfl
theorem dat_take (s : ByteArray) (k : Nat) : (s.extract 0 k).data.toList = s.data.toList.take k := Lib.extract_from_zero s k
theorem dat_drop (s : ByteArray) (k : Nat) : (s.extract k s.size).data.toList = s.data.toList.drop k := Lib.extract_to_end s k
theorem dat_at (s : ByteArray) {k : Nat} (h : k < s.size) : s.data.toList[k]'(by rw [dat_len]; exact h) = s[k] := by simp; rfl
theorem cut_at {s : ByteArray} {c : UInt8} {k : Nat} (hk : k < s.size) (h : s[k] = c) (hno : ∀ j (hj : j < s.size), j < k → s[j] ≠ c) :
    Lib.cut s.data.toList [c] = ((s.extract 0 k).data.toList, (s.extract (k + 1) s.size).data.toList, true) := by
  have e : s.data.toList = s.data.toList.take k ++ ([c] ++ s.data.toList.drop (k + 1)) := by
    have h1 : k < s.data.toList.length := by rw [dat_len]; exact hk
    conv => lhs; rw [← List.take_append_drop k s.data.toList]
    rw [List.drop_eq_getElem_cons h1, dat_at s hk, h]
    rfl
  rw [dat_take, dat_drop]
  conv => lhs; rw [e]
  refine cut_piece (fun x hx => ?_)
  obtain ⟨j, hj, rfl⟩ := List.mem_iff_getElem.1 hx
  rw [List.length_take] at hj
  have hjs : j < s.size := by omega
  rw [List.getElem_take, dat_at s hjs]
  exact hno j hjs (by omega)
theorem cut_none {s : ByteArray} {c : UInt8} (hno : ∀ j (hj : j < s.size), s[j] ≠ c) : Lib.cut s.data.toList [c] = (s.data.toList, [], false) := by
  refine cut_last (fun x hx => ?_)
  obtain ⟨j, hj, rfl⟩ := List.mem_iff_getElem.1 hx
  rw [dat_len] at hj
  rw [dat_at s hj]
  exact hno j hj
theorem byte_ne {a b : UInt8} (h : a.toNat ≠ b.toNat) : a ≠ b := fun e => h (congrArg UInt8.toNat e)
theorem byte_eq {a b : UInt8} (h : a.toNat = b.toNat) : a = b := UInt8.toNat_inj.1 h

set_option maxHeartbeats 2000000 in
theorem rcut_any (w : World) (s : ByteArray) (hs : s.size ≤ 300000) (c : UInt8) :
    Calls Tryz.prog 55 #[.string s, .int .u8 (c.toNat : Int)] w fun e w' => ∃ x y b, e = .returned (.tuple #[.string x, .string y, .bool b]) ∧ Lib.cut s.data.toList [c] = (x.data.toList, y.data.toList, b) ∧ x.size ≤ s.size ∧ y.size ≤ s.size ∧ Below w.heap.size w w' := by
  go_enter Tryz.func55, Tryz.ntmps55
  go_wp2_with fail
  go_loopg [7] s.size (fun g s7 wr => ∃ k : Nat, k + g = s.size ∧ s7 = .int .i64 (k : Int) ∧ Hid (∀ j (hj : j < s.size), j < k → s[j] ≠ c) ∧ wr = w)
  case atStart => exact ⟨0, by omega, rfl, Lib.hid (fun j _ h => by omega), rfl⟩
  case round =>
    obtain ⟨k, hkg, rfl, hno, hw⟩ := hrel
    subst hw
    by_cases hk : k < s.size
    · have hx : s[k].toNat < 256 := s[k].toNat_lt
      have hc : c.toNat < 256 := c.toNat_lt
      have u1 : decide ((k : Int) < (s.size : Int)) = true := decide_eq_true (by omega)
      have u1' : decide (k < s.size) = true := decide_eq_true hk
      by_cases hq : s[k].toNat = c.toNat
      · have e1 : ((s[k].toNat : Int) == (c.toNat : Int)) = true := beq_iff_eq.2 (by omega)
        have e1' : (s[k].toNat == c.toNat) = true := beq_iff_eq.2 hq
        have HC := Lib.hid (cut_at hk (byte_eq hq) hno.out)
        have z1 : (s.extract 0 k).size ≤ s.size := by rw [ByteArray.size_extract]; omega
        have z2 : (s.extract (k + 1) s.size).size ≤ s.size := by rw [ByteArray.size_extract]; omega
        clear hq
        go_upto_region 5 with fail
        go_quiet (fail)
        go_wp2_with fail
        go_ret3
        exact ⟨_, _, _, rfl, HC.out, z1, z2, below_drewN (Below.refl _ _) _⟩
      · have e1 : ((s[k].toNat : Int) == (c.toNat : Int)) = false := beq_eq_false_iff_ne.2 (by omega)
        have e1' : (s[k].toNat == c.toNat) = false := beq_eq_false_iff_ne.2 hq
        have hn : Hid (∀ j (hj : j < s.size), j < k + 1 → s[j] ≠ c) := Lib.hid (fun j hj h => by
          rcases Nat.lt_or_ge j k with h1 | h1
          · exact hno.out j hj h1
          · obtain rfl : j = k := by omega
            exact byte_ne hq)
        clear hq
        go_wp2_with fail
        go_roundg (s.size - (k + 1))
        case measure => omega
        case rel => exact ⟨k + 1, by omega, by go_num, hn, rfl⟩
    · have u1 : decide ((k : Int) < (s.size : Int)) = false := decide_eq_false (by omega)
      have u1' : decide (k < s.size) = false := decide_eq_false hk
      have HC := Lib.hid (cut_none (s := s) (c := c) (fun j hj => hno.out j hj (by omega)))
      go_wp2_with fail
      go_ret3
      exact ⟨_, _, _, rfl, HC.out, Nat.le_refl _, Nat.zero_le _, Below.refl _ _⟩

/-! bare -/
theorem dw_nil {l : List UInt8} {p : UInt8 → Bool} (h : ∀ x ∈ l, p x = true) : l.dropWhile p = [] := by
  induction l with
  | nil => rfl
  | cons a r ih => rw [List.dropWhile_cons, if_pos (h a List.mem_cons_self)]; exact ih (fun x hx => h x (List.mem_cons_of_mem _ hx))
theorem dw_all {l : List UInt8} {p : UInt8 → Bool} (h : l.dropWhile p = []) : ∀ x ∈ l, p x = true := by
  induction l with
  | nil => intro x hx; cases hx
  | cons a r ih =>
    rw [List.dropWhile_cons] at h
    split at h
    · next h1 =>
      intro x hx
      rcases List.mem_cons.1 hx with rfl | hx
      · exact h1
      · exact ih h x hx
    · cases h
theorem dropWhile_idem {l : List UInt8} {p : UInt8 → Bool} : ∀ x ∈ (l.dropWhile p).head?, p x = false := by
  intro x hx
  induction l with
  | nil => cases hx
  | cons a r ih =>
    rw [List.dropWhile_cons] at hx
    split at hx
    · exact ih hx
    · next h =>
      simp at hx
      subst hx
      simpa using h
/-- From the left and then from the right, or the other way. -/
theorem trim_turn (l cs : List UInt8) : Lib.trimS l cs = Lib.trimRightS (Lib.trimLeftS l cs) cs := by
  unfold Lib.trimS
  induction l with
  | nil => rfl
  | cons a r ih =>
    by_cases h : cs.contains a = true
    · have e1 : Lib.trimLeftS (a :: r) cs = Lib.trimLeftS r cs := by unfold Lib.trimLeftS; rw [List.dropWhile_cons, if_pos h]
      rw [e1, ← ih]
      -- the right end of a :: r
      by_cases hall : ∀ x ∈ r, cs.contains x = true
      · have e2 : Lib.trimRightS (a :: r) cs = [] := by
          unfold Lib.trimRightS
          rw [dw_nil (by
            intro x hx
            rcases List.mem_cons.1 (List.mem_reverse.1 hx) with rfl | hx
            · exact h
            · exact hall x hx)]
          rfl
        have e3 : Lib.trimRightS r cs = [] := by
          unfold Lib.trimRightS
          rw [dw_nil (fun x hx => hall x (List.mem_reverse.1 hx))]
          rfl
        rw [e2, e3]
      · have e2 : Lib.trimRightS (a :: r) cs = a :: Lib.trimRightS r cs := by
          unfold Lib.trimRightS
          rw [List.reverse_cons, List.dropWhile_append]
          rw [if_neg (by
            intro hn
            rw [List.isEmpty_iff] at hn
            exact hall (fun x hx => dw_all hn x (List.mem_reverse.2 hx)))]
          rw [List.reverse_append]
          rfl
        rw [e2]
        unfold Lib.trimLeftS
        rw [List.dropWhile_cons, if_pos h]
    · have e1 : Lib.trimLeftS (a :: r) cs = a :: r := by unfold Lib.trimLeftS; rw [List.dropWhile_cons, if_neg h]
      rw [e1]
      have e2 : ∃ q, Lib.trimRightS (a :: r) cs = a :: q := by
        unfold Lib.trimRightS
        rw [List.reverse_cons, List.dropWhile_append]
        split
        · rw [List.dropWhile_cons, if_neg h]; exact ⟨[], rfl⟩
        · rw [List.reverse_append]; exact ⟨_, rfl⟩
      obtain ⟨q, hq⟩ := e2
      rw [hq]
      unfold Lib.trimLeftS
      rw [List.dropWhile_cons, if_neg h]
def spB (x : Nat) : Bool := x == 32 || x == 9
theorem spB_contains (x : UInt8) : ([32, 9] : List UInt8).contains x = spB x.toNat := by
  unfold spB
  have h1 : (x == 32) = (x.toNat == 32) := Bool.eq_iff_iff.2 ⟨fun h => beq_iff_eq.2 (congrArg UInt8.toNat (beq_iff_eq.1 h)), fun h => beq_iff_eq.2 (byte_eq (beq_iff_eq.1 h))⟩
  have h2 : (x == 9) = (x.toNat == 9) := Bool.eq_iff_iff.2 ⟨fun h => beq_iff_eq.2 (congrArg UInt8.toNat (beq_iff_eq.1 h)), fun h => beq_iff_eq.2 (byte_eq (beq_iff_eq.1 h))⟩
  simp only [List.contains_cons, List.contains_nil, Bool.or_false, h1, h2]
theorem left_step {s : ByteArray} (h : 0 < s.size) (hb : spB s[0].toNat = true) : Lib.trimLeftS s.data.toList [32, 9] = Lib.trimLeftS (s.extract 1 s.size).data.toList [32, 9] := by
  rw [dat_drop]
  have h1 : 0 < s.data.toList.length := by rw [dat_len]; exact h
  have e : s.data.toList = s[0] :: s.data.toList.drop 1 := by
    have := List.drop_eq_getElem_cons h1
    rw [dat_at s h] at this
    simpa using this
  conv => lhs; rw [e]
  unfold Lib.trimLeftS
  rw [List.dropWhile_cons, if_pos (by rw [spB_contains]; exact hb)]
theorem left_stop {s : ByteArray} (h : ∀ (h : 0 < s.size), spB s[0].toNat = false) : Lib.trimLeftS s.data.toList [32, 9] = s.data.toList := by
  rcases Nat.eq_zero_or_pos s.size with h0 | h0
  · have : s.data.toList = [] := List.eq_nil_of_length_eq_zero (by rw [dat_len]; exact h0)
    rw [this]; rfl
  · have h1 : 0 < s.data.toList.length := by rw [dat_len]; exact h0
    have e : s.data.toList = s[0] :: s.data.toList.drop 1 := by
      have := List.drop_eq_getElem_cons h1
      rw [dat_at s h0] at this
      simpa using this
    rw [e]
    unfold Lib.trimLeftS
    rw [List.dropWhile_cons, if_neg (by rw [spB_contains, h h0]; decide)]
theorem last_split {s : ByteArray} {n : Nat} (hn : s.size = n + 1) : s.data.toList = (s.extract 0 n).data.toList ++ [s[n]] := by
  have h1 : n < s.data.toList.length := by rw [dat_len]; omega
  rw [dat_take, ← dat_at s (by omega), ← List.take_succ_eq_append_getElem h1, List.take_of_length_le (by rw [dat_len]; omega)]
theorem right_step {s : ByteArray} {n : Nat} (hn : s.size = n + 1) (hb : spB s[n].toNat = true) : Lib.trimRightS s.data.toList [32, 9] = Lib.trimRightS (s.extract 0 n).data.toList [32, 9] := by
  conv => lhs; rw [last_split hn]
  unfold Lib.trimRightS
  rw [List.reverse_append]
  simp only [List.reverse_cons, List.reverse_nil, List.nil_append, List.cons_append]
  rw [List.dropWhile_cons, if_pos (by rw [spB_contains]; exact hb)]
theorem right_stop {s : ByteArray} (h : ∀ n (h : s.size = n + 1), spB s[n].toNat = false) : Lib.trimRightS s.data.toList [32, 9] = s.data.toList := by
  rcases Nat.eq_zero_or_pos s.size with h0 | h0
  · have : s.data.toList = [] := List.eq_nil_of_length_eq_zero (by rw [dat_len]; exact h0)
    rw [this]; rfl
  · obtain ⟨n, hn⟩ : ∃ n, s.size = n + 1 := ⟨s.size - 1, by omega⟩
    rw [last_split hn]
    unfold Lib.trimRightS
    rw [List.reverse_append]
    simp only [List.reverse_cons, List.reverse_nil, List.nil_append, List.cons_append]
    rw [List.dropWhile_cons, if_neg (by rw [spB_contains, h n hn]; decide)]
    simp

set_option maxHeartbeats 4000000 in
theorem rbare_any (w : World) (s0 : ByteArray) (hs : s0.size ≤ 300000) :
    Calls Tryz.prog 59 #[.string s0] w fun e w' => ∃ x, e = .returned (.string x) ∧ x.data.toList = Lib.trimS s0.data.toList [32, 9] ∧ x.size ≤ s0.size ∧ w = w' := by
  have HT := Lib.hid (trim_turn s0.data.toList [32, 9])
  go_enter Tryz.func59, Tryz.ntmps59
  go_wp2_with fail
  go_loopg [0] s0.size (fun g s0' wr => ∃ s : ByteArray, s.size ≤ g ∧ g ≤ s.size ∧ s.size ≤ s0.size ∧ s0' = .string s ∧ Hid (Lib.trimLeftS s.data.toList [32, 9] = Lib.trimLeftS s0.data.toList [32, 9]) ∧ w = wr)
  case atStart => exact ⟨s0, Nat.le_refl _, Nat.le_refl _, Nat.le_refl _, rfl, Lib.hid rfl, rfl⟩
  case round =>
    obtain ⟨s, hsg, hsg2, hsz, rfl, hL, rfl⟩ := hrel
    by_cases hp : 0 < s.size ∧ ∃ h : 0 < s.size, spB s[0].toNat = true
    · obtain ⟨-, hk, hb⟩ := hp
      have hx : s[0].toNat < 256 := s[0].toNat_lt
      have u1 : decide ((0 : Int) < (s.size : Int)) = true := decide_eq_true (by omega)
      have u1' : decide (0 < s.size) = true := decide_eq_true hk
      have hn := Lib.hid ((left_step hk hb).symm.trans hL.out)
      have hz : (s.extract 1 s.size).size = s.size - 1 := by rw [ByteArray.size_extract]; omega
      obtain ⟨s2, hs2⟩ : ∃ x, s.extract 1 s.size = x := ⟨_, rfl⟩
      have hz2 : s2.size + 1 = s.size := by rw [← hs2, hz]; omega
      rw [hs2] at hn
      have HS2 := Lib.hid hs2
      clear hz
      by_cases h32 : s[0].toNat = 32
      · have e1 : ((s[0].toNat : Int) == 32) = true := beq_iff_eq.2 (by omega)
        have e1' : (s[0].toNat == 32) = true := beq_iff_eq.2 h32
        clear h32 hb
        go_wp2_with fail
        go_roundg (s.size - 1)
        case measure => omega
        case rel => exact ⟨s2, by omega, by omega, by omega, rfl, hn, rfl⟩
      · have h9 : s[0].toNat = 9 := by unfold spB at hb; simp at hb; omega
        have e1 : ((s[0].toNat : Int) == 32) = false := beq_eq_false_iff_ne.2 (by omega)
        have e1' : (s[0].toNat == 32) = false := beq_eq_false_iff_ne.2 h32
        have e2 : ((s[0].toNat : Int) == 9) = true := beq_iff_eq.2 (by omega)
        have e2' : (s[0].toNat == 9) = true := beq_iff_eq.2 h9
        clear h32 h9 hb
        go_wp2_with fail
        go_roundg (s.size - 1)
        case measure => omega
        case rel => exact ⟨s2, by omega, by omega, by omega, rfl, hn, rfl⟩
    · have hst : ∀ (h : 0 < s.size), spB s[0].toNat = false := fun h => by
        cases hq : spB s[0].toNat with
        | false => rfl
        | true => exact absurd ⟨h, h, hq⟩ hp
      have hl := left_stop hst
      have HM : Hid (Lib.trimS s0.data.toList [32, 9] = Lib.trimRightS s.data.toList [32, 9]) := Lib.hid (by rw [HT.out, ← hL.out, hl])
      clear hp hl
      have hsz2 : s.size ≤ s0.size := hsz
      have hor : s.size = 0 ∨ ∃ h : 0 < s.size, (s[0].toNat == 32) = false ∧ (s[0].toNat == 9) = false := by
        rcases Nat.eq_zero_or_pos s.size with h0 | h0
        · exact .inl h0
        · refine .inr ⟨h0, ?_⟩
          have hq := hst h0
          unfold spB at hq
          simp only [Bool.or_eq_false_iff] at hq
          exact hq
      clear hst
      rcases hor with h0 | ⟨h0, e1', e2'⟩
      · have u1 : decide ((0 : Int) < (s.size : Int)) = false := decide_eq_false (by omega)
        have u1' : decide (0 < s.size) = false := decide_eq_false (by omega)
        go_wp2_with fail
        clear u1 u1'
        go_loopg [0] s.size (fun g s0' wr => ∃ r : ByteArray, r.size ≤ g ∧ g ≤ r.size ∧ r.size ≤ s.size ∧ s0' = .string r ∧ Hid (Lib.trimRightS r.data.toList [32, 9] = Lib.trimRightS s.data.toList [32, 9]) ∧ w = wr)
        case atStart => exact ⟨s, Nat.le_refl _, Nat.le_refl _, Nat.le_refl _, rfl, Lib.hid rfl, rfl⟩
        case round =>
          obtain ⟨r, hrg, hrg2, hrz, rfl, hR, rfl⟩ := hrel
          rcases Nat.eq_zero_or_pos r.size with hz0 | hz0
          · have u1 : decide ((0 : Int) < (r.size : Int)) = false := decide_eq_false (by omega)
            have u1' : decide (0 < r.size) = false := decide_eq_false (by omega)
            have he : r.data.toList = Lib.trimS s0.data.toList [32, 9] := by
              rw [HM.out, ← hR.out, right_stop (fun n hn => by omega)]
            have HE := Lib.hid he
            clear he
            go_wp2_with fail
            go_ret
            exact ⟨r, rfl, HE.out, by omega, rfl⟩
          · exfalso; omega
      · have hx : s[0].toNat < 256 := s[0].toNat_lt
        have u1 : decide ((0 : Int) < (s.size : Int)) = true := decide_eq_true (by omega)
        have u1' : decide (0 < s.size) = true := decide_eq_true h0
        have e1 : ((s[0].toNat : Int) == 32) = false := beq_eq_false_iff_ne.2 (by have := beq_eq_false_iff_ne.1 e1'; omega)
        have e2 : ((s[0].toNat : Int) == 9) = false := beq_eq_false_iff_ne.2 (by have := beq_eq_false_iff_ne.1 e2'; omega)
        go_wp2_with fail
        clear u1 u1' e1 e2 e1' e2' hx
        go_loopg [0] s.size (fun g s0' wr => ∃ r : ByteArray, r.size ≤ g ∧ g ≤ r.size ∧ r.size ≤ s.size ∧ s0' = .string r ∧ Hid (Lib.trimRightS r.data.toList [32, 9] = Lib.trimRightS s.data.toList [32, 9]) ∧ w = wr)
        case atStart => exact ⟨s, Nat.le_refl _, Nat.le_refl _, Nat.le_refl _, rfl, Lib.hid rfl, rfl⟩
        case round =>
          obtain ⟨r, hrg, hrg2, hrz, rfl, hR, rfl⟩ := hrel
          rcases Nat.eq_zero_or_pos r.size with hz0 | hz0
          · have u1 : decide ((0 : Int) < (r.size : Int)) = false := decide_eq_false (by omega)
            have u1' : decide (0 < r.size) = false := decide_eq_false (by omega)
            have he : r.data.toList = Lib.trimS s0.data.toList [32, 9] := by
              rw [HM.out, ← hR.out, right_stop (fun n hn => by omega)]
            have HE := Lib.hid he
            clear he
            go_wp2_with fail
            go_ret
            exact ⟨r, rfl, HE.out, by omega, rfl⟩
          · have hm : r.size = (r.size - 1) + 1 := by omega
            have u1 : decide ((0 : Int) < (r.size : Int)) = true := decide_eq_true (by omega)
            have u1' : decide (0 < r.size) = true := decide_eq_true hz0
            have u2 : wrap64 ((r.size : Int) - 1) = ((r.size - 1 : Nat) : Int) := by unfold wrap64; omega
            have hmr : r.size - 1 < r.size := by omega
            have hy : r[r.size - 1].toNat < 256 := r[r.size - 1].toNat_lt
            by_cases hb : spB r[r.size - 1].toNat = true
            · have hn := Lib.hid ((right_step hm hb).symm.trans hR.out)
              have hz : (r.extract 0 (r.size - 1)).size = r.size - 1 := by rw [ByteArray.size_extract]; omega
              obtain ⟨r2, hr2⟩ : ∃ x, r.extract 0 (r.size - 1) = x := ⟨_, rfl⟩
              rw [hr2] at hz hn
              have hz2 : r2.size + 1 ≤ r.size ∧ r.size ≤ r2.size + 1 := by omega
              have HR2 := Lib.hid hr2
              have hmz : r2.size + 1 ≤ r.size := by omega
              have HMm := Lib.hid hm
              by_cases h32 : r[r.size - 1].toNat = 32
              · have f1 : ((r[r.size - 1].toNat : Int) == 32) = true := beq_iff_eq.2 (by omega)
                have f1' : (r[r.size - 1].toNat == 32) = true := beq_iff_eq.2 h32
                clear h32 hb hz hm
                go_wp2_with fail
                go_roundg (r.size - 1)
                case measure => omega
                case rel => exact ⟨r2, by omega, by omega, by omega, rfl, hn, rfl⟩
              · have h9 : r[r.size - 1].toNat = 9 := by unfold spB at hb; simp at hb; omega
                have f1 : ((r[r.size - 1].toNat : Int) == 32) = false := beq_eq_false_iff_ne.2 (by omega)
                have f1' : (r[r.size - 1].toNat == 32) = false := beq_eq_false_iff_ne.2 h32
                have f2 : ((r[r.size - 1].toNat : Int) == 9) = true := beq_iff_eq.2 (by omega)
                have f2' : (r[r.size - 1].toNat == 9) = true := beq_iff_eq.2 h9
                clear h32 h9 hb hz hm
                go_wp2_with fail
                go_roundg (r.size - 1)
                case measure => omega
                case rel => exact ⟨r2, by omega, by omega, by omega, rfl, hn, rfl⟩
            · have he : r.data.toList = Lib.trimS s0.data.toList [32, 9] := by
                rw [HM.out, ← hR.out, right_stop (fun n hn => by
                  have hnn : n = r.size - 1 := by omega
                  subst hnn
                  cases h : spB r[r.size - 1].toNat with
                  | false => rfl
                  | true => exact absurd h hb)]
              have HE := Lib.hid he
              unfold spB at hb
              simp only [Bool.or_eq_true, beq_iff_eq, not_or] at hb
              have f1 : ((r[r.size - 1].toNat : Int) == 32) = false := beq_eq_false_iff_ne.2 (by omega)
              have f1' : (r[r.size - 1].toNat == 32) = false := beq_eq_false_iff_ne.2 hb.1
              have f2 : ((r[r.size - 1].toNat : Int) == 9) = false := beq_eq_false_iff_ne.2 (by omega)
              have f2' : (r[r.size - 1].toNat == 9) = false := beq_eq_false_iff_ne.2 hb.2
              have HMm := Lib.hid hm
              clear he hb hm
              go_wp2_with fail
              go_ret
              exact ⟨r, rfl, HE.out, by omega, rfl⟩
end Go.Proofs.YtlgfhbfdjckdnaaGreatDoor
