/- The document's lower (printed by gen_wirerlower.py; seat wirez). -/
import Derived.Test.YtlgfhbfdjckdnaaGreatDoorWireRCut
import Derived.Test.YtlgfhbfdjckdnaaGreatDoorWireRd
import Derived.Laws.IdiomStrings
set_option maxRecDepth 100000
namespace Go.Proofs.YtlgfhbfdjckdnaaGreatDoor
open Go.RowKit

theorem info_byteL : (Tryz.prog.info? 5).map (fun i => (i.zero, i.size, i.bytes)) = some (some (.int .u8 0), 1, 1) := by kernel_rfl
theorem lowerB_nat (x : UInt8) : (Lib.lowerB x).toNat = if 65 ≤ x.toNat ∧ x.toNat ≤ 90 then x.toNat + 32 else x.toNat := by
  by_cases h : Lib.isUpperB x = true
  · have h2 := Lib.isUpperB_int x
    rw [h] at h2
    have h3 := Lib.lowerB_int x h
    have h4 := h2.symm
    simp only [Bool.and_eq_true, decide_eq_true_eq] at h4
    rw [if_pos (by omega)]
    omega
  · have h2 := Lib.isUpperB_int x
    rw [Bool.not_eq_true] at h
    rw [Lib.lowerB_of_not x h]
    rw [h] at h2
    rw [if_neg]
    rintro ⟨h5, h6⟩
    rw [decide_eq_true (show (65 : Int) ≤ (x.toNat : Int) by omega), decide_eq_true (show (x.toNat : Int) ≤ 90 by omega)] at h2
    cases h2
theorem lowA_take {l : List UInt8} {k : Nat} (h : k < l.length) : Lib.toLowerA (l.take (k + 1)) = Lib.toLowerA (l.take k) ++ [Lib.lowerB l[k]] := by
  unfold Lib.toLowerA
  rw [List.take_succ_eq_append_getElem h, List.map_append]
  rfl
theorem bcells_app (a b : List UInt8) : Lib.byteCells (a ++ b) = Lib.byteCells a ++ Lib.byteCells b := by simp [Lib.byteCells]
theorem str_own (w : World) (B : Nat) (l : List UInt8) (v : Value) (h : w.ownsRow B 5 1 v l.length (Lib.byteCells l)) :
    ∃ x : ByteArray, x.data.toList = l ∧ (convert 27 9 v).run Tryz.prog w = .ok (.string x) w := by
  refine ⟨⟨l.toArray⟩, by simp, ?_⟩
  rcases h.2 with ⟨rfl, h0⟩ | ⟨g, cap, cur, rfl, _⟩
  · have : l = [] := by cases l with | nil => rfl | cons a l => simp at h0
    subst this
    rw [run_convert_bytes_string w 27 9 5 none _ _ Tryz.underlying27 Tryz.underlying5 Tryz.underlying9]
    rfl
  · exact run_convert_bytes_back (P := Tryz.prog) w 27 9 5 ⟨g, 0, none⟩ cap l Tryz.underlying27 Tryz.underlying5 Tryz.underlying9 (fun j hj => h.cells (g := g) rfl j _ (by simp [Lib.byteCells, hj]))

set_option maxHeartbeats 8000000 in
theorem rlower_any (w : World) (s : ByteArray) (hs : s.size ≤ 300000) :
    Calls Tryz.prog 58 #[.string s] w fun e w' => ∃ x b, e = .returned (.tuple #[.string x, .bool b]) ∧ b = (!s.data.toList.isEmpty && allL nmC s.data.toList) ∧ (b = true → x.data.toList = Lib.toLowerA s.data.toList) ∧ x.size ≤ s.size ∧ Below w.heap.size w w' := by
  obtain ⟨i0, hi, hz0, hz1, hz2⟩ := info_parts info_byteL
  go_enter Tryz.func58, Tryz.ntmps58
  go_wp2_with fail
  go_loopg [4, 5] s.size (fun g s4 s5 wr => ∃ (k : Nat) (v4 : Value), k + g = s.size ∧ v4 = s4 ∧ s5 = .int .i64 (k : Int) ∧ wr.ownsRow w.heap.size 5 1 v4 k (Lib.byteCells (Lib.toLowerA (s.data.toList.take k))) ∧ Hid (∀ j (hj : j < s.size), j < k → nmC s[j].toNat = true) ∧ Below w.heap.size w wr)
  case atStart => exact ⟨0, _, by omega, rfl, rfl, World.ownsRow_nil _ _ _ _, Lib.hid (fun j _ h => by omega), Below.refl _ _⟩
  case round =>
    obtain ⟨k, v4, hkg, rfl, rfl, hown, hno, hbel⟩ := hrel
    have hbz := hbel.size
    by_cases hk : k < s.size
    · have u1 : decide ((k : Int) < (s.size : Int)) = true := decide_eq_true (by omega)
      have u1' : decide (k < s.size) = true := decide_eq_true hk
      have hx : s[k].toNat < 256 := s[k].toNat_lt
      have HT := Lib.hid (lowA_take (l := s.data.toList) (k := k) (by rw [dat_len]; exact hk))
      rw [dat_at s hk] at HT
      have hlb := lowerB_nat s[k]
      obtain ⟨x, hxe⟩ : ∃ x, s[k].toNat = x := ⟨_, rfl⟩
      obtain ⟨c, hce⟩ : ∃ c, s[k] = c := ⟨_, rfl⟩
      have hnx : nmC s[k].toNat = nmC x := by rw [hxe]
      rw [hce] at HT hxe hlb
      rw [hxe] at hlb
      have HCE := Lib.hid hce
      have HNX := Lib.hid hnx
      have HXE := Lib.hid hxe
      have hcx : c.toNat = x := hxe
      rcases (show (x < 45) ∨ (x = 45) ∨ (46 ≤ x ∧ x < 48) ∨ (48 ≤ x ∧ x ≤ 57) ∨ (58 ≤ x ∧ x < 65) ∨ (65 ≤ x ∧ x ≤ 90) ∨ (91 ≤ x ∧ x < 97) ∨ (97 ≤ x ∧ x ≤ 122) ∨ (123 ≤ x) by omega) with hc | hc | hc | hc | hc | hc | hc | hc | hc
      · obtain ⟨y, hy⟩ : ∃ y, x = y := ⟨_, rfl⟩
        have hly : (Lib.lowerB c).toNat = y := by rw [hlb, if_neg (by omega), hy]
        subst hy
        have f1 : decide ((65 : Int) ≤ (x : Int)) = false := decide_eq_false (by omega)
        have f1' : decide (65 ≤ x) = false := decide_eq_false (by omega)
        have f2 : decide ((x : Int) ≤ 90) = true := decide_eq_true (by omega)
        have f2' : decide (x ≤ 90) = true := decide_eq_true (by omega)
        have f3 : decide ((x : Int) < 97) = true := decide_eq_true (by omega)
        have f3' : decide (x < 97) = true := decide_eq_true (by omega)
        have f4 : decide ((122 : Int) < (x : Int)) = false := decide_eq_false (by omega)
        have f4' : decide (122 < x) = false := decide_eq_false (by omega)
        have f5 : decide ((x : Int) < 48) = true := decide_eq_true (by omega)
        have f5' : decide (x < 48) = true := decide_eq_true (by omega)
        have f6 : decide ((57 : Int) < (x : Int)) = false := decide_eq_false (by omega)
        have f6' : decide (57 < x) = false := decide_eq_false (by omega)
        have f7 : ((x : Int) != 45) = true := bne_iff_ne.2 (by omega)
        have f7' : (x != 45) = true := bne_iff_ne.2 (by omega)
        have hnm : nmC x = false := by unfold nmC; rw [Bool.eq_false_iff]; intro h; simp only [Bool.or_eq_true, Bool.and_eq_true, decide_eq_true_eq] at h; omega
        have hb : (!s.data.toList.isEmpty && allL nmC s.data.toList) = false := by
          have : allL nmC s.data.toList = false := List.all_eq_false.2 ⟨s[k], List.mem_iff_getElem.2 ⟨k, by rw [dat_len]; exact hk, dat_at s hk⟩, by rw [HNX.out, hnm]; decide⟩
          rw [this, Bool.and_false]
        have HB := Lib.hid hb
        clear hc hlb hly hnm hb hcx
        go_wp2_with fail
        go_ret2
        exact ⟨_, false, rfl, HB.out.symm, fun h => (by cases h), Nat.zero_le _, hbel⟩
      · obtain ⟨y, hy⟩ : ∃ y, x = y := ⟨_, rfl⟩
        have hly : (Lib.lowerB c).toNat = y := by rw [hlb, if_neg (by omega), hy]
        subst hy
        have f1 : decide ((65 : Int) ≤ (x : Int)) = false := decide_eq_false (by omega)
        have f1' : decide (65 ≤ x) = false := decide_eq_false (by omega)
        have f2 : decide ((x : Int) ≤ 90) = true := decide_eq_true (by omega)
        have f2' : decide (x ≤ 90) = true := decide_eq_true (by omega)
        have f3 : decide ((x : Int) < 97) = true := decide_eq_true (by omega)
        have f3' : decide (x < 97) = true := decide_eq_true (by omega)
        have f4 : decide ((122 : Int) < (x : Int)) = false := decide_eq_false (by omega)
        have f4' : decide (122 < x) = false := decide_eq_false (by omega)
        have f5 : decide ((x : Int) < 48) = true := decide_eq_true (by omega)
        have f5' : decide (x < 48) = true := decide_eq_true (by omega)
        have f6 : decide ((57 : Int) < (x : Int)) = false := decide_eq_false (by omega)
        have f6' : decide (57 < x) = false := decide_eq_false (by omega)
        have f7 : ((x : Int) != 45) = false := by rw [show (x : Int) = 45 by omega]; rfl
        have f7' : (x != 45) = false := by rw [show x = 45 by omega]; rfl
        have hnm : nmC x = true := by unfold nmC; simp only [Bool.or_eq_true, Bool.and_eq_true, decide_eq_true_eq]; omega
        have hn : Hid (∀ j (hj : j < s.size), j < k + 1 → nmC s[j].toNat = true) := Lib.hid (fun j hj h => by
          rcases Nat.lt_or_ge j k with h1 | h1
          · exact hno.out j hj h1
          · obtain rfl : j = k := by omega
            rw [HNX.out]; exact hnm)
        have hwf : (Value.int .u8 (x : Int)) = .int .u8 ((Lib.lowerB c).toNat : Int) := by rw [hly]
        have HWF := Lib.hid hwf
        clear hc hlb hly hnm hwf hcx
        go_wp2_with (at_builtin; refine wpList_append_own _ rfl _ _ 27 rfl w.heap.size 5 i0 (.int .u8 0) 1 1 Tryz.underlying27 hi hz0 hz1 hz2 rfl (by decide) _ _ _ rfl (hown.alloc _) ⟨wr.heap.size, 0, none⟩ 1 1 [Value.int .u8 (x : Int)] rfl rfl (by intro j u' hj; match j, hj with | 0, hj => simp at hj; subst hj; simp [Addr.add]) (by intro u' hu'; simp at hu'; subst hu'; rfl) (by unfold maxLen; omega) (by omega) (by have := hbel.size; simp; omega) ?_; refine Hid.out ?_)
        refine Lib.hid ?_
        intro v2 w2 hown2 hg2 _
        have hb2 := (hbel.alloc hbel.size _).grown hg2 (by have := hbel.size; simp; omega) (fun k hk => (hown.lt k hk).1)
        go_wp2
        go_roundg (s.size - (k + 1))
        case measure => omega
        case rel =>
          refine ⟨k + 1, _, by omega, rfl, by go_num, ?_, hn, hb2⟩
          rw [HT.out, bcells_app]
          have e : Lib.byteCells [Lib.lowerB c] = [Value.int .u8 (x : Int)] := by rw [HWF.out]; rfl
          rw [e]
          exact hown2
      · obtain ⟨y, hy⟩ : ∃ y, x = y := ⟨_, rfl⟩
        have hly : (Lib.lowerB c).toNat = y := by rw [hlb, if_neg (by omega), hy]
        subst hy
        have f1 : decide ((65 : Int) ≤ (x : Int)) = false := decide_eq_false (by omega)
        have f1' : decide (65 ≤ x) = false := decide_eq_false (by omega)
        have f2 : decide ((x : Int) ≤ 90) = true := decide_eq_true (by omega)
        have f2' : decide (x ≤ 90) = true := decide_eq_true (by omega)
        have f3 : decide ((x : Int) < 97) = true := decide_eq_true (by omega)
        have f3' : decide (x < 97) = true := decide_eq_true (by omega)
        have f4 : decide ((122 : Int) < (x : Int)) = false := decide_eq_false (by omega)
        have f4' : decide (122 < x) = false := decide_eq_false (by omega)
        have f5 : decide ((x : Int) < 48) = true := decide_eq_true (by omega)
        have f5' : decide (x < 48) = true := decide_eq_true (by omega)
        have f6 : decide ((57 : Int) < (x : Int)) = false := decide_eq_false (by omega)
        have f6' : decide (57 < x) = false := decide_eq_false (by omega)
        have f7 : ((x : Int) != 45) = true := bne_iff_ne.2 (by omega)
        have f7' : (x != 45) = true := bne_iff_ne.2 (by omega)
        have hnm : nmC x = false := by unfold nmC; rw [Bool.eq_false_iff]; intro h; simp only [Bool.or_eq_true, Bool.and_eq_true, decide_eq_true_eq] at h; omega
        have hb : (!s.data.toList.isEmpty && allL nmC s.data.toList) = false := by
          have : allL nmC s.data.toList = false := List.all_eq_false.2 ⟨s[k], List.mem_iff_getElem.2 ⟨k, by rw [dat_len]; exact hk, dat_at s hk⟩, by rw [HNX.out, hnm]; decide⟩
          rw [this, Bool.and_false]
        have HB := Lib.hid hb
        clear hc hlb hly hnm hb hcx
        go_wp2_with fail
        go_ret2
        exact ⟨_, false, rfl, HB.out.symm, fun h => (by cases h), Nat.zero_le _, hbel⟩
      · obtain ⟨y, hy⟩ : ∃ y, x = y := ⟨_, rfl⟩
        have hly : (Lib.lowerB c).toNat = y := by rw [hlb, if_neg (by omega), hy]
        subst hy
        have f1 : decide ((65 : Int) ≤ (x : Int)) = false := decide_eq_false (by omega)
        have f1' : decide (65 ≤ x) = false := decide_eq_false (by omega)
        have f2 : decide ((x : Int) ≤ 90) = true := decide_eq_true (by omega)
        have f2' : decide (x ≤ 90) = true := decide_eq_true (by omega)
        have f3 : decide ((x : Int) < 97) = true := decide_eq_true (by omega)
        have f3' : decide (x < 97) = true := decide_eq_true (by omega)
        have f4 : decide ((122 : Int) < (x : Int)) = false := decide_eq_false (by omega)
        have f4' : decide (122 < x) = false := decide_eq_false (by omega)
        have f5 : decide ((x : Int) < 48) = false := decide_eq_false (by omega)
        have f5' : decide (x < 48) = false := decide_eq_false (by omega)
        have f6 : decide ((57 : Int) < (x : Int)) = false := decide_eq_false (by omega)
        have f6' : decide (57 < x) = false := decide_eq_false (by omega)
        have f7 : ((x : Int) != 45) = true := bne_iff_ne.2 (by omega)
        have f7' : (x != 45) = true := bne_iff_ne.2 (by omega)
        have hnm : nmC x = true := by unfold nmC; simp only [Bool.or_eq_true, Bool.and_eq_true, decide_eq_true_eq]; omega
        have hn : Hid (∀ j (hj : j < s.size), j < k + 1 → nmC s[j].toNat = true) := Lib.hid (fun j hj h => by
          rcases Nat.lt_or_ge j k with h1 | h1
          · exact hno.out j hj h1
          · obtain rfl : j = k := by omega
            rw [HNX.out]; exact hnm)
        have hwf : (Value.int .u8 (x : Int)) = .int .u8 ((Lib.lowerB c).toNat : Int) := by rw [hly]
        have HWF := Lib.hid hwf
        clear hc hlb hly hnm hwf hcx
        go_wp2_with (at_builtin; refine wpList_append_own _ rfl _ _ 27 rfl w.heap.size 5 i0 (.int .u8 0) 1 1 Tryz.underlying27 hi hz0 hz1 hz2 rfl (by decide) _ _ _ rfl (hown.alloc _) ⟨wr.heap.size, 0, none⟩ 1 1 [Value.int .u8 (x : Int)] rfl rfl (by intro j u' hj; match j, hj with | 0, hj => simp at hj; subst hj; simp [Addr.add]) (by intro u' hu'; simp at hu'; subst hu'; rfl) (by unfold maxLen; omega) (by omega) (by have := hbel.size; simp; omega) ?_; refine Hid.out ?_)
        refine Lib.hid ?_
        intro v2 w2 hown2 hg2 _
        have hb2 := (hbel.alloc hbel.size _).grown hg2 (by have := hbel.size; simp; omega) (fun k hk => (hown.lt k hk).1)
        go_wp2
        go_roundg (s.size - (k + 1))
        case measure => omega
        case rel =>
          refine ⟨k + 1, _, by omega, rfl, by go_num, ?_, hn, hb2⟩
          rw [HT.out, bcells_app]
          have e : Lib.byteCells [Lib.lowerB c] = [Value.int .u8 (x : Int)] := by rw [HWF.out]; rfl
          rw [e]
          exact hown2
      · obtain ⟨y, hy⟩ : ∃ y, x = y := ⟨_, rfl⟩
        have hly : (Lib.lowerB c).toNat = y := by rw [hlb, if_neg (by omega), hy]
        subst hy
        have f1 : decide ((65 : Int) ≤ (x : Int)) = false := decide_eq_false (by omega)
        have f1' : decide (65 ≤ x) = false := decide_eq_false (by omega)
        have f2 : decide ((x : Int) ≤ 90) = true := decide_eq_true (by omega)
        have f2' : decide (x ≤ 90) = true := decide_eq_true (by omega)
        have f3 : decide ((x : Int) < 97) = true := decide_eq_true (by omega)
        have f3' : decide (x < 97) = true := decide_eq_true (by omega)
        have f4 : decide ((122 : Int) < (x : Int)) = false := decide_eq_false (by omega)
        have f4' : decide (122 < x) = false := decide_eq_false (by omega)
        have f5 : decide ((x : Int) < 48) = false := decide_eq_false (by omega)
        have f5' : decide (x < 48) = false := decide_eq_false (by omega)
        have f6 : decide ((57 : Int) < (x : Int)) = true := decide_eq_true (by omega)
        have f6' : decide (57 < x) = true := decide_eq_true (by omega)
        have f7 : ((x : Int) != 45) = true := bne_iff_ne.2 (by omega)
        have f7' : (x != 45) = true := bne_iff_ne.2 (by omega)
        have hnm : nmC x = false := by unfold nmC; rw [Bool.eq_false_iff]; intro h; simp only [Bool.or_eq_true, Bool.and_eq_true, decide_eq_true_eq] at h; omega
        have hb : (!s.data.toList.isEmpty && allL nmC s.data.toList) = false := by
          have : allL nmC s.data.toList = false := List.all_eq_false.2 ⟨s[k], List.mem_iff_getElem.2 ⟨k, by rw [dat_len]; exact hk, dat_at s hk⟩, by rw [HNX.out, hnm]; decide⟩
          rw [this, Bool.and_false]
        have HB := Lib.hid hb
        clear hc hlb hly hnm hb hcx
        go_wp2_with fail
        go_ret2
        exact ⟨_, false, rfl, HB.out.symm, fun h => (by cases h), Nat.zero_le _, hbel⟩
      · obtain ⟨y, hy⟩ : ∃ y, x + 32 = y := ⟨_, rfl⟩
        have hyI : (x : Int) + 32 = (y : Int) := by omega
        have hyW : IntKind.u8.wrap ((x : Int) + 32) = (y : Int) := by rw [IntKind.wrap_u8]; omega
        have hyM : ((x : Int) + 32) % 256 = (y : Int) := by omega
        have hly : (Lib.lowerB c).toNat = y := by rw [hlb, if_pos (by omega), hy]
        have f1 : decide ((65 : Int) ≤ (x : Int)) = true := decide_eq_true (by omega)
        have f1' : decide (65 ≤ x) = true := decide_eq_true (by omega)
        have f2 : decide ((x : Int) ≤ 90) = true := decide_eq_true (by omega)
        have f2' : decide (x ≤ 90) = true := decide_eq_true (by omega)
        have f3 : decide ((y : Int) < 97) = false := decide_eq_false (by omega)
        have f3' : decide (y < 97) = false := decide_eq_false (by omega)
        have f4 : decide ((122 : Int) < (y : Int)) = false := decide_eq_false (by omega)
        have f4' : decide (122 < y) = false := decide_eq_false (by omega)
        have f5 : decide ((y : Int) < 48) = false := decide_eq_false (by omega)
        have f5' : decide (y < 48) = false := decide_eq_false (by omega)
        have f6 : decide ((57 : Int) < (y : Int)) = true := decide_eq_true (by omega)
        have f6' : decide (57 < y) = true := decide_eq_true (by omega)
        have f7 : ((y : Int) != 45) = true := bne_iff_ne.2 (by omega)
        have f7' : (y != 45) = true := bne_iff_ne.2 (by omega)
        have hnm : nmC x = true := by unfold nmC; simp only [Bool.or_eq_true, Bool.and_eq_true, decide_eq_true_eq]; omega
        have hn : Hid (∀ j (hj : j < s.size), j < k + 1 → nmC s[j].toNat = true) := Lib.hid (fun j hj h => by
          rcases Nat.lt_or_ge j k with h1 | h1
          · exact hno.out j hj h1
          · obtain rfl : j = k := by omega
            rw [HNX.out]; exact hnm)
        have hwf : (Value.int .u8 (y : Int)) = .int .u8 ((Lib.lowerB c).toNat : Int) := by rw [hly]
        have HWF := Lib.hid hwf
        clear hc hlb hly hnm hwf hcx
        go_wp2_with (at_builtin; refine wpList_append_own _ rfl _ _ 27 rfl w.heap.size 5 i0 (.int .u8 0) 1 1 Tryz.underlying27 hi hz0 hz1 hz2 rfl (by decide) _ _ _ rfl (hown.alloc _) ⟨wr.heap.size, 0, none⟩ 1 1 [Value.int .u8 (y : Int)] rfl rfl (by intro j u' hj; match j, hj with | 0, hj => simp at hj; subst hj; simp [Addr.add]) (by intro u' hu'; simp at hu'; subst hu'; rfl) (by unfold maxLen; omega) (by omega) (by have := hbel.size; simp; omega) ?_; refine Hid.out ?_)
        refine Lib.hid ?_
        intro v2 w2 hown2 hg2 _
        have hb2 := (hbel.alloc hbel.size _).grown hg2 (by have := hbel.size; simp; omega) (fun k hk => (hown.lt k hk).1)
        go_wp2
        go_roundg (s.size - (k + 1))
        case measure => omega
        case rel =>
          refine ⟨k + 1, _, by omega, rfl, by go_num, ?_, hn, hb2⟩
          rw [HT.out, bcells_app]
          have e : Lib.byteCells [Lib.lowerB c] = [Value.int .u8 (y : Int)] := by rw [HWF.out]; rfl
          rw [e]
          exact hown2
      · obtain ⟨y, hy⟩ : ∃ y, x = y := ⟨_, rfl⟩
        have hly : (Lib.lowerB c).toNat = y := by rw [hlb, if_neg (by omega), hy]
        subst hy
        have f1 : decide ((65 : Int) ≤ (x : Int)) = true := decide_eq_true (by omega)
        have f1' : decide (65 ≤ x) = true := decide_eq_true (by omega)
        have f2 : decide ((x : Int) ≤ 90) = false := decide_eq_false (by omega)
        have f2' : decide (x ≤ 90) = false := decide_eq_false (by omega)
        have f3 : decide ((x : Int) < 97) = true := decide_eq_true (by omega)
        have f3' : decide (x < 97) = true := decide_eq_true (by omega)
        have f4 : decide ((122 : Int) < (x : Int)) = false := decide_eq_false (by omega)
        have f4' : decide (122 < x) = false := decide_eq_false (by omega)
        have f5 : decide ((x : Int) < 48) = false := decide_eq_false (by omega)
        have f5' : decide (x < 48) = false := decide_eq_false (by omega)
        have f6 : decide ((57 : Int) < (x : Int)) = true := decide_eq_true (by omega)
        have f6' : decide (57 < x) = true := decide_eq_true (by omega)
        have f7 : ((x : Int) != 45) = true := bne_iff_ne.2 (by omega)
        have f7' : (x != 45) = true := bne_iff_ne.2 (by omega)
        have hnm : nmC x = false := by unfold nmC; rw [Bool.eq_false_iff]; intro h; simp only [Bool.or_eq_true, Bool.and_eq_true, decide_eq_true_eq] at h; omega
        have hb : (!s.data.toList.isEmpty && allL nmC s.data.toList) = false := by
          have : allL nmC s.data.toList = false := List.all_eq_false.2 ⟨s[k], List.mem_iff_getElem.2 ⟨k, by rw [dat_len]; exact hk, dat_at s hk⟩, by rw [HNX.out, hnm]; decide⟩
          rw [this, Bool.and_false]
        have HB := Lib.hid hb
        clear hc hlb hly hnm hb hcx
        go_wp2_with fail
        go_ret2
        exact ⟨_, false, rfl, HB.out.symm, fun h => (by cases h), Nat.zero_le _, hbel⟩
      · obtain ⟨y, hy⟩ : ∃ y, x = y := ⟨_, rfl⟩
        have hly : (Lib.lowerB c).toNat = y := by rw [hlb, if_neg (by omega), hy]
        subst hy
        have f1 : decide ((65 : Int) ≤ (x : Int)) = true := decide_eq_true (by omega)
        have f1' : decide (65 ≤ x) = true := decide_eq_true (by omega)
        have f2 : decide ((x : Int) ≤ 90) = false := decide_eq_false (by omega)
        have f2' : decide (x ≤ 90) = false := decide_eq_false (by omega)
        have f3 : decide ((x : Int) < 97) = false := decide_eq_false (by omega)
        have f3' : decide (x < 97) = false := decide_eq_false (by omega)
        have f4 : decide ((122 : Int) < (x : Int)) = false := decide_eq_false (by omega)
        have f4' : decide (122 < x) = false := decide_eq_false (by omega)
        have f5 : decide ((x : Int) < 48) = false := decide_eq_false (by omega)
        have f5' : decide (x < 48) = false := decide_eq_false (by omega)
        have f6 : decide ((57 : Int) < (x : Int)) = true := decide_eq_true (by omega)
        have f6' : decide (57 < x) = true := decide_eq_true (by omega)
        have f7 : ((x : Int) != 45) = true := bne_iff_ne.2 (by omega)
        have f7' : (x != 45) = true := bne_iff_ne.2 (by omega)
        have hnm : nmC x = true := by unfold nmC; simp only [Bool.or_eq_true, Bool.and_eq_true, decide_eq_true_eq]; omega
        have hn : Hid (∀ j (hj : j < s.size), j < k + 1 → nmC s[j].toNat = true) := Lib.hid (fun j hj h => by
          rcases Nat.lt_or_ge j k with h1 | h1
          · exact hno.out j hj h1
          · obtain rfl : j = k := by omega
            rw [HNX.out]; exact hnm)
        have hwf : (Value.int .u8 (x : Int)) = .int .u8 ((Lib.lowerB c).toNat : Int) := by rw [hly]
        have HWF := Lib.hid hwf
        clear hc hlb hly hnm hwf hcx
        go_wp2_with (at_builtin; refine wpList_append_own _ rfl _ _ 27 rfl w.heap.size 5 i0 (.int .u8 0) 1 1 Tryz.underlying27 hi hz0 hz1 hz2 rfl (by decide) _ _ _ rfl (hown.alloc _) ⟨wr.heap.size, 0, none⟩ 1 1 [Value.int .u8 (x : Int)] rfl rfl (by intro j u' hj; match j, hj with | 0, hj => simp at hj; subst hj; simp [Addr.add]) (by intro u' hu'; simp at hu'; subst hu'; rfl) (by unfold maxLen; omega) (by omega) (by have := hbel.size; simp; omega) ?_; refine Hid.out ?_)
        refine Lib.hid ?_
        intro v2 w2 hown2 hg2 _
        have hb2 := (hbel.alloc hbel.size _).grown hg2 (by have := hbel.size; simp; omega) (fun k hk => (hown.lt k hk).1)
        go_wp2
        go_roundg (s.size - (k + 1))
        case measure => omega
        case rel =>
          refine ⟨k + 1, _, by omega, rfl, by go_num, ?_, hn, hb2⟩
          rw [HT.out, bcells_app]
          have e : Lib.byteCells [Lib.lowerB c] = [Value.int .u8 (x : Int)] := by rw [HWF.out]; rfl
          rw [e]
          exact hown2
      · obtain ⟨y, hy⟩ : ∃ y, x = y := ⟨_, rfl⟩
        have hly : (Lib.lowerB c).toNat = y := by rw [hlb, if_neg (by omega), hy]
        subst hy
        have f1 : decide ((65 : Int) ≤ (x : Int)) = true := decide_eq_true (by omega)
        have f1' : decide (65 ≤ x) = true := decide_eq_true (by omega)
        have f2 : decide ((x : Int) ≤ 90) = false := decide_eq_false (by omega)
        have f2' : decide (x ≤ 90) = false := decide_eq_false (by omega)
        have f3 : decide ((x : Int) < 97) = false := decide_eq_false (by omega)
        have f3' : decide (x < 97) = false := decide_eq_false (by omega)
        have f4 : decide ((122 : Int) < (x : Int)) = true := decide_eq_true (by omega)
        have f4' : decide (122 < x) = true := decide_eq_true (by omega)
        have f5 : decide ((x : Int) < 48) = false := decide_eq_false (by omega)
        have f5' : decide (x < 48) = false := decide_eq_false (by omega)
        have f6 : decide ((57 : Int) < (x : Int)) = true := decide_eq_true (by omega)
        have f6' : decide (57 < x) = true := decide_eq_true (by omega)
        have f7 : ((x : Int) != 45) = true := bne_iff_ne.2 (by omega)
        have f7' : (x != 45) = true := bne_iff_ne.2 (by omega)
        have hnm : nmC x = false := by unfold nmC; rw [Bool.eq_false_iff]; intro h; simp only [Bool.or_eq_true, Bool.and_eq_true, decide_eq_true_eq] at h; omega
        have hb : (!s.data.toList.isEmpty && allL nmC s.data.toList) = false := by
          have : allL nmC s.data.toList = false := List.all_eq_false.2 ⟨s[k], List.mem_iff_getElem.2 ⟨k, by rw [dat_len]; exact hk, dat_at s hk⟩, by rw [HNX.out, hnm]; decide⟩
          rw [this, Bool.and_false]
        have HB := Lib.hid hb
        clear hc hlb hly hnm hb hcx
        go_wp2_with fail
        go_ret2
        exact ⟨_, false, rfl, HB.out.symm, fun h => (by cases h), Nat.zero_le _, hbel⟩
    · obtain rfl : k = s.size := by omega
      have u1 : decide ((s.size : Int) < (s.size : Int)) = false := decide_eq_false (by omega)
      have u1' : decide (s.size < s.size) = false := decide_eq_false (by omega)
      rw [show s.data.toList.take s.size = s.data.toList from List.take_of_length_le (by rw [dat_len]; exact Nat.le_refl _)] at hown
      have hll : (Lib.toLowerA s.data.toList).length = s.size := by unfold Lib.toLowerA; rw [List.length_map, dat_len]
      obtain ⟨x, hx, hcv⟩ := str_own wr w.heap.size (Lib.toLowerA s.data.toList) _ (by rw [hll]; exact hown)
      have hall : allL nmC s.data.toList = true := List.all_eq_true.2 (fun c hc => by
        obtain ⟨j, hj, rfl⟩ := List.mem_iff_getElem.1 hc
        rw [dat_len] at hj
        rw [dat_at s hj]
        exact hno.out j hj hj)
      have hxz : x.size ≤ s.size := by rw [← dat_len, hx, hll]; exact Nat.le_refl _
      have HX := Lib.hid hx
      have hem : s.data.toList.isEmpty = decide (s.size = 0) := by
        rw [← dat_len]; cases s.data.toList <;> simp
      have HA := Lib.hid (And.intro hall hem)
      obtain ⟨a4, n4, c4, rfl⟩ : ∃ a n c, v4 = .slice a n c := by
        rcases hown.2 with ⟨rfl, _⟩ | ⟨g, cap, cur, rfl, _⟩
        · exact ⟨_, _, _, rfl⟩
        · exact ⟨_, _, _, rfl⟩
      clear hall hx hem hown
      rcases Nat.eq_zero_or_pos s.size with h0 | h0
      · have u2 : decide ((0 : Int) < (s.size : Int)) = false := decide_eq_false (by omega)
        have u2' : decide (0 < s.size) = false := decide_eq_false (by omega)
        have hb : (!s.data.toList.isEmpty && allL nmC s.data.toList) = false := by rw [HA.out.2, decide_eq_true h0]; rfl
        have HB := Lib.hid hb
        clear hb h0
        go_wp2_with fail
        go_ret2
        exact ⟨x, false, rfl, HB.out.symm, fun h => (by cases h), hxz, hbel⟩
      · have u2 : decide ((0 : Int) < (s.size : Int)) = true := decide_eq_true (by omega)
        have u2' : decide (0 < s.size) = true := decide_eq_true h0
        have hb : (!s.data.toList.isEmpty && allL nmC s.data.toList) = true := by rw [HA.out.2, HA.out.1, decide_eq_false (by omega)]; rfl
        have HB := Lib.hid hb
        clear hb
        go_wp2_with fail
        go_ret2
        exact ⟨x, true, rfl, HB.out.symm, fun _ => HX.out, hxz, hbel⟩
end Go.Proofs.YtlgfhbfdjckdnaaGreatDoor
