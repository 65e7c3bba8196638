/- The document's length (seat wirez). -/
import Derived.Test.YtlgfhbfdjckdnaaGreatDoorWireRLower
import Derived.Test.YtlgfhbfdjckdnaaGreatDoorWireLen
set_option maxRecDepth 100000
namespace Go.Proofs.YtlgfhbfdjckdnaaGreatDoor
open Go.RowKit

/-- The document's head under way: a block of nine cells. -/
abbrev RhB (w : World) (ph : Nat) (m p k b : ByteArray) (sz : Int) (L K H M : Bool) : Prop := w.heap[ph]? = some (.cells #[.string m, .string p, .string k, .string b, .int .i64 sz, .bool L, .bool K, .bool H, .bool M] 62)
theorem rh_size {W : World} {ph : Nat} {m0 p0 k0 b0 : ByteArray} {sz : Int} {L K H M : Bool} (h : RhB W ph m0 p0 k0 b0 sz L K H M) (n : Int) : RhB (W.setCell ⟨ph, 4, none⟩ (.int .i64 n)) ph m0 p0 k0 b0 n L K H M := set_selfH _ h
theorem valD_take {l : List UInt8} {k : Nat} (h : k < l.length) : valD (l.take (k + 1)) = valD (l.take k) * 10 + (l[k].toNat - 48) := by
  rw [List.take_succ_eq_append_getElem h, valD_app]
theorem lead_zero {s : ByteArray} (h : 0 < s.size) : (s.data.toList.getD 0 0) = s[0] := by
  rw [List.getD_eq_getElem?_getD, List.getElem?_eq_getElem (by rw [dat_len]; exact h), dat_at s h]; rfl
theorem one_zero {s : ByteArray} (h : 0 < s.size) (h0 : s[0].toNat = 48) (h1 : s.size ≤ 1) : s.data.toList = [48] := by
  have hl : s.data.toList.length = 1 := by rw [dat_len]; omega
  obtain ⟨c, hc⟩ := List.length_eq_one_iff.1 hl
  have : s.data.toList[0]'(by omega) = s[0] := dat_at s h
  rw [hc]
  have e : c = s[0] := by rw [← this]; simp [hc]
  rw [e, byte_eq (a := s[0]) (b := 48) h0]

set_option maxHeartbeats 4000000 in
theorem rlength_any (w : World) (s : ByteArray) (hs : s.size ≤ 300000) (ph : Nat) (m0 p0 k0 b0 : ByteArray) (sz : Int) (L K H M : Bool) (hb : RhB w ph m0 p0 k0 b0 sz L K H M) :
    Calls Tryz.prog 60 #[.pointer (some ⟨ph, 0, none⟩), .string s] w fun e w' => e = .returned (.int .i64 (lengthS s.data.toList).1) ∧ Frm [some ph] w w' ∧
      ((lengthS s.data.toList).1 = 0 → RhB w' ph m0 p0 k0 b0 ((lengthS s.data.toList).2 : Int) L K H M) := by
  have e4 : w.cell? ⟨ph, 4, none⟩ = some (.int .i64 sz) := cell_of_block hb 4
  have f4 := free_of_block hb 4
  have HB := Lib.hid hb
  clear hb
  by_cases h0 : s.size = 0
  · have hf : Hid (lengthS s.data.toList = (400, 0)) := by
      refine Lib.hid ?_
      unfold lengthS
      rw [if_pos (.inl (List.eq_nil_of_length_eq_zero (by rw [dat_len]; exact h0)))]
    have u1 : ((s.size : Int) == 0) = true := beq_iff_eq.2 (by omega)
    have u1' : (s.size == 0) = true := beq_iff_eq.2 h0
    clear h0
    go_enter Tryz.func60, Tryz.ntmps60
    go_wp2_with fail
    go_ret
    rw [hf.out]
    exact ⟨rfl, .refl _ _, fun h => by cases h⟩
  · have hpos : 0 < s.size := by omega
    have hel := lead_zero hpos
    have hx0 : s[0].toNat < 256 := s[0].toNat_lt
    have hne : s.data.toList ≠ [] := fun e => h0 (by rw [← dat_len, e]; rfl)
    have u1 : ((s.size : Int) == 0) = false := beq_eq_false_iff_ne.2 (by omega)
    have u1' : (s.size == 0) = false := beq_eq_false_iff_ne.2 h0
    by_cases hz : 1 < s.size ∧ s[0].toNat = 48
    · have hf : Hid (lengthS s.data.toList = (400, 0)) := by
        refine Lib.hid ?_
        unfold lengthS
        rw [if_pos (.inr (.inr ⟨by rw [hel]; exact hz.2, fun e => by have := dat_len s; rw [e] at this; simp at this; omega⟩))]
      have u2 : decide ((1 : Int) < (s.size : Int)) = true := decide_eq_true (by omega)
      have u2' : decide (1 < s.size) = true := decide_eq_true hz.1
      have u3 : ((s[0].toNat : Int) == 48) = true := beq_iff_eq.2 (by omega)
      have u3' : (s[0].toNat == 48) = true := beq_iff_eq.2 hz.2
      clear h0 hz hel
      go_enter Tryz.func60, Tryz.ntmps60
      go_wp2_with fail
      go_ret
      rw [hf.out]
      exact ⟨rfl, .refl _ _, fun h => by cases h⟩
    · have hl : allL digC s.data.toList = true → lengthS s.data.toList = if 65536 < valD s.data.toList then (413, 0) else (0, valD s.data.toList) := by
        intro hd
        unfold lengthS
        rw [if_neg (by
          rintro (h | h | h)
          · exact hne h
          · rw [hd] at h; cases h
          · rw [hel] at h
            rcases Nat.lt_or_ge 1 s.size with h1 | h1
            · exact hz ⟨h1, h.1⟩
            · exact h.2 (one_zero hpos h.1 h1))]
      have hlb : allL digC s.data.toList = false → lengthS s.data.toList = (400, 0) := by
        intro hd
        unfold lengthS
        rw [if_pos (.inr (.inl hd))]
      have HL := Lib.hid (And.intro hl hlb)
      have hor : decide ((1 : Int) < (s.size : Int)) = false ∧ decide (1 < s.size) = false ∨ decide ((1 : Int) < (s.size : Int)) = true ∧ decide (1 < s.size) = true ∧ ((s[0].toNat : Int) == 48) = false ∧ (s[0].toNat == 48) = false := by
        rcases Nat.lt_or_ge 1 s.size with h1 | h1
        · exact .inr ⟨decide_eq_true (by omega), decide_eq_true h1, beq_eq_false_iff_ne.2 (fun e => hz ⟨h1, by omega⟩), beq_eq_false_iff_ne.2 (fun e => hz ⟨h1, e⟩)⟩
        · exact .inl ⟨decide_eq_false (by omega), decide_eq_false (by omega)⟩
      clear h0 hz hel hl hlb hne
      rcases hor with ⟨u2, u2'⟩ | ⟨u2, u2', u3, u3'⟩
      all_goals
        go_enter Tryz.func60, Tryz.ntmps60
        go_wp2_with fail
        go_loopg [5, 6] s.size (fun g s5 s6 wr => ∃ (k n : Nat), k + g = s.size ∧ s6 = .int .i64 (k : Int) ∧ s5 = .int .i64 (n : Int) ∧ Hid (n = min 100000 (valD (s.data.toList.take k))) ∧ n ≤ 100000 ∧ Hid (∀ j (hj : j < s.size), j < k → digC s[j].toNat = true) ∧ w = wr)
        case atStart => exact ⟨0, 0, by omega, rfl, rfl, Lib.hid (by rw [List.take_zero]; rfl), by omega, Lib.hid (fun j _ h => by omega), rfl⟩
        case round =>
          obtain ⟨k, n, hkg, rfl, rfl, HN, hn, hno, rfl⟩ := hrel
          by_cases hk : k < s.size
          · have hx : s[k].toNat < 256 := s[k].toNat_lt
            have v1 : decide ((k : Int) < (s.size : Int)) = true := decide_eq_true (by omega)
            have v1' : decide (k < s.size) = true := decide_eq_true hk
            have hbad : ¬ (48 ≤ s[k].toNat ∧ s[k].toNat ≤ 57) → lengthS s.data.toList = (400, 0) := fun h => HL.out.2 (List.all_eq_false.2 ⟨s[k], List.mem_iff_getElem.2 ⟨k, by rw [dat_len]; exact hk, dat_at s hk⟩, by
              unfold digC; simp only [Bool.and_eq_true, decide_eq_true_eq]; exact h⟩)
            by_cases h1 : s[k].toNat < 48
            · have f1 : decide ((s[k].toNat : Int) < 48) = true := decide_eq_true (by omega)
              have f1' : decide (s[k].toNat < 48) = true := decide_eq_true h1
              have hf := Lib.hid (hbad (by omega))
              clear h1 hbad
              go_wp2_with fail
              go_ret
              rw [hf.out]
              exact ⟨rfl, .refl _ _, fun h => by cases h⟩
            · have f1 : decide ((s[k].toNat : Int) < 48) = false := decide_eq_false (by omega)
              have f1' : decide (s[k].toNat < 48) = false := decide_eq_false h1
              by_cases h2 : 57 < s[k].toNat
              · have f2 : decide (57 < (s[k].toNat : Int)) = true := decide_eq_true (by omega)
                have f2' : decide (57 < s[k].toNat) = true := decide_eq_true h2
                have hf := Lib.hid (hbad (by omega))
                clear h1 h2 hbad
                go_wp2_with fail
                go_ret
                rw [hf.out]
                exact ⟨rfl, .refl _ _, fun h => by cases h⟩
              · have f2 : decide (57 < (s[k].toNat : Int)) = false := decide_eq_false (by omega)
                have f2' : decide (57 < s[k].toNat) = false := decide_eq_false h2
                have hn2 : Hid (∀ j (hj : j < s.size), j < k + 1 → digC s[j].toNat = true) := Lib.hid (fun j hj h => by
                  rcases Nat.lt_or_ge j k with h3 | h3
                  · exact hno.out j hj h3
                  · obtain rfl : j = k := by omega
                    unfold digC; simp only [Bool.and_eq_true, decide_eq_true_eq]; omega)
                have hvt := valD_take (l := s.data.toList) (k := k) (by rw [dat_len]; exact hk)
                rw [dat_at s hk] at hvt
                obtain ⟨y, hy⟩ : ∃ y, s[k].toNat - 48 = y := ⟨_, rfl⟩
                have hy9 : y ≤ 9 := by omega
                have q1 : IntKind.u8.wrap ((s[k].toNat : Int) - 48) = (y : Int) := by rw [IntKind.wrap_u8]; omega
                have q2 : (s[k].toNat : Int) - 48 = (y : Int) := by omega
                obtain ⟨z, hz⟩ : ∃ z, min 100000 (10 * n + y) = z := ⟨_, rfl⟩
                have q3 : min (100000 : Int) (10 * (n : Int) + (y : Int)) = (z : Int) := by omega
                have hz9 : z ≤ 100000 := by omega
                have HZ : Hid (z = min 100000 (valD (s.data.toList.take (k + 1)))) := Lib.hid (by rw [hvt, hy, ← hz, HN.out]; omega)
                clear hy hz hvt h1 h2 hbad
                go_wp2_with fail
                go_roundg (s.size - (k + 1))
                case measure => omega
                case rel => exact ⟨k + 1, z, by omega, by go_num, by first | rfl | exact congrArg (Value.int .i64) q3, HZ, hz9, hn2, rfl⟩
          · have v1 : decide ((k : Int) < (s.size : Int)) = false := decide_eq_false (by omega)
            have v1' : decide (k < s.size) = false := decide_eq_false hk
            have hd : allL digC s.data.toList = true := List.all_eq_true.2 (fun c hc => by
              obtain ⟨j, hj, rfl⟩ := List.mem_iff_getElem.1 hc
              rw [dat_len] at hj
              rw [dat_at s hj]
              exact hno.out j hj (by omega))
            have hl := HL.out.1 hd
            have hN := HN.out
            rw [List.take_of_length_le (by rw [dat_len]; omega)] at hN
            by_cases hbig : 65536 < valD s.data.toList
            · rw [if_pos hbig] at hl
              have v2 : decide ((65536 : Int) < (n : Int)) = true := decide_eq_true (by omega)
              have v2' : decide (65536 < n) = true := decide_eq_true (by omega)
              have hf := Lib.hid hl
              clear hl hN hd hbig
              go_wp2_with fail
              go_ret
              rw [hf.out]
              exact ⟨rfl, .refl _ _, fun h => by cases h⟩
            · rw [if_neg hbig] at hl
              have v2 : decide ((65536 : Int) < (n : Int)) = false := decide_eq_false (by omega)
              have v2' : decide (65536 < n) = false := decide_eq_false (by omega)
              have hnv : n = valD s.data.toList := by omega
              rw [← hnv] at hl
              have hf := Lib.hid hl
              clear hl hN hd hbig hnv
              go_wp2_with fail
              go_ret
              rw [hf.out]
              exact ⟨rfl, (Frm.refl _ _).set _ (by simp), fun _ => rh_size HB.out _⟩
end Go.Proofs.YtlgfhbfdjckdnaaGreatDoor
