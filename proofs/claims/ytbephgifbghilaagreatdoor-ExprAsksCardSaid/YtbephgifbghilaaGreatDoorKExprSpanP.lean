/- Of ExprSpanP: what XFAs uses (shake.py). -/
import Derived.Test.YtbephgifbghilaaGreatDoorKExprParseP
import Derived.Shelf.GgClosure.StringsIndexFunc
/- How many bytes from the beginning are so, through strings.IndexFunc's runes (plain; seat expr). -/
set_option maxRecDepth 100000
namespace Go.Proofs.YtbephgifbghilaaGreatDoor
open Go.Lib
theorem dec_lo (s : ByteArray) (i : Nat) (h : (s.get! i).toNat < 128) : Utf8.decode s i = ((s.get! i).toNat, 1) := by
  unfold Utf8.decode
  simp only [Nat.add_zero]
  rw [if_pos h]
theorem dec_hi (s : ByteArray) (i : Nat) (h : 128 ≤ (s.get! i).toNat) : 127 < (Utf8.decode s i).1 := by
  have hr : Utf8.runeError = 65533 := rfl
  unfold Utf8.decode
  simp only [Nat.add_zero]
  rw [if_neg (by omega)]
  split
  · split <;> simp only <;> omega
  · split
    · split
      · next h2 =>
        simp only [Bool.and_eq_true, decide_eq_true_eq] at h2
        simp only
        omega
      · simp only; omega
    · split
      · split
        · next h2 =>
          simp only [Bool.and_eq_true, decide_eq_true_eq] at h2
          simp only
          omega
        · simp only; omega
      · simp only; omega
def spanP (p : Nat → Bool) (x : Nat) : Bool := decide (127 < x) || !p x
theorem spanE_idx (p : Nat → Bool) (hp : ∀ x, 127 < x → p x = false) (s : ByteArray) : ∀ (f i : Nat), s.size ≤ i + f → i ≤ s.size →
    idxFuncFrom (spanP p) true s f i = if i + spanE p (s.data.toList.drop i) < s.size then ((i + spanE p (s.data.toList.drop i) : Nat) : Int) else -1
  | 0, i, h1, h2 => by
    have hl : s.data.toList.length = s.size := by rw [Array.length_toList]; rfl
    rw [List.drop_eq_nil_of_le (by omega)]
    rw [if_neg (by simp only [spanE]; omega)]
    rfl
  | f + 1, i, h1, h2 => by
    have hl : s.data.toList.length = s.size := by rw [Array.length_toList]; rfl
    unfold idxFuncFrom
    by_cases hi : i < s.size
    · rw [if_pos hi]
      have hg : s.get! i = s.data.toList[i]'(by omega) := by
        show s.data.get!Internal i = _
        simp [Array.get!Internal, hi]
      rw [List.drop_eq_getElem_cons (by omega : i < s.data.toList.length), ← hg]
      unfold spanE
      by_cases hlo : (s.get! i).toNat < 128
      · rw [dec_lo s i hlo]
        by_cases hq : p (s.get! i).toNat = true
        · have e : spanP p (s.get! i).toNat = false := by unfold spanP; rw [hq, decide_eq_false (by omega)]; rfl
          rw [if_neg (by rw [e]; decide), if_pos hq, spanE_idx p hp s f (i + 1) (by omega) (by omega), show i + (spanE p (List.drop (i + 1) s.data.toList) + 1) = i + 1 + spanE p (List.drop (i + 1) s.data.toList) by omega]
        · rw [Bool.not_eq_true] at hq
          have e : spanP p (s.get! i).toNat = true := by unfold spanP; rw [hq]; simp
          rw [if_pos e, hq]
          simp [hi]
      · have h3 := dec_hi s i (by omega)
        have e : spanP p (Utf8.decode s i).1 = true := by unfold spanP; rw [decide_eq_true h3]; rfl
        rw [if_pos e, hp _ (by omega)]
        simp [hi]
    · rw [if_neg hi, List.drop_eq_nil_of_le (by omega), if_neg (by simp only [spanE]; omega)]
theorem spanE_le (p : Nat → Bool) : ∀ l : List UInt8, spanE p l ≤ l.length
  | [] => Nat.le_refl _
  | c :: r => by
    unfold spanE
    split
    · have := spanE_le p r; simp only [List.length_cons]; omega
    · exact Nat.zero_le _
end Go.Proofs.YtbephgifbghilaaGreatDoor
