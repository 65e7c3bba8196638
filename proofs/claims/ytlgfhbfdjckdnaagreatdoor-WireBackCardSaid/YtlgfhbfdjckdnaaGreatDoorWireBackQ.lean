/- What is written, as bytes; what is told of a response's bytes (seat wirez). -/
import Derived.Test.YtlgfhbfdjckdnaaGreatDoorWireBackP
import Derived.Test.YtlgfhbfdjckdnaaGreatDoorWireEndsQ
import Derived.Test.YtlgfhbfdjckdnaaGreatDoorWireAns3
import Derived.Test.YtlgfhbfdjckdnaaGreatDoorWireTold
set_option maxRecDepth 100000
namespace Go.Proofs.YtlgfhbfdjckdnaaGreatDoor
open Go.Lib

theorem siz_dat (s : ByteArray) : s.data.toList.length = s.size := by rw [Array.length_toList]; rfl
theorem writeB_list (m p k b : ByteArray) : (writeB m p k b).data.toList = writeL m.data.toList p.data.toList k.data.toList b.data.toList := by
  have hn : numB b.size = numB ((b.data.toList.length : Nat) : Int) := by rw [siz_dat]
  unfold writeB writeL headLines
  by_cases hk : k.size = 0
  · have hk2 : k.data.toList = [] := List.eq_nil_of_length_eq_zero (by rw [siz_dat]; exact hk)
    rw [if_pos hk, if_pos hk2, hn]
    simp only [app_list, numB_list, joinC, firstLine, List.append_assoc]
    rfl
  · have hk2 : k.data.toList ≠ [] := fun e => hk (by rw [← siz_dat, e]; rfl)
    rw [if_neg hk, if_neg hk2, hn]
    simp only [app_list, numB_list, joinC, firstLine, List.append_assoc]
    rfl
theorem may_parts {m p k b : ByteArray} (h : mayB m p k b = true) : methodL m.data.toList = true ∧ pathL p.data.toList = true ∧ KeyOk k.data.toList ∧ b.data.toList.length ≤ 65536 ∧ (writeB m p k b).size ≤ 4096 + b.size := by
  unfold mayB at h
  simp only [Bool.and_eq_true, decide_eq_true_eq] at h
  obtain ⟨⟨⟨⟨h1, h2⟩, h3⟩, h4⟩, h5⟩ := h
  rw [methodB_list] at h1
  rw [pathB_list] at h2
  have hK : KeyOk k.data.toList := ⟨by rw [siz_dat]; exact h3, h4⟩
  have hb : b.data.toList.length ≤ 65536 := by rw [siz_dat]; exact h5
  refine ⟨h1, h2, hK, hb, ?_⟩
  have := (lines_ok (n := b.data.toList.length) h1 h2 hK hb).2.2
  rw [← siz_dat, writeB_list]
  unfold writeL
  rw [List.length_append, List.length_append, show ends4.length = 4 from rfl, siz_dat]
  rw [siz_dat] at this
  omega
theorem answerB_list (st : Int) (b : ByteArray) : (answerB st b).data.toList = aheadL st ((b.data.toList.length : Nat) : Int) ++ b.data.toList := by
  unfold answerB aheadB
  rw [app_list, siz_dat]
theorem extract_mid (c : ByteArray) (x y z : List UInt8) (h : c.data.toList = x ++ y ++ z) (b : ByteArray) (hb : b.data.toList = y) : c.extract x.length (x.length + b.size) = b := by
  refine bytes_ext ?_
  rw [extract_list, h, List.append_assoc, List.drop_left, show x.length + b.size - x.length = b.size by omega, hb, ← siz_dat, hb, List.take_left]
theorem told_yes {c : ByteArray} {yes no r : Value} {st : Int} {b : ByteArray} {t : List UInt8} (h : ToldV c yes no r) (hc : c.data.toList = aheadL st ((b.data.toList.length : Nat) : Int) ++ b.data.toList ++ t) (hw : wordL st ≠ []) :
    r = .tuple #[.agg #[.int .i64 st, .string b], .int .i64 ((answerB st b).size : Int), yes] := by
  have hI : ToldIs c.data.toList st ((b.data.toList.length : Nat) : Int) := by rw [hc]; exact told_back st _ t hw
  have hsz : (answerB st b).size = (aheadL st ((b.data.toList.length : Nat) : Int)).length + b.size := by rw [← siz_dat, answerB_list, List.length_append, siz_dat]
  rcases h with ⟨st', n', hI', rfl⟩ | ⟨hno, _⟩
  · obtain ⟨rfl, rfl⟩ := told_uniq hI hI'
    rw [hsz, Int.toNat_natCast]
    have := extract_mid c _ _ _ hc b rfl
    rw [siz_dat] at this ⊢
    rw [this]
  · exact absurd hI (hno _ _)
theorem told_non {c : ByteArray} {yes no r : Value} {st : Int} {b : ByteArray} (h : ToldV c yes no r) (hc : c.data.toList = (answerB st b).data.toList.take ((answerB st b).size - 1)) (hw : wordL st ≠ []) :
    r = .tuple #[.agg #[.int .i64 0, .string ⟨#[]⟩], .int .i64 0, no] := by
  rcases h with ⟨st', n', hI', rfl⟩ | ⟨_, h⟩
  · exfalso
    rw [hc, ← siz_dat, answerB_list] at hI'
    exact told_short st _ hw st' n' hI'
  · exact h
end Go.Proofs.YtlgfhbfdjckdnaaGreatDoor
