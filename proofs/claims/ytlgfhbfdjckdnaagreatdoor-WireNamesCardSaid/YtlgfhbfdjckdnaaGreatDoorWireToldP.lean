/- Told, plain: what the program's way and the document's come to (seat wire). -/
import Derived.Test.YtlgfhbfdjckdnaaGreatDoorWireP
import Derived.Lib.IndexMore
set_option maxRecDepth 100000
namespace Go.Proofs.YtlgfhbfdjckdnaaGreatDoor
open Go.Lib

theorem firstAt_le {sub s : List UInt8} {i : Nat} (h : FirstAt sub s i) (hne : sub ≠ []) : i ≤ s.length := by
  have h1 := h.1.length_le
  rw [List.length_drop] at h1
  have h2 : 0 < sub.length := List.length_pos_iff.2 hne
  omega
theorem firstAt_index {sub s : List UInt8} {i : Nat} (h : FirstAt sub s i) (hne : sub ≠ []) : index s sub = i :=
  index_first (firstAt_le h hne) (List.isPrefixOf_iff_prefix.2 h.1) (fun j hj => by
    cases hb : occAt s sub j with
    | false => rfl
    | true => exact absurd (List.isPrefixOf_iff_prefix.1 hb) (h.2 j hj))
theorem sts_of_word {st : Int} (h : wordL st ≠ []) : st ∈ stsL := by
  unfold wordL at h
  unfold stsL
  simp only [List.mem_cons]
  by_cases h1 : st = 200
  · exact .inl h1
  rw [if_neg h1] at h
  by_cases h2 : st = 201
  · exact .inr (.inl h2)
  rw [if_neg h2] at h
  by_cases h3 : st = 400
  · exact .inr (.inr (.inl h3))
  rw [if_neg h3] at h
  by_cases h4 : st = 404
  · exact .inr (.inr (.inr (.inl h4)))
  rw [if_neg h4] at h
  by_cases h5 : st = 405
  · exact .inr (.inr (.inr (.inr (.inl h5))))
  rw [if_neg h5] at h
  by_cases h6 : st = 409
  · exact .inr (.inr (.inr (.inr (.inr (.inl h6)))))
  rw [if_neg h6] at h
  by_cases h7 : st = 413
  · exact .inr (.inr (.inr (.inr (.inr (.inr (.inl h7))))))
  rw [if_neg h7] at h
  by_cases h8 : st = 422
  · exact .inr (.inr (.inr (.inr (.inr (.inr (.inr (.inl h8)))))))
  rw [if_neg h8] at h
  by_cases h9 : st = 431
  · exact .inr (.inr (.inr (.inr (.inr (.inr (.inr (.inr (.inl h9))))))))
  rw [if_neg h9] at h
  by_cases h10 : st = 500
  · exact .inr (.inr (.inr (.inr (.inr (.inr (.inr (.inr (.inr (.inl h10)))))))))
  rw [if_neg h10] at h
  by_cases h11 : st = 501
  · exact .inr (.inr (.inr (.inr (.inr (.inr (.inr (.inr (.inr (.inr (.inl h11))))))))))
  rw [if_neg h11] at h
  by_cases h12 : st = 503
  · exact .inr (.inr (.inr (.inr (.inr (.inr (.inr (.inr (.inr (.inr (.inr (.inl h12)))))))))))
  rw [if_neg h12] at h
  by_cases h13 : st = 505
  · exact .inr (.inr (.inr (.inr (.inr (.inr (.inr (.inr (.inr (.inr (.inr (.inr (.inl h13))))))))))))
  rw [if_neg h13] at h
  by_cases h14 : st = 507
  · exact .inr (.inr (.inr (.inr (.inr (.inr (.inr (.inr (.inr (.inr (.inr (.inr (.inr (.inl h14)))))))))))))
  rw [if_neg h14] at h
  exact absurd rfl h
theorem stsL_rng : ∀ st ∈ stsL, 200 ≤ st ∧ st ≤ 507 := by decide
theorem word_of_sts : ∀ st ∈ stsL, wordL st ≠ [] := by decide
theorem cut_first {s sep : List UInt8} {i : Nat} (h : FirstAt sep s i) (hne : sep ≠ []) : (cut s sep).1 = s.take i := by
  unfold cut
  rw [firstAt_index h hne, if_pos (by omega)]
  show s.take (i : Int).toNat = _
  rw [Int.toNat_natCast]
/-- The program's way: what it reads of a text that begins with a response. -/
theorem told_all {s : List UInt8} {st n : Int} (h : ToldIs s st n) (hs : s.length ≤ 300000) :
    index s clenL = ((13 + (wordL st).length : Nat) : Int) ∧ 13 + (wordL st).length ≤ 44 ∧ parseW ((s.drop 9).take 3) = some st ∧ parseW (cut (s.drop (31 + (wordL st).length)) [13, 10]).1 = some n ∧ n ≤ s.length := by
  obtain ⟨h1, h2⟩ := told_digits h
  have hw := wordL_sts h.1
  have hr := stsL_rng st (sts_of_word h.1)
  have hn : n.toNat ≤ s.length := by have := h.2.2.2; omega
  have hn0 := h.2.1
  refine ⟨firstAt_index (told_index h) (by decide), by omega, ?_, ?_, by omega⟩
  · rw [told_status h]
    exact parseW_iff.2 ⟨by unfold I64n; omega, rfl⟩
  · rw [cut_first h1 (by decide), h2]
    exact parseW_iff.2 ⟨by unfold I64n; omega, rfl⟩
/-- The document's way: behind a lead, the digits, the rest. -/
theorem told_way {s : List UInt8} {st st' n : Int} {m : Nat} (h : ToldIs s st n) (hs : s.length ≤ 300000) (hw : wordL st' ≠ []) (hp : leadL st' <+: s)
    (h1 : ∀ x ∈ (s.drop (31 + (wordL st').length)).take m, isDig x) (h2 : ∀ q : m < (s.drop (31 + (wordL st').length)).length, ¬ isDig (s.drop (31 + (wordL st').length))[m]) :
    st' = st ∧ parseW ((s.drop (31 + (wordL st').length)).take m) = some n ∧ n ≤ s.length ∧ (s.drop (31 + (wordL st').length)).take m = itoa n := by
  obtain rfl := told_lead h hw hp
  have hn : n.toNat ≤ s.length := by have := h.2.2.2; omega
  have hn0 := h.2.1
  have e := told_run h h1 h2
  refine ⟨rfl, ?_, by omega, e⟩
  rw [e]
  exact parseW_iff.2 ⟨by unfold I64n; omega, rfl⟩
end Go.Proofs.YtlgfhbfdjckdnaaGreatDoor
