/- What is told of bytes, piece by piece (wire; plain). -/
import Derived.Test.YtlgfhbfdjckdnaaGreatDoorWireHeadP
set_option maxRecDepth 100000
namespace Go.Proofs.YtlgfhbfdjckdnaaGreatDoor
open Go.Lib

theorem index_app {s sub t : List UInt8} {e : Nat} (h : index s sub = (e : Int)) : index (s ++ t) sub = (e : Int) := by
  rcases index_spec s sub with ⟨h1, _⟩ | ⟨i, h1, h2, h3, h4⟩
  · rw [h1] at h; omega
  · have hr := index_room s sub (by omega)
    obtain rfl : i = e := by omega
    refine index_first (by rw [List.length_append]; omega) ?_ (fun j hj => ?_)
    · unfold occAt at h3 ⊢
      rw [List.drop_append_of_le_length h2]
      exact List.isPrefixOf_iff_prefix.2 ((List.isPrefixOf_iff_prefix.1 h3).trans (List.prefix_append _ _))
    · have h5 := h4 j hj
      cases hb : occAt (s ++ t) sub j with
      | false => rfl
      | true =>
        exfalso
        unfold occAt at hb h5
        rw [List.drop_append_of_le_length (by omega)] at hb
        have h6 := List.prefix_of_prefix_length_le (List.isPrefixOf_iff_prefix.1 hb) (List.prefix_append (s.drop j) t) (by rw [List.length_drop]; omega)
        rw [List.isPrefixOf_iff_prefix.2 h6] at h5
        cases h5
theorem ends_pos (l : List UInt8) (h : ¬ index (l.take 4096) ends4 < 0) : ∃ e : Nat, index (l.take 4096) ends4 = e ∧ e + 4 ≤ l.length ∧ e + 4 ≤ 4096 := by
  refine ⟨(index (l.take 4096) ends4).toNat, by omega, ?_, ?_⟩
  all_goals
    have hr := index_room (l.take 4096) ends4 (by omega)
    have h4 : (ends4.length : Int) = 4 := rfl
    rw [List.length_take] at hr
    omega
/-- What next tells of more bytes. -/
theorem nextS_more (l x : List UInt8) : match nextS l with
    | .wait => True
    | .refuse st => nextS (l ++ x) = .refuse st
    | .got g rest => nextS (l ++ x) = .got g (rest ++ x) ∧ rest.length + 4 ≤ l.length := by
  by_cases hneg : index (l.take 4096) ends4 < 0
  · by_cases hfull : 4096 ≤ l.length
    · have e1 : nextS l = .refuse 431 := by unfold nextS; rw [if_pos hneg, if_pos hfull]
      rw [e1]
      show nextS (l ++ x) = .refuse 431
      unfold nextS
      rw [List.take_append_of_le_length hfull, if_pos hneg, if_pos (by rw [List.length_append]; omega)]
    · have e1 : nextS l = .wait := by unfold nextS; rw [if_pos hneg, if_neg hfull]
      rw [e1]; trivial
  · obtain ⟨e, he, he1, he2⟩ := ends_pos l hneg
    have hx : index ((l ++ x).take 4096) ends4 = (e : Int) := by
      rw [List.take_append]
      exact index_app he
    have htk : (l ++ x).take e = l.take e := List.take_append_of_le_length (by omega)
    have n1 : nextS l = if (headS (l.take e)).1 ≠ 0 then .refuse (headS (l.take e)).1 else if l.length < e + 4 + (headS (l.take e)).2.2.2.2 then .wait else
        .got ⟨bytesL (headS (l.take e)).2.1, bytesL (headS (l.take e)).2.2.1, bytesL (headS (l.take e)).2.2.2.1, bytesL ((l.drop (e + 4)).take (headS (l.take e)).2.2.2.2), 0⟩ (l.drop (e + 4 + (headS (l.take e)).2.2.2.2)) := by
      unfold nextS
      rw [if_neg hneg]
      simp only [he, Int.toNat_natCast]
    have n2 : nextS (l ++ x) = if (headS (l.take e)).1 ≠ 0 then .refuse (headS (l.take e)).1 else if (l ++ x).length < e + 4 + (headS (l.take e)).2.2.2.2 then .wait else
        .got ⟨bytesL (headS (l.take e)).2.1, bytesL (headS (l.take e)).2.2.1, bytesL (headS (l.take e)).2.2.2.1, bytesL (((l ++ x).drop (e + 4)).take (headS (l.take e)).2.2.2.2), 0⟩ ((l ++ x).drop (e + 4 + (headS (l.take e)).2.2.2.2)) := by
      unfold nextS
      rw [hx, if_neg (by omega)]
      simp only [Int.toNat_natCast, htk]
    obtain ⟨h, hh⟩ : ∃ h, headS (l.take e) = h := ⟨_, rfl⟩
    rw [hh] at n1 n2
    rw [n1, n2]
    by_cases h0 : h.1 ≠ 0
    · rw [if_pos h0, if_pos h0]
    · rw [if_neg h0, if_neg h0]
      by_cases hs : l.length < e + 4 + h.2.2.2.2
      · rw [if_pos hs]; trivial
      · rw [if_neg hs, if_neg (by rw [List.length_append]; omega)]
        refine ⟨?_, by rw [List.length_drop]; omega⟩
        rw [List.drop_append_of_le_length (by omega), List.drop_append_of_le_length (by omega), List.take_append_of_le_length (by rw [List.length_drop]; omega)]
theorem readS_fuel : ∀ (n m : Nat) (l : List UInt8), l.length < n → l.length < m → readS n l = readS m l
  | 0, _, _, h, _ => by omega
  | _, 0, _, _, h => by omega
  | n + 1, m + 1, l, hn, hm => by
    unfold readS
    have h := nextS_more l []
    cases e : nextS l with
    | wait => rfl
    | refuse st => rfl
    | got g rest =>
      rw [e] at h
      have h2 : rest.length + 4 ≤ l.length := h.2
      simp only
      rw [readS_fuel n m rest (by omega) (by omega)]
theorem feedS_eq (l : List UInt8) : feedS l = match nextS l with
    | .wait => ([], l, false)
    | .refuse st => ([refG st], [], true)
    | .got g rest => (g :: (feedS rest).1, (feedS rest).2) := by
  conv => lhs; unfold feedS readS
  have h := nextS_more l []
  cases e : nextS l with
  | wait => rfl
  | refuse st => rfl
  | got g rest =>
    rw [e] at h
    have h2 : rest.length + 4 ≤ l.length := h.2
    simp only
    rw [readS_fuel l.length (rest.length + 1) rest (by omega) (by omega)]
    rfl
/-- Piece by piece the same is told. -/
theorem feedS_app (l x : List UInt8) : feedS (l ++ x) = if (feedS l).2.2 = true then feedS l else ((feedS l).1 ++ (feedS ((feedS l).2.1 ++ x)).1, (feedS ((feedS l).2.1 ++ x)).2) := by
  induction hn : l.length using Nat.strongRecOn generalizing l with
  | _ n ih =>
    have h := nextS_more l x
    cases e : nextS l with
    | wait =>
      have e1 : feedS l = ([], l, false) := by rw [feedS_eq, e]
      rw [e1]
      simp
    | refuse st =>
      rw [e] at h
      have e1 : feedS l = ([refG st], [], true) := by rw [feedS_eq, e]
      rw [e1, feedS_eq, h]
      simp
    | got g rest =>
      rw [e] at h
      obtain ⟨h1, h2⟩ : nextS (l ++ x) = .got g (rest ++ x) ∧ rest.length + 4 ≤ l.length := h
      have e1 : feedS l = (g :: (feedS rest).1, (feedS rest).2) := by rw [feedS_eq, e]
      rw [e1, feedS_eq, h1]
      simp only
      rw [ih rest.length (by omega) rest rfl]
      by_cases hc : (feedS rest).2.2 = true
      · rw [if_pos hc, if_pos hc]
      · rw [if_neg hc, if_neg hc]
        rfl
theorem feedS_closed (l : List UInt8) : (feedS l).2.2 = true → (feedS l).2.1 = [] := by
  induction hn : l.length using Nat.strongRecOn generalizing l with
  | _ n ih =>
    have h := nextS_more l []
    cases e : nextS l with
    | wait => rw [feedS_eq, e]; intro h; cases h
    | refuse st => rw [feedS_eq, e]; intro _; rfl
    | got g rest =>
      rw [e] at h
      have h2 : rest.length + 4 ≤ l.length := h.2
      rw [feedS_eq, e]
      exact ih rest.length (by omega) rest rfl
theorem feedS_len (l : List UInt8) : (feedS l).2.1.length ≤ l.length ∧ (feedS l).1.length ≤ l.length + 1 := by
  induction hn : l.length using Nat.strongRecOn generalizing l with
  | _ n ih =>
    have h := nextS_more l []
    cases e : nextS l with
    | wait => rw [feedS_eq, e]; exact ⟨by show l.length ≤ n; omega, Nat.zero_le _⟩
    | refuse st => rw [feedS_eq, e]; exact ⟨Nat.zero_le _, by show 1 ≤ n + 1; omega⟩
    | got g rest =>
      rw [e] at h
      have h2 : rest.length + 4 ≤ l.length := h.2
      rw [feedS_eq, e]
      obtain ⟨a, b⟩ := ih rest.length (by omega) rest rfl
      exact ⟨by show (feedS rest).2.1.length ≤ n; omega, by show (feedS rest).1.length + 1 ≤ n + 1; omega⟩
end Go.Proofs.YtlgfhbfdjckdnaaGreatDoor
