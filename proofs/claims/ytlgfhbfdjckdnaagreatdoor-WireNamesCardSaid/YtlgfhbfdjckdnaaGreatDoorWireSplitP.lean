/- Splitting texts piece by piece (wire; plain, no program in sight). -/
import Derived.Test.YtlgfhbfdjckdnaaGreatDoorWireHeadP
set_option maxRecDepth 100000
namespace Go.Proofs.YtlgfhbfdjckdnaaGreatDoor
open Go.Lib

theorem split_miss {s sep : List UInt8} (h : index s sep = -1) : split s sep = [s] := by
  unfold split
  rw [count_miss h]
  rfl
theorem split_hit {s sep : List UInt8} {i : Nat} (hne : sep ≠ []) (h : index s sep = (i : Int)) : split s sep = s.take i :: split (s.drop (i + sep.length)) sep := by
  unfold split
  rw [count_hit hne h, Nat.add_comm 1]
  rw [splitK, if_neg (fun e => by have := beq_iff_eq.1 e; omega), h]
  simp
/-- No place of a piece without the separator's first byte is the separator's. -/
theorem occ_no {a r t : List UInt8} {c : UInt8} (h : ∀ x ∈ a, x ≠ c) {j : Nat} (hj : j < a.length) : occAt (a ++ r) (c :: t) j = false := by
  cases ho : occAt (a ++ r) (c :: t) j with
  | false => rfl
  | true =>
    have := occAt_head rfl ho
    rw [List.getElem?_append_left hj, List.getElem?_eq_getElem hj] at this
    exact absurd (Option.some.inj this) (h _ (List.getElem_mem hj))
theorem occ_self (a r sub : List UInt8) : occAt (a ++ (sub ++ r)) sub a.length = true := by
  unfold occAt
  rw [List.drop_left]
  exact List.isPrefixOf_iff_prefix.2 (List.prefix_append _ _)
theorem index_piece {a r t : List UInt8} {c : UInt8} (h : ∀ x ∈ a, x ≠ c) : index (a ++ (c :: t ++ r)) (c :: t) = (a.length : Int) :=
  index_first (by simp) (occ_self a r (c :: t)) (fun _ hj => occ_no h hj)
theorem index_last {a t : List UInt8} {c : UInt8} (h : ∀ x ∈ a, x ≠ c) : index a (c :: t) = -1 := by
  refine index_none (fun j hj => ?_)
  rcases Nat.lt_or_ge j a.length with h1 | h1
  · have := occ_no (r := []) (t := t) h h1
    rwa [List.append_nil] at this
  · unfold occAt
    rw [List.drop_eq_nil_of_le h1]
    rfl
theorem split_piece {a r t : List UInt8} {c : UInt8} (h : ∀ x ∈ a, x ≠ c) : split (a ++ (c :: t ++ r)) (c :: t) = a :: split r (c :: t) := by
  rw [split_hit (by simp) (index_piece h), List.take_left]
  congr 2
  rw [show a ++ (c :: t ++ r) = (a ++ c :: t) ++ r by rw [List.append_assoc], ← List.length_append, List.drop_left]
theorem split_last {a t : List UInt8} {c : UInt8} (h : ∀ x ∈ a, x ≠ c) : split a (c :: t) = [a] := split_miss (index_last h)
theorem cut_piece {a r t : List UInt8} {c : UInt8} (h : ∀ x ∈ a, x ≠ c) : cut (a ++ (c :: t ++ r)) (c :: t) = (a, r, true) := by
  unfold cut
  rw [index_piece h, if_pos (by omega), Int.toNat_natCast, List.take_left]
  rw [show a ++ (c :: t ++ r) = (a ++ c :: t) ++ r by rw [List.append_assoc], ← List.length_append, List.drop_left]
theorem cut_last {a t : List UInt8} {c : UInt8} (h : ∀ x ∈ a, x ≠ c) : cut a (c :: t) = (a, [], false) := by
  unfold cut
  rw [index_last h, if_neg (by decide)]
end Go.Proofs.YtlgfhbfdjckdnaaGreatDoor
