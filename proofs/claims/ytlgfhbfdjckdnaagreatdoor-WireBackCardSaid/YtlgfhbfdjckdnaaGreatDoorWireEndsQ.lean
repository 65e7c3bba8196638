/- What each told thing is (seat wire; plain but for the program's own tests of texts). -/
import Derived.Test.YtlgfhbfdjckdnaaGreatDoorWireEndsP
import Derived.Test.YtlgfhbfdjckdnaaGreatDoorWireFirst
import Derived.Test.YtlgfhbfdjckdnaaGreatDoorWireWrite
set_option maxRecDepth 100000
namespace Go.Proofs.YtlgfhbfdjckdnaaGreatDoor
open Go.Lib

theorem mayG_may {m p k b : ByteArray} {st : Int} (h : MayG ⟨m, p, k, b, st⟩) : mayB m p k b = true ∧ m.size ≤ 16 ∧ p.size ≤ 1024 ∧ k.size ≤ 32 ∧ b.size ≤ 65536 ∧ st = 0 := by
  obtain ⟨h1, h2, ⟨h3, h4⟩, h5, h6⟩ := h
  have e1 : methodL m.data.toList = true := h1
  have e2 : pathL p.data.toList = true := h2
  have e3 : k.data.toList.length ≤ 32 := h3
  have e4 : allL visL k.data.toList = true := h4
  have e5 : b.size ≤ 65536 := h5
  have l0 : ∀ s : ByteArray, s.data.toList.length = s.size := fun s => by rw [Array.length_toList]; rfl
  rw [l0] at e3
  refine ⟨?_, ?_, ?_, e3, e5, h6⟩
  · unfold mayB
    rw [methodB_list, pathB_list, e1, e2, show tokenB k = true from e4, decide_eq_true e3, decide_eq_true e5]
    rfl
  · unfold methodL at e1
    simp only [Bool.and_eq_true, decide_eq_true_eq] at e1
    rw [← l0]; exact e1.1.2
  · unfold pathL at e2
    simp only [Bool.and_eq_true, decide_eq_true_eq] at e2
    rw [← l0]; exact e2.1.2
/-- Each thing that is told: a request that may be, or the last one, a refusal. -/
theorem ends_at (l : List UInt8) {i : Nat} (hi : i < (feedS l).1.length) : MayG (feedS l).1[i] ∨ ((feedS l).2.2 = true ∧ i + 1 = (feedS l).1.length ∧ ∃ st, (feedS l).1[i] = refG st ∧ 400 ≤ st ∧ st ≤ 505) := by
  obtain ⟨h1, h2⟩ := feedS_facts l
  cases hc : (feedS l).2.2 with
  | false => exact .inl ((h1 hc).1 _ (List.getElem_mem hi))
  | true =>
    obtain ⟨A, st, e, hA, h3, h4⟩ := h2 hc
    have hl : (feedS l).1.length = A.length + 1 := by rw [e]; simp
    rcases Nat.lt_or_ge i A.length with h | h
    · left
      have : (feedS l).1[i] = A[i] := by
        rw [List.getElem_of_eq e, List.getElem_append_left h]
      rw [this]
      exact hA _ (List.getElem_mem h)
    · right
      have hiA : i = A.length := by omega
      refine ⟨rfl, by omega, st, ?_, h3, h4⟩
      rw [List.getElem_of_eq e]
      subst hiA
      simp
theorem ends_last (l : List UInt8) (hc : (feedS l).2.2 = true) : ∃ n st, (feedS l).1.length = n + 1 ∧ (feedS l).1[n]? = some (refG st) ∧ 400 ≤ st ∧ st ≤ 505 := by
  obtain ⟨A, st, e, hA, h3, h4⟩ := (feedS_facts l).2 hc
  exact ⟨A.length, st, by rw [e]; simp, by rw [e]; simp, h3, h4⟩
/-- All that the law asks, at once. -/
theorem ends_all {l : List UInt8} {A : List Gp} {L : List UInt8} {cl : Bool} (h : feedS l = (A, L, cl)) :
    (∀ i (hi : i < A.length), MayG A[i] ∨ (cl = true ∧ i + 1 = A.length ∧ ∃ st, A[i] = refG st ∧ 400 ≤ st ∧ st ≤ 505)) ∧
    (cl = true → ∃ n st, A.length = n + 1 ∧ A[n]? = some (refG st) ∧ 400 ≤ st ∧ st ≤ 505) ∧
    (cl = false → L.length < 69632) ∧ (cl = true → L = []) ∧ L.length ≤ l.length ∧ A.length ≤ l.length + 1 := by
  have e1 : A = (feedS l).1 := by rw [h]
  have e2 : L = (feedS l).2.1 := by rw [h]
  have e3 : cl = (feedS l).2.2 := by rw [h]
  subst e1 e2 e3
  exact ⟨fun i hi => ends_at l hi, ends_last l, fun hc => ((feedS_facts l).1 hc).2, feedS_closed l, (feedS_len l).1, (feedS_len l).2⟩
end Go.Proofs.YtlgfhbfdjckdnaaGreatDoor
