/- The law 'WireCuts', plain (seat wire). -/
import Derived.Test.YtlgfhbfdjckdnaaGreatDoorWireLawR
set_option maxRecDepth 100000
namespace Go.Proofs.YtlgfhbfdjckdnaaGreatDoor
open Go.RowKit

theorem cuts_plain (l : List UInt8) (k : Nat) : (feedS (l.take k)).1 ++ (toldT (feedS (l.take k)).2.1 (feedS (l.take k)).2.2 (l.drop k)).1 = (feedS l).1 ∧
    (toldT (feedS (l.take k)).2.1 (feedS (l.take k)).2.2 (l.drop k)).2.2 = (feedS l).2.2 ∧ (toldT (feedS (l.take k)).2.1 (feedS (l.take k)).2.2 (l.drop k)).2.1.length = (feedS l).2.1.length := by
  have h := feedS_app (l.take k) (l.drop k)
  rw [List.take_append_drop] at h
  cases hc : (feedS (l.take k)).2.2 with
  | true =>
    rw [hc, if_pos rfl] at h
    rw [h]
    unfold toldT
    rw [if_pos rfl]
    exact ⟨List.append_nil _, hc.symm, rfl⟩
  | false =>
    rw [hc, if_neg (by decide)] at h
    rw [h]
    unfold toldT
    rw [if_neg (by decide)]
    exact ⟨rfl, rfl, rfl⟩
/-- Row by row. -/
theorem cuts_at {A B C : List Gp} (h : A ++ B = C) {i : Nat} (hi : i < C.length) : (i < A.length → A[i]? = C[i]?) ∧ (A.length ≤ i → B[i - A.length]? = C[i]?) := by
  subst h
  exact ⟨fun h => (List.getElem?_append_left h).symm, fun h => (List.getElem?_append_right h).symm⟩
end Go.Proofs.YtlgfhbfdjckdnaaGreatDoor
