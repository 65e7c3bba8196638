/- Of EvalLawP: what XFAs uses (shake.py). -/
import Derived.Test.YtbephgifbghilaaGreatDoorKEvalP
import Derived.Test.YtbephgifbghilaaGreatDoorKWordName
/- The laws of conditions on plain data. -/
set_option maxRecDepth 100000
namespace Go.Proofs.YtbephgifbghilaaGreatDoor
def keyL : List (List UInt8) := [[97, 110, 100], [111, 114], [110, 111, 116], [116, 114, 117, 101], [102, 97, 108, 115, 101]]
def keyWord (s : ByteArray) : Bool := keyL.contains s.data.toList
def headB (op : Int) (v : Vl) (nm : ByteArray) (n : Nat) : Bool :=
  ((n : Int) == kidsN op) && ((op == 1 || vlEq v Vl.zero) && ((op == 2 || nm.toList.isEmpty) && ((!(op == 1) || (checkB v && decide (0 ≤ v.num))) && (!(op == 2) || (nameB nm && !keyWord nm)))))
mutual
def checkN : Nd → Bool
  | .mk op v nm ks => headB op v nm ks.length && checkL ks
def checkL : List Nd → Bool
  | [] => true
  | k :: r => checkN k && checkL r
end
def oneN (op : Int) (a : Nd) : Nd := .mk op Vl.zero ⟨#[]⟩ [a]
def twoN (op : Int) (a b : Nd) : Nd := .mk op Vl.zero ⟨#[]⟩ [a, b]
def litN (v : Vl) : Nd := .mk 1 v ⟨#[]⟩ []
def varN (s : ByteArray) : Nd := .mk 2 Vl.zero s []
/-- A value that may be is of its own form. -/
theorem checkB_kind {v : Vl} (h : checkB v = true) : v = numV v.num ∨ v = trV v.tr ∨ (v = txV v.text) := by
  unfold checkB at h
  split at h
  · exact Or.inl (vlEq_iff.1 h)
  · split at h
    · exact Or.inr (Or.inl (vlEq_iff.1 h))
    · split at h
      · simp only [Bool.and_eq_true] at h
        exact Or.inr (Or.inr (vlEq_iff.1 h.1))
      · cases h
theorem head_facts {op : Int} {v : Vl} {nm : ByteArray} {n : Nat} (h : headB op v nm n = true) : (n : Int) = kidsN op ∧ (op = 1 → checkB v = true) := by
  unfold headB at h
  simp only [Bool.and_eq_true, Bool.or_eq_true, beq_iff_eq, Bool.not_eq_true', beq_eq_false_iff_ne] at h
  obtain ⟨h1, _, _, h2, _⟩ := h
  exact ⟨h1, fun e => by rcases h2 with h2 | h2; exact absurd e h2; exact h2.1⟩
end Go.Proofs.YtbephgifbghilaaGreatDoor
