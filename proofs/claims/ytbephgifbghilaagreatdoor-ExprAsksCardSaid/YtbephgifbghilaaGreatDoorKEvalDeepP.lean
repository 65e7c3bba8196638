/- Of EvalDeepP: what XFAs uses (shake.py). -/
import Derived.Test.YtbephgifbghilaaGreatDoorKEvalMem
import Derived.Test.YtbephgifbghilaaGreatDoorKEvalLawP
/- What a node comes to is a value; the variables that it reads. No program here. -/
set_option maxRecDepth 100000
namespace Go.Proofs.YtbephgifbghilaaGreatDoor
mutual
def deepW : Nd → Prop
  | .mk op v nm ks => HeadW (.mk op v nm ks) ∧ deepWL ks
def deepWL : List Nd → Prop
  | [] => True
  | a :: r => deepW a ∧ deepWL r
end
theorem deepWL_of : ∀ (l : List Nd), (∀ i (h : i < l.length), HeadW l[i] ∧ deepWL l[i].kids) → deepWL l
  | [], _ => True.intro
  | a :: r, h => by
    refine ⟨?_, deepWL_of r (fun i hi => h (i + 1) (by simp; omega))⟩
    obtain ⟨h1, h2⟩ := h 0 (by simp)
    cases a
    exact ⟨h1, h2⟩
theorem KidsR.deep {w : World} {B : Nat} {v : Value} {l : List Nd} (h : KidsR w B v l) : deepWL l := by
  induction h with
  | mk a cap l vk hl hcap hw hc hk ih => exact deepWL_of l (fun i hi => ⟨hw i hi, ih i hi⟩)
theorem checkB_size {v : Vl} (h : checkB v = true) : v.text.size ≤ 1024 := by
  unfold checkB at h
  split at h
  · rw [vlEq_iff.1 h]; exact Nat.zero_le _
  · split at h
    · rw [vlEq_iff.1 h]; exact Nat.zero_le _
    · split at h
      · simp only [Bool.and_eq_true, decide_eq_true_eq] at h
        exact h.2.1
      · cases h
end Go.Proofs.YtbephgifbghilaaGreatDoor
