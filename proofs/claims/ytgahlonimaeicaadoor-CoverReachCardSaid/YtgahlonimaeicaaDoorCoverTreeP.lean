/- What CoverTree says of a grown tree, on lists. -/
import Derived.Test.YtgahlonimaeicaaDoorCoverAllP
set_option maxRecDepth 100000
namespace Go.Proofs.YtgahlonimaeicaaDoor

/-- What a node that is not the first is. -/
structure KidSaid (n : Nt) (l : List Nd) (i a k : Nat) : Prop where
  lt : a < i
  kk : k < n.trans.length
  par : (ndAt l i).par = (a : Int)
  tr : (ndAt l i).tr = (k : Int)
  first : (ndAt l a).again = -1
  en : (n.tr (k : Int)).enB (ndAt l a).mark = true
  cov : wcoversB (ndAt l i).mark ((n.tr (k : Int)).wideE (ndAt l a).mark) = true
  again : -1 ≤ (ndAt l i).again ∧ (ndAt l i).again < (i : Int)

theorem again_range {n : Nt} {l : List Nd} (hK : KidOk n l) {i : Nat} (hi : i < l.length) : -1 ≤ (ndAt l i).again ∧ (ndAt l i).again < max (i : Int) 0 ∨ (i = 0 ∧ (ndAt l i).again = -1) := by
  by_cases h0 : i = 0
  · subst h0
    right
    exact ⟨rfl, by rw [hK.root]; rfl⟩
  · left
    obtain ⟨a, k, hk, h1, h2, h3, h4⟩ := hK.kid i (by omega) hi
    rw [h4]
    have := againE_range (l.take i) (kidE (l.take i) a k n.trans[k]).mark
    have hl : (l.take i).length = i := by simp; omega
    rw [hl] at this
    refine ⟨this.1, ?_⟩
    show againE (l.take i) (kidE (l.take i) a k n.trans[k]).mark < _
    omega

theorem kid_said {n : Nt} {l : List Nd} (hK : KidOk n l) {i : Nat} (h0 : 0 < i) (hi : i < l.length) : ∃ a k, KidSaid n l i a k := by
  obtain ⟨a, k, hk, h1, h2, h3, h4⟩ := hK.kid i h0 hi
  have ht : n.tr (k : Int) = n.trans[k] := by simp [Nt.tr, hk]
  refine ⟨a, k, h1, hk, by rw [h4]; rfl, by rw [h4]; rfl, ?_, by rw [ht]; exact h3, ?_, ?_⟩
  · rcases again_range hK (show a < l.length by omega) with h | h
    · omega
    · exact h.2
  · rw [ht, h4]
    show wcoversB (widenE (l.take i) a (n.trans[k].wideE (ndAt (l.take i) a).mark)) _ = true
    rw [ndAt_take h1 (by omega)]
    exact (over_widenE _ _ _).cov wcov_self
  · rcases again_range hK hi with h | h
    · omega
    · omega

theorem kids_count {n : Nt} {l : List Nd} (hK : KidOk n l) (hD : ∀ i, i < l.length → Done n l i) {i : Nat} (hi : i < l.length) : (kidsOf l i).length = if (ndAt l i).again = -1 then (enGo (ndAt l i).mark n.trans 0).length else 0 := by
  have h := hD i hi
  unfold Done at h
  rw [h]
  have hr : -1 ≤ (ndAt l i).again := by
    rcases again_range hK hi with h | h
    · exact h.1
    · omega
  by_cases e : (ndAt l i).again = -1
  · rw [if_pos e, if_pos (by omega)]
  · rw [if_neg e, if_neg (by omega)]; rfl

theorem kidsOf_take {l : List Nd} {j : Nat} (h : j < l.length) (i : Nat) : (kidsOf (l.take (j + 1)) i).length = (kidsOf (l.take j) i).length + if (ndAt l j).par = (i : Int) then 1 else 0 := by
  rw [List.take_succ_eq_append_getElem h, kidsOf_app, ← ndAt_eq h]
  split <;> simp
theorem enGo_count {m : List Int} {ts : List Tr} {k : Nat} (h : k < ts.length) : (enGo m (ts.take (k + 1)) 0).length = (enGo m (ts.take k) 0).length + if ts[k].enB m then 1 else 0 := by
  rw [enGo_take h]
  split <;> simp

end Go.Proofs.YtgahlonimaeicaaDoor
