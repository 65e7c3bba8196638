/- The document's scan of a head is a split (wire; plain). -/
import Derived.Test.YtlgfhbfdjckdnaaGreatDoorWireSplitP
set_option maxRecDepth 100000
namespace Go.Proofs.YtlgfhbfdjckdnaaGreatDoor
open Go.Lib

theorem okC_13 : okC 13 = false := by decide
theorem ok_no13 {a : List UInt8} (h : allL okC a = true) : ∀ x ∈ a, x ≠ 13 := by
  intro x hx e
  subst e
  have := List.all_eq_true.1 h _ hx
  revert this; decide
/-- The scan under way: at place i; the line under way began at f; the lines so far. -/
def Scan (l : List UInt8) (i f : Nat) (Ls : List (List UInt8)) : Prop :=
  (i ≤ l.length ∧ f ≤ i ∧ split l [13, 10] = Ls ++ split (l.drop f) [13, 10] ∧ allL okC ((l.drop f).take (i - f)) = true ∧ Ls.all (allL okC) = true) ∨
  (l.length + 2 ≤ i ∧ Ls = split l [13, 10] ∧ Ls.all (allL okC) = true)
theorem scan_start (l : List UInt8) : Scan l 0 0 [] := .inl ⟨Nat.zero_le _, Nat.le_refl _, rfl, rfl, rfl⟩
theorem scan_parts {l : List UInt8} {i f : Nat} (_ : i ≤ l.length) (h2 : f ≤ i) : l.drop f = (l.drop f).take (i - f) ++ l.drop i := by
  conv => lhs; rw [← List.take_append_drop (i - f) (l.drop f)]
  rw [List.drop_drop, show f + (i - f) = i by omega]
theorem scan_ok {l : List UInt8} {i f : Nat} {Ls : List (List UInt8)} (h : Scan l i f Ls) (hi : i < l.length) (hc : okC l[i].toNat = true) : Scan l (i + 1) f Ls := by
  rcases h with ⟨h1, h2, h3, h4, h5⟩ | ⟨h1, _⟩
  · refine .inl ⟨by omega, by omega, h3, ?_, h5⟩
    rw [show i + 1 - f = (i - f) + 1 by omega, List.take_succ_eq_append_getElem (by rw [List.length_drop]; omega)]
    unfold allL at h4 ⊢
    rw [List.all_append, h4]
    have e : (l.drop f)[i - f]'(by rw [List.length_drop]; omega) = l[i] := by
      rw [List.getElem_drop]
      congr 1
      omega
    rw [e]
    simp [hc]
  · omega
theorem scan_sep {l : List UInt8} {i f : Nat} {Ls : List (List UInt8)} (h : Scan l i f Ls) (hi : i + 1 < l.length) (ha : l[i]'(by omega) = 13) (hb : l[i + 1] = 10) : Scan l (i + 2) (i + 2) (Ls ++ [(l.drop f).take (i - f)]) := by
  rcases h with ⟨h1, h2, h3, h4, h5⟩ | ⟨h1, _⟩
  · refine .inl ⟨by omega, Nat.le_refl _, ?_, by rw [Nat.sub_self, List.take_zero]; rfl, ?_⟩
    · have e : l.drop f = (l.drop f).take (i - f) ++ ([13, 10] ++ l.drop (i + 2)) := by
        conv => lhs; rw [scan_parts h1 h2]
        congr 1
        rw [List.drop_eq_getElem_cons (by omega : i < l.length), List.drop_eq_getElem_cons hi, ha, hb]
        rfl
      rw [h3, List.append_assoc]
      congr 1
      conv => lhs; rw [e]
      rw [show ([13, 10] : List UInt8) = 13 :: [10] from rfl, split_piece (ok_no13 h4)]
      rfl
    · rw [List.all_append, h5]
      simp [h4]
  · omega
theorem scan_end {l : List UInt8} {f : Nat} {Ls : List (List UInt8)} (h : Scan l l.length f Ls) : Scan l (l.length + 2) (l.length + 2) (Ls ++ [(l.drop f).take (l.length - f)]) := by
  rcases h with ⟨h1, h2, h3, h4, h5⟩ | ⟨h1, _⟩
  · refine .inr ⟨Nat.le_refl _, ?_, ?_⟩
    · rw [List.take_of_length_le (by rw [List.length_drop]; exact Nat.le_refl _)] at h4 ⊢
      rw [h3, split_last (ok_no13 h4)]
    · rw [List.all_append, h5]
      simp [h4]
  · omega
theorem scan_bad {l : List UInt8} {i f : Nat} {Ls : List (List UInt8)} (h : Scan l i f Ls) (hi : i < l.length) (hc : okC l[i].toNat = false) (hs : ∀ h2 : i + 1 < l.length, l[i] = 13 → l[i + 1] ≠ 10) : (split l [13, 10]).all (allL okC) = false := by
  rcases h with ⟨h1, h2, h3, h4, h5⟩ | ⟨h1, _⟩
  · rw [h3, List.all_append, h5, Bool.true_and]
    have e := scan_parts h1 h2
    rw [List.drop_eq_getElem_cons hi] at e
    -- no separator up to there
    have hlen : ((l.drop f).take (i - f)).length = i - f := by rw [List.length_take, List.length_drop]; omega
    have hmem : l[i] ∈ (l.drop f).take (i - f + 1) := by
      rw [List.take_succ_eq_append_getElem (by rw [List.length_drop]; omega)]
      have e2 : (l.drop f)[i - f]'(by rw [List.length_drop]; omega) = l[i] := by
        rw [List.getElem_drop]
        congr 1
        omega
      rw [e2]
      simp
    have bad : ∀ p : List UInt8, l[i] ∈ p → allL okC p = false := fun p hp => List.all_eq_false.2 ⟨_, hp, by rw [hc]; decide⟩
    rcases index_spec (l.drop f) [13, 10] with ⟨hm, _⟩ | ⟨j, hj, hj2, hocc, _⟩
    · rw [split_miss hm]
      have : l[i] ∈ l.drop f := List.mem_of_mem_take hmem
      simp [bad _ this]
    · rw [split_hit (by decide) hj]
      have hji : i - f + 1 ≤ j := by
        rcases Nat.lt_or_ge j (i - f) with q | q
        · have := occ_no (a := (l.drop f).take (i - f)) (r := l[i] :: l.drop (i + 1)) (c := 13) (t := [10]) (ok_no13 h4) (by rw [hlen]; exact q)
          rw [← e, hocc] at this
          cases this
        · rcases Nat.lt_or_ge (i - f) j with q2 | q2
          · exact q2
          · exfalso
            obtain rfl : j = i - f := by omega
            have hd : (l.drop f).drop (i - f) = l.drop i := by rw [List.drop_drop, show f + (i - f) = i by omega]
            unfold occAt at hocc
            rw [hd] at hocc
            obtain ⟨u, hu⟩ := List.isPrefixOf_iff_prefix.1 hocc
            rw [List.drop_eq_getElem_cons hi] at hu
            rcases Nat.lt_or_ge (i + 1) l.length with hl | hl
            · rw [List.drop_eq_getElem_cons hl] at hu
              simp only [List.cons_append, List.nil_append] at hu
              injection hu with q3 hu
              injection hu with q4 _
              exact hs hl q3.symm q4.symm
            · rw [List.drop_eq_nil_of_le hl] at hu
              simp at hu
      have hin : l[i] ∈ (l.drop f).take j := by
        have := List.take_subset_take_left (l.drop f) hji
        exact this hmem
      simp [bad _ hin]
  · omega
theorem scan_done {l : List UInt8} {i f : Nat} {Ls : List (List UInt8)} (h : Scan l i f Ls) (hi : l.length < i) : Ls = split l [13, 10] ∧ (split l [13, 10]).all (allL okC) = true := by
  rcases h with ⟨h1, _⟩ | ⟨_, h2, h3⟩
  · omega
  · exact ⟨h2, by rw [← h2]; exact h3⟩
theorem split_ne (l : List UInt8) : split l [13, 10] ≠ [] := by
  rcases index_spec l [13, 10] with ⟨hm, _⟩ | ⟨j, hj, _⟩
  · rw [split_miss hm]; simp
  · rw [split_hit (by decide) hj]; simp
end Go.Proofs.YtlgfhbfdjckdnaaGreatDoor
