/- The stable order of places is what insertion one by one gives. On lists; no program here. -/
import Derived.Test.YtggnheekkbideaaJobTokP
import Derived.Test.YtggnheekkbideaaStableP
import Derived.Test.YtggnheekkbideaaJobSort
set_option maxRecDepth 100000
namespace Go.Proofs.Ytggnheekkbideaa

def posP (out : List PT) (p : PT) : Nat → Nat
  | 0 => 0
  | k + 1 => if p.t.id < (atL out k).t.id then posP out p k else k + 1
def insP (out : List PT) (p : PT) : List PT := out.take (posP out p out.length) ++ p :: out.drop (posP out p out.length)

theorem posP_le (out : List PT) (a : PT) : ∀ k, posP out a k ≤ k
  | 0 => Nat.le_refl _
  | k + 1 => by
    unfold posP
    split
    · have := posP_le out a k; omega
    · exact Nat.le_refl _
theorem posP_gt (out : List PT) (a : PT) : ∀ k i, posP out a k ≤ i → i < k → a.t.id < (atL out i).t.id
  | 0, i, _, h => by omega
  | k + 1, i, h1, h2 => by
    unfold posP at h1
    split at h1
    · rename_i e
      by_cases hk : i = k
      · subst hk; exact e
      · exact posP_gt out a k i h1 (by omega)
    · omega
theorem posP_at (out : List PT) (a : PT) : ∀ k, 0 < posP out a k → (atL out (posP out a k - 1)).t.id ≤ a.t.id
  | 0, h => by simp [posP] at h
  | k + 1, h => by
    unfold posP at h ⊢
    split
    · rename_i e
      rw [if_pos e] at h
      exact posP_at out a k h
    · rename_i e
      show (atL out (k + 1 - 1)).t.id ≤ _
      rw [show k + 1 - 1 = k by omega]; omega
theorem len_insP (out : List PT) (a : PT) : (insP out a).length = out.length + 1 := by
  have := posP_le out a out.length
  simp [insP]; omega
theorem perm_insP (out : List PT) (a : PT) : (insP out a).Perm (a :: out) := by
  unfold insP
  have h1 : (out.take (posP out a out.length) ++ a :: out.drop (posP out a out.length)).Perm (a :: (out.take (posP out a out.length) ++ out.drop (posP out a out.length))) := List.perm_middle
  rwa [List.take_append_drop] at h1

section
variable (tag : PT → Nat)
def leR (x y : PT) : Prop := x.t.id < y.t.id ∨ (x.t.id = y.t.id ∧ tag x ≤ tag y)
theorem leR_trans {x y z : PT} (h : leR tag x y) (k : leR tag y z) : leR tag x z := by unfold leR at *; omega
theorem insP_sorted {S : List PT} {x : PT} (hs : S.Pairwise (leR tag)) (hn : ∀ y ∈ S, tag y ≤ tag x) : (insP S x).Pairwise (leR tag) := by
  obtain ⟨p, hp⟩ : ∃ p, posP S x S.length = p := ⟨_, rfl⟩
  have hle := posP_le S x S.length
  have hgt := posP_gt S x S.length
  have hat := posP_at S x S.length
  unfold insP
  rw [hp] at hle hgt hat ⊢
  have hpw := List.pairwise_iff_getElem.1 hs
  rw [List.pairwise_append]
  refine ⟨hs.sublist (List.take_sublist p S), List.pairwise_cons.2 ⟨?_, hs.sublist (List.drop_sublist p S)⟩, ?_⟩
  · intro y hy
    obtain ⟨i, hi, rfl⟩ := List.getElem_of_mem hy
    rw [List.length_drop] at hi
    rw [List.getElem_drop]
    have := hgt (p + i) (by omega) (by omega)
    rw [atL_eq (by omega)] at this
    exact Or.inl this
  · intro y hy z hz
    obtain ⟨i, hi, rfl⟩ := List.getElem_of_mem hy
    rw [List.length_take] at hi
    rw [List.getElem_take]
    rcases List.mem_cons.1 hz with rfl | hz
    · have h0 := hat (by omega)
      rw [atL_eq (by omega)] at h0
      have hlast : leR tag S[p - 1] z := by
        have := hn S[p - 1] (List.getElem_mem _)
        unfold leR; omega
      by_cases e : i = p - 1
      · subst e; exact hlast
      · exact leR_trans tag (hpw i (p - 1) (by omega) (by omega) (by omega)) hlast
    · obtain ⟨j, hj, rfl⟩ := List.getElem_of_mem hz
      rw [List.length_drop] at hj
      rw [List.getElem_drop]
      exact hpw i (p + j) (by omega) (by omega) (by omega)
theorem fold_ins : ∀ (k : Nat) (M : List PT), M.length = k → M.Pairwise (fun a b => tag a < tag b) → (M.foldl insP []).Perm M ∧ (M.foldl insP []).Pairwise (leR tag) := by
  intro k
  induction k with
  | zero =>
    intro M hM _
    obtain rfl := List.eq_nil_of_length_eq_zero hM
    exact ⟨List.Perm.refl _, List.Pairwise.nil⟩
  | succ k ih =>
    intro M hM hp
    obtain ⟨N, x, rfl⟩ : ∃ N x, M = N ++ [x] := ⟨M.dropLast, M.getLast (by intro e; rw [e] at hM; simp at hM), (List.dropLast_concat_getLast _).symm⟩
    obtain ⟨h1, _, h3⟩ := List.pairwise_append.1 hp
    obtain ⟨s1, s2⟩ := ih N (by simp at hM; exact hM) h1
    rw [List.foldl_append]
    refine ⟨((perm_insP _ x).trans (s1.cons x)).trans (List.perm_append_comm (l₁ := [x]) (l₂ := N)), insP_sorted tag s2 (fun y hy => ?_)⟩
    have := h3 y (s1.subset hy) x (by simp)
    omega
theorem leR_stab : Stab (leR tag) := ⟨fun _x => Or.inr ⟨rfl, Nat.le_refl _⟩, fun _ _ _ h k => leR_trans tag h k⟩
theorem leR_tagged : Tagged ltP (leR tag) tag := by
  intro x y h
  unfold ltP leR
  refine ⟨fun h1 => Or.inl (of_decide_eq_true h1), fun h1 => ?_⟩
  have := of_decide_eq_false h1
  omega
end

open Classical in
/-- The place of an element in a row. -/
noncomputable def tagOf (d : List PT) (p : PT) : Nat := if h : ∃ x, x < d.length ∧ atL d x = p then Classical.choose h else 0
theorem tagOf_at {d : List PT} (hn : d.Pairwise (· ≠ ·)) {x : Nat} (hx : x < d.length) : tagOf d (atL d x) = x := by
  have hex : ∃ y, y < d.length ∧ atL d y = atL d x := ⟨x, hx, rfl⟩
  unfold tagOf
  rw [dif_pos hex]
  obtain ⟨h1, h2⟩ := Classical.choose_spec hex
  generalize Classical.choose hex = y at h1 h2 ⊢
  rw [atL_eq h1, atL_eq hx] at h2
  have hpw := List.pairwise_iff_getElem.1 hn
  rcases Nat.lt_trichotomy y x with h | h | h
  · exact absurd h2 (hpw _ _ h1 hx h)
  · exact h
  · exact absurd h2.symm (hpw _ _ hx h1 h)

/-- THE LAW: Go's stable sort gives what insertion one by one gives. -/
theorem stable_is {d : List PT} (hn : d.Pairwise (· ≠ ·)) : stableE ltP d = d.foldl insP [] := by
  obtain ⟨s1, s2⟩ := stable_ok (leR_stab (tagOf d)) (leR_tagged (tagOf d)) d (fun x hx => tagOf_at hn hx)
  have hmono : d.Pairwise (fun a b => tagOf d a < tagOf d b) := by
    rw [List.pairwise_iff_getElem]
    intro i j hi hj hij
    have e1 := tagOf_at hn hi
    have e2 := tagOf_at hn hj
    rw [atL_eq hi] at e1
    rw [atL_eq hj] at e2
    omega
  obtain ⟨f1, f2⟩ := fold_ins (tagOf d) d.length d rfl hmono
  refine List.Perm.eq_of_pairwise (le := leR (tagOf d)) ?_ ?_ f2 (s2.trans f1.symm)
  · intro a b ha hb h1 h2
    have ha' := s2.subset ha
    have hb' := f1.subset hb
    have e : tagOf d a = tagOf d b := by unfold leR at h1 h2; omega
    obtain ⟨i, hi, rfl⟩ := List.getElem_of_mem ha'
    obtain ⟨j, hj, rfl⟩ := List.getElem_of_mem hb'
    have e1 := tagOf_at hn hi
    have e2 := tagOf_at hn hj
    rw [atL_eq hi] at e1
    rw [atL_eq hj] at e2
    obtain rfl : i = j := by omega
    rfl
  · rw [List.pairwise_iff_getElem]
    intro i j hi hj hij
    have := s1 i j (Nat.zero_le _) (by omega) (by rw [← s2.length_eq]; exact hj)
    rwa [atL_eq hi, atL_eq hj] at this

/-- The tokens come by their places. -/
theorem allT_lt (l : List Ins) : (allT l).Pairwise (fun p q => p.i < q.i ∨ (p.i = q.i ∧ p.k < q.k)) := by
  have : ∀ m, (allN l m).Pairwise (fun p q => p.i < q.i ∨ (p.i = q.i ∧ p.k < q.k)) ∧ ∀ p ∈ allN l m, p.i < m := by
    intro m
    induction m with
    | zero => exact ⟨List.Pairwise.nil, fun p h => by cases h⟩
    | succ m ih =>
      have hin : ∀ p ∈ insN m (atL l m), p.i = m := by
        intro p hp
        unfold insN at hp
        split at hp
        · obtain ⟨j, _, rfl⟩ := List.mem_map.1 hp; rfl
        · cases hp
      refine ⟨List.pairwise_append.2 ⟨ih.1, ?_, fun p hp q hq => ?_⟩, fun p hp => ?_⟩
      · unfold insN
        split
        · unfold tokN
          rw [List.pairwise_map]
          exact List.pairwise_lt_range.imp (fun h => Or.inr ⟨rfl, h⟩)
        · exact List.Pairwise.nil
      · have := ih.2 p hp
        have := hin q hq
        omega
      · rcases List.mem_append.1 hp with h | h
        · have := ih.2 p h; omega
        · have := hin p h; omega
  exact (this _).1
theorem someL_ne (q : Tok → Bool) (l : List Ins) : ((allT l).filter (fun p => q p.t)).Pairwise (· ≠ ·) := ((allT_lt l).filter _).imp (fun h e => by subst e; omega)

end Go.Proofs.Ytggnheekkbideaa
