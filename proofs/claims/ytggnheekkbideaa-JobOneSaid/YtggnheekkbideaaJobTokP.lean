/- The tokens of the instances that run, in their order, on lists; no program here. -/
import Derived.Test.YtggnheekkbideaaInsR
import Derived.Test.YtggnheekkbideaaHeapP
set_option maxRecDepth 100000
namespace Go.Proofs.Ytggnheekkbideaa

/-- A token and where it is. -/
structure PT where
  i : Nat
  k : Nat
  t : Tok
def tokN (i : Nat) (x : Ins) (k : Nat) : List PT := (List.range k).map fun j => ⟨i, j, atL x.toks j⟩
def insN (i : Nat) (x : Ins) : List PT := if x.state = 1 then tokN i x x.toks.length else []
def allN (l : List Ins) : Nat → List PT
  | 0 => []
  | i + 1 => allN l i ++ insN i (atL l i)
def allT (l : List Ins) : List PT := allN l l.length

theorem tokN_succ (i : Nat) (x : Ins) (k : Nat) : tokN i x (k + 1) = tokN i x k ++ [⟨i, k, atL x.toks k⟩] := by simp [tokN, List.range_succ]
theorem tokN_len (i : Nat) (x : Ins) (k : Nat) : (tokN i x k).length = k := by simp [tokN]
theorem tokN_pre (i : Nat) (x : Ins) : ∀ {k m : Nat}, k ≤ m → tokN i x k <+: tokN i x m := by
  intro k m h
  induction m with
  | zero => obtain rfl : k = 0 := by omega
            exact List.prefix_refl _
  | succ m ih =>
    by_cases e : k = m + 1
    · subst e; exact List.prefix_refl _
    · exact (ih (by omega)).trans (by rw [tokN_succ]; exact List.prefix_append _ _)
theorem allN_pre (l : List Ins) : ∀ {k m : Nat}, k ≤ m → allN l k <+: allN l m := by
  intro k m h
  induction m with
  | zero => obtain rfl : k = 0 := by omega
            exact List.prefix_refl _
  | succ m ih =>
    by_cases e : k = m + 1
    · subst e; exact List.prefix_refl _
    · exact (ih (by omega)).trans (show allN l m <+: allN l m ++ insN m (atL l m) from List.prefix_append _ _)
/-- What has come in the midst of an instance. -/
theorem mid_pre {l : List Ins} {i k : Nat} {x : Ins} (hi : i < l.length) (hx : atL l i = x) (hs : x.state = 1) (hk : k ≤ x.toks.length) : allN l i ++ tokN i x k <+: allT l := by
  refine List.IsPrefix.trans ?_ (allN_pre l (show i + 1 ≤ l.length by omega))
  show _ <+: allN l i ++ insN i (atL l i)
  rw [hx]
  unfold insN
  rw [if_pos hs]
  exact (List.prefix_append_right_inj _).2 (tokN_pre i x hk)
theorem mid_lt {l : List Ins} {i k : Nat} {x : Ins} (hi : i < l.length) (hx : atL l i = x) (hs : x.state = 1) (hk : k < x.toks.length) : (allN l i ++ tokN i x k).length < (allT l).length := by
  have := (mid_pre hi hx hs (show k + 1 ≤ x.toks.length by omega)).length_le
  rw [List.length_append, tokN_len] at this ⊢
  omega
theorem allN_run {l : List Ins} {i : Nat} {x : Ins} (hx : atL l i = x) (hs : x.state = 1) : allN l (i + 1) = allN l i ++ tokN i x x.toks.length := by
  show allN l i ++ insN i (atL l i) = _
  rw [hx]; unfold insN; rw [if_pos hs]
theorem allN_not {l : List Ins} {i : Nat} {x : Ins} (hx : atL l i = x) (hs : ¬ x.state = 1) : allN l (i + 1) = allN l i := by
  show allN l i ++ insN i (atL l i) = _
  rw [hx]; unfold insN; rw [if_neg hs, List.append_nil]
theorem allT_at {l : List Ins} {p : PT} (h : p ∈ allT l) : p.i < l.length ∧ p.k < (atL l p.i).toks.length ∧ p.t = atL (atL l p.i).toks p.k ∧ (atL l p.i).state = 1 := by
  have : ∀ m, m ≤ l.length → p ∈ allN l m → p.i < l.length ∧ p.k < (atL l p.i).toks.length ∧ p.t = atL (atL l p.i).toks p.k ∧ (atL l p.i).state = 1 := by
    intro m
    induction m with
    | zero => intro _ h; cases h
    | succ m ih =>
      intro hm h
      rcases List.mem_append.1 h with h | h
      · exact ih (by omega) h
      · unfold insN at h
        split at h
        · rename_i hs
          obtain ⟨j, hj, rfl⟩ := List.mem_map.1 h
          rw [List.mem_range] at hj
          exact ⟨by show m < l.length; omega, hj, rfl, hs⟩
        · cases h
  exact this _ (Nat.le_refl _) h

end Go.Proofs.Ytggnheekkbideaa
