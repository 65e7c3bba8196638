/- Heaps on lists, as package container/heap keeps them; no program here. -/
namespace Go.Proofs.Ytggnheekkbideaa

section
variable {α : Type} [Inhabited α]

def atL (l : List α) (i : Nat) : α := l.getD i default
def swapL (l : List α) (i j : Nat) : List α := (l.set i (atL l j)).set j (atL l i)

theorem atL_eq {l : List α} {i : Nat} (h : i < l.length) : atL l i = l[i] := by
  unfold atL
  rw [List.getD_eq_getElem?_getD, List.getElem?_eq_getElem h]; rfl
theorem len_swapL (l : List α) (i j : Nat) : (swapL l i j).length = l.length := by simp [swapL]
theorem atL_swapL {l : List α} {i j : Nat} (hi : i < l.length) (hj : j < l.length) (k : Nat) : atL (swapL l i j) k = if k = j then atL l i else if k = i then atL l j else atL l k := by
  unfold atL swapL
  simp only [List.getD_eq_getElem?_getD, List.getElem?_set, List.length_set]
  by_cases h1 : k = j
  · subst h1; simp [hj, atL]
  · by_cases h2 : k = i
    · subst h2; simp [h1, hi, Ne.symm h1, atL]
    · simp [h1, h2, Ne.symm h1, Ne.symm h2]
theorem perm_swapL {l : List α} {i j : Nat} (hi : i < l.length) (hj : j < l.length) : (swapL l i j).Perm l := by
  unfold swapL
  rw [atL_eq hi, atL_eq hj]
  exact List.set_set_perm hi hj

variable (lt : α → α → Bool)

/-- What an order must be here. -/
structure Ord : Prop where
  asym : ∀ a b, lt a b = true → lt b a = false
  trans : ∀ a b c, lt b a = false → lt c b = false → lt c a = false

/-- Up from j. -/
def upF : Nat → List α → Nat → List α
  | 0, l, _ => l
  | f + 1, l, j => if (j - 1) / 2 = j then l else if lt (atL l j) (atL l ((j - 1) / 2)) = false then l else upF f (swapL l ((j - 1) / 2) j) ((j - 1) / 2)

/-- The child that is tried. -/
def kid (l : List α) (i n : Nat) : Nat := if 2 * i + 2 < n ∧ lt (atL l (2 * i + 2)) (atL l (2 * i + 1)) = true then 2 * i + 2 else 2 * i + 1
/-- Down from i among the first n. -/
def downF : Nat → List α → Nat → Nat → List α
  | 0, l, _, _ => l
  | f + 1, l, i, n => if n ≤ 2 * i + 1 then l else if lt (atL l (kid lt l i n)) (atL l i) = false then l else downF f (swapL l i (kid lt l i n)) (kid lt l i n) n

theorem len_upF : ∀ (f : Nat) (l : List α) (j : Nat), (upF lt f l j).length = l.length
  | 0, _, _ => rfl
  | f + 1, l, j => by
    unfold upF
    split
    · rfl
    · split
      · rfl
      · rw [len_upF f, len_swapL]
theorem len_downF : ∀ (f : Nat) (l : List α) (i n : Nat), (downF lt f l i n).length = l.length
  | 0, _, _, _ => rfl
  | f + 1, l, i, n => by
    unfold downF
    split
    · rfl
    · split
      · rfl
      · rw [len_downF f, len_swapL]
theorem kid_lt {l : List α} {i n : Nat} (h : 2 * i + 1 < n) : kid lt l i n < n ∧ i < kid lt l i n ∧ (kid lt l i n - 1) / 2 = i := by
  unfold kid
  split
  · rename_i h2; omega
  · omega
theorem perm_upF : ∀ (f : Nat) (l : List α) (j : Nat), j < l.length → (upF lt f l j).Perm l
  | 0, _, _, _ => List.Perm.refl _
  | f + 1, l, j, hj => by
    unfold upF
    split
    · exact List.Perm.refl _
    · split
      · exact List.Perm.refl _
      · have h := perm_upF f (swapL l ((j - 1) / 2) j) ((j - 1) / 2) (by rw [len_swapL]; omega)
        exact h.trans (perm_swapL (by omega) hj)
theorem perm_downF : ∀ (f : Nat) (l : List α) (i n : Nat), i < n → n ≤ l.length → (downF lt f l i n).Perm l
  | 0, _, _, _, _, _ => List.Perm.refl _
  | f + 1, l, i, n, hi, hn => by
    unfold downF
    split
    · exact List.Perm.refl _
    · split
      · exact List.Perm.refl _
      · rename_i h1 _
        have hk := kid_lt lt (l := l) (i := i) (n := n) (by omega)
        exact (perm_downF f _ _ n hk.1 (by rw [len_swapL]; exact hn)).trans (perm_swapL (by omega) (by omega))
/-- What lies at n or behind stays. -/
theorem atL_downF : ∀ (f : Nat) (l : List α) (i n : Nat), i < n → n ≤ l.length → ∀ k, n ≤ k → atL (downF lt f l i n) k = atL l k
  | 0, _, _, _, _, _, _, _ => rfl
  | f + 1, l, i, n, hi, hn, k, hk => by
    unfold downF
    split
    · rfl
    · split
      · rfl
      · have h := kid_lt lt (l := l) (i := i) (n := n) (by omega)
        rw [atL_downF f _ _ n h.1 (by rw [len_swapL]; exact hn) k hk, atL_swapL (by omega) (by omega), if_neg (by omega), if_neg (by omega)]

/-- Among the first n none is less than its parent, but for parents below s. -/
def HeapN (l : List α) (s n : Nat) : Prop := ∀ k, 0 < k → k < n → s ≤ (k - 1) / 2 → lt (atL l k) (atL l ((k - 1) / 2)) = false
abbrev Heap (l : List α) : Prop := HeapN lt l 0 l.length

variable {lt}
theorem up_heap (O : Ord lt) {n : Nat} : ∀ (f : Nat) (l : List α) (j : Nat), j < f → j < n → n ≤ l.length →
    (∀ k, 0 < k → k < n → k ≠ j → lt (atL l k) (atL l ((k - 1) / 2)) = false) → (∀ k, 0 < k → k < n → (k - 1) / 2 = j → 0 < j → lt (atL l k) (atL l ((j - 1) / 2)) = false) → HeapN lt (upF lt f l j) 0 n
  | 0, _, _, h, _, _, _, _ => by omega
  | f + 1, l, j, hf, hj, hn, h1, h2 => by
    unfold upF
    split
    · rename_i e
      intro k hk0 hkn _
      exact h1 k hk0 hkn (by omega)
    · rename_i e
      split
      · rename_i hlt
        intro k hk0 hkn _
        by_cases ek : k = j
        · subst ek; exact hlt
        · exact h1 k hk0 hkn ek
      · rename_i hlt
        have hlt' : lt (atL l j) (atL l ((j - 1) / 2)) = true := by simpa using hlt
        have hpl : (j - 1) / 2 < l.length := by omega
        have hjl : j < l.length := by omega
        refine up_heap O f _ _ (by omega) (by omega) (by rw [len_swapL]; exact hn) ?_ ?_
        · intro k hk0 hkn hkp
          rw [atL_swapL hpl hjl, atL_swapL hpl hjl]
          by_cases ek : k = j
          · subst ek
            rw [if_pos rfl, if_neg (by omega), if_pos rfl]
            exact O.asym _ _ hlt'
          · rw [if_neg ek, if_neg hkp]
            by_cases e1 : (k - 1) / 2 = j
            · rw [if_pos e1]
              exact h2 k hk0 hkn e1 (by omega)
            · rw [if_neg e1]
              by_cases e2 : (k - 1) / 2 = (j - 1) / 2
              · rw [if_pos e2]
                have a1 := h1 k hk0 hkn ek
                rw [e2] at a1
                exact O.trans _ _ _ (O.asym _ _ hlt') a1
              · rw [if_neg e2]
                exact h1 k hk0 hkn ek
        · intro k hk0 hkn hkp hp0
          rw [atL_swapL hpl hjl, atL_swapL hpl hjl]
          rw [if_neg (show ((j - 1) / 2 - 1) / 2 ≠ j by omega), if_neg (show ((j - 1) / 2 - 1) / 2 ≠ (j - 1) / 2 by omega)]
          have a0 := h1 ((j - 1) / 2) hp0 (by omega) (by omega)
          by_cases ek : k = j
          · subst ek
            rw [if_pos rfl]
            exact a0
          · rw [if_neg ek, if_neg (by omega)]
            have a1 := h1 k hk0 hkn ek
            rw [hkp] at a1
            exact O.trans _ _ _ a0 a1

theorem kid_least (O : Ord lt) {l : List α} {i n k : Nat} (hk0 : 0 < k) (hk : k < n) (hp : (k - 1) / 2 = i) : lt (atL l k) (atL l (kid lt l i n)) = false := by
  have irr : ∀ a, lt a a = false := fun a => by
    cases h : lt a a with
    | false => rfl
    | true => have := O.asym _ _ h; rw [h] at this; cases this
  unfold kid
  split
  · rename_i h
    rcases (show k = 2 * i + 1 ∨ k = 2 * i + 2 by omega) with rfl | rfl
    · exact O.asym _ _ h.2
    · exact irr _
  · rename_i h
    rcases (show k = 2 * i + 1 ∨ k = 2 * i + 2 by omega) with rfl | rfl
    · exact irr _
    · cases e : lt (atL l (2 * i + 2)) (atL l (2 * i + 1)) with
      | false => rfl
      | true => exact absurd ⟨hk, e⟩ h

theorem down_heap (O : Ord lt) {s n : Nat} : ∀ (f : Nat) (l : List α) (i : Nat), n - i ≤ f → s ≤ i → i < n → n ≤ l.length →
    (∀ k, 0 < k → k < n → s ≤ (k - 1) / 2 → (k - 1) / 2 ≠ i → lt (atL l k) (atL l ((k - 1) / 2)) = false) → (∀ k, 0 < k → k < n → (k - 1) / 2 = i → 0 < i → s ≤ (i - 1) / 2 → lt (atL l k) (atL l ((i - 1) / 2)) = false) → HeapN lt (downF lt f l i n) s n
  | 0, _, _, h, _, hi, _, _, _ => by omega
  | f + 1, l, i, hf, hs, hi, hn, h1, h2 => by
    unfold downF
    split
    · rename_i e
      intro k hk0 hkn hks
      exact h1 k hk0 hkn hks (by omega)
    · rename_i e
      have hkid := kid_lt lt (l := l) (i := i) (n := n) (by omega)
      split
      · rename_i hlt
        intro k hk0 hkn hks
        by_cases ek : (k - 1) / 2 = i
        · rw [ek]
          exact O.trans _ _ _ hlt (kid_least O hk0 hkn ek)
        · exact h1 k hk0 hkn hks ek
      · rename_i hlt
        have hlt' : lt (atL l (kid lt l i n)) (atL l i) = true := by simpa using hlt
        obtain ⟨c, hc⟩ : ∃ c, kid lt l i n = c := ⟨_, rfl⟩
        have hleast : ∀ k, 0 < k → k < n → (k - 1) / 2 = i → lt (atL l k) (atL l c) = false := fun k a b e => by rw [← hc]; exact kid_least O a b e
        rw [hc] at hkid hlt' ⊢
        have hil : i < l.length := by omega
        have hcl : c < l.length := by omega
        refine down_heap O f _ _ (by omega) (by omega) hkid.1 (by rw [len_swapL]; exact hn) ?_ ?_
        · intro k hk0 hkn hks hkp
          rw [atL_swapL hil hcl, atL_swapL hil hcl, if_neg hkp]
          by_cases ek : k = c
          · rw [if_pos ek, ek, if_pos hkid.2.2]
            exact O.asym _ _ hlt'
          · rw [if_neg ek]
            by_cases ei : k = i
            · rw [if_pos ei, if_neg (by omega), ei]
              exact h2 c (by omega) hkid.1 hkid.2.2 (by omega) (by omega)
            · rw [if_neg ei]
              by_cases ep : (k - 1) / 2 = i
              · rw [if_pos ep]
                exact hleast k hk0 hkn ep
              · rw [if_neg ep]
                exact h1 k hk0 hkn hks ep
        · intro k hk0 hkn hkp hp0 hps
          rw [atL_swapL hil hcl, atL_swapL hil hcl, hkid.2.2, if_neg (show k ≠ c by omega), if_neg (show k ≠ i by omega), if_neg (show i ≠ c by omega), if_pos rfl]
          have := h1 k hk0 hkn (by omega) (by omega)
          rw [hkp] at this
          exact this

/-- Among the first n none is less than the first. -/
theorem heap_least (O : Ord lt) {l : List α} {n : Nat} (h : HeapN lt l 0 n) : ∀ k, k < n → lt (atL l k) (atL l 0) = false := by
  intro k
  induction k using Nat.strongRecOn with
  | _ k ih =>
    intro hk
    by_cases h0 : k = 0
    · subst h0
      cases e : lt (atL l 0) (atL l 0) with
      | false => rfl
      | true => have := O.asym _ _ e; rw [e] at this; cases this
    · exact O.trans _ _ _ (ih ((k - 1) / 2) (by omega) (by omega)) (h k (by omega) hk (Nat.zero_le _))

variable (lt)
def pushE (l : List α) (x : α) : List α := upF lt (l.length + 1) (l ++ [x]) l.length
def popE (l : List α) : List α := downF lt l.length (swapL l 0 (l.length - 1)) 0 (l.length - 1)
def initF : Nat → List α → List α
  | 0, l => l
  | i + 1, l => initF i (downF lt l.length l i l.length)
def initE (l : List α) : List α := initF lt (l.length / 2) l

variable {lt}
theorem atL_app_lt {l : List α} {x : α} {k : Nat} (h : k < l.length) : atL (l ++ [x]) k = atL l k := by
  unfold atL
  simp [List.getD_eq_getElem?_getD, List.getElem?_append_left h]
theorem push_perm (l : List α) (x : α) : (pushE lt l x).Perm (x :: l) :=
  (perm_upF lt _ _ _ (by simp)).trans (List.perm_append_comm (l₁ := l) (l₂ := [x]))
theorem len_pushE (l : List α) (x : α) : (pushE lt l x).length = l.length + 1 := by
  unfold pushE; rw [len_upF]; simp
theorem push_heap (O : Ord lt) {l : List α} (h : Heap lt l) (x : α) : Heap lt (pushE lt l x) := by
  unfold Heap
  rw [len_pushE]
  refine up_heap O _ _ _ (by omega) (by omega) (by simp) ?_ ?_
  · intro k hk0 hkn hkj
    rw [atL_app_lt (by omega), atL_app_lt (by omega)]
    exact h k hk0 (by omega) (Nat.zero_le _)
  · intro k hk0 hkn hkp h0
    omega
theorem len_popE (l : List α) : (popE lt l).length = l.length := by unfold popE; rw [len_downF, len_swapL]
/-- The last is what was the first, and ahead of it there is a heap. -/
theorem pop_last {l : List α} (h0 : 0 < l.length) : atL (popE lt l) (l.length - 1) = atL l 0 := by
  unfold popE
  by_cases h1 : l.length = 1
  · rw [h1]
    unfold downF
    simp only [show (1 - 1 : Nat) ≤ 2 * 0 + 1 by omega, if_true]
    rw [atL_swapL h0 (by omega), if_pos (by omega)]
  · rw [atL_downF lt _ _ _ _ (by omega) (by rw [len_swapL]; omega) _ (Nat.le_refl _), atL_swapL h0 (by omega), if_pos rfl]
theorem take_last {l : List α} {n : Nat} (h : l.length = n + 1) : l = l.take n ++ [atL l n] := by
  rw [atL_eq (by omega), List.take_append_getElem (by omega), List.take_of_length_le (by omega)]
theorem pop_perm {l : List α} (h0 : 0 < l.length) : l.Perm (atL l 0 :: (popE lt l).take (l.length - 1)) := by
  have hp : (popE lt l).Perm l := by
    unfold popE
    by_cases h1 : l.length = 1
    · rw [h1]
      unfold downF
      simp only [show (1 - 1 : Nat) ≤ 2 * 0 + 1 by omega, if_true]
      exact perm_swapL h0 (by omega)
    · exact (perm_downF lt _ _ _ _ (by omega) (by rw [len_swapL]; omega)).trans (perm_swapL h0 (by omega))
  have e := take_last (l := popE lt l) (n := l.length - 1) (by rw [len_popE]; omega)
  rw [pop_last h0] at e
  refine hp.symm.trans ?_
  rw [e]
  refine List.perm_append_comm.trans ?_
  rw [← e]
  exact List.Perm.refl _
theorem atL_take {l : List α} {n k : Nat} (h : k < n) : atL (l.take n) k = atL l k := by
  unfold atL
  simp [List.getD_eq_getElem?_getD, h]
theorem pop_heap (O : Ord lt) {l : List α} (h : Heap lt l) : Heap lt ((popE lt l).take (l.length - 1)) := by
  unfold Heap
  rw [List.length_take, len_popE, Nat.min_eq_left (by omega)]
  by_cases h1 : l.length ≤ 1
  · intro k hk0 hkn; omega
  · intro k hk0 hkn hs
    rw [atL_take hkn, atL_take (by omega)]
    refine down_heap O (s := 0) (n := l.length - 1) l.length (swapL l 0 (l.length - 1)) 0 (by omega) (Nat.le_refl _) (by omega) (by rw [len_swapL]; omega) ?_ ?_ k hk0 hkn hs
    · intro k hk0 hkn _ hkp
      rw [atL_swapL (by omega) (by omega), atL_swapL (by omega) (by omega), if_neg (by omega), if_neg (by omega), if_neg (by omega), if_neg (by omega)]
      exact h k hk0 (by omega) (Nat.zero_le _)
    · intro k _ _ _ h0; omega
theorem pop_least (O : Ord lt) {l : List α} (h : Heap lt l) : ∀ x ∈ l, lt x (atL l 0) = false := by
  intro x hx
  obtain ⟨i, hi, rfl⟩ := List.getElem_of_mem hx
  rw [← atL_eq hi]
  exact heap_least O h i hi
theorem init_ok (O : Ord lt) : ∀ (i : Nat) (l : List α), HeapN lt l i l.length → i ≤ l.length → Heap lt (initF lt i l) ∧ (initF lt i l).Perm l
  | 0, l, h, _ => ⟨h, List.Perm.refl _⟩
  | i + 1, l, h, hi => by
    have hh : HeapN lt (downF lt l.length l i l.length) i l.length := by
      refine down_heap O (s := i) (n := l.length) l.length l i (by omega) (Nat.le_refl _) (by omega) (Nat.le_refl _) ?_ ?_
      · intro k hk0 hkn hks hkp
        exact h k hk0 hkn (by omega)
      · intro k hk0 hkn hkp h0 hs; omega
    have hl : (downF lt l.length l i l.length).length = l.length := len_downF lt _ _ _ _
    obtain ⟨h1, h2⟩ := init_ok O i (downF lt l.length l i l.length) (by rw [hl]; exact hh) (by omega)
    exact ⟨h1, h2.trans (perm_downF lt _ _ _ _ (by omega) (Nat.le_refl _))⟩
theorem init_heap (O : Ord lt) (l : List α) : Heap lt (initE lt l) ∧ (initE lt l).Perm l :=
  init_ok O _ _ (fun k hk0 hkn hs => by omega) (by omega)
theorem heap_nil : Heap lt ([] : List α) := fun k _ h => by simp at h

end
end Go.Proofs.Ytggnheekkbideaa
