/- The document's clock on lists: its order of all alarms is the heap's. -/
import Derived.Test.YtofpmhkjagdmmaaClockP
set_option maxRecDepth 100000
namespace Go.Proofs.Ytofpmhkjagdmmaa

def gtAl (a b : Al) : Bool := decide (b.due < a.due) || (decide (a.due = b.due) && decide (b.token < a.token))
def posA (out : List Al) (a : Al) : Nat → Nat
  | 0 => 0
  | k + 1 => if gtAl (atL out k) a = true then posA out a k else k + 1
def insA (out : List Al) (a : Al) : List Al := out.take (posA out a out.length) ++ a :: out.drop (posA out a out.length)
def allA (l : List Al) : List Al := l.foldl insA []

theorem posA_le (out : List Al) (a : Al) : ∀ k, posA out a k ≤ k
  | 0 => Nat.le_refl _
  | k + 1 => by
    unfold posA
    split
    · have := posA_le out a k; omega
    · exact Nat.le_refl _
theorem posA_gt (out : List Al) (a : Al) : ∀ k i, posA out a k ≤ i → i < k → gtAl (atL out i) a = true
  | 0, i, _, h => by omega
  | k + 1, i, h1, h2 => by
    unfold posA at h1
    split at h1
    · rename_i e
      by_cases hk : i = k
      · subst hk; exact e
      · exact posA_gt out a k i h1 (by omega)
    · omega
theorem posA_at (out : List Al) (a : Al) : ∀ k, 0 < posA out a k → gtAl (atL out (posA out a k - 1)) a = false
  | 0, h => by simp [posA] at h
  | k + 1, h => by
    unfold posA at h ⊢
    split
    · rename_i e
      rw [if_pos e] at h
      exact posA_at out a k h
    · rename_i e
      simpa using e
theorem len_insA (out : List Al) (a : Al) : (insA out a).length = out.length + 1 := by
  have := posA_le out a out.length
  simp [insA]; omega

theorem gt_ent {x y : Ent} (h : x.n < y.n) : gtAl x.al y.al = ltEnt y x := by
  cases e : ltEnt y x with
  | true => have := (ltEnt_iff y x).1 e; simp [gtAl]; omega
  | false => have := (ltEnt_not y x).1 e; simp [gtAl]; omega

theorem ins_sorted {S : List Ent} {x : Ent} (hs : S.Pairwise (fun a b => ltEnt b a = false)) (hn : ∀ y ∈ S, y.n < x.n) :
    ∃ T : List Ent, T.Perm (x :: S) ∧ T.Pairwise (fun a b => ltEnt b a = false) ∧ T.map Ent.al = insA (S.map Ent.al) x.al := by
  obtain ⟨p, hp⟩ : ∃ p, posA (S.map Ent.al) x.al (S.map Ent.al).length = p := ⟨_, rfl⟩
  have hle := posA_le (S.map Ent.al) x.al (S.map Ent.al).length
  have hgt := posA_gt (S.map Ent.al) x.al (S.map Ent.al).length
  have hat := posA_at (S.map Ent.al) x.al (S.map Ent.al).length
  rw [hp] at hle hgt hat
  rw [List.length_map] at hle hgt
  have hal : ∀ i (h : i < S.length), atL (S.map Ent.al) i = (S[i]).al := fun i h => by rw [atL_eq (by simpa using h), List.getElem_map]
  have hpw := List.pairwise_iff_getElem.1 hs
  refine ⟨S.take p ++ x :: S.drop p, ?_, ?_, ?_⟩
  · have h1 : (S.take p ++ x :: S.drop p).Perm (x :: (S.take p ++ S.drop p)) := List.perm_middle
    rwa [List.take_append_drop] at h1
  · rw [List.pairwise_append]
    refine ⟨hs.sublist (List.take_sublist p S), List.pairwise_cons.2 ⟨?_, hs.sublist (List.drop_sublist p S)⟩, ?_⟩
    · intro y hy
      obtain ⟨i, hi, rfl⟩ := List.getElem_of_mem hy
      rw [List.length_drop] at hi
      rw [List.getElem_drop]
      have := hgt (p + i) (by omega) (by omega)
      rw [hal _ (by omega), gt_ent (hn _ (List.getElem_mem _))] at this
      exact ltEnt_ord.asym _ _ this
    · intro y hy z hz
      obtain ⟨i, hi, rfl⟩ := List.getElem_of_mem hy
      rw [List.length_take] at hi
      rw [List.getElem_take]
      rcases List.mem_cons.1 hz with rfl | hz
      · have h0 := hat (by omega)
        rw [hal _ (by omega), gt_ent (hn _ (List.getElem_mem _))] at h0
        by_cases e : i = p - 1
        · subst e; exact h0
        · exact ltEnt_ord.trans _ _ _ (hpw i (p - 1) (by omega) (by omega) (by omega)) h0
      · obtain ⟨j, hj, rfl⟩ := List.getElem_of_mem hz
        rw [List.length_drop] at hj
        rw [List.getElem_drop]
        exact hpw i (p + j) (by omega) (by omega) (by omega)
  · unfold insA
    rw [hp, List.map_append, List.map_cons, List.map_take, List.map_drop]

theorem foldl_snoc {α β : Type} (f : β → α → β) (b : β) (l : List α) (x : α) : (l ++ [x]).foldl f b = f (l.foldl f b) x := by rw [List.foldl_append]; rfl

/-- All alarms in the document's order are all in the heap's. -/
theorem all_sorted : ∀ (k : Nat) (M : List Ent), M.length = k → M.Pairwise (fun a b => a.n < b.n) → ∃ S : List Ent, S.Perm M ∧ S.Pairwise (fun a b => ltEnt b a = false) ∧ S.map Ent.al = allA (M.map Ent.al) := by
  intro k
  induction k with
  | zero =>
    intro M hM _
    obtain rfl := List.eq_nil_of_length_eq_zero hM
    exact ⟨[], List.Perm.refl _, List.Pairwise.nil, rfl⟩
  | succ k ih =>
    intro M hM hp
    obtain ⟨N, x, rfl⟩ : ∃ N x, M = N ++ [x] := ⟨M.dropLast, M.getLast (by intro e; rw [e] at hM; simp at hM), (List.dropLast_concat_getLast _).symm⟩
    obtain ⟨h1, _, h3⟩ := List.pairwise_append.1 hp
    obtain ⟨S, s1, s2, s3⟩ := ih N (by simp at hM; exact hM) h1
    obtain ⟨T, t1, t2, t3⟩ := ins_sorted (x := x) s2 (fun y hy => h3 y (s1.subset hy) x (by simp))
    refine ⟨T, t1.trans ((s1.cons x).trans (List.perm_append_comm (l₁ := [x]) (l₂ := N))), t2, ?_⟩
    rw [t3, s3, List.map_append]
    unfold allA
    rw [show [x].map Ent.al = [x.al] by rfl, foldl_snoc]

/-- Sorted in one way. -/
theorem sorted_one {a b : List Ent} (hp : a.Perm b) (ha : a.Pairwise (fun x y => ltEnt y x = false)) (hb : b.Pairwise (fun x y => ltEnt y x = false)) (hn : (a.map Ent.n).Nodup) : a = b := by
  refine List.Perm.eq_of_pairwise (le := fun x y => ltEnt y x = false) ?_ ha hb hp
  intro x y hx hy h1 h2
  have hy' := hp.symm.subset hy
  rw [ltEnt_not] at h1 h2
  have e : x.n = y.n := by omega
  obtain ⟨i, hi, rfl⟩ := List.getElem_of_mem hx
  obtain ⟨j, hj, rfl⟩ := List.getElem_of_mem hy'
  have hne := List.pairwise_iff_getElem.1 hn
  rcases Nat.lt_trichotomy i j with h | h | h
  · exact absurd (by rw [List.getElem_map, List.getElem_map]; exact e) (hne i j (by simpa using hi) (by simpa using hj) h)
  · subst h; rfl
  · exact absurd (by rw [List.getElem_map, List.getElem_map]; exact e.symm) (hne j i (by simpa using hj) (by simpa using hi) h)
theorem nodup_of_lt {M : List Ent} (h : M.Pairwise (fun a b => a.n < b.n)) : (M.map Ent.n).Nodup := by
  unfold List.Nodup
  rw [List.pairwise_map]
  exact h.imp (fun h => by omega)

/-- The clock's list 'l' holds what the document's list 'L' holds, in the order of 'n'. -/
def Same22 (l : List Ent) (L : List Al) (many : Int) : Prop := ∃ M : List Ent, M.map Ent.al = L ∧ M.Pairwise (fun a b => a.n < b.n) ∧ (∀ x ∈ M, x.n ≤ many) ∧ l.Perm M
theorem Same22.nil : Same22 [] [] 0 := ⟨[], rfl, List.Pairwise.nil, by simp, List.Perm.refl _⟩
theorem Same22.push {l : List Ent} {L : List Al} {many : Int} (h : Same22 l L many) (a : Al) : Same22 (pushE ltEnt l ⟨a, many + 1⟩) (L ++ [a]) (many + 1) := by
  obtain ⟨M, h1, h2, h3, h4⟩ := h
  refine ⟨M ++ [⟨a, many + 1⟩], by rw [List.map_append, h1]; rfl, ?_, ?_, ?_⟩
  · rw [List.pairwise_append]
    refine ⟨h2, List.pairwise_singleton _ _, fun x hx y hy => ?_⟩
    obtain rfl : y = _ := by simpa using hy
    have := h3 x hx
    show x.n < many + 1
    omega
  · intro x hx
    rcases List.mem_append.1 hx with hx | hx
    · have := h3 x hx; omega
    · obtain rfl : x = _ := by simpa using hx
      exact Int.le_refl _
  · exact (push_perm l _).trans ((h4.cons _).trans (List.perm_append_comm (l₁ := [_]) (l₂ := M)))
theorem Same22.perm {l l' : List Ent} {L : List Al} {many : Int} (h : Same22 l L many) (hp : l'.Perm l) : Same22 l' L many := by
  obtain ⟨M, h1, h2, h3, h4⟩ := h
  exact ⟨M, h1, h2, h3, hp.trans h4⟩
theorem filter_al (M : List Ent) (p : Al → Bool) : (M.filter (fun x => p x.al)).map Ent.al = (M.map Ent.al).filter p := by
  rw [List.filter_map]; rfl
theorem Same22.filter {l : List Ent} {L : List Al} {many : Int} (h : Same22 l L many) (p : Al → Bool) : Same22 (l.filter (fun x => p x.al)) (L.filter p) many := by
  obtain ⟨M, h1, h2, h3, h4⟩ := h
  exact ⟨M.filter (fun x => p x.al), by rw [filter_al, h1], h2.filter _, fun x hx => h3 x (List.mem_filter.1 hx).1, h4.filter _⟩
theorem Same22.all {l S : List Ent} {L : List Al} {many : Int} (h : Same22 l L many) (hp : S.Perm l) (hs : S.Pairwise (fun a b => ltEnt b a = false)) : S.map Ent.al = allA L := by
  obtain ⟨M, h1, h2, h3, h4⟩ := h
  obtain ⟨T, t1, t2, t3⟩ := all_sorted _ M rfl h2
  have hST := (hp.trans h4).trans t1.symm
  have hn : (S.map Ent.n).Nodup := ((hp.trans h4).map Ent.n).nodup_iff.2 (nodup_of_lt h2)
  rw [sorted_one hST hs t2 hn, t3, h1]
theorem Same22.perm_al {l : List Ent} {L : List Al} {many : Int} (h : Same22 l L many) : (l.map Ent.al).Perm L := by
  obtain ⟨M, h1, h2, h3, h4⟩ := h
  rw [← h1]; exact h4.map _
theorem Same22.tick {l : List Ent} {L : List Al} {many now : Int} (h : Same22 l L many) (hh : HeapE l) :
    (tickE l now).1.map Ent.al = (allA L).filter (fun a => decide (a.due ≤ now)) ∧ Same22 (tickE l now).2 (L.filter (fun a => decide (now < a.due))) many := by
  obtain ⟨t1, t2, t3, t4, t5⟩ := tick_ok now _ l rfl hh
  obtain ⟨p1, p2⟩ := perm_filter_out t1 t4 t5
  refine ⟨?_, (h.filter (fun a => decide (now < a.due))).perm p2.symm⟩
  obtain ⟨M, h1, h2, h3, h4⟩ := h
  obtain ⟨T, s1, s2, s3⟩ := all_sorted _ M rfl h2
  rw [← h1, ← s3, ← filter_al T (fun a => decide (a.due ≤ now))]
  have hp : (tickE l now).1.Perm (T.filter (fun x => decide (x.al.due ≤ now))) := p1.symm.trans ((h4.trans s1.symm).filter _)
  have hn : ((tickE l now).1.map Ent.n).Nodup := by
    rw [(hp.map Ent.n).nodup_iff]
    refine List.Nodup.sublist ((List.filter_sublist (l := T)).map Ent.n) ?_
    rw [(s1.map Ent.n).nodup_iff]
    exact nodup_of_lt h2
  exact congrArg _ (sorted_one hp t3 (s2.filter _) hn)
/-- What goes off next. -/
theorem Same22.next {l : List Ent} {L : List Al} {many : Int} (h : Same22 l L many) (hh : HeapE l) (h0 : 0 < l.length) : (atL l 0).al.due = (atL (allA L) 0).due := by
  obtain ⟨M, h1, h2, h3, h4⟩ := h
  obtain ⟨T, s1, s2, s3⟩ := all_sorted _ M rfl h2
  have hlen : T.length = l.length := (s1.trans h4.symm).length_eq
  have hT : T = atL T 0 :: T.drop 1 := by
    rw [atL_eq (by omega)]
    have := List.drop_eq_getElem_cons (l := T) (i := 0) (by omega)
    rwa [List.drop_zero] at this
  have e1 : atL (allA L) 0 = (atL T 0).al := by
    rw [← h1, ← s3, atL_eq (by simp; omega), List.getElem_map, atL_eq (by omega)]
  rw [e1]
  have m1 : atL T 0 ∈ l := (s1.trans h4.symm).subset (by rw [atL_eq (by omega)]; exact List.getElem_mem _)
  have m2 : atL l 0 ∈ T := (s1.trans h4.symm).symm.subset (by rw [atL_eq (by omega)]; exact List.getElem_mem _)
  have a1 := pop_least ltEnt_ord hh _ m1
  have a2 : ltEnt (atL l 0) (atL T 0) = false ∨ atL l 0 = atL T 0 := by
    rw [hT] at m2 s2
    rcases List.mem_cons.1 m2 with e | e
    · exact Or.inr e
    · exact Or.inl ((List.pairwise_cons.1 s2).1 _ e)
  rcases a2 with a2 | a2
  · rw [ltEnt_not] at a1 a2; omega
  · rw [a2]

end Go.Proofs.Ytofpmhkjagdmmaa
