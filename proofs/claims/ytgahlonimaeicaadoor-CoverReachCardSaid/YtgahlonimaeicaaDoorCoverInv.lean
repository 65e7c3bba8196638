/- What a grown tree is: each node comes of its parent, who is looked at has all its kids. On lists. -/
import Derived.Test.YtgahlonimaeicaaDoorCoverBudgetP
set_option maxRecDepth 100000
namespace Go.Proofs.YtgahlonimaeicaaDoor

def kidsOf (l : List Nd) (i : Nat) : List Int := (l.filter fun d => d.par == (i : Int)).map Nd.tr
def rootNd (n : Nt) : Nd := ⟨-1, -1, oneL n.places.length n.init, -1⟩

/-- Each node but the first comes of an earlier one. -/
structure KidOk (n : Nt) (l : List Nd) : Prop where
  pos : 0 < l.length
  root : ndAt l 0 = rootNd n
  kid : ∀ j, 0 < j → j < l.length → ∃ i k, ∃ hk : k < n.trans.length, i < j ∧ (ndAt l i).again < 0 ∧ n.trans[k].enB (ndAt l i).mark = true ∧ ndAt l j = kidE (l.take j) i k n.trans[k]

/-- The i-th node has all its kids. -/
def Done (n : Nt) (l : List Nd) (i : Nat) : Prop := kidsOf l i = if (ndAt l i).again < 0 then enGo (ndAt l i).mark n.trans 0 else []

theorem ndAt_app_lt {l m : List Nd} {i : Nat} (h : i < l.length) : ndAt (l ++ m) i = ndAt l i := by
  rw [ndAt_eq h, ndAt_eq (by simp; omega), List.getElem_append_left h]
theorem ndAt_take {l : List Nd} {i j : Nat} (h : i < j) (hj : j ≤ l.length) : ndAt (l.take j) i = ndAt l i := by
  rw [ndAt_eq (by simp; omega), ndAt_eq (by omega), List.getElem_take]
theorem kidsOf_app (l : List Nd) (d : Nd) (i : Nat) : kidsOf (l ++ [d]) i = if d.par = (i : Int) then kidsOf l i ++ [d.tr] else kidsOf l i := by
  unfold kidsOf
  rw [List.filter_append]
  by_cases h : d.par = (i : Int) <;> simp [h]
theorem enGo_snoc (m : List Int) : ∀ (ts : List Tr) (t : Tr) (k : Nat), enGo m (ts ++ [t]) k = enGo m ts k ++ if t.enB m then [((k + ts.length : Nat) : Int)] else []
  | [], t, k => by simp [enGo]
  | x :: ts, t, k => by
    simp only [List.cons_append, enGo]
    rw [enGo_snoc m ts t (k + 1)]
    have e : k + 1 + ts.length = k + (x :: ts).length := by simp; omega
    rw [e]
    split <;> simp
theorem enGo_take {m : List Int} {ts : List Tr} {k : Nat} (h : k < ts.length) : enGo m (ts.take (k + 1)) 0 = enGo m (ts.take k) 0 ++ if ts[k].enB m then [(k : Int)] else [] := by
  rw [List.take_succ_eq_append_getElem h, enGo_snoc]
  simp only [Nat.zero_add, List.length_take, Nat.min_eq_left (Nat.le_of_lt h)]

theorem growIn_inv (n : Nt) (most i : Nat) : ∀ (k : Nat) (xs : List Tr) (l l' : List Nd), xs = n.trans.drop k → growIn most i xs k l = some l' → i < l.length → (ndAt l i).again < 0 → KidOk n l →
    kidsOf l i = enGo (ndAt l i).mark (n.trans.take k) 0 → k ≤ n.trans.length →
    KidOk n l' ∧ kidsOf l' i = enGo (ndAt l i).mark n.trans 0 ∧ (∀ i', i' ≠ i → kidsOf l' i' = kidsOf l i') ∧ ∃ m, l' = l ++ m := by
  intro k xs
  induction xs generalizing k with
  | nil =>
    intro l l' hxs h hi ha hK hkids hk
    simp only [growIn, Option.some.injEq] at h
    subst h
    have : n.trans.length ≤ k := by
      have := congrArg List.length hxs
      simp at this; omega
    rw [List.take_of_length_le this] at hkids
    exact ⟨hK, hkids, fun _ _ => rfl, [], by simp⟩
  | cons x xs ih =>
    intro l l' hxs h hi ha hK hkids hk
    have hkl : k < n.trans.length := by
      rcases Nat.lt_or_ge k n.trans.length with h1 | h1
      · exact h1
      · rw [List.drop_eq_nil_of_le h1] at hxs; cases hxs
    rw [List.drop_eq_getElem_cons hkl] at hxs
    obtain ⟨rfl, rfl⟩ := List.cons.inj hxs
    simp only [growIn] at h
    split at h
    · rename_i hen
      split at h
      · cases h
      · have hd : ndAt (l ++ [kidE l i k n.trans[k]]) i = ndAt l i := ndAt_app_lt hi
        have hK' : KidOk n (l ++ [kidE l i k n.trans[k]]) := by
          refine ⟨by simp, by rw [ndAt_app_lt hK.pos]; exact hK.root, fun j h0 hj => ?_⟩
          by_cases hjl : j < l.length
          · obtain ⟨i2, k2, hk2, a1, a2, a3, a4⟩ := hK.kid j h0 hjl
            refine ⟨i2, k2, hk2, a1, ?_, ?_, ?_⟩
            · rw [ndAt_app_lt (by omega)]; exact a2
            · rw [ndAt_app_lt (by omega)]; exact a3
            · rw [ndAt_app_lt hjl, List.take_append_of_le_length (by omega)]; exact a4
          · obtain rfl : j = l.length := by simp at hj; omega
            refine ⟨i, k, hkl, hi, by rw [hd]; exact ha, by rw [hd]; exact hen, ?_⟩
            rw [ndAt_eq (by simp), List.getElem_append_right (by omega), List.take_left]
            simp
        have hkid : kidsOf (l ++ [kidE l i k n.trans[k]]) i = enGo (ndAt (l ++ [kidE l i k n.trans[k]]) i).mark (n.trans.take (k + 1)) 0 := by
          rw [kidsOf_app, if_pos (by rfl), hd, enGo_take hkl, hen, if_pos rfl, hkids]
          rfl
        obtain ⟨b1, b2, b3, m, b4⟩ := ih (k + 1) _ _ rfl h (by simp; omega) (by rw [hd]; exact ha) hK' hkid (by omega)
        refine ⟨b1, by rw [b2, hd], fun i' hi' => ?_, ⟨kidE l i k n.trans[k] :: m, by rw [b4]; simp⟩⟩
        rw [b3 i' hi', kidsOf_app, if_neg]
        show ¬ ((i : Int) = (i' : Int))
        omega
    · rename_i hen
      have hkid : kidsOf l i = enGo (ndAt l i).mark (n.trans.take (k + 1)) 0 := by
        rw [enGo_take hkl, if_neg hen, List.append_nil]; exact hkids
      exact ih (k + 1) _ _ rfl h hi ha hK hkid (by omega)

theorem growF_inv (n : Nt) (most : Nat) : ∀ (f i : Nat) (l l' : List Nd), growF n.trans most f i l = some l' → l.length ≤ most → most + 1 ≤ f + i → KidOk n l → (∀ i', i' < i → i' < l.length → Done n l i') → (∀ i', i ≤ i' → kidsOf l i' = []) →
    KidOk n l' ∧ ∀ i', i' < l'.length → Done n l' i'
  | 0, i, l, l', h, hl, hf, hK, hd, _ => by
    simp only [growF, Option.some.injEq] at h
    subst h
    exact ⟨hK, fun i' hi' => hd i' (by omega) hi'⟩
  | f + 1, i, l, l', h, hl, hf, hK, hd, hn => by
    simp only [growF] at h
    split at h
    · rename_i hi
      split at h
      · rename_i ha
        refine growF_inv n most f (i + 1) l l' h hl (by omega) hK (fun i' h1 h2 => ?_) (fun i' h1 => hn i' (by omega))
        by_cases e : i' = i
        · subst e
          unfold Done
          rw [if_neg (by omega)]
          exact hn i' (Nat.le_refl _)
        · exact hd i' (by omega) h2
      · rename_i ha
        cases e : growIn most i n.trans 0 l with
        | none => rw [e] at h; cases h
        | some l2 =>
          rw [e] at h
          have h2 : growF n.trans most f (i + 1) l2 = some l' := h
          obtain ⟨b1, b2, b3, m, b4⟩ := growIn_inv n most i 0 n.trans l l2 rfl e hi (by omega) hK (by rw [hn i (Nat.le_refl _)]; rfl) (by omega)
          refine growF_inv n most f (i + 1) l2 l' h2 (growIn_le _ _ _ _ e hl) (by omega) b1 (fun i' h1 h3 => ?_) (fun i' h1 => ?_)
          · by_cases ei : i' = i
            · subst ei
              unfold Done
              rw [b2, b4, ndAt_app_lt hi, if_pos (by omega)]
            · have hil : i' < l.length := by omega
              have := hd i' (by omega) hil
              unfold Done at this ⊢
              rw [b3 i' ei, this, b4, ndAt_app_lt hil]
          · rw [b3 i' (by omega)]
            exact hn i' (by omega)
    · rename_i hi
      simp only [Option.some.injEq] at h
      subst h
      exact ⟨hK, fun i' hi' => hd i' (by omega) hi'⟩

/-- A tree that has grown to its end. -/
theorem growE_inv {n : Nt} {most : Nat} {l : List Nd} (h : growE n most = some l) (hm : 1 ≤ most) : KidOk n l ∧ ∀ i, i < l.length → Done n l i := by
  refine growF_inv n most _ 0 (rootE n) l h (by simpa [rootE] using hm) (by omega) ?_ (fun i' h1 => by omega) (fun i' _ => ?_)
  · refine ⟨by simp [rootE], rfl, fun j h0 hj => ?_⟩
    simp [rootE] at hj; omega
  · simp [kidsOf, rootE]

/-- The number of a marking's first node tells of no earlier one. -/
theorem again_first {n : Nt} {l : List Nd} (hK : KidOk n l) {i : Nat} (hi : i < l.length) (ha : 0 ≤ (ndAt l i).again) : ∃ j, j < i ∧ (ndAt l j).mark = (ndAt l i).mark ∧ (ndAt l j).again < 0 ∧ (ndAt l i).again = (j : Int) := by
  have key : ∀ (i : Nat), i < l.length → (ndAt l i).again = againE (l.take i) (ndAt l i).mark := by
    intro i hi
    by_cases h0 : i = 0
    · subst h0; rw [hK.root]; rfl
    · obtain ⟨a, k, hk, h1, h2, h3, h4⟩ := hK.kid i (by omega) hi
      rw [h4]; rfl
  have e := key i hi
  rw [e] at ha ⊢
  unfold againE at ha ⊢
  cases hf : (l.take i).findIdx? (fun d => d.mark == (ndAt l i).mark) with
  | none => rw [hf] at ha; simp at ha
  | some j =>
    obtain ⟨h1, h2, h3⟩ := List.findIdx?_eq_some_iff_getElem.1 hf
    have hji : j < i := by simp at h1; omega
    have hm : (ndAt l j).mark = (ndAt l i).mark := by
      rw [ndAt_eq (by omega)]
      simpa using h2
    refine ⟨j, hji, hm, ?_, rfl⟩
    rw [key j (by omega)]
    unfold againE
    cases hg : (l.take j).findIdx? (fun d => d.mark == (ndAt l j).mark) with
    | none => simp
    | some q =>
      exfalso
      obtain ⟨g1, g2, _⟩ := List.findIdx?_eq_some_iff_getElem.1 hg
      have hq : q < j := by simp at g1; omega
      have := h3 q hq
      simp only [List.getElem_take] at g2 this
      rw [hm] at g2
      exact absurd g2 (by simpa using this)

end Go.Proofs.YtgahlonimaeicaaDoor
