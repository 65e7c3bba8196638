/- What firing does to each place; has over lists; no program here. -/
import Derived.Test.YtopgakpggnkkmaaNetWorks
namespace Go.Proofs.Ytopgakpggnkkmaa

theorem hasI_range : ∀ (l : List Int) (p : Int), 0 ≤ hasI l p ∧ hasI l p ≤ 1
  | [], _ => by simp [hasI]
  | x :: l, p => by
    simp only [hasI]
    split
    · simp
    · exact hasI_range l p

theorem hasI_no : ∀ {l : List Int} {p : Int}, p ∉ l → hasI l p = 0
  | [], _, _ => rfl
  | x :: l, p, h => by
    have h1 : ¬ x = p := fun e => h (by simp [e])
    have h2 : p ∉ l := fun e => h (by simp [e])
    simp [hasI, h1, hasI_no h2]
theorem hasI_yes : ∀ {l : List Int} {p : Int}, p ∈ l → hasI l p = 1
  | x :: l, p, h => by
    simp only [hasI]
    by_cases e : x = p
    · simp [e]
    · have : p ∈ l := by
        rcases List.mem_cons.1 h with h | h
        · exact absurd h.symm e
        · exact h
      simp [e, hasI_yes this]

theorem getI_decs : ∀ {ps m : List Int} {p : Int}, 0 ≤ p → p < (m.length : Int) → PlacesOk m.length ps → ps.Nodup → getI (decs m ps) p = getI m p - hasI ps p
  | [], m, p, _, _, _, _ => by simp [decs, hasI]
  | q :: ps, m, p, h0, h1, hp, hn => by
    obtain ⟨hn1, hn2⟩ := List.nodup_cons.1 hn
    have hq := hp q (by simp)
    show getI (decs (addI m q (-1)) ps) p = _
    rw [getI_decs h0 (by rw [len_addI]; exact h1) (by rw [len_addI]; exact fun x hx => hp x (by simp [hx])) hn2]
    by_cases e : q = p
    · subst e
      rw [getI_addI h0 h1, hasI_no hn1]
      simp [hasI]
      omega
    · rw [getI_addI_ne hq.1 h0 e]
      simp [hasI, e]

theorem getI_incs : ∀ {ps m m' : List Int} {p : Int}, 0 ≤ p → p < (m.length : Int) → PlacesOk m.length ps → ps.Nodup → incs m ps = some m' → getI m' p = getI m p + hasI ps p
  | [], m, m', p, _, _, _, _, h => by simp [incs] at h; simp [hasI, h]
  | q :: ps, m, m', p, h0, h1, hp, hn, h => by
    obtain ⟨hn1, hn2⟩ := List.nodup_cons.1 hn
    have hq := hp q (by simp)
    simp only [incs] at h
    split at h
    · cases h
    · rw [getI_incs h0 (by rw [len_addI]; exact h1) (by rw [len_addI]; exact fun x hx => hp x (by simp [hx])) hn2 h]
      by_cases e : q = p
      · subst e
        rw [getI_addI h0 h1, hasI_no hn1]
        simp [hasI]
      · rw [getI_addI_ne hq.1 h0 e]
        simp [hasI, e]

/-- What has fired takes and puts what its lists say. -/
theorem getI_fire {n : Nt} {m : List Int} (h : n.Mark m) {t : Tr} (ht : t ∈ n.trans) (h0 : (t.fireE m).1 = 0) {p : Int} (hp0 : 0 ≤ p) (hp1 : p < (m.length : Int)) :
    getI (t.fireE m).2 p = getI m p - hasI t.inn p + hasI t.out p := by
  have hin := h.ok.inn t ht
  have hout := h.ok.out t ht
  rw [← h.len] at hin hout
  revert h0
  unfold Tr.fireE
  split
  · split
    · intro h0; cases h0
    · next m' hi =>
      intro _
      show getI m' p = _
      rw [getI_incs hp0 (by rw [len_decs]; exact hp1) (by rw [len_decs]; exact hout.1) hout.2.nodup hi, getI_decs hp0 hp1 hin.1 hin.2.nodup]
  · intro h0; cases h0

theorem fireE_code (t : Tr) (m : List Int) : (t.enB m = false ∧ (t.fireE m).1 = 250) ∨ (t.enB m = true ∧ ((t.fireE m).1 = 91 ∨ (t.fireE m).1 = 0)) := by
  unfold Tr.fireE
  cases t.enB m with
  | false => exact Or.inl ⟨rfl, rfl⟩
  | true =>
    refine Or.inr ⟨rfl, ?_⟩
    simp only [if_true]
    split
    · exact Or.inl rfl
    · exact Or.inr rfl

theorem hasI_enGo (m : List Int) : ∀ (ts : List Tr) (k : Nat) (t : Nat) (ht : t < ts.length), hasI (enGo m ts k) ((k + t : Nat) : Int) = if ts[t].enB m then 1 else 0
  | x :: ts, k, 0, _ => by
    have hno : ∀ (ts : List Tr) (j : Nat), k < j → hasI (enGo m ts j) (k : Int) = 0 := by
      intro ts
      induction ts with
      | nil => intro j _; rfl
      | cons y ts ih =>
        intro j hj
        simp only [enGo]
        have : ¬ (j : Int) = (k : Int) := by omega
        split
        · simp [hasI, this, ih (j + 1) (by omega)]
        · exact ih (j + 1) (by omega)
    simp only [enGo, Nat.add_zero, List.getElem_cons_zero]
    split
    · simp [hasI]
    · exact hno ts (k + 1) (by omega)
  | x :: ts, k, t + 1, ht => by
    have ih := hasI_enGo m ts (k + 1) t (by simpa using ht)
    rw [show k + 1 + t = k + (t + 1) by omega] at ih
    simp only [enGo, List.getElem_cons_succ]
    split
    · have : ¬ (k : Int) = ((k + (t + 1) : Nat) : Int) := by omega
      simp only [hasI]
      rw [if_neg (by simpa using this)]
      exact ih
    · exact ih

theorem hasI_enE {n : Nt} {m : List Int} {q : Nat} (hq : q < n.trans.length) : hasI (n.enE m) (q : Int) = if n.trans[q].enB m then 1 else 0 := by
  have := hasI_enGo m n.trans 0 q hq
  simpa [Nt.enE] using this

theorem enGo_len (m : List Int) : ∀ (ts : List Tr) (k : Nat), (enGo m ts k).length ≤ ts.length
  | [], _ => by simp [enGo]
  | t :: ts, k => by
    have := enGo_len m ts (k + 1)
    simp only [enGo]
    split <;> simp <;> omega
theorem enL_len (n : Nt) (m : List Int) : (n.enL m).length ≤ n.trans.length := by
  unfold Nt.enL
  split
  · exact enGo_len m n.trans 0
  · simp

theorem rowE_one {n : Nt} {m : List Int} {t : Int} (h : n.markB m = true) (hb : n.badT t = false) :
    n.rowE m [t] = if ((n.tr t).fireE m).1 = 0 then (((n.tr t).fireE m).2, 1, 0) else ([], 0, ((n.tr t).fireE m).1) := by
  rw [rowE_3 h (by simp [hb])]
  simp [rowGo]

end Go.Proofs.Ytopgakpggnkkmaa
