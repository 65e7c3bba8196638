/- What firing does to each place; has over lists (for the seats without the law's own 'has'); no program here. -/
import Derived.Test.YtbolacnpljkpbaaDoorNetPlain2
set_option maxRecDepth 100000
namespace Go.Proofs.YtbolacnpljkpbaaDoor

/-- Does a list have a number? 1 or 0. -/
def hasI : List Int → Int → Int
  | [], _ => 0
  | x :: l, p => if x == p then 1 else hasI l p

theorem hasI_range : ∀ (l : List Int) (p : Int), 0 ≤ hasI l p ∧ hasI l p ≤ 1
  | [], _ => by simp [hasI]
  | x :: l, p => by
    simp only [hasI]
    split
    · simp
    · exact hasI_range l p

theorem hasI_no : ∀ {l : List Int} {p : Int}, p ∉ l → hasI l p = 0
  | [], _, _ => rfl
  | x :: l, p, h => by
    have h1 : ¬ x = p := fun e => h (by simp [e])
    have h2 : p ∉ l := fun e => h (by simp [e])
    simp [hasI, h1, hasI_no h2]
theorem hasI_yes : ∀ {l : List Int} {p : Int}, p ∈ l → hasI l p = 1
  | x :: l, p, h => by
    simp only [hasI]
    by_cases e : x = p
    · simp [e]
    · have : p ∈ l := by
        rcases List.mem_cons.1 h with h | h
        · exact absurd h.symm e
        · exact h
      simp [e, hasI_yes this]

theorem getI_decs : ∀ {ps m : List Int} {p : Int}, 0 ≤ p → p < (m.length : Int) → PlacesOk m.length ps → ps.Nodup → getI (decs m ps) p = getI m p - hasI ps p
  | [], m, p, _, _, _, _ => by simp [decs, hasI]
  | q :: ps, m, p, h0, h1, hp, hn => by
    obtain ⟨hn1, hn2⟩ := List.nodup_cons.1 hn
    have hq := hp q (by simp)
    show getI (decs (addI m q (-1)) ps) p = _
    rw [getI_decs h0 (by rw [len_addI]; exact h1) (by rw [len_addI]; exact fun x hx => hp x (by simp [hx])) hn2]
    by_cases e : q = p
    · subst e
      rw [getI_addI h0 h1, hasI_no hn1]
      simp [hasI]
      omega
    · rw [getI_addI_ne hq.1 h0 e]
      simp [hasI, e]

theorem getI_incs : ∀ {ps m m' : List Int} {p : Int}, 0 ≤ p → p < (m.length : Int) → PlacesOk m.length ps → ps.Nodup → incs m ps = some m' → getI m' p = getI m p + hasI ps p
  | [], m, m', p, _, _, _, _, h => by simp [incs] at h; simp [hasI, h]
  | q :: ps, m, m', p, h0, h1, hp, hn, h => by
    obtain ⟨hn1, hn2⟩ := List.nodup_cons.1 hn
    have hq := hp q (by simp)
    simp only [incs] at h
    split at h
    · cases h
    · rw [getI_incs h0 (by rw [len_addI]; exact h1) (by rw [len_addI]; exact fun x hx => hp x (by simp [hx])) hn2 h]
      by_cases e : q = p
      · subst e
        rw [getI_addI h0 h1, hasI_no hn1]
        simp [hasI]
      · rw [getI_addI_ne hq.1 h0 e]
        simp [hasI, e]

/-- What has fired takes and puts what its lists say. -/
theorem getI_fire {n : Nt} {m : List Int} (h : n.Mark m) {t : Tr} (ht : t ∈ n.trans) (h0 : (t.fireE m).1 = 0) {p : Int} (hp0 : 0 ≤ p) (hp1 : p < (m.length : Int)) :
    getI (t.fireE m).2 p = getI m p - hasI t.inn p + hasI t.out p := by
  have hin := h.ok.inn t ht
  have hout := h.ok.out t ht
  rw [← h.len] at hin hout
  revert h0
  unfold Tr.fireE
  split
  · split
    · intro h0; cases h0
    · next m' hi =>
      intro _
      show getI m' p = _
      rw [getI_incs hp0 (by rw [len_decs]; exact hp1) (by rw [len_decs]; exact hout.1) hout.2.nodup hi, getI_decs hp0 hp1 hin.1 hin.2.nodup]
  · intro h0; cases h0

theorem getI_cons_zero (x : Int) (l : List Int) : getI (x :: l) ((0 : Nat) : Int) = x := rfl
theorem getI_cons_succ (x : Int) (l : List Int) (p : Nat) : getI (x :: l) ((p + 1 : Nat) : Int) = getI l (p : Nat) := by
  simp only [getI, Int.toNat_natCast]
  rfl

end Go.Proofs.YtbolacnpljkpbaaDoor
