/- With a greater budget the tree is the same: on lists. -/
import Derived.Test.YtgahlonimaeicaaDoorCoverWorks2
set_option maxRecDepth 100000
namespace Go.Proofs.YtgahlonimaeicaaDoor

theorem growIn_len {most i : Nat} : ∀ (xs : List Tr) (k : Nat) (l l' : List Nd), growIn most i xs k l = some l' → l.length ≤ l'.length
  | [], _, l, l', h => by simp only [growIn, Option.some.injEq] at h; subst h; exact Nat.le_refl _
  | x :: xs, k, l, l', h => by
    simp only [growIn] at h
    split at h
    · split at h
      · cases h
      · have := growIn_len xs _ _ _ h
        simp at this; omega
    · exact growIn_len xs _ _ _ h
theorem growF_len {ts : List Tr} {most : Nat} : ∀ (f i : Nat) (l l' : List Nd), growF ts most f i l = some l' → l.length ≤ l'.length
  | 0, i, l, l', h => by simp only [growF, Option.some.injEq] at h; subst h; exact Nat.le_refl _
  | f + 1, i, l, l', h => by
    simp only [growF] at h
    split at h
    · split at h
      · exact growF_len f _ _ _ h
      · cases e : growIn most i ts 0 l with
        | none => rw [e] at h; cases h
        | some l2 =>
          rw [e] at h
          have h1 := growIn_len _ _ _ _ e
          have h2 := growF_len f _ _ _ h
          omega
    · simp only [Option.some.injEq] at h; subst h; exact Nat.le_refl _

theorem growIn_le {most i : Nat} : ∀ (xs : List Tr) (k : Nat) (l l' : List Nd), growIn most i xs k l = some l' → l.length ≤ most → l'.length ≤ most
  | [], _, l, l', h, hl => by simp only [growIn, Option.some.injEq] at h; subst h; exact hl
  | x :: xs, k, l, l', h, hl => by
    simp only [growIn] at h
    split at h
    · split at h
      · cases h
      · exact growIn_le xs _ _ _ h (by simp; omega)
    · exact growIn_le xs _ _ _ h hl

theorem growIn_up {lo hi i : Nat} (hle : lo ≤ hi) : ∀ (xs : List Tr) (k : Nat) (l l' : List Nd), growIn lo i xs k l = some l' → l.length ≤ lo → growIn hi i xs k l = some l'
  | [], _, l, l', h, _ => h
  | x :: xs, k, l, l', h, hl => by
    simp only [growIn] at h ⊢
    split at h
    · rename_i hx
      rw [if_pos hx]
      split at h
      · cases h
      · rw [if_neg (by omega)]
        exact growIn_up hle xs _ _ _ h (by simp; omega)
    · rename_i hx
      rw [if_neg hx]
      exact growIn_up hle xs _ _ _ h hl
theorem growIn_down {lo hi i : Nat} : ∀ (xs : List Tr) (k : Nat) (l l' : List Nd), growIn hi i xs k l = some l' → l'.length ≤ lo → growIn lo i xs k l = some l'
  | [], _, l, l', h, _ => h
  | x :: xs, k, l, l', h, hl => by
    simp only [growIn] at h ⊢
    split at h
    · rename_i hx
      rw [if_pos hx]
      split at h
      · cases h
      · have := growIn_len xs _ _ _ h
        simp at this
        rw [if_neg (by omega)]
        exact growIn_down xs _ _ _ h hl
    · rename_i hx
      rw [if_neg hx]
      exact growIn_down xs _ _ _ h hl

theorem growF_up {ts : List Tr} {lo hi : Nat} (hle : lo ≤ hi) : ∀ (f f' i : Nat) (l l' : List Nd), growF ts lo f i l = some l' → l.length ≤ lo → lo + 1 ≤ f + i → lo + 1 ≤ f' + i → growF ts hi f' i l = some l'
  | 0, 0, i, l, l', h, _, _, _ => h
  | 0, f' + 1, i, l, l', h, hl, h1, _ => by
    simp only [growF] at h ⊢
    rw [if_neg (by omega)]; exact h
  | f + 1, 0, i, l, l', h, hl, _, h2 => by
    simp only [growF] at h ⊢
    rw [if_neg (by omega)] at h; exact h
  | f + 1, f' + 1, i, l, l', h, hl, h1, h2 => by
    simp only [growF] at h ⊢
    split at h
    · rename_i hi2
      rw [if_pos hi2]
      split at h
      · rename_i ha
        rw [if_pos ha]
        exact growF_up hle f f' _ _ _ h hl (by omega) (by omega)
      · rename_i ha
        rw [if_neg ha]
        cases e : growIn lo i ts 0 l with
        | none => rw [e] at h; cases h
        | some l2 =>
          rw [e] at h
          rw [growIn_up hle _ _ _ _ e hl]
          exact growF_up hle f f' _ _ _ h (growIn_le _ _ _ _ e hl) (by omega) (by omega)
    · rename_i hi2
      rw [if_neg hi2]; exact h
theorem growF_down {ts : List Tr} {lo hi : Nat} (hle : lo ≤ hi) : ∀ (f f' i : Nat) (l l' : List Nd), growF ts hi f i l = some l' → l'.length ≤ lo → hi + 1 ≤ f + i → lo + 1 ≤ f' + i → growF ts lo f' i l = some l'
  | 0, 0, i, l, l', h, _, _, _ => h
  | 0, f' + 1, i, l, l', h, hl, h1, _ => by
    have := growF_len 0 _ _ _ h
    simp only [growF] at h ⊢
    rw [if_neg (by omega)]; exact h
  | f + 1, 0, i, l, l', h, hl, _, h2 => by
    have := growF_len _ _ _ _ h
    simp only [growF] at h ⊢
    rw [if_neg (by omega)] at h; exact h
  | f + 1, f' + 1, i, l, l', h, hl, h1, h2 => by
    simp only [growF] at h ⊢
    split at h
    · rename_i hi2
      rw [if_pos hi2]
      split at h
      · rename_i ha
        rw [if_pos ha]
        exact growF_down hle f f' _ _ _ h hl (by omega) (by omega)
      · rename_i ha
        rw [if_neg ha]
        cases e : growIn hi i ts 0 l with
        | none => rw [e] at h; cases h
        | some l2 =>
          rw [e] at h
          have := growF_len _ _ _ _ h
          rw [growIn_down _ _ _ _ e (by omega)]
          exact growF_down hle f f' _ _ _ h hl (by omega) (by omega)
    · rename_i hi2
      rw [if_neg hi2]; exact h

theorem growF_most {ts : List Tr} {most : Nat} : ∀ (f i : Nat) (l l' : List Nd), growF ts most f i l = some l' → l.length ≤ most → l'.length ≤ most
  | 0, i, l, l', h, hl => by simp only [growF, Option.some.injEq] at h; subst h; exact hl
  | f + 1, i, l, l', h, hl => by
    simp only [growF] at h
    split at h
    · split at h
      · exact growF_most f _ _ _ h hl
      · cases e : growIn most i ts 0 l with
        | none => rw [e] at h; cases h
        | some l2 =>
          rw [e] at h
          exact growF_most f _ _ _ h (growIn_le _ _ _ _ e hl)
    · simp only [Option.some.injEq] at h; subst h; exact hl

/-- What two budgets come to. -/
theorem budget_law (n : Nt) (lo hi : Nat) (h1 : 1 ≤ lo) (h2 : lo ≤ hi) (h3 : hi ≤ 4096) :
    (growR n (lo : Int) = .inl 1 ∧ growR n (hi : Int) = .inl 1) ∨ (growR n (lo : Int) = .inl 170 ∧ growR n (hi : Int) = .inl 170) ∨
    (∃ l, growR n (lo : Int) = .inl 170 ∧ growR n (hi : Int) = .inr l ∧ lo < l.length ∧ l.length ≤ 4096) ∨ (∃ l, growR n (lo : Int) = .inr l ∧ growR n (hi : Int) = .inr l ∧ l.length ≤ lo) := by
  cases hok : n.okB with
  | false => left; simp [growR, hok]
  | true =>
    right
    have e : ∀ m : Nat, 1 ≤ m → m ≤ 4096 → growR n (m : Int) = match growE n m with | none => .inl 170 | some l => .inr l := fun m a b => by
      unfold growR
      rw [hok, if_pos rfl, if_neg (by omega), if_neg (by omega)]; rfl
    rw [e lo h1 (by omega), e hi (by omega) h3]
    have hr : (rootE n).length = 1 := rfl
    cases a : growE n lo with
    | some l =>
      right; right
      have b : growE n hi = some l := growF_up h2 _ _ _ _ _ a (by omega) (by omega) (by omega)
      rw [b]
      exact ⟨l, rfl, rfl, growF_most _ _ _ _ a (by omega)⟩
    | none =>
      cases b : growE n hi with
      | none => left; exact ⟨rfl, rfl⟩
      | some l =>
        right; left
        refine ⟨l, rfl, rfl, ?_, Nat.le_trans (growF_most _ _ _ _ b (by omega)) h3⟩
        rcases Nat.lt_or_ge lo l.length with h | h
        · exact h
        · have : growE n lo = some l := growF_down h2 _ _ _ _ _ b h (by omega) (by omega)
          rw [this] at a; cases a

theorem budget_law' (n : Nt) (lo hi : Nat) (h2 : lo ≤ hi) (h3 : hi < 4096) :
    (growR n (1 + (lo : Int)) = .inl 1 ∧ growR n (1 + (hi : Int)) = .inl 1) ∨ (growR n (1 + (lo : Int)) = .inl 170 ∧ growR n (1 + (hi : Int)) = .inl 170) ∨
    (∃ l, growR n (1 + (lo : Int)) = .inl 170 ∧ growR n (1 + (hi : Int)) = .inr l ∧ lo + 1 < l.length ∧ l.length ≤ 4096) ∨ (∃ l, growR n (1 + (lo : Int)) = .inr l ∧ growR n (1 + (hi : Int)) = .inr l ∧ l.length ≤ lo + 1) := by
  rw [show (1 + (lo : Int)) = ((lo + 1 : Nat) : Int) by omega, show (1 + (hi : Int)) = ((hi + 1 : Nat) : Int) by omega]
  exact budget_law n (lo + 1) (hi + 1) (by omega) (by omega) (by omega)

end Go.Proofs.YtgahlonimaeicaaDoor
