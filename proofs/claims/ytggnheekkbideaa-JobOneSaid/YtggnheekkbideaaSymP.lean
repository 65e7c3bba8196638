/- Go's stable merge in place, on lists; no program here. -/
import Derived.Test.YtggnheekkbideaaHeapP
set_option maxRecDepth 100000
namespace Go.Proofs.Ytggnheekkbideaa

section
variable {α : Type} [Inhabited α]

def swapsF (d : List α) (a b : Nat) : Nat → List α
  | 0 => d
  | k + 1 => swapL (swapsF d a b k) (a + k) (b + k)
theorem len_swapsF (d : List α) (a b : Nat) : ∀ k, (swapsF d a b k).length = d.length
  | 0 => rfl
  | k + 1 => by unfold swapsF; rw [len_swapL, len_swapsF d a b k]
theorem atL_swapsF {d : List α} {a b : Nat} : ∀ (k : Nat), a + k ≤ b → b + k ≤ d.length → ∀ x, atL (swapsF d a b k) x = if a ≤ x ∧ x < a + k then atL d (x - a + b) else if b ≤ x ∧ x < b + k then atL d (x - b + a) else atL d x
  | 0, _, _, x => by rw [if_neg (by omega), if_neg (by omega)]; rfl
  | k + 1, h1, h2, x => by
    unfold swapsF
    have ih := atL_swapsF (d := d) (a := a) (b := b) k (by omega) (by omega)
    rw [atL_swapL (by rw [len_swapsF]; omega) (by rw [len_swapsF]; omega)]
    by_cases e1 : x = b + k
    · subst e1
      rw [if_pos rfl, ih, if_neg (by omega), if_neg (by omega), if_neg (by omega), if_pos (by omega)]
      congr 1; omega
    · rw [if_neg e1]
      by_cases e2 : x = a + k
      · subst e2
        rw [if_pos rfl, ih, if_neg (by omega), if_neg (by omega), if_pos (by omega)]
        congr 1; omega
      · rw [if_neg e2, ih]
        by_cases c1 : a ≤ x ∧ x < a + k
        · rw [if_pos c1, if_pos (by omega)]
        · rw [if_neg c1, if_neg (show ¬ (a ≤ x ∧ x < a + (k + 1)) by omega)]
          by_cases c2 : b ≤ x ∧ x < b + k
          · rw [if_pos c2, if_pos (by omega)]
          · rw [if_neg c2, if_neg (by omega)]
theorem perm_swapsF {d : List α} {a b : Nat} : ∀ (k : Nat), a + k ≤ d.length → b + k ≤ d.length → (swapsF d a b k).Perm d
  | 0, _, _ => List.Perm.refl _
  | k + 1, h1, h2 => by
    unfold swapsF
    exact (perm_swapL (by rw [len_swapsF]; omega) (by rw [len_swapsF]; omega)).trans (perm_swapsF k (by omega) (by omega))

/-- The rows of i ahead of m and of j from m on are turned. -/
def rotF : Nat → List α → Nat → Nat → Nat → List α
  | 0, d, _, _, _ => d
  | f + 1, d, m, i, j => if i = j then swapsF d (m - i) m i else if j < i then rotF f (swapsF d (m - i) m j) m (i - j) j else rotF f (swapsF d (m - i) (m + j - i) i) m i (j - i)
theorem len_rotF : ∀ (f : Nat) (d : List α) (m i j : Nat), (rotF f d m i j).length = d.length
  | 0, _, _, _, _ => rfl
  | f + 1, d, m, i, j => by
    unfold rotF
    split
    · exact len_swapsF _ _ _ _
    · split <;> rw [len_rotF f, len_swapsF]
theorem atL_rotF : ∀ (f : Nat) (d : List α) (m i j : Nat), 0 < i → 0 < j → i ≤ m → m + j ≤ d.length → i + j ≤ f → ∀ x,
    atL (rotF f d m i j) x = if m - i ≤ x ∧ x < m - i + j then atL d (x + i) else if m - i + j ≤ x ∧ x < m + j then atL d (x - j) else atL d x
  | 0, _, _, _, _, _, _, _, _, h, _ => by omega
  | f + 1, d, m, i, j, hi, hj, him, hmj, hf, x => by
    unfold rotF
    by_cases e : i = j
    · subst e
      rw [if_pos rfl, atL_swapsF i (by omega) (by omega)]
      by_cases c1 : m - i ≤ x ∧ x < m - i + i
      · rw [if_pos c1, if_pos c1]; congr 1; omega
      · rw [if_neg c1, if_neg c1]
        by_cases c2 : m ≤ x ∧ x < m + i
        · rw [if_pos c2, if_pos (by omega)]; congr 1; omega
        · rw [if_neg c2, if_neg (by omega)]
    · rw [if_neg e]
      by_cases hlt : j < i
      · rw [if_pos hlt, atL_rotF f _ m (i - j) j (by omega) hj (by omega) (by rw [len_swapsF]; omega) (by omega) x]
        have sw := atL_swapsF (d := d) (a := m - i) (b := m) j (by omega) (by omega)
        simp only [sw]
        repeat' split
        all_goals first | rfl | omega | exact absurd trivial ‹¬True› | (congr 1; omega)
      · rw [if_neg hlt, atL_rotF f _ m i (j - i) hi (by omega) him (by rw [len_swapsF]; omega) (by omega) x]
        have sw := atL_swapsF (d := d) (a := m - i) (b := m + j - i) i (by omega) (by omega)
        simp only [sw]
        repeat' split
        all_goals first | rfl | omega | exact absurd trivial ‹¬True› | (congr 1; omega)
theorem perm_rotF : ∀ (f : Nat) (d : List α) (m i j : Nat), i ≤ m → m + j ≤ d.length → (rotF f d m i j).Perm d
  | 0, _, _, _, _, _, _ => List.Perm.refl _
  | f + 1, d, m, i, j, h1, h2 => by
    unfold rotF
    split
    · exact perm_swapsF _ (by omega) (by omega)
    · split
      · exact (perm_rotF f _ _ _ _ (by omega) (by rw [len_swapsF]; omega)).trans (perm_swapsF _ (by omega) (by omega))
      · exact (perm_rotF f _ _ _ _ (by omega) (by rw [len_swapsF]; omega)).trans (perm_swapsF _ (by omega) (by omega))

/-- A search by halves: the first at which p holds, if p turns but once. -/
def searchF (p : Nat → Bool) : Nat → Nat → Nat → Nat
  | 0, s, _ => s
  | f + 1, s, r => if s < r then (if p ((s + r) / 2) = true then searchF p f s ((s + r) / 2) else searchF p f ((s + r) / 2 + 1) r) else s
theorem searchF_ok (p : Nat → Bool) : ∀ (f s r : Nat), s ≤ r → r - s ≤ f → s ≤ searchF p f s r ∧ searchF p f s r ≤ r ∧ (s < searchF p f s r → p (searchF p f s r - 1) = false) ∧ (searchF p f s r < r → p (searchF p f s r) = true)
  | 0, s, r, h, hf => by
    unfold searchF
    exact ⟨Nat.le_refl _, h, fun h => by omega, fun h => by omega⟩
  | f + 1, s, r, h, hf => by
    unfold searchF
    by_cases hs : s < r
    · rw [if_pos hs]
      by_cases hp : p ((s + r) / 2) = true
      · rw [if_pos hp]
        obtain ⟨h1, h2, h3, h4⟩ := searchF_ok p f s ((s + r) / 2) (by omega) (by omega)
        refine ⟨h1, by omega, h3, fun h => ?_⟩
        by_cases e : searchF p f s ((s + r) / 2) < (s + r) / 2
        · exact h4 e
        · have : searchF p f s ((s + r) / 2) = (s + r) / 2 := by omega
          rw [this]; exact hp
      · rw [if_neg hp]
        obtain ⟨h1, h2, h3, h4⟩ := searchF_ok p f ((s + r) / 2 + 1) r (by omega) (by omega)
        refine ⟨by omega, h2, fun h => ?_, h4⟩
        by_cases e : (s + r) / 2 + 1 < searchF p f ((s + r) / 2 + 1) r
        · exact h3 e
        · have : searchF p f ((s + r) / 2 + 1) r = (s + r) / 2 + 1 := by omega
          rw [this]
          simpa using hp
    · rw [if_neg hs]
      exact ⟨Nat.le_refl _, h, fun h => by omega, fun h => by omega⟩

/-- The element at a moves up by k. -/
def upsF (d : List α) (a : Nat) : Nat → List α
  | 0 => d
  | k + 1 => swapL (upsF d a k) (a + k) (a + k + 1)
theorem len_upsF (d : List α) (a : Nat) : ∀ k, (upsF d a k).length = d.length
  | 0 => rfl
  | k + 1 => by unfold upsF; rw [len_swapL, len_upsF d a k]
theorem atL_upsF {d : List α} {a : Nat} : ∀ (k : Nat), a + k < d.length → ∀ x, atL (upsF d a k) x = if a ≤ x ∧ x < a + k then atL d (x + 1) else if x = a + k then atL d a else atL d x
  | 0, h, x => by
    rw [if_neg (by omega)]
    split
    · rename_i e; rw [e]; rfl
    · rfl
  | k + 1, h, x => by
    unfold upsF
    have ih := atL_upsF (d := d) (a := a) k (by omega)
    rw [atL_swapL (by rw [len_upsF]; omega) (by rw [len_upsF]; omega)]
    simp only [ih]
    repeat' split
    all_goals first | rfl | omega | exact absurd trivial ‹¬True› | (congr 1; omega)
theorem perm_upsF {d : List α} {a : Nat} : ∀ (k : Nat), a + k < d.length → (upsF d a k).Perm d
  | 0, _ => List.Perm.refl _
  | k + 1, h => (perm_swapL (by rw [len_upsF]; omega) (by rw [len_upsF]; omega)).trans (perm_upsF k (by omega))
/-- The element at m moves down by k. -/
def dnsF (d : List α) (m : Nat) : Nat → List α
  | 0 => d
  | k + 1 => swapL (dnsF d m k) (m - k) (m - k - 1)
theorem len_dnsF (d : List α) (a : Nat) : ∀ k, (dnsF d a k).length = d.length
  | 0 => rfl
  | k + 1 => by unfold dnsF; rw [len_swapL, len_dnsF d a k]
theorem atL_dnsF {d : List α} {m : Nat} (hm : m < d.length) : ∀ (k : Nat), k ≤ m → ∀ x, atL (dnsF d m k) x = if m - k < x ∧ x ≤ m then atL d (x - 1) else if x = m - k then atL d m else atL d x
  | 0, h, x => by
    rw [if_neg (by omega)]
    split
    · rename_i e; rw [e]; rfl
    · rfl
  | k + 1, h, x => by
    unfold dnsF
    have ih := atL_dnsF (d := d) (m := m) hm k (by omega)
    rw [atL_swapL (by rw [len_dnsF]; omega) (by rw [len_dnsF]; omega)]
    simp only [ih]
    repeat' split
    all_goals first | rfl | omega | exact absurd trivial ‹¬True› | (congr 1; omega)
theorem perm_dnsF {d : List α} {m : Nat} (hm : m < d.length) : ∀ (k : Nat), k ≤ m → (dnsF d m k).Perm d
  | 0, _ => List.Perm.refl _
  | k + 1, h => (perm_swapL (by rw [len_dnsF]; omega) (by rw [len_dnsF]; omega)).trans (perm_dnsF hm k (by omega))

variable (lt : α → α → Bool)

def startF (d : List α) (a m b : Nat) : Nat :=
  if (a + b) / 2 < m then searchF (fun c => lt (atL d ((a + b) / 2 + m - 1 - c)) (atL d c)) ((a + b) / 2 - ((a + b) / 2 + m - b)) ((a + b) / 2 + m - b) ((a + b) / 2)
  else searchF (fun c => lt (atL d ((a + b) / 2 + m - 1 - c)) (atL d c)) (m - a) a m
def turnF (d : List α) (a m b : Nat) : List α :=
  if startF lt d a m b < m ∧ m < (a + b) / 2 + m - startF lt d a m b then rotF (b - a) d m (m - startF lt d a m b) ((a + b) / 2 + m - startF lt d a m b - m) else d
/-- The rows [a, m) and [m, b), each sorted, become one. -/
def symF : Nat → List α → Nat → Nat → Nat → List α
  | 0, d, _, _, _ => d
  | f + 1, d, a, m, b =>
    if m - a = 1 then upsF d a (searchF (fun h => !lt (atL d h) (atL d a)) (b - m) m b - 1 - a)
    else if b - m = 1 then dnsF d m (m - searchF (fun h => lt (atL d m) (atL d h)) (m - a) a m)
    else
      let s := startF lt d a m b
      let e := (a + b) / 2 + m - s
      let d1 := turnF lt d a m b
      let d2 := if a < s ∧ s < (a + b) / 2 then symF f d1 a s ((a + b) / 2) else d1
      if (a + b) / 2 < e ∧ e < b then symF f d2 ((a + b) / 2) e b else d2

theorem len_turnF (d : List α) (a m b : Nat) : (turnF lt d a m b).length = d.length := by
  unfold turnF
  split
  · exact len_rotF _ _ _ _ _
  · rfl
theorem len_symF : ∀ (f : Nat) (d : List α) (a m b : Nat), (symF lt f d a m b).length = d.length
  | 0, _, _, _, _ => rfl
  | f + 1, d, a, m, b => by
    unfold symF
    split
    · exact len_upsF _ _ _
    · split
      · exact len_dnsF _ _ _
      · dsimp only
        split <;> split <;> simp only [len_symF f, len_turnF]

variable (R : α → α → Prop)
structure Stab : Prop where
  refl : ∀ x, R x x
  trans : ∀ x y z, R x y → R y z → R x z

def SortR (d : List α) (a b : Nat) : Prop := ∀ i j, a ≤ i → i ≤ j → j < b → R (atL d i) (atL d j)
def Cross (d : List α) (a m b : Nat) : Prop := ∀ i j, a ≤ i → i < m → m ≤ j → j < b → (lt (atL d j) (atL d i) = true → R (atL d j) (atL d i)) ∧ (lt (atL d j) (atL d i) = false → R (atL d i) (atL d j))
def Img (d d' : List α) (a b : Nat) : Prop := (∀ x, ¬ (a ≤ x ∧ x < b) → atL d' x = atL d x) ∧ (∀ x, a ≤ x → x < b → ∃ y, a ≤ y ∧ y < b ∧ atL d' x = atL d y)

theorem Img.refl (d : List α) (a b : Nat) : Img d d a b := ⟨fun _ _ => rfl, fun x h1 h2 => ⟨x, h1, h2, rfl⟩⟩
theorem Img.trans {d e f : List α} {a b a' b' c c' : Nat} (h : Img d e a b) (k : Img e f a' b') (h1 : c ≤ a) (h2 : b ≤ c') (h3 : c ≤ a') (h4 : b' ≤ c') : Img d f c c' := by
  have one : ∀ x, c ≤ x → x < c' → ∃ y, c ≤ y ∧ y < c' ∧ atL e x = atL d y := fun x hx hx' => by
    by_cases e1 : a ≤ x ∧ x < b
    · obtain ⟨y, y1, y2, y3⟩ := h.2 x e1.1 e1.2
      exact ⟨y, by omega, by omega, y3⟩
    · exact ⟨x, hx, hx', h.1 x e1⟩
  refine ⟨fun x hx => ?_, fun x hx hx' => ?_⟩
  · rw [k.1 x (by omega), h.1 x (by omega)]
  · by_cases e1 : a' ≤ x ∧ x < b'
    · obtain ⟨y, y1, y2, y3⟩ := k.2 x e1.1 e1.2
      obtain ⟨z, z1, z2, z3⟩ := one y (by omega) (by omega)
      exact ⟨z, z1, z2, by rw [y3, z3]⟩
    · rw [k.1 x e1]; exact one x hx hx'

variable {lt R}
theorem start_ok {d : List α} {a m b : Nat} (h1 : a < m) (h2 : m < b) :
    a ≤ startF lt d a m b ∧ startF lt d a m b ≤ m ∧ startF lt d a m b ≤ (a + b) / 2 ∧ m ≤ (a + b) / 2 + m - startF lt d a m b ∧ (a + b) / 2 + m - startF lt d a m b ≤ b ∧
    (startF lt d a m b < m → m < (a + b) / 2 + m - startF lt d a m b → lt (atL d ((a + b) / 2 + m - startF lt d a m b - 1)) (atL d (startF lt d a m b)) = true) ∧
    (a < startF lt d a m b → (a + b) / 2 + m - startF lt d a m b < b → lt (atL d ((a + b) / 2 + m - startF lt d a m b)) (atL d (startF lt d a m b - 1)) = false) := by
  unfold startF
  by_cases hm : (a + b) / 2 < m
  · simp only [hm, if_true]
    obtain ⟨g1, g2, g3, g4⟩ := searchF_ok (fun c => lt (atL d ((a + b) / 2 + m - 1 - c)) (atL d c)) ((a + b) / 2 - ((a + b) / 2 + m - b)) ((a + b) / 2 + m - b) ((a + b) / 2) (by omega) (by omega)
    obtain ⟨t, ht⟩ : ∃ t, searchF (fun c => lt (atL d ((a + b) / 2 + m - 1 - c)) (atL d c)) ((a + b) / 2 - ((a + b) / 2 + m - b)) ((a + b) / 2 + m - b) ((a + b) / 2) = t := ⟨_, rfl⟩
    rw [ht] at g1 g2 g3 g4 ⊢
    refine ⟨by omega, by omega, by omega, by omega, by omega, fun k1 k2 => ?_, fun k1 k2 => ?_⟩
    · have := g4 (by omega)
      rwa [show (a + b) / 2 + m - 1 - t = (a + b) / 2 + m - t - 1 by omega] at this
    · have := g3 (by omega)
      rwa [show (a + b) / 2 + m - 1 - (t - 1) = (a + b) / 2 + m - t by omega] at this
  · simp only [hm, if_false]
    obtain ⟨g1, g2, g3, g4⟩ := searchF_ok (fun c => lt (atL d ((a + b) / 2 + m - 1 - c)) (atL d c)) (m - a) a m (by omega) (by omega)
    obtain ⟨t, ht⟩ : ∃ t, searchF (fun c => lt (atL d ((a + b) / 2 + m - 1 - c)) (atL d c)) (m - a) a m = t := ⟨_, rfl⟩
    rw [ht] at g1 g2 g3 g4 ⊢
    refine ⟨by omega, by omega, by omega, by omega, by omega, fun k1 k2 => ?_, fun k1 k2 => ?_⟩
    · have := g4 (by omega)
      rwa [show (a + b) / 2 + m - 1 - t = (a + b) / 2 + m - t - 1 by omega] at this
    · have := g3 (by omega)
      rwa [show (a + b) / 2 + m - 1 - (t - 1) = (a + b) / 2 + m - t by omega] at this

theorem turn_at {d : List α} {a m b : Nat} (h1 : a < m) (h2 : m < b) (hb : b ≤ d.length) {s e : Nat} (hs : startF lt d a m b = s) (he : (a + b) / 2 + m - s = e) (x : Nat) :
    atL (turnF lt d a m b) x = if s ≤ x ∧ x < (a + b) / 2 then atL d (x + (m - s)) else if (a + b) / 2 ≤ x ∧ x < e then atL d (x - (e - m)) else atL d x := by
  obtain ⟨g1, g2, g3, g4, g5, _, _⟩ := start_ok (lt := lt) (d := d) h1 h2
  rw [hs] at g1 g2 g3 g4 g5
  unfold turnF
  rw [hs, he]
  by_cases c : s < m ∧ m < e
  · rw [if_pos c, atL_rotF (b - a) d m (m - s) (e - m) (by omega) (by omega) (by omega) (by omega) (by omega) x]
    repeat' split
    all_goals first | rfl | omega
  · rw [if_neg c]
    repeat' split
    all_goals first | rfl | (congr 1; omega)
theorem turn_perm {d : List α} {a m b : Nat} (h1 : a < m) (h2 : m < b) (hb : b ≤ d.length) : (turnF lt d a m b).Perm d := by
  obtain ⟨g1, g2, g3, g4, g5, _, _⟩ := start_ok (lt := lt) (d := d) h1 h2
  unfold turnF
  split
  · exact perm_rotF _ _ _ _ _ (by omega) (by omega)
  · exact List.Perm.refl _

theorem ups_ok (S : Stab R) {d : List α} {a b : Nat} (h2 : a + 1 < b) (hb : b ≤ d.length) (hr : SortR R d (a + 1) b) (hc : Cross lt R d a (a + 1) b) {i : Nat} (hi : i = searchF (fun h => !lt (atL d h) (atL d a)) (b - (a + 1)) (a + 1) b) :
    SortR R (upsF d a (i - 1 - a)) a b ∧ Img d (upsF d a (i - 1 - a)) a b ∧ (upsF d a (i - 1 - a)).Perm d := by
  obtain ⟨g1, g2, g3, g4⟩ := searchF_ok (fun h => !lt (atL d h) (atL d a)) (b - (a + 1)) (a + 1) b (by omega) (by omega)
  rw [← hi] at g1 g2 g3 g4
  have hat := atL_upsF (d := d) (a := a) (i - 1 - a) (by omega)
  have hlow : ∀ y, a + 1 ≤ y → y < i → R (atL d y) (atL d a) := fun y y1 y2 => by
    have h3 := g3 (by omega)
    have h4 := (hc a (i - 1) (Nat.le_refl _) (by omega) (by omega) (by omega)).1 (by simpa using h3)
    exact S.trans _ _ _ (hr y (i - 1) y1 (by omega) (by omega)) h4
  have hhigh : ∀ y, i ≤ y → y < b → R (atL d a) (atL d y) := fun y y1 y2 => by
    have h3 := g4 (by omega)
    have h4 := (hc a i (Nat.le_refl _) (by omega) (by omega) (by omega)).2 (by simpa using h3)
    exact S.trans _ _ _ h4 (hr i y (by omega) y1 y2)
  refine ⟨?_, ⟨fun x hx => ?_, fun x hx hx' => ?_⟩, perm_upsF _ (by omega)⟩
  · intro x y h1 hxy hy
    rw [hat, hat]
    by_cases cx : a ≤ x ∧ x < a + (i - 1 - a)
    · rw [if_pos cx]
      by_cases cy : a ≤ y ∧ y < a + (i - 1 - a)
      · rw [if_pos cy]; exact hr _ _ (by omega) (by omega) (by omega)
      · rw [if_neg cy]
        by_cases ey : y = a + (i - 1 - a)
        · rw [if_pos ey]; exact hlow _ (by omega) (by omega)
        · rw [if_neg ey]; exact hr _ _ (by omega) (by omega) (by omega)
    · rw [if_neg cx]
      by_cases ex : x = a + (i - 1 - a)
      · rw [if_pos ex]
        rw [if_neg (by omega)]
        by_cases ey : y = a + (i - 1 - a)
        · rw [if_pos ey]; exact S.refl _
        · rw [if_neg ey]; exact hhigh _ (by omega) (by omega)
      · rw [if_neg ex, if_neg (by omega), if_neg (by omega)]
        exact hr _ _ (by omega) (by omega) (by omega)
  · rw [hat, if_neg (by omega), if_neg (by omega)]
  · rw [hat]
    by_cases cx : a ≤ x ∧ x < a + (i - 1 - a)
    · rw [if_pos cx]; exact ⟨x + 1, by omega, by omega, rfl⟩
    · rw [if_neg cx]
      by_cases ex : x = a + (i - 1 - a)
      · rw [if_pos ex]; exact ⟨a, by omega, by omega, rfl⟩
      · rw [if_neg ex]; exact ⟨x, by omega, by omega, rfl⟩
theorem dns_ok (S : Stab R) {d : List α} {a m : Nat} (h2 : a < m) (hb : m < d.length) (hl : SortR R d a m) (hc : Cross lt R d a m (m + 1)) {i : Nat} (hi : i = searchF (fun h => lt (atL d m) (atL d h)) (m - a) a m) :
    SortR R (dnsF d m (m - i)) a (m + 1) ∧ Img d (dnsF d m (m - i)) a (m + 1) ∧ (dnsF d m (m - i)).Perm d := by
  obtain ⟨g1, g2, g3, g4⟩ := searchF_ok (fun h => lt (atL d m) (atL d h)) (m - a) a m (by omega) (by omega)
  rw [← hi] at g1 g2 g3 g4
  have hat := atL_dnsF (d := d) (m := m) hb (m - i) (by omega)
  have hlow : ∀ y, a ≤ y → y < i → R (atL d y) (atL d m) := fun y y1 y2 => by
    have h3 := g3 (by omega)
    have h4 := (hc (i - 1) m (by omega) (by omega) (by omega) (by omega)).2 h3
    exact S.trans _ _ _ (hl y (i - 1) y1 (by omega) (by omega)) h4
  have hhigh : ∀ y, i ≤ y → y < m → R (atL d m) (atL d y) := fun y y1 y2 => by
    have h3 := g4 (by omega)
    have h4 := (hc i m (by omega) (by omega) (by omega) (by omega)).1 h3
    exact S.trans _ _ _ h4 (hl i y (by omega) y1 y2)
  refine ⟨?_, ⟨fun x hx => ?_, fun x hx hx' => ?_⟩, perm_dnsF hb _ (by omega)⟩
  · intro x y h1 hxy hy
    rw [hat, hat]
    by_cases cx : m - (m - i) < x ∧ x ≤ m
    · rw [if_pos cx, if_pos (by omega)]
      exact hl _ _ (by omega) (by omega) (by omega)
    · rw [if_neg cx]
      by_cases ex : x = m - (m - i)
      · rw [if_pos ex]
        by_cases cy : m - (m - i) < y ∧ y ≤ m
        · rw [if_pos cy]; exact hhigh _ (by omega) (by omega)
        · rw [if_neg cy, if_pos (by omega)]; exact S.refl _
      · rw [if_neg ex]
        by_cases cy : m - (m - i) < y ∧ y ≤ m
        · rw [if_pos cy]; exact hl _ _ (by omega) (by omega) (by omega)
        · rw [if_neg cy]
          by_cases ey : y = m - (m - i)
          · rw [if_pos ey]; exact hlow _ (by omega) (by omega)
          · rw [if_neg ey]; exact hl _ _ (by omega) (by omega) (by omega)
  · rw [hat, if_neg (by omega), if_neg (by omega)]
  · rw [hat]
    by_cases cx : m - (m - i) < x ∧ x ≤ m
    · rw [if_pos cx]; exact ⟨x - 1, by omega, by omega, rfl⟩
    · rw [if_neg cx]
      by_cases ex : x = m - (m - i)
      · rw [if_pos ex]; exact ⟨m, by omega, by omega, rfl⟩
      · rw [if_neg ex]; exact ⟨x, by omega, by omega, rfl⟩

/-- Two sorted rows become one. -/
theorem sym_ok (S : Stab R) : ∀ (f : Nat) (d : List α) (a m b : Nat), a < m → m < b → b ≤ d.length → b - a ≤ f → SortR R d a m → SortR R d m b → Cross lt R d a m b →
    SortR R (symF lt f d a m b) a b ∧ Img d (symF lt f d a m b) a b ∧ (symF lt f d a m b).Perm d
  | 0, _, _, _, _, _, _, _, _, _, _, _ => by omega
  | f + 1, d, a, m, b, h1, h2, hb, hf, hl, hr, hc => by
    unfold symF
    by_cases e1 : m - a = 1
    · rw [if_pos e1]
      obtain rfl : m = a + 1 := by omega
      exact ups_ok S h2 hb hr hc rfl
    · rw [if_neg e1]
      by_cases e2 : b - m = 1
      · rw [if_pos e2]
        obtain rfl : b = m + 1 := by omega
        exact dns_ok S h1 (by omega) hl hc rfl
      · rw [if_neg e2]
        have hat := turn_at (lt := lt) (d := d) h1 h2 hb (s := startF lt d a m b) (e := (a + b) / 2 + m - startF lt d a m b) rfl rfl
        obtain ⟨g1, g2, g3, g4, g5, g6, g7⟩ := start_ok (lt := lt) (d := d) h1 h2
        have hp1 := turn_perm (lt := lt) (d := d) h1 h2 hb
        have hlen := len_turnF lt d a m b
        have hmb : a < (a + b) / 2 ∧ (a + b) / 2 < b ∧ 2 * ((a + b) / 2) ≤ a + b ∧ a + b < 2 * ((a + b) / 2) + 2 := by omega
        dsimp only
        generalize turnF lt d a m b = d1 at *
        generalize startF lt d a m b = s at *
        generalize (a + b) / 2 = mid at *
        obtain ⟨e, he⟩ : ∃ e, mid + m - s = e := ⟨_, rfl⟩
        rw [he] at g4 g5 g6 g7 hat ⊢
        have hI1 : Img d d1 a b := by
          refine ⟨fun x hx => ?_, fun x hx hx' => ?_⟩
          · rw [hat, if_neg (by omega), if_neg (by omega)]
          · rw [hat]
            repeat' split
            · exact ⟨x + (m - s), by omega, by omega, rfl⟩
            · exact ⟨x - (e - m), by omega, by omega, rfl⟩
            · exact ⟨x, hx, hx', rfl⟩
        -- the four pieces
        have p1 : ∀ x, a ≤ x → x < s → atL d1 x = atL d x := fun x x1 x2 => by rw [hat, if_neg (by omega), if_neg (by omega)]
        have p2 : ∀ x, s ≤ x → x < mid → atL d1 x = atL d (x + (m - s)) := fun x x1 x2 => by rw [hat, if_pos (by omega)]
        have p3 : ∀ x, mid ≤ x → x < e → atL d1 x = atL d (x - (e - m)) := fun x x1 x2 => by rw [hat, if_neg (by omega), if_pos (by omega)]
        have p4 : ∀ x, e ≤ x → x < b → atL d1 x = atL d x := fun x x1 x2 => by rw [hat, if_neg (by omega), if_neg (by omega)]
        have hhalf : ∀ x y, a ≤ x → x < mid → mid ≤ y → y < b → R (atL d1 x) (atL d1 y) := by
          intro x y x1 x2 y1 y2
          by_cases cx : x < s
          · rw [p1 x x1 cx]
            by_cases cy : y < e
            · rw [p3 y y1 cy]; exact hl _ _ x1 (by omega) (by omega)
            · rw [p4 y (by omega) y2]
              have hx := (hc (s - 1) e (by omega) (by omega) (by omega) (by omega)).2 (g7 (by omega) (by omega))
              exact S.trans _ _ _ (hl x (s - 1) x1 (by omega) (by omega)) (S.trans _ _ _ hx (hr e y (by omega) (by omega) y2))
          · rw [p2 x (by omega) x2]
            by_cases cy : y < e
            · rw [p3 y y1 cy]
              have hx := (hc s (e - 1) (by omega) (by omega) (by omega) (by omega)).1 (g6 (by omega) (by omega))
              exact S.trans _ _ _ (hr (x + (m - s)) (e - 1) (by omega) (by omega) (by omega)) (S.trans _ _ _ hx (hl s (y - (e - m)) (by omega) (by omega) (by omega)))
            · rw [p4 y (by omega) y2]; exact hr _ _ (by omega) (by omega) y2
        -- the lower half
        have hA : ∃ d2, (if a < s ∧ s < mid then symF lt f d1 a s mid else d1) = d2 ∧ SortR R d2 a mid ∧ Img d1 d2 a mid ∧ d2.Perm d1 ∧ d2.length = d1.length := by
          refine ⟨_, rfl, ?_⟩
          by_cases c : a < s ∧ s < mid
          · rw [if_pos c]
            obtain ⟨r1, r2, r3⟩ := sym_ok S f d1 a s mid c.1 c.2 (by omega) (by omega)
              (fun i j i1 ij j1 => by rw [p1 i i1 (by omega), p1 j (by omega) j1]; exact hl _ _ i1 ij (by omega))
              (fun i j i1 ij j1 => by rw [p2 i i1 (by omega), p2 j (by omega) j1]; exact hr _ _ (by omega) (by omega) (by omega))
              (fun i j i1 i2 j1 j2 => by rw [p1 i i1 i2, p2 j j1 j2]; exact hc _ _ i1 (by omega) (by omega) (by omega))
            exact ⟨r1, r2, r3, len_symF lt f d1 a s mid⟩
          · rw [if_neg c]
            refine ⟨?_, Img.refl _ _ _, List.Perm.refl _, rfl⟩
            intro i j i1 ij j1
            by_cases cs : a < s
            · rw [p1 i i1 (by omega), p1 j (by omega) (by omega)]; exact hl _ _ i1 ij (by omega)
            · rw [p2 i (by omega) (by omega), p2 j (by omega) j1]; exact hr _ _ (by omega) (by omega) (by omega)
        obtain ⟨d2, hd2, sA, iA, pA, lA⟩ := hA
        rw [hd2]
        have q3 : ∀ x, mid ≤ x → atL d2 x = atL d1 x := fun x x1 => iA.1 x (by omega)
        have hB : ∃ d3, (if mid < e ∧ e < b then symF lt f d2 mid e b else d2) = d3 ∧ SortR R d3 mid b ∧ Img d2 d3 mid b ∧ d3.Perm d2 := by
          refine ⟨_, rfl, ?_⟩
          by_cases c : mid < e ∧ e < b
          · rw [if_pos c]
            exact sym_ok S f d2 mid e b c.1 c.2 (by omega) (by omega)
              (fun i j i1 ij j1 => by rw [q3 i i1, q3 j (by omega), p3 i i1 (by omega), p3 j (by omega) j1]; exact hl _ _ (by omega) (by omega) (by omega))
              (fun i j i1 ij j1 => by rw [q3 i (by omega), q3 j (by omega), p4 i i1 (by omega), p4 j (by omega) j1]; exact hr _ _ (by omega) (by omega) (by omega))
              (fun i j i1 i2 j1 j2 => by rw [q3 i i1, q3 j (by omega), p3 i i1 i2, p4 j j1 j2]; exact hc _ _ (by omega) (by omega) (by omega) j2)
          · rw [if_neg c]
            refine ⟨?_, Img.refl _ _ _, List.Perm.refl _⟩
            intro i j i1 ij j1
            rw [q3 i i1, q3 j (by omega)]
            by_cases cs : mid < e
            · rw [p3 i i1 (by omega), p3 j (by omega) (by omega)]; exact hl _ _ (by omega) (by omega) (by omega)
            · rw [p4 i (by omega) (by omega), p4 j (by omega) j1]; exact hr _ _ (by omega) (by omega) (by omega)
        obtain ⟨d3, hd3, sB, iB, pB⟩ := hB
        rw [hd3]
        refine ⟨?_, hI1.trans (iA.trans iB (c := a) (c' := b) (by omega) (by omega) (by omega) (by omega)) (by omega) (by omega) (by omega) (by omega), pB.trans (pA.trans hp1)⟩
        intro i j i1 ij j1
        by_cases cj : j < mid
        · rw [iB.1 i (by omega), iB.1 j (by omega)]; exact sA i j i1 ij cj
        · by_cases ci : i < mid
          · rw [iB.1 i (by omega)]
            obtain ⟨i', i1', i2', hi'⟩ := iA.2 i i1 ci
            obtain ⟨j', j1', j2', hj'⟩ := iB.2 j (by omega) j1
            rw [hi', hj', q3 j' j1']
            exact hhalf i' j' i1' i2' j1' j2'
          · exact sB i j (by omega) ij j1

end
end Go.Proofs.Ytggnheekkbideaa
