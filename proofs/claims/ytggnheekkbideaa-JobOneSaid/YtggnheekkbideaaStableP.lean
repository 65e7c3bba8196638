/- Go's slices.SortStableFunc on lists: what it gives is the stable order. No program here. -/
import Derived.Test.YtggnheekkbideaaSymP
set_option maxRecDepth 100000
namespace Go.Proofs.Ytggnheekkbideaa

section
variable {α : Type} [Inhabited α] (lt : α → α → Bool)

/-- The element at j goes down while it is less than the one ahead of it. -/
def insInF (a : Nat) : Nat → List α → Nat → List α
  | 0, d, _ => d
  | f + 1, d, j => if a < j ∧ lt (atL d j) (atL d (j - 1)) = true then insInF a f (swapL d j (j - 1)) (j - 1) else d
def insF (a : Nat) : Nat → List α → List α
  | 0, d => d
  | k + 1, d => insInF lt a (k + 1) (insF a k d) (a + (k + 1))
/-- Insertion's rounds for [a, b). -/
def insE (d : List α) (a b : Nat) : List α := insF lt a (b - a - 1) d

def blocksF (n : Nat) : Nat → List α → Nat → List α
  | 0, d, _ => d
  | f + 1, d, a => if a + 20 ≤ n then blocksF n f (insE lt d a (a + 20)) (a + 20) else insE lt d a n
def mergeF (n bs : Nat) : Nat → List α → Nat → List α
  | 0, d, _ => d
  | f + 1, d, a => if a + 2 * bs ≤ n then mergeF n bs f (symF lt (2 * bs) d a (a + bs) (a + 2 * bs)) (a + 2 * bs) else if a + bs < n then symF lt (n - a) d a (a + bs) n else d
def growF' (n : Nat) : Nat → List α → Nat → List α
  | 0, d, _ => d
  | f + 1, d, bs => if bs < n then growF' n f (mergeF lt n bs (n + 1) d 0) (2 * bs) else d
def stableE (d : List α) : List α := growF' lt d.length (d.length + 1) (blocksF lt d.length (d.length + 1) d 0) 20

theorem len_insInF (a : Nat) : ∀ (f : Nat) (d : List α) (j : Nat), (insInF lt a f d j).length = d.length
  | 0, _, _ => rfl
  | f + 1, d, j => by
    unfold insInF
    split
    · rw [len_insInF a f, len_swapL]
    · rfl
theorem len_insF (a : Nat) : ∀ (k : Nat) (d : List α), (insF lt a k d).length = d.length
  | 0, _ => rfl
  | k + 1, d => by unfold insF; rw [len_insInF, len_insF a k]
theorem len_insE (d : List α) (a b : Nat) : (insE lt d a b).length = d.length := len_insF lt a _ d
theorem len_blocksF (n : Nat) : ∀ (f : Nat) (d : List α) (a : Nat), (blocksF lt n f d a).length = d.length
  | 0, _, _ => rfl
  | f + 1, d, a => by
    unfold blocksF
    split
    · rw [len_blocksF n f, len_insE]
    · exact len_insE lt d a n
theorem len_mergeF (n bs : Nat) : ∀ (f : Nat) (d : List α) (a : Nat), (mergeF lt n bs f d a).length = d.length
  | 0, _, _ => rfl
  | f + 1, d, a => by
    unfold mergeF
    split
    · rw [len_mergeF n bs f, len_symF]
    · split
      · exact len_symF lt _ d a (a + bs) n
      · rfl
theorem len_growF' (n : Nat) : ∀ (f : Nat) (d : List α) (bs : Nat), (growF' lt n f d bs).length = d.length
  | 0, _, _ => rfl
  | f + 1, d, bs => by
    unfold growF'
    split
    · rw [len_growF' n f, len_mergeF]
    · rfl
theorem len_stableE (d : List α) : (stableE lt d).length = d.length := by
  unfold stableE
  rw [len_growF', len_blocksF]

variable {lt}
variable {R : α → α → Prop} {tag : α → Nat}

/-- The inner rounds are a move down. -/
theorem insIn_dns (a m : Nat) (d : List α) (hm : m < d.length) : ∀ (f k : Nat), m - k - a ≤ f → k ≤ m → a ≤ m - k →
    (∀ x, m - k ≤ x → x < m → lt (atL d m) (atL d x) = true) →
    ∃ i, insInF lt a f (dnsF d m k) (m - k) = dnsF d m (m - i) ∧ a ≤ i ∧ i ≤ m ∧ (∀ x, i ≤ x → x < m → lt (atL d m) (atL d x) = true) ∧ (a < i → lt (atL d m) (atL d (i - 1)) = false)
  | 0, k, hf, hk, ha, hx => ⟨m - k, by rw [show m - (m - k) = k by omega]; rfl, by omega, by omega, hx, fun h => by omega⟩
  | f + 1, k, hf, hk, ha, hx => by
    unfold insInF
    have e1 : atL (dnsF d m k) (m - k) = atL d m := by
      rw [atL_dnsF hm k hk, if_neg (by omega), if_pos rfl]
    have e2 : a < m - k → atL (dnsF d m k) (m - k - 1) = atL d (m - k - 1) := fun h => by
      rw [atL_dnsF hm k hk, if_neg (by omega), if_neg (by omega)]
    by_cases c : a < m - k ∧ lt (atL (dnsF d m k) (m - k)) (atL (dnsF d m k) (m - k - 1)) = true
    · rw [if_pos c]
      have c2 := c.2
      rw [e1, e2 c.1] at c2
      have e3 : swapL (dnsF d m k) (m - k) (m - k - 1) = dnsF d m (k + 1) := rfl
      rw [e3, show m - k - 1 = m - (k + 1) by omega]
      refine insIn_dns a m d hm f (k + 1) (by omega) (by omega) (by omega) ?_
      intro x x1 x2
      by_cases e : x = m - k - 1
      · rw [e]; exact c2
      · exact hx x (by omega) x2
    · rw [if_neg c]
      refine ⟨m - k, by rw [show m - (m - k) = k by omega], ha, by omega, hx, fun h => ?_⟩
      cases e : lt (atL d m) (atL d (m - k - 1)) with
      | false => rfl
      | true => exact absurd ⟨h, by rw [e1, e2 h]; exact e⟩ c

theorem dns_at (S : Stab R) {d : List α} {a m : Nat} (h2 : a ≤ m) (hb : m < d.length) (hl : SortR R d a m) (hc : Cross lt R d a m (m + 1)) {i : Nat} (g1 : a ≤ i) (g2 : i ≤ m)
    (g3 : a < i → lt (atL d m) (atL d (i - 1)) = false) (g4 : i < m → lt (atL d m) (atL d i) = true) :
    SortR R (dnsF d m (m - i)) a (m + 1) ∧ Img d (dnsF d m (m - i)) a (m + 1) ∧ (dnsF d m (m - i)).Perm d := by
  have hat := atL_dnsF (d := d) (m := m) hb (m - i) (by omega)
  have hlow : ∀ y, a ≤ y → y < i → R (atL d y) (atL d m) := fun y y1 y2 => by
    have h3 := g3 (by omega)
    have h4 := (hc (i - 1) m (by omega) (by omega) (by omega) (by omega)).2 h3
    exact S.trans _ _ _ (hl y (i - 1) y1 (by omega) (by omega)) h4
  have hhigh : ∀ y, i ≤ y → y < m → R (atL d m) (atL d y) := fun y y1 y2 => by
    have h3 := g4 (by omega)
    have h4 := (hc i m (by omega) (by omega) (by omega) (by omega)).1 h3
    exact S.trans _ _ _ h4 (hl i y (by omega) y1 y2)
  refine ⟨?_, ⟨fun x hx => ?_, fun x hx hx' => ?_⟩, perm_dnsF hb _ (by omega)⟩
  · intro x y h1 hxy hy
    rw [hat, hat]
    by_cases cx : m - (m - i) < x ∧ x ≤ m
    · rw [if_pos cx, if_pos (by omega)]
      exact hl _ _ (by omega) (by omega) (by omega)
    · rw [if_neg cx]
      by_cases ex : x = m - (m - i)
      · rw [if_pos ex]
        by_cases cy : m - (m - i) < y ∧ y ≤ m
        · rw [if_pos cy]; exact hhigh _ (by omega) (by omega)
        · rw [if_neg cy, if_pos (by omega)]; exact S.refl _
      · rw [if_neg ex]
        by_cases cy : m - (m - i) < y ∧ y ≤ m
        · rw [if_pos cy]; exact hl _ _ (by omega) (by omega) (by omega)
        · rw [if_neg cy]
          by_cases ey : y = m - (m - i)
          · rw [if_pos ey]; exact hlow _ (by omega) (by omega)
          · rw [if_neg ey]; exact hl _ _ (by omega) (by omega) (by omega)
  · rw [hat, if_neg (by omega), if_neg (by omega)]
  · rw [hat]
    by_cases cx : m - (m - i) < x ∧ x ≤ m
    · rw [if_pos cx]; exact ⟨x - 1, by omega, by omega, rfl⟩
    · rw [if_neg cx]
      by_cases ex : x = m - (m - i)
      · rw [if_pos ex]; exact ⟨m, by omega, by omega, rfl⟩
      · rw [if_neg ex]; exact ⟨x, by omega, by omega, rfl⟩

/-- Whom the tags part, the comparison orders as R does. -/
def Tagged (lt : α → α → Bool) (R : α → α → Prop) (tag : α → Nat) : Prop := ∀ x y, tag x < tag y → (lt y x = true → R y x) ∧ (lt y x = false → R x y)
/-- The tags in [a, b) lie in [a, b). -/
def TagIn (tag : α → Nat) (d : List α) (a b : Nat) : Prop := ∀ x, a ≤ x → x < b → a ≤ tag (atL d x) ∧ tag (atL d x) < b
theorem TagIn.img {d e : List α} {a b : Nat} (h : TagIn tag d a b) (k : Img d e a b) : TagIn tag e a b := fun x h1 h2 => by
  obtain ⟨y, y1, y2, y3⟩ := k.2 x h1 h2
  rw [y3]; exact h y y1 y2
theorem TagIn.same {d e : List α} {a b : Nat} (h : TagIn tag d a b) (k : ∀ x, a ≤ x → x < b → atL e x = atL d x) : TagIn tag e a b := fun x h1 h2 => by rw [k x h1 h2]; exact h x h1 h2
theorem TagIn.cross (T : Tagged lt R tag) {d : List α} {a m b : Nat} (h1 : TagIn tag d a m) (h2 : TagIn tag d m b) : Cross lt R d a m b := fun i j i1 i2 j1 j2 =>
  T _ _ (by have := h1 i i1 i2; have := h2 j j1 j2; omega)
theorem SortR.same {d e : List α} {a b : Nat} (h : SortR R d a b) (k : ∀ x, a ≤ x → x < b → atL e x = atL d x) : SortR R e a b := fun i j h1 h2 h3 => by
  rw [k i h1 (by omega), k j (by omega) h3]; exact h i j h1 h2 h3

/-- Insertion sorts a row whose tags are as they stand. -/
theorem insF_ok (S : Stab R) (T : Tagged lt R tag) {d : List α} {a : Nat} (ht : ∀ x, a ≤ x → x < d.length → tag (atL d x) = x) : ∀ (k : Nat), a + k < d.length →
    SortR R (insF lt a k d) a (a + (k + 1)) ∧ Img d (insF lt a k d) a (a + (k + 1)) ∧ (insF lt a k d).Perm d
  | 0, h => ⟨fun i j h1 h2 h3 => by rw [show i = a by omega, show j = a by omega]; exact S.refl _, Img.refl _ _ _, List.Perm.refl _⟩
  | k + 1, h => by
    obtain ⟨h1, h2, h3⟩ := insF_ok S T ht k (by omega)
    unfold insF
    have hlen := len_insF lt a k d
    generalize insF lt a k d = e at *
    have hm : a + (k + 1) < e.length := by omega
    have t1 : TagIn tag e a (a + (k + 1)) := TagIn.img (d := d) (fun x x1 x2 => by rw [ht x x1 (by omega)]; omega) h2
    have t2 : TagIn tag e (a + (k + 1)) (a + (k + 1) + 1) := fun x x1 x2 => by
      rw [h2.1 x (by omega), ht x (by omega) (by omega)]; omega
    obtain ⟨i, i1, i2, i3, i4, i5⟩ := insIn_dns (lt := lt) a (a + (k + 1)) e hm (k + 1) 0 (by omega) (by omega) (by omega) (fun x x1 x2 => by omega)
    have i1' : insInF lt a (k + 1) e (a + (k + 1)) = dnsF e (a + (k + 1)) (a + (k + 1) - i) := i1
    rw [i1']
    obtain ⟨r1, r2, r3⟩ := dns_at S (a := a) (m := a + (k + 1)) (by omega) hm h1 (t1.cross T t2) (i := i) i2 i3 i5 (fun h => i4 i (Nat.le_refl _) h)
    exact ⟨r1, h2.trans r2 (c := a) (c' := a + (k + 1) + 1) (by omega) (by omega) (by omega) (by omega), r3.trans h3⟩
theorem insE_ok (S : Stab R) (T : Tagged lt R tag) {d : List α} {a b : Nat} (ht : ∀ x, a ≤ x → x < d.length → tag (atL d x) = x) (hab : a ≤ b) (hb : b ≤ d.length) :
    SortR R (insE lt d a b) a b ∧ Img d (insE lt d a b) a b ∧ (insE lt d a b).Perm d := by
  unfold insE
  by_cases e : a = b
  · subst e
    rw [show a - a - 1 = 0 by omega]
    exact ⟨fun i j h1 h2 h3 => by omega, Img.refl _ _ _, List.Perm.refl _⟩
  · have := insF_ok S T ht (b - a - 1) (by omega)
    rwa [show a + (b - a - 1 + 1) = b by omega] at this

/-- The rows of length bs from s on (s a multiple of it), each sorted, each of its own tags. -/
def Blks (R : α → α → Prop) (tag : α → Nat) (d : List α) (n bs : Nat) (s t : Nat) : Prop := ∀ q, s ≤ q * bs → q * bs < t → q * bs < n → SortR R d (q * bs) (min (q * bs + bs) n) ∧ TagIn tag d (q * bs) (min (q * bs + bs) n)

theorem mul_lt_next {q p bs : Nat} (h : q * bs < p * bs) : q * bs + bs ≤ p * bs := by
  have : q < p := Nat.lt_of_mul_lt_mul_right h
  calc q * bs + bs = (q + 1) * bs := by rw [Nat.succ_mul]
    _ ≤ p * bs := Nat.mul_le_mul_right _ this
theorem blocks_ok (S : Stab R) (T : Tagged lt R tag) : ∀ (f : Nat) (d : List α) (p : Nat), d.length - p * 20 < f → p * 20 ≤ d.length → Blks R tag d d.length 20 0 (p * 20) → (∀ x, p * 20 ≤ x → x < d.length → tag (atL d x) = x) →
    Blks R tag (blocksF lt d.length f d (p * 20)) d.length 20 0 d.length ∧ (blocksF lt d.length f d (p * 20)).Perm d
  | 0, _, _, h, _, _, _ => by omega
  | f + 1, d, p, hf, hp, hB, ht => by
    unfold blocksF
    by_cases c : p * 20 + 20 ≤ d.length
    · rw [if_pos c]
      obtain ⟨r1, r2, r3⟩ := insE_ok S T ht (b := p * 20 + 20) (by omega) c
      have hlen := len_insE lt d (p * 20) (p * 20 + 20)
      generalize insE lt d (p * 20) (p * 20 + 20) = e at *
      have ih := blocks_ok S T f e (p + 1) (by omega) (by omega) ?_ ?_
      · rw [hlen, show (p + 1) * 20 = p * 20 + 20 by omega] at ih
        exact ⟨ih.1, ih.2.trans r3⟩
      · rw [hlen]
        intro q _ q2 q3
        by_cases e1 : q = p
        · subst e1
          rw [show min (q * 20 + 20) d.length = q * 20 + 20 by omega]
          exact ⟨r1, TagIn.img (d := d) (fun x x1 x2 => by rw [ht x x1 (by omega)]; omega) r2⟩
        · obtain ⟨b1, b2⟩ := hB q (by omega) (by omega) q3
          exact ⟨b1.same fun x x1 x2 => r2.1 x (by omega), b2.same fun x x1 x2 => r2.1 x (by omega)⟩
      · intro x x1 x2
        rw [r2.1 x (by omega)]; exact ht x (by omega) (by omega)
    · rw [if_neg c]
      obtain ⟨r1, r2, r3⟩ := insE_ok S T ht (b := d.length) (by omega) (Nat.le_refl _)
      have hlen := len_insE lt d (p * 20) d.length
      generalize insE lt d (p * 20) d.length = e at *
      refine ⟨?_, r3⟩
      intro q _ q2 q3
      by_cases e1 : q = p
      · subst e1
        rw [show min (q * 20 + 20) d.length = d.length by omega]
        exact ⟨r1, TagIn.img (d := d) (fun x x1 x2 => by rw [ht x x1 (by omega)]; omega) r2⟩
      · obtain ⟨b1, b2⟩ := hB q (by omega) (by omega) q3
        exact ⟨b1.same fun x x1 x2 => r2.1 x (by omega), b2.same fun x x1 x2 => r2.1 x (by omega)⟩

theorem merge_ok (S : Stab R) (T : Tagged lt R tag) {n bs : Nat} (hbs : 0 < bs) : ∀ (f : Nat) (d : List α) (p : Nat), d.length = n → n - p * (2 * bs) < f → p * (2 * bs) ≤ n → Blks R tag d n (2 * bs) 0 (p * (2 * bs)) → Blks R tag d n bs (p * (2 * bs)) n →
    Blks R tag (mergeF lt n bs f d (p * (2 * bs))) n (2 * bs) 0 n ∧ (mergeF lt n bs f d (p * (2 * bs))).Perm d
  | 0, _, _, _, h, _, _, _ => by omega
  | f + 1, d, p, hn, hf, hp, hB, hC => by
    have ea : p * (2 * bs) = (2 * p) * bs := by rw [← Nat.mul_assoc, Nat.mul_comm p 2]
    have eb : (2 * p + 1) * bs = p * (2 * bs) + bs := by rw [ea, Nat.succ_mul]
    have ec : (p + 1) * (2 * bs) = p * (2 * bs) + 2 * bs := by rw [Nat.succ_mul]
    have early : ∀ {e : List α} {b : Nat}, p * (2 * bs) ≤ b → Img d e (p * (2 * bs)) b → ∀ q, q ≠ p → q * (2 * bs) < p * (2 * bs) → q * (2 * bs) < n → SortR R e (q * (2 * bs)) (min (q * (2 * bs) + 2 * bs) n) ∧ TagIn tag e (q * (2 * bs)) (min (q * (2 * bs) + 2 * bs) n) := by
      intro e b hb hI q _ q2 q3
      obtain ⟨b1, b2⟩ := hB q (by omega) q2 q3
      have := mul_lt_next q2
      exact ⟨b1.same fun x x1 x2 => hI.1 x (by omega), b2.same fun x x1 x2 => hI.1 x (by omega)⟩
    unfold mergeF
    by_cases c : p * (2 * bs) + 2 * bs ≤ n
    · rw [if_pos c]
      obtain ⟨s1, t1⟩ := hC (2 * p) (by omega) (by omega) (by omega)
      obtain ⟨s2, t2⟩ := hC (2 * p + 1) (by omega) (by omega) (by omega)
      rw [← ea, show min (p * (2 * bs) + bs) n = p * (2 * bs) + bs by omega] at s1 t1
      rw [eb, show min (p * (2 * bs) + bs + bs) n = p * (2 * bs) + 2 * bs by omega] at s2 t2
      obtain ⟨r1, r2, r3⟩ := sym_ok (lt := lt) S (2 * bs) d (p * (2 * bs)) (p * (2 * bs) + bs) (p * (2 * bs) + 2 * bs) (by omega) (by omega) (by omega) (by omega) s1 s2 (t1.cross T t2)
      have hlen := len_symF lt (2 * bs) d (p * (2 * bs)) (p * (2 * bs) + bs) (p * (2 * bs) + 2 * bs)
      have tt : TagIn tag d (p * (2 * bs)) (p * (2 * bs) + 2 * bs) := fun x x1 x2 => by
        by_cases cx : x < p * (2 * bs) + bs
        · have := t1 x x1 cx; omega
        · have := t2 x (by omega) x2; omega
      generalize symF lt (2 * bs) d (p * (2 * bs)) (p * (2 * bs) + bs) (p * (2 * bs) + 2 * bs) = e at *
      rw [← ec]
      have ih := merge_ok S T (n := n) hbs f e (p + 1) (by omega) (by omega) (by omega) ?_ ?_
      · exact ⟨ih.1, ih.2.trans r3⟩
      · intro q _ q2 q3
        by_cases e1 : q = p
        · subst e1
          rw [show min (q * (2 * bs) + 2 * bs) n = q * (2 * bs) + 2 * bs by omega]
          exact ⟨r1, tt.img r2⟩
        · have := mul_lt_next q2
          refine early (by omega) r2 q e1 ?_ q3
          rw [ec] at q2
          rcases Nat.lt_or_ge (q * (2 * bs)) (p * (2 * bs)) with h | h
          · exact h
          · exfalso
            have h1 : p ≤ q := Nat.le_of_mul_le_mul_right h (by omega)
            have h2 : p + 1 ≤ q := by omega
            have := Nat.mul_le_mul_right (2 * bs) h2
            omega
      · intro q q1 q2 q3
        obtain ⟨b1, b2⟩ := hC q (by omega) q2 q3
        exact ⟨b1.same fun x x1 x2 => r2.1 x (by omega), b2.same fun x x1 x2 => r2.1 x (by omega)⟩
    · rw [if_neg c]
      have last : ∀ {e : List α}, Img d e (p * (2 * bs)) n → SortR R e (p * (2 * bs)) n → TagIn tag e (p * (2 * bs)) n → Blks R tag e n (2 * bs) 0 n := by
        intro e hI hS hT q _ q2 q3
        by_cases e1 : q = p
        · subst e1
          rw [show min (q * (2 * bs) + 2 * bs) n = n by omega]
          exact ⟨hS, hT⟩
        · refine early hp hI q e1 ?_ q3
          rcases Nat.lt_or_ge (q * (2 * bs)) (p * (2 * bs)) with h | h
          · exact h
          · exfalso
            have h1 : p ≤ q := Nat.le_of_mul_le_mul_right h (by omega)
            have h2 : p + 1 ≤ q := by omega
            have := Nat.mul_le_mul_right (2 * bs) h2
            omega
      by_cases c2 : p * (2 * bs) + bs < n
      · rw [if_pos c2]
        obtain ⟨s1, t1⟩ := hC (2 * p) (by omega) (by omega) (by omega)
        obtain ⟨s2, t2⟩ := hC (2 * p + 1) (by omega) (by omega) (by omega)
        rw [← ea, show min (p * (2 * bs) + bs) n = p * (2 * bs) + bs by omega] at s1 t1
        rw [eb, show min (p * (2 * bs) + bs + bs) n = n by omega] at s2 t2
        obtain ⟨r1, r2, r3⟩ := sym_ok (lt := lt) S (n - p * (2 * bs)) d (p * (2 * bs)) (p * (2 * bs) + bs) n (by omega) (by omega) (by omega) (by omega) s1 s2 (t1.cross T t2)
        have tt : TagIn tag d (p * (2 * bs)) n := fun x x1 x2 => by
          by_cases cx : x < p * (2 * bs) + bs
          · have := t1 x x1 cx; omega
          · have := t2 x (by omega) x2; omega
        exact ⟨last r2 r1 (tt.img r2), r3⟩
      · rw [if_neg c2]
        by_cases c3 : p * (2 * bs) < n
        · obtain ⟨s1, t1⟩ := hC (2 * p) (by omega) (by omega) (by omega)
          rw [← ea, show min (p * (2 * bs) + bs) n = n by omega] at s1 t1
          exact ⟨last (Img.refl _ _ _) s1 t1, List.Perm.refl _⟩
        · exact ⟨last (Img.refl _ _ _) (fun i j h1 h2 h3 => by omega) (fun x h1 h2 => by omega), List.Perm.refl _⟩

theorem grow_ok' (S : Stab R) (T : Tagged lt R tag) {n : Nat} : ∀ (f : Nat) (d : List α) (bs : Nat), 0 < bs → d.length = n → n - bs < f → Blks R tag d n bs 0 n → SortR R (growF' lt n f d bs) 0 n ∧ (growF' lt n f d bs).Perm d
  | 0, _, _, _, _, h, _ => by omega
  | f + 1, d, bs, hbs, hn, hf, hB => by
    unfold growF'
    by_cases c : bs < n
    · rw [if_pos c]
      have h := merge_ok S T hbs (n + 1) d 0 hn (by omega) (by omega) (fun q _ q2 _ => by omega) (by simpa using hB)
      rw [Nat.zero_mul] at h
      obtain ⟨r1, r2⟩ := grow_ok' S T f (mergeF lt n bs (n + 1) d 0) (2 * bs) (by omega) (by rw [len_mergeF]; exact hn) (by omega) h.1
      exact ⟨r1, r2.trans h.2⟩
    · rw [if_neg c]
      refine ⟨?_, List.Perm.refl _⟩
      by_cases e : n = 0
      · subst e; intro i j h1 h2 h3; omega
      · have := (hB 0 (by omega) (by omega) (by omega)).1
        rwa [Nat.zero_mul, show min (0 + bs) n = n by omega] at this

/-- THE LAW: what comes is the row in the order R. -/
theorem stable_ok (S : Stab R) (T : Tagged lt R tag) (d : List α) (ht : ∀ x, x < d.length → tag (atL d x) = x) : SortR R (stableE lt d) 0 d.length ∧ (stableE lt d).Perm d := by
  unfold stableE
  obtain ⟨b1, b2⟩ := blocks_ok S T (d.length + 1) d 0 (by omega) (by omega) (fun q _ q2 _ => by omega) (fun x _ h => ht x h)
  rw [Nat.zero_mul] at b1 b2
  obtain ⟨r1, r2⟩ := grow_ok' S T (d.length + 1) (blocksF lt d.length (d.length + 1) d 0) 20 (by omega) (len_blocksF lt d.length _ d 0) (by omega) b1
  exact ⟨r1, r2.trans b2⟩

end
end Go.Proofs.Ytggnheekkbideaa
