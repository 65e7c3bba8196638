/- Texts fused by fuse.py: KRuleFstP. -/
import Derived.Test.YtjcaaahbfkjipaaGreatDoorKZ09
/- Of RuleFstP: what FRuleNames uses (shake.py). -/
set_option maxRecDepth 100000
/- The first that is not right, place by place (plain). -/
namespace Go.Proofs.YtjcaaahbfkjipaaGreatDoor
/-- The first place where it is not right. -/
def fstBad (p : Nat → Bool) (n : Nat) : Option Nat := (List.range n).find? fun i => !p i
theorem fstBad_none {p : Nat → Bool} {n : Nat} (h : ∀ j, j < n → p j = true) : fstBad p n = none := by
  unfold fstBad
  rw [List.find?_eq_none]
  intro x hx
  simp [h x (List.mem_range.1 hx)]
theorem fstBad_some {p : Nat → Bool} {n k : Nat} (hk : k < n) (h : ∀ j, j < k → p j = true) (hp : p k = false) : fstBad p n = some k := by
  unfold fstBad
  rw [List.find?_eq_some_iff_append]
  refine ⟨by simp [hp], List.range k, (List.range n).drop (k + 1), ?_, fun a ha => by simp [h a (List.mem_range.1 ha)]⟩
  apply List.ext_getElem?
  intro i
  by_cases h1 : i < k
  · rw [List.getElem?_append_left (by simpa using h1)]
    simp [h1, List.getElem?_range (show i < n by omega)]
  · rw [List.getElem?_append_right (by simpa using h1)]
    obtain ⟨j, rfl⟩ : ∃ j, i = k + j := ⟨i - k, by omega⟩
    rw [List.length_range, show k + j - k = j by omega]
    cases j with
    | zero => simp [List.getElem?_range hk]
    | succ j => rw [List.getElem?_cons_succ, List.getElem?_drop]; congr 1; omega
section
variable {α : Type} {key : α → ByteArray}
/-- The key of the first that is not right. -/
def firstO (key : α → ByteArray) (p : Nat → Bool) (l : List α) : Option ByteArray := (fstBad p l.length).bind fun i => l[i]?.map key
theorem firstO_none {p : Nat → Bool} {l : List α} (h : ∀ j, j < l.length → p j = true) : firstO key p l = none := by
  unfold firstO
  rw [fstBad_none h]
  rfl
theorem firstO_some {p : Nat → Bool} {l : List α} {k : Nat} (hk : k < l.length) (h : ∀ j, j < k → p j = true) (hp : p k = false) : firstO key p l = some (key l[k]) := by
  unfold firstO
  rw [fstBad_some hk h hp]
  show l[k]?.map key = _
  rw [List.getElem?_eq_getElem hk]
  rfl
theorem firstO_cases (p : Nat → Bool) (l : List α) : (firstO key p l = none ∧ ∀ j, j < l.length → p j = true) ∨ ∃ k, ∃ hk : k < l.length, (∀ j, j < k → p j = true) ∧ p k = false ∧ firstO key p l = some (key l[k]) := by
  have : ∀ n, n ≤ l.length → (∀ j, j < n → p j = true) ∨ ∃ k, k < n ∧ (∀ j, j < k → p j = true) ∧ p k = false := by
    intro n
    induction n with
    | zero => exact fun _ => Or.inl fun j hj => by omega
    | succ n ih =>
      intro hn
      rcases ih (by omega) with h | ⟨k, hk, h1, h2⟩
      · cases hp : p n with
        | true =>
          refine Or.inl fun j hj => ?_
          rcases Nat.lt_succ_iff_lt_or_eq.1 hj with h3 | rfl
          · exact h j h3
          · exact hp
        | false => exact Or.inr ⟨n, by omega, h, hp⟩
      · exact Or.inr ⟨k, by omega, h1, h2⟩
  rcases this l.length (Nat.le_refl _) with h | ⟨k, hk, h1, h2⟩
  · exact Or.inl ⟨firstO_none h, h⟩
  · exact Or.inr ⟨k, hk, h1, h2, firstO_some hk h1 h2⟩
/-- Rightness by the element alone. -/
def pAt (ok : α → Bool) (l : List α) (i : Nat) : Bool := match l[i]? with
  | some x => ok x
  | none => true
theorem pAt_get {ok : α → Bool} {l : List α} {i : Nat} (hi : i < l.length) : pAt ok l i = ok l[i] := by
  unfold pAt
  rw [List.getElem?_eq_getElem hi]
theorem firstO_firstBad (ok : α → Bool) (l : List α) : firstO key (pAt ok l) l = firstBad key ok l := by
  unfold firstBad
  rcases firstO_cases (key := key) (pAt ok l) l with ⟨h, hp⟩ | ⟨k, hk, h1, h2, h3⟩
  · rw [h]
    have : l.find? (fun x => !ok x) = none := by
      rw [List.find?_eq_none]
      intro x hx
      obtain ⟨i, hi, rfl⟩ := List.getElem_of_mem hx
      have := hp i hi
      rw [pAt_get hi] at this
      simp [this]
    rw [this]; rfl
  · rw [h3]
    have : l.find? (fun x => !ok x) = some l[k] := by
      rw [List.find?_eq_some_iff_append]
      rw [pAt_get hk] at h2
      refine ⟨by simp [h2], l.take k, l.drop (k + 1), ?_, fun a ha => ?_⟩
      · conv => lhs; rw [← List.take_append_drop k l]
        rw [List.drop_eq_getElem_cons hk]
      · obtain ⟨i, hi, rfl⟩ := List.getElem_of_mem ha
        have hi' : i < k := by rw [List.length_take] at hi; omega
        rw [List.getElem_take]
        have := h1 i hi'
        rw [pAt_get (by omega)] at this
        simp [this]
    rw [this]; rfl
/-- What was seen ahead of a place. -/
def seenAt (key : α → ByteArray) (seen : List ByteArray) (l : List α) (i : Nat) : List ByteArray := ((l.take i).map key).reverse ++ seen
def pNew (key : α → ByteArray) (ok : α → Bool) (seen : List ByteArray) (l : List α) (i : Nat) : Bool := match l[i]? with
  | some x => nameB (key x) && (!((seenAt key seen l i).any fun s => sEq s (key x)) && ok x)
  | none => true
theorem seenAt_zero (seen : List ByteArray) (l : List α) : seenAt key seen l 0 = seen := by simp [seenAt]
theorem seenAt_succ (seen : List ByteArray) {l : List α} {i : Nat} (hi : i < l.length) : seenAt key seen l (i + 1) = key l[i] :: seenAt key seen l i := by
  unfold seenAt
  rw [List.take_succ_eq_append_getElem hi, List.map_append, List.reverse_append]
  rfl
theorem seenAt_cons (seen : List ByteArray) (x : α) (l : List α) (i : Nat) : seenAt key seen (x :: l) (i + 1) = seenAt key (key x :: seen) l i := by
  simp [seenAt]
theorem pNew_get {ok : α → Bool} {seen : List ByteArray} {l : List α} {i : Nat} (hi : i < l.length) : pNew key ok seen l i = (nameB (key l[i]) && (!((seenAt key seen l i).any fun s => sEq s (key l[i])) && ok l[i])) := by
  unfold pNew
  rw [List.getElem?_eq_getElem hi]
theorem pNew_cons (ok : α → Bool) (seen : List ByteArray) (x : α) (l : List α) (i : Nat) : pNew key ok seen (x :: l) (i + 1) = pNew key ok (key x :: seen) l i := by
  unfold pNew
  rw [List.getElem?_cons_succ, seenAt_cons]
theorem fstBad_succ (p : Nat → Bool) (n : Nat) : fstBad p (n + 1) = if p 0 then (fstBad (fun i => p (i + 1)) n).map (· + 1) else some 0 := by
  unfold fstBad
  rw [List.range_succ_eq_map, List.find?_cons]
  cases p 0 with
  | true => simp [List.find?_map, Function.comp_def]
  | false => simp
theorem firstO_fresh (ok : α → Bool) : ∀ (l : List α) (seen : List ByteArray), firstO key (pNew key ok seen l) l = freshBad key ok seen l
  | [], seen => rfl
  | x :: l, seen => by
    have ih := firstO_fresh ok l (key x :: seen)
    unfold firstO at ih ⊢
    rw [List.length_cons, fstBad_succ]
    unfold freshBad
    have h0 : pNew key ok seen (x :: l) 0 = (nameB (key x) && (!(seen.any fun s => sEq s (key x)) && ok x)) := by
      unfold pNew
      rw [seenAt_zero]
      rfl
    rw [h0]
    split
    · rw [← ih]
      have : (fun i => pNew key ok seen (x :: l) (i + 1)) = pNew key ok (key x :: seen) l := funext fun i => pNew_cons ok seen x l i
      rw [this]
      cases fstBad (pNew key ok (key x :: seen) l) l.length <;> rfl
    · rfl
end
end Go.Proofs.YtjcaaahbfkjipaaGreatDoor
