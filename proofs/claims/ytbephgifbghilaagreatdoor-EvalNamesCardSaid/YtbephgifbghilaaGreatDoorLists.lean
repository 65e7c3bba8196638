/- Plain functions on lists of numbers: covering and order; no program here. -/
namespace Go.Proofs.YtbephgifbghilaaGreatDoor

/-- Does a list cover another one? -/
def coversB : List Int → List Int → Bool
  | [], [] => true
  | x :: a, y :: b => decide (y ≤ x) && coversB a b
  | _, _ => false

/-- The order of lists. -/
def cmpL : List Int → List Int → Int
  | [], [] => 0
  | [], _ :: _ => -1
  | _ :: _, [] => 1
  | x :: a, y :: b => if x < y then -1 else if y < x then 1 else cmpL a b

theorem coversB_len : ∀ (a b : List Int), coversB a b = true → a.length = b.length
  | [], [], _ => rfl
  | x :: a, y :: b, h => by simp [coversB] at h; simp [coversB_len a b h.2]
  | [], _ :: _, h => by simp [coversB] at h
  | _ :: _, [], h => by simp [coversB] at h

theorem coversB_ne (a b : List Int) (h : a.length ≠ b.length) : coversB a b = false := by
  cases hh : coversB a b with
  | false => rfl
  | true => exact absurd (coversB_len a b hh) h

theorem coversB_drop {a b : List Int} {k : Nat} (ha : k < a.length) (hb : k < b.length) :
    coversB (a.drop k) (b.drop k) = (decide (b[k] ≤ a[k]) && coversB (a.drop (k + 1)) (b.drop (k + 1))) := by
  rw [List.drop_eq_getElem_cons ha, List.drop_eq_getElem_cons hb]; rfl

theorem coversB_end {a b : List Int} {k : Nat} (ha : a.length ≤ k) (hb : b.length ≤ k) : coversB (a.drop k) (b.drop k) = true := by
  rw [List.drop_eq_nil_of_le ha, List.drop_eq_nil_of_le hb]; rfl

theorem cmpL_drop {a b : List Int} {k : Nat} (ha : k < a.length) (hb : k < b.length) :
    cmpL (a.drop k) (b.drop k) = if a[k] < b[k] then -1 else if b[k] < a[k] then 1 else cmpL (a.drop (k + 1)) (b.drop (k + 1)) := by
  rw [List.drop_eq_getElem_cons ha, List.drop_eq_getElem_cons hb]; rfl
theorem cmpL_long {a b : List Int} {k : Nat} (ha : k < a.length) (hb : b.length ≤ k) : cmpL (a.drop k) (b.drop k) = 1 := by
  rw [List.drop_eq_getElem_cons ha, List.drop_eq_nil_of_le hb]; rfl
theorem cmpL_short {a b : List Int} {k : Nat} (ha : a.length ≤ k) (hb : k < b.length) : cmpL (a.drop k) (b.drop k) = -1 := by
  rw [List.drop_eq_getElem_cons hb, List.drop_eq_nil_of_le ha]; rfl
theorem cmpL_end {a b : List Int} {k : Nat} (ha : a.length ≤ k) (hb : b.length ≤ k) : cmpL (a.drop k) (b.drop k) = 0 := by
  rw [List.drop_eq_nil_of_le ha, List.drop_eq_nil_of_le hb]; rfl

theorem coversB_refl : ∀ a : List Int, coversB a a = true
  | [] => rfl
  | x :: a => by simp [coversB, coversB_refl a]

theorem coversB_trans : ∀ a b c : List Int, coversB a b = true → coversB b c = true → coversB a c = true
  | [], [], [], _, _ => rfl
  | x :: a, y :: b, z :: c, h, k => by
    simp [coversB] at h k ⊢
    exact ⟨by omega, coversB_trans a b c h.2 k.2⟩
  | [], _ :: _, _, h, _ => by simp [coversB] at h
  | _ :: _, [], _, h, _ => by simp [coversB] at h
  | [], [], _ :: _, _, k => by simp [coversB] at k
  | _ :: _, _ :: _, [], _, k => by simp [coversB] at k

theorem cmpL_neg : ∀ a b : List Int, cmpL a b = - cmpL b a
  | [], [] => rfl
  | [], _ :: _ => rfl
  | _ :: _, [] => rfl
  | x :: a, y :: b => by
    simp only [cmpL]
    by_cases h1 : x < y
    · have h2 : ¬ y < x := by omega
      simp [h1, h2]
    · by_cases h2 : y < x
      · simp [h1, h2]
      · simp [h1, h2, cmpL_neg a b]

theorem cmpL_range : ∀ a b : List Int, cmpL a b = -1 ∨ cmpL a b = 0 ∨ cmpL a b = 1
  | [], [] => by simp [cmpL]
  | [], _ :: _ => by simp [cmpL]
  | _ :: _, [] => by simp [cmpL]
  | x :: a, y :: b => by
    simp only [cmpL]
    split
    · simp
    · split
      · simp
      · exact cmpL_range a b

theorem cmpL_self : ∀ a : List Int, cmpL a a = 0
  | [] => rfl
  | x :: a => by simp [cmpL, cmpL_self a]

theorem cmpL_zero : ∀ a b : List Int, cmpL a b = 0 → a = b
  | [], [], _ => rfl
  | [], _ :: _, h => by simp [cmpL] at h
  | _ :: _, [], h => by simp [cmpL] at h
  | x :: a, y :: b, h => by
    simp only [cmpL] at h
    by_cases h1 : x < y
    · simp [h1] at h
    · by_cases h2 : y < x
      · simp [h1, h2] at h
      · simp [h1, h2] at h
        rw [cmpL_zero a b h, (by omega : x = y)]

theorem cmpL_eq_zero {a b : List Int} : cmpL a b = 0 ↔ a = b := ⟨cmpL_zero a b, fun h => by rw [h, cmpL_self]⟩

theorem cmpL_trans : ∀ a b c : List Int, cmpL a b ≤ 0 → cmpL b c ≤ 0 → cmpL a c ≤ 0
  | [], _, [], _, _ => by simp [cmpL]
  | [], _, _ :: _, _, _ => by simp [cmpL]
  | _ :: _, [], _, h, _ => by simp [cmpL] at h
  | _ :: _, _ :: _, [], _, k => by simp [cmpL] at k
  | x :: a, y :: b, z :: c, h, k => by
    simp only [cmpL] at h k ⊢
    by_cases h1 : x < y
    · by_cases k1 : y < z
      · simp [show x < z by omega]
      · by_cases k2 : z < y
        · simp [k1, k2] at k
        · simp [show x < z by omega]
    · by_cases h2 : y < x
      · simp [h1, h2] at h
      · simp [h1, h2] at h
        obtain rfl : x = y := by omega
        by_cases k1 : x < z
        · simp [k1]
        · by_cases k2 : z < x
          · simp [k1, k2] at k
          · simp [k1, k2] at k ⊢
            exact cmpL_trans a b c h k

theorem covers_cmp : ∀ a b : List Int, coversB a b = true → 0 ≤ cmpL a b
  | [], [], _ => by simp [cmpL]
  | x :: a, y :: b, h => by
    simp [coversB] at h
    simp only [cmpL]
    have h1 : ¬ x < y := by omega
    by_cases h2 : y < x
    · simp [h1, h2]
    · simp [h1, h2]; exact covers_cmp a b h.2
  | [], _ :: _, h => by simp [coversB] at h
  | _ :: _, [], h => by simp [coversB] at h

theorem covers_both : ∀ a b : List Int, coversB a b = true → coversB b a = true → cmpL a b = 0
  | [], [], _, _ => by simp [cmpL]
  | x :: a, y :: b, h, k => by
    simp [coversB] at h k
    simp only [cmpL]
    have h1 : ¬ x < y := by omega
    have h2 : ¬ y < x := by omega
    simp [h1, h2]; exact covers_both a b h.2 k.2
  | [], _ :: _, h, _ => by simp [coversB] at h
  | _ :: _, [], h, _ => by simp [coversB] at h

end Go.Proofs.YtbephgifbghilaaGreatDoor
