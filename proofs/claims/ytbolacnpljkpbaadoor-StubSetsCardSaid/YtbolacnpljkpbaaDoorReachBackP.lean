/- Who leads to a marking, collected edge by edge; no program here. -/
import Derived.Test.YtbolacnpljkpbaaDoorReachHomeP
set_option maxRecDepth 100000
namespace Go.Proofs.YtbolacnpljkpbaaDoor

structure BackOk (E : List (List (Int × Int))) (i q : Nat) (A : List (List Int × Value)) : Prop where
  len : A.length = E.length
  mem : ∀ j (h : j < A.length) (x : Int), x ∈ A[j].1 ↔ ∃ i' : Nat, x = (i' : Int) ∧ ((i' < i ∧ Edg E i' j) ∨ (i' = i ∧ ∃ e ∈ (E.getD i []).take q, e.2 = (j : Int)))
  sz : ∀ j (h : j < A.length), A[j].1.length ≤ i * 8192 + q

theorem BackOk.first (E : List (List (Int × Int))) (v : Value) : BackOk E 0 0 (List.replicate E.length ([], v)) := by
  refine ⟨by simp, ?_, ?_⟩
  · intro j h x
    rw [List.getElem_replicate]
    constructor
    · intro hx; cases hx
    · rintro ⟨i', _, h1 | ⟨_, e, he, _⟩⟩
      · omega
      · simp at he
  · intro j h
    rw [List.getElem_replicate]; simp
theorem BackOk.push {E : List (List (Int × Int))} {i q j : Nat} {A : List (List Int × Value)} (b : BackOk E i q A) (hq : q < (E.getD i []).length) (hj : j < A.length) (he : (E.getD i [])[q].2 = (j : Int)) (v : Value) :
    BackOk E i (q + 1) (A.set j (A[j].1 ++ [(i : Int)], v)) := by
  have htk : (E.getD i []).take (q + 1) = (E.getD i []).take q ++ [(E.getD i [])[q]] := List.take_succ_eq_append_getElem hq
  refine ⟨by simp [b.len], ?_, ?_⟩
  · intro j' h x
    rw [List.length_set] at h
    rw [List.getElem_set]
    have hm := b.mem j' h x
    by_cases e : j = j'
    · subst e
      rw [if_pos rfl]
      simp only [List.mem_append, List.mem_singleton]
      rw [hm, htk]
      constructor
      · rintro (⟨i', rfl, h1 | ⟨rfl, e, h2, h3⟩⟩ | rfl)
        · exact ⟨i', rfl, Or.inl h1⟩
        · exact ⟨i', rfl, Or.inr ⟨rfl, e, List.mem_append_left _ h2, h3⟩⟩
        · exact ⟨i, rfl, Or.inr ⟨rfl, _, List.mem_append_right _ (List.mem_singleton.2 rfl), he⟩⟩
      · rintro ⟨i', rfl, h1 | ⟨rfl, e, h2, h3⟩⟩
        · exact Or.inl ⟨i', rfl, Or.inl h1⟩
        · exact Or.inr rfl
    · rw [if_neg e, hm, htk]
      constructor
      · rintro ⟨i', rfl, h1 | ⟨rfl, e, h2, h3⟩⟩
        · exact ⟨i', rfl, Or.inl h1⟩
        · exact ⟨i', rfl, Or.inr ⟨rfl, e, List.mem_append_left _ h2, h3⟩⟩
      · rintro ⟨i', rfl, h1 | ⟨rfl, e1, h2, h3⟩⟩
        · exact ⟨i', rfl, Or.inl h1⟩
        · refine ⟨i', rfl, Or.inr ⟨rfl, e1, ?_, h3⟩⟩
          rcases List.mem_append.1 h2 with h2 | h2
          · exact h2
          · obtain rfl := List.mem_singleton.1 h2
            rw [he] at h3
            omega
  · intro j' h
    rw [List.length_set] at h
    rw [List.getElem_set]
    have := b.sz j' h
    split
    · next e => subst e; simp; omega
    · omega
theorem BackOk.next {E : List (List (Int × Int))} {i q : Nat} {A : List (List Int × Value)} (b : BackOk E i q A) (hq : (E.getD i []).length ≤ q) (h8 : q ≤ 8192) : BackOk E (i + 1) 0 A := by
  refine ⟨b.len, ?_, ?_⟩
  · intro j h x
    rw [b.mem j h x, List.take_of_length_le hq]
    constructor
    · rintro ⟨i', rfl, ⟨h1, h2⟩ | ⟨rfl, h2⟩⟩
      · exact ⟨i', rfl, Or.inl ⟨by omega, h2⟩⟩
      · exact ⟨i', rfl, Or.inl ⟨by omega, h2⟩⟩
    · rintro ⟨i', rfl, ⟨h1, h2⟩ | ⟨rfl, e, h2, _⟩⟩
      · by_cases e : i' = i
        · subst e; exact ⟨i', rfl, Or.inr ⟨rfl, h2⟩⟩
        · exact ⟨i', rfl, Or.inl ⟨by omega, h2⟩⟩
      · simp at h2
  · intro j h
    have := b.sz j h
    rw [Nat.add_mul]; omega
theorem BackOk.all {E : List (List (Int × Int))} {A : List (List Int × Value)} (b : BackOk E E.length 0 A) {j : Nat} (h : j < A.length) (x : Int) : x ∈ A[j].1 ↔ ∃ i : Nat, x = (i : Int) ∧ Edg E i j := by
  rw [b.mem j h x]
  constructor
  · rintro ⟨i', rfl, ⟨h1, h2⟩ | ⟨rfl, e, h2, _⟩⟩
    · exact ⟨i', rfl, h2⟩
    · simp at h2
  · rintro ⟨i', rfl, h2⟩
    refine ⟨i', rfl, Or.inl ⟨?_, h2⟩⟩
    obtain ⟨e, he, _⟩ := h2
    by_cases hi : i' < E.length
    · exact hi
    · rw [List.getD_eq_getElem?_getD, List.getElem?_eq_none (by omega)] at he; cases he

end Go.Proofs.YtbolacnpljkpbaaDoor
