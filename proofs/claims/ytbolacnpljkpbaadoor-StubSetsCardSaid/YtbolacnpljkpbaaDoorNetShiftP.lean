/- More tokens; when a transition fires; rows (for the seats without the laws of nets); no program here. -/
import Derived.Test.YtbolacnpljkpbaaDoorNetEffP
import Derived.Test.YtbolacnpljkpbaaDoorLists
set_option maxRecDepth 100000
namespace Go.Proofs.YtbolacnpljkpbaaDoor

theorem fireE_code (t : Tr) (m : List Int) : (t.enB m = false ∧ (t.fireE m).1 = 250) ∨ (t.enB m = true ∧ ((t.fireE m).1 = 91 ∨ (t.fireE m).1 = 0)) := by
  unfold Tr.fireE
  cases t.enB m with
  | false => exact Or.inl ⟨rfl, rfl⟩
  | true =>
    refine Or.inr ⟨rfl, ?_⟩
    simp only [if_true]
    split
    · exact Or.inl rfl
    · exact Or.inr rfl

/-- a is b with so many more at each place. -/
structure Shift (dl a b : List Int) : Prop where
  la : a.length = dl.length
  lb : b.length = dl.length
  nn : ∀ p : Nat, p < dl.length → 0 ≤ getI dl p
  eq : ∀ p : Nat, p < dl.length → getI a p = getI b p + getI dl p

theorem Shift.en {dl a b : List Int} (h : Shift dl a b) {t : Tr} (hp : PlacesOk b.length t.inn) (hb : Tokens b) (he : t.enB b = true) : t.enB a = true := by
  have hg := enB_get he hb
  unfold Tr.enB
  rw [Bool.not_eq_true', List.any_eq_false]
  intro p hpm
  have h1 := hg p hpm
  obtain ⟨q, rfl⟩ := Int.eq_ofNat_of_zero_le (hp p hpm).1
  have hq : q < dl.length := by have := (hp _ hpm).2; rw [← h.lb]; omega
  have h2 := h.eq q hq
  have h3 := h.nn q hq
  unfold zeroAt
  simp only [beq_iff_eq]
  omega

theorem Shift.fire {dl a b : List Int} (h : Shift dl a b) {n : Nt} {t : Tr} (ht : t ∈ n.trans) (hb : n.Mark b) (ha : n.Mark a) (h0 : (t.fireE b).1 = 0) :
    (t.fireE a).1 = 91 ∨ ((t.fireE a).1 = 0 ∧ Shift dl (t.fireE a).2 (t.fireE b).2) := by
  have heb : t.enB b = true := by
    rcases fireE_code t b with ⟨_, h1⟩ | ⟨h1, _⟩
    · rw [h1] at h0; cases h0
    · exact h1
  have hpi := (hb.ok.inn t ht).1
  rw [← hb.len] at hpi
  have hea := h.en hpi hb.tok heb
  rcases fireE_code t a with ⟨h1, _⟩ | ⟨_, h1 | h1⟩
  · rw [hea] at h1; cases h1
  · exact Or.inl h1
  · refine Or.inr ⟨h1, by rw [len_fire]; exact h.la, by rw [len_fire]; exact h.lb, h.nn, fun p hp => ?_⟩
    have hla := h.la
    have hlb := h.lb
    rw [getI_fire ha ht h1 (by omega) (by omega), getI_fire hb ht h0 (by omega) (by omega), h.eq p hp]
    omega

theorem rowGo_range (n : Nt) : ∀ (row m : List Int) (k : Int), k ≤ (rowGo n m row k).2.1 ∧ (rowGo n m row k).2.1 ≤ k + row.length
  | [], m, k => by simp [rowGo]
  | t :: row, m, k => by
    simp only [rowGo]
    split
    · have := rowGo_range n row ((n.tr t).fireE m).2 (k + 1)
      simp only [List.length_cons]
      omega
    · simp only [List.length_cons]; omega

theorem rowGo_out (n : Nt) : ∀ (row m : List Int) (k : Int), (rowGo n m row k).2.2 ≠ 0 → (rowGo n m row k).1 = []
  | [], m, k => by simp [rowGo]
  | t :: row, m, k => by
    simp only [rowGo]
    split
    · exact rowGo_out n row _ _
    · intro _; rfl

theorem rowGo_all (n : Nt) : ∀ (row m : List Int) (k : Int), (rowGo n m row k).2.2 = 0 → (rowGo n m row k).2.1 = k + row.length
  | [], m, k => by simp [rowGo]
  | t :: row, m, k => by
    simp only [rowGo]
    split
    · intro h
      have := rowGo_all n row _ _ h
      simp only [List.length_cons]
      omega
    · next h => intro h2; exact absurd h2 h

theorem rowGo_mark (n : Nt) : ∀ (row m : List Int) (k : Int), n.Mark m → row.any n.badT = false → (rowGo n m row k).2.2 = 0 → n.Mark (rowGo n m row k).1
  | [], m, k, h, _ => by intro _; exact h
  | t :: row, m, k, h, hb => by
    simp only [List.any_cons, Bool.or_eq_false_iff] at hb
    obtain ⟨q, hq, _, _, hmem⟩ := Nt.tr_mem hb.1
    simp only [rowGo]
    split
    · next h0 => exact rowGo_mark n row _ _ (h.fire hmem h0) hb.2
    · next h => intro h2; exact absurd h2 h

theorem Shift.row (n : Nt) : ∀ (row dl a b : List Int) (k : Int), Shift dl a b → n.Mark b → n.Mark a → row.any n.badT = false → (rowGo n b row k).2.2 = 0 →
    (rowGo n a row k).2.2 = 91 ∨ ((rowGo n a row k).2.2 = 0 ∧ Shift dl (rowGo n a row k).1 (rowGo n b row k).1)
  | [], dl, a, b, k, h, _, _, _, _ => Or.inr ⟨rfl, h⟩
  | t :: row, dl, a, b, k, h, hb, ha, hbad, h0 => by
    simp only [List.any_cons, Bool.or_eq_false_iff] at hbad
    obtain ⟨q, hq, _, _, hmem⟩ := Nt.tr_mem hbad.1
    simp only [rowGo] at h0 ⊢
    by_cases hf : ((n.tr t).fireE b).1 = 0
    · rw [if_pos hf] at h0 ⊢
      rcases h.fire hmem hb ha hf with h1 | ⟨h1, h2⟩
      · rw [if_neg (by omega)]; exact Or.inl h1
      · rw [if_pos h1]
        exact Shift.row n row dl _ _ _ h2 (hb.fire hmem hf) (ha.fire hmem h1) hbad.2 h0
    · rw [if_neg hf] at h0
      exact absurd h0 hf

theorem Shift.covers : ∀ {dl a b : List Int}, Shift dl a b → coversB a b = true
  | [], [], [], _ => rfl
  | d :: dl, x :: a, y :: b, h => by
    have h0 := h.eq 0 (by simp)
    have n0 := h.nn 0 (by simp)
    rw [getI_cons_zero, getI_cons_zero, getI_cons_zero] at h0
    rw [getI_cons_zero] at n0
    have h' : Shift dl a b := ⟨by simpa using h.la, by simpa using h.lb, fun p hp => by have := h.nn (p + 1) (by simpa using hp); rwa [getI_cons_succ] at this,
      fun p hp => by have := h.eq (p + 1) (by simpa using hp); rwa [getI_cons_succ, getI_cons_succ, getI_cons_succ] at this⟩
    simp only [coversB, Bool.and_eq_true, decide_eq_true_eq]
    exact ⟨by omega, h'.covers⟩
  | [], _ :: _, _, h => by have := h.la; simp at this
  | [], [], _ :: _, h => by have := h.lb; simp at this
  | _ :: _, [], _, h => by have := h.la; simp at this
  | _ :: _, _ :: _, [], h => by have := h.lb; simp at this

theorem rowGo_shift (n : Nt) : ∀ (row m : List Int) (k : Int), rowGo n m row k = ((rowGo n m row 0).1, k + (rowGo n m row 0).2.1, (rowGo n m row 0).2.2)
  | [], m, k => by simp [rowGo]
  | t :: row, m, k => by
    simp only [rowGo]
    split
    · rw [rowGo_shift n row _ (k + 1), rowGo_shift n row _ (0 + 1)]
      simp only [Int.zero_add]
      refine Prod.ext rfl (Prod.ext ?_ rfl)
      show k + 1 + _ = k + (1 + _)
      omega
    · simp

theorem incs_some : ∀ {ps m : List Int}, ps.Nodup → PlacesOk m.length ps → ((incs m ps).isSome = true ↔ ∀ p ∈ ps, getI m p + 1 ≤ 2147483647)
  | [], m, _, _ => by simp [incs]
  | q :: ps, m, hn, hp => by
    obtain ⟨hn1, hn2⟩ := List.nodup_cons.1 hn
    have hq := hp q (by simp)
    simp only [incs]
    by_cases h : 2147483647 < getI m q + 1
    · rw [if_pos h]
      simp only [Option.isSome_none, Bool.false_eq_true, false_iff]
      intro hall
      have := hall q (by simp)
      omega
    · rw [if_neg h, incs_some hn2 (by rw [len_addI]; exact fun x hx => hp x (by simp [hx]))]
      constructor
      · intro hall p hpm
        rcases List.mem_cons.1 hpm with rfl | hpm
        · omega
        · have := hall p hpm
          rwa [getI_addI_ne hq.1 (hp p (by simp [hpm])).1 (fun e => hn1 (e ▸ hpm))] at this
      · intro hall p hpm
        rw [getI_addI_ne hq.1 (hp p (by simp [hpm])).1 (fun e => hn1 (e ▸ hpm))]
        exact hall p (by simp [hpm])

theorem enB_iff {t : Tr} {m : List Int} : t.enB m = true ↔ ∀ p ∈ t.inn, getI m p ≠ 0 := by
  simp only [Tr.enB, Bool.not_eq_true', List.any_eq_false, zeroAt, beq_iff_eq]

/-- When a transition fires. -/
theorem fire_iff {n : Nt} {m : List Int} (h : n.Mark m) {t : Tr} (ht : t ∈ n.trans) : (t.fireE m).1 = 0 ↔ (∀ p ∈ t.inn, getI m p ≠ 0) ∧ ∀ p ∈ t.out, getI m p - hasI t.inn p + 1 ≤ 2147483647 := by
  have hin := h.ok.inn t ht
  have hout := h.ok.out t ht
  rw [← h.len] at hin hout
  have hs := incs_some (m := decs m t.inn) hout.2.nodup (by rw [len_decs]; exact hout.1)
  have key : (∀ p ∈ t.out, getI (decs m t.inn) p + 1 ≤ 2147483647) ↔ ∀ p ∈ t.out, getI m p - hasI t.inn p + 1 ≤ 2147483647 := by
    refine forall_congr' fun p => forall_congr' fun hp => ?_
    rw [getI_decs (hout.1 p hp).1 (hout.1 p hp).2 hin.1 hin.2.nodup]
  rw [← key, ← hs, ← enB_iff]
  unfold Tr.fireE
  cases he : t.enB m with
  | false => simp
  | true =>
    cases hi : incs (decs m t.inn) t.out with
    | none => simp
    | some m' => simp

end Go.Proofs.YtbolacnpljkpbaaDoor
