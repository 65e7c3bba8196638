/- More tokens: what is enabled is so with more, and comes behind it to as many more. No program here. -/
import Derived.Test.YtopgakpggnkkmaaNetEff
import Derived.Laws.Bits128
namespace Go.Proofs.Ytopgakpggnkkmaa

theorem i64_and1023 (n : Int) : bits .and .i64 n 1023 = n % 1024 := by
  have h1023 : (BitVec.ofInt 64 1023).toNat = 2 ^ 10 - 1 := by decide
  have key : (BitVec.ofInt 64 n &&& BitVec.ofInt 64 1023).toNat = (n % ((2 ^ 64 : Nat) : Int)).toNat % 2 ^ 10 := by
    rw [BitVec.toNat_and, BitVec.toNat_ofInt, h1023, Nat.and_two_pow_sub_one_eq_mod]
  show IntKind.i64.wrap ((BitVec.ofInt 64 n &&& BitVec.ofInt 64 1023).toNat : Nat) = n % 1024
  rw [key, IntKind.wrap_i64]
  omega

/-- The marking with more tokens. -/
def upL : List Int → List Int → List Int
  | [], _ => []
  | x :: m, [] => x :: upL m []
  | x :: m, y :: ys => (x + y % 1024) :: upL m ys

theorem len_upL : ∀ m ys : List Int, (upL m ys).length = m.length
  | [], _ => rfl
  | x :: m, [] => by simp [upL, len_upL m []]
  | x :: m, y :: ys => by simp [upL, len_upL m ys]

/-- a is b with so many more at each place. -/
structure Shift (dl a b : List Int) : Prop where
  la : a.length = dl.length
  lb : b.length = dl.length
  nn : ∀ p : Nat, p < dl.length → 0 ≤ getI dl p
  eq : ∀ p : Nat, p < dl.length → getI a p = getI b p + getI dl p

def difL : List Int → List Int → List Int
  | [], _ => []
  | _ :: m, [] => 0 :: difL m []
  | _ :: m, y :: ys => (y % 1024) :: difL m ys

theorem len_difL : ∀ m ys : List Int, (difL m ys).length = m.length
  | [], _ => rfl
  | x :: m, [] => by simp [difL, len_difL m []]
  | x :: m, y :: ys => by simp [difL, len_difL m ys]

theorem getI_cons_zero (x : Int) (l : List Int) : getI (x :: l) ((0 : Nat) : Int) = x := rfl
theorem getI_cons_succ (x : Int) (l : List Int) (p : Nat) : getI (x :: l) ((p + 1 : Nat) : Int) = getI l (p : Nat) := by
  simp only [getI, Int.toNat_natCast]
  rfl

theorem dif_range : ∀ (m ys : List Int) (p : Nat), 0 ≤ getI (difL m ys) (p : Nat) ∧ getI (difL m ys) (p : Nat) ≤ 1023
  | [], _, p => by simp [difL, getI]
  | x :: m, [], 0 => by simp [difL, getI]
  | x :: m, [], p + 1 => by rw [difL, getI_cons_succ]; exact dif_range m [] p
  | x :: m, y :: ys, 0 => by rw [difL, getI_cons_zero]; omega
  | x :: m, y :: ys, p + 1 => by rw [difL, getI_cons_succ]; exact dif_range m ys p

theorem up_eq : ∀ (m ys : List Int) (p : Nat), getI (upL m ys) (p : Nat) = getI m (p : Nat) + getI (difL m ys) (p : Nat)
  | [], _, p => by simp [upL, difL, getI]
  | x :: m, [], 0 => by simp [upL, difL, getI]
  | x :: m, [], p + 1 => by rw [upL, difL, getI_cons_succ, getI_cons_succ, getI_cons_succ]; exact up_eq m [] p
  | x :: m, y :: ys, 0 => by rw [upL, difL, getI_cons_zero, getI_cons_zero, getI_cons_zero]
  | x :: m, y :: ys, p + 1 => by rw [upL, difL, getI_cons_succ, getI_cons_succ, getI_cons_succ]; exact up_eq m ys p

theorem shift_up (m ys : List Int) : Shift (difL m ys) (upL m ys) m :=
  ⟨by rw [len_upL, len_difL], by rw [len_difL], fun p _ => (dif_range m ys p).1, fun p _ => up_eq m ys p⟩

theorem Shift.en {dl a b : List Int} (h : Shift dl a b) {t : Tr} (hp : PlacesOk b.length t.inn) (hb : Tokens b) (he : t.enB b = true) : t.enB a = true := by
  have hg := enB_get he hb
  unfold Tr.enB
  rw [Bool.not_eq_true', List.any_eq_false]
  intro p hpm
  have h1 := hg p hpm
  obtain ⟨q, rfl⟩ := Int.eq_ofNat_of_zero_le (hp p hpm).1
  have hq : q < dl.length := by have := (hp _ hpm).2; rw [← h.lb]; omega
  have h2 := h.eq q hq
  have h3 := h.nn q hq
  unfold zeroAt
  simp only [beq_iff_eq]
  omega

theorem Shift.fire {dl a b : List Int} (h : Shift dl a b) {n : Nt} {t : Tr} (ht : t ∈ n.trans) (hb : n.Mark b) (ha : n.Mark a) (h0 : (t.fireE b).1 = 0) :
    (t.fireE a).1 = 91 ∨ ((t.fireE a).1 = 0 ∧ Shift dl (t.fireE a).2 (t.fireE b).2) := by
  have heb : t.enB b = true := by
    rcases fireE_code t b with ⟨_, h1⟩ | ⟨h1, _⟩
    · rw [h1] at h0; cases h0
    · exact h1
  have hpi := (hb.ok.inn t ht).1
  rw [← hb.len] at hpi
  have hea := h.en hpi hb.tok heb
  rcases fireE_code t a with ⟨h1, _⟩ | ⟨_, h1 | h1⟩
  · rw [hea] at h1; cases h1
  · exact Or.inl h1
  · refine Or.inr ⟨h1, by rw [len_fire]; exact h.la, by rw [len_fire]; exact h.lb, h.nn, fun p hp => ?_⟩
    have hla := h.la
    have hlb := h.lb
    rw [getI_fire ha ht h1 (by omega) (by omega), getI_fire hb ht h0 (by omega) (by omega), h.eq p hp]
    omega

theorem rowGo_range (n : Nt) : ∀ (row m : List Int) (k : Int), k ≤ (rowGo n m row k).2.1 ∧ (rowGo n m row k).2.1 ≤ k + row.length
  | [], m, k => by simp [rowGo]
  | t :: row, m, k => by
    simp only [rowGo]
    split
    · have := rowGo_range n row ((n.tr t).fireE m).2 (k + 1)
      simp only [List.length_cons]
      omega
    · simp only [List.length_cons]; omega

theorem rowGo_out (n : Nt) : ∀ (row m : List Int) (k : Int), (rowGo n m row k).2.2 ≠ 0 → (rowGo n m row k).1 = []
  | [], m, k => by simp [rowGo]
  | t :: row, m, k => by
    simp only [rowGo]
    split
    · exact rowGo_out n row _ _
    · intro _; rfl

theorem rowGo_all (n : Nt) : ∀ (row m : List Int) (k : Int), (rowGo n m row k).2.2 = 0 → (rowGo n m row k).2.1 = k + row.length
  | [], m, k => by simp [rowGo]
  | t :: row, m, k => by
    simp only [rowGo]
    split
    · intro h
      have := rowGo_all n row _ _ h
      simp only [List.length_cons]
      omega
    · next h => intro h2; exact absurd h2 h

theorem rowGo_mark (n : Nt) : ∀ (row m : List Int) (k : Int), n.Mark m → row.any n.badT = false → (rowGo n m row k).2.2 = 0 → n.Mark (rowGo n m row k).1
  | [], m, k, h, _ => by intro _; exact h
  | t :: row, m, k, h, hb => by
    simp only [List.any_cons, Bool.or_eq_false_iff] at hb
    obtain ⟨q, hq, _, _, hmem⟩ := Nt.tr_mem hb.1
    simp only [rowGo]
    split
    · next h0 => exact rowGo_mark n row _ _ (h.fire hmem h0) hb.2
    · next h => intro h2; exact absurd h2 h

theorem Shift.row (n : Nt) : ∀ (row dl a b : List Int) (k : Int), Shift dl a b → n.Mark b → n.Mark a → row.any n.badT = false → (rowGo n b row k).2.2 = 0 →
    (rowGo n a row k).2.2 = 91 ∨ ((rowGo n a row k).2.2 = 0 ∧ Shift dl (rowGo n a row k).1 (rowGo n b row k).1)
  | [], dl, a, b, k, h, _, _, _, _ => Or.inr ⟨rfl, h⟩
  | t :: row, dl, a, b, k, h, hb, ha, hbad, h0 => by
    simp only [List.any_cons, Bool.or_eq_false_iff] at hbad
    obtain ⟨q, hq, _, _, hmem⟩ := Nt.tr_mem hbad.1
    simp only [rowGo] at h0 ⊢
    by_cases hf : ((n.tr t).fireE b).1 = 0
    · rw [if_pos hf] at h0 ⊢
      rcases h.fire hmem hb ha hf with h1 | ⟨h1, h2⟩
      · rw [if_neg (by omega)]; exact Or.inl h1
      · rw [if_pos h1]
        exact Shift.row n row dl _ _ _ h2 (hb.fire hmem hf) (ha.fire hmem h1) hbad.2 h0
    · rw [if_neg hf] at h0
      exact absurd h0 hf

theorem Shift.covers : ∀ {dl a b : List Int}, Shift dl a b → coversB a b = true
  | [], [], [], _ => rfl
  | d :: dl, x :: a, y :: b, h => by
    have h0 := h.eq 0 (by simp)
    have n0 := h.nn 0 (by simp)
    rw [getI_cons_zero, getI_cons_zero, getI_cons_zero] at h0
    rw [getI_cons_zero] at n0
    have h' : Shift dl a b := ⟨by simpa using h.la, by simpa using h.lb, fun p hp => by have := h.nn (p + 1) (by simpa using hp); rwa [getI_cons_succ] at this,
      fun p hp => by have := h.eq (p + 1) (by simpa using hp); rwa [getI_cons_succ, getI_cons_succ, getI_cons_succ] at this⟩
    simp only [coversB, Bool.and_eq_true, decide_eq_true_eq]
    exact ⟨by omega, h'.covers⟩
  | [], _ :: _, _, h => by have := h.la; simp at this
  | [], [], _ :: _, h => by have := h.lb; simp at this
  | _ :: _, [], _, h => by have := h.la; simp at this
  | _ :: _, _ :: _, [], h => by have := h.lb; simp at this

theorem small31_of : ∀ {l : List Int}, small31B l = true → ∀ x ∈ l, x ≤ 2147483647
  | [], _, x, hx => by cases hx
  | y :: l, h, x, hx => by
    simp only [small31B, Bool.and_eq_true, Bool.not_eq_true', decide_eq_false_iff_not] at h
    rcases List.mem_cons.1 hx with rfl | hx
    · omega
    · exact small31_of h.2 x hx

theorem mem_getI {l : List Int} {x : Int} (h : x ∈ l) : ∃ p : Nat, p < l.length ∧ getI l (p : Nat) = x := by
  obtain ⟨p, hp, rfl⟩ := List.getElem_of_mem h
  exact ⟨p, hp, getI_eq hp⟩

/-- What the law comes to. -/
theorem more_core {n : Nt} {m row : List Int} (more : List Int) :
    (∃ k c, n.rowE m row = ([], k, c) ∧ c ≠ 0 ∧ k ≤ (row.length : Int)) ∨
    ∃ out, n.rowE m row = (out, (row.length : Int), 0) ∧ n.Mark m ∧ n.Mark out ∧
      ((n.rowE (upL m more) row).2.2 = 91 ∨ ((n.rowE (upL m more) row).2.2 = 1 ∧ small31B (upL m more) = false) ∨
        ∃ high, n.rowE (upL m more) row = (high, (row.length : Int), 0) ∧ Shift (difL m more) high out) := by
  cases hmk : n.markB m with
  | false => exact Or.inl ⟨0, 1, rowE_1 hmk, by decide, by omega⟩
  | true =>
    cases hb : row.any n.badT with
    | true => exact Or.inl ⟨0, 1, rowE_2 hmk hb, by decide, by omega⟩
    | false =>
      rw [rowE_3 hmk hb]
      have hM := Nt.mark_of hmk
      by_cases hc : (rowGo n m row 0).2.2 = 0
      · right
        have hk := rowGo_all n row m 0 hc
        have hmo := rowGo_mark n row m 0 hM hb hc
        refine ⟨(rowGo n m row 0).1, ?_, hM, hmo, ?_⟩
        · refine Prod.ext rfl (Prod.ext ?_ hc)
          simpa using hk
        · cases hup : n.markB (upL m more) with
          | false =>
            refine Or.inr (Or.inl ⟨by rw [rowE_1 hup], ?_⟩)
            cases hs : small31B (upL m more) with
            | false => rfl
            | true =>
              have : n.markB (upL m more) = true := by
                refine Nt.mark_mk ?_ (by rw [len_upL]; exact hM.len) ?_
                · simp only [Nt.markB, Bool.and_eq_true] at hmk; exact hmk.1
                · intro x hx
                  refine ⟨?_, small31_of hs x hx⟩
                  obtain ⟨p, hp, rfl⟩ := mem_getI hx
                  rw [up_eq]
                  have := dif_range m more p
                  have := tokens_get hM.tok (p : Nat)
                  omega
              rw [hup] at this
              cases this
          | true =>
            rw [rowE_3 hup hb]
            rcases Shift.row n row _ _ _ 0 (shift_up m more) hM (Nt.mark_of hup) hb hc with h | ⟨h1, h2⟩
            · exact Or.inl h
            · refine Or.inr (Or.inr ⟨(rowGo n (upL m more) row 0).1, ?_, h2⟩)
              refine Prod.ext rfl (Prod.ext ?_ h1)
              have := rowGo_all n row (upL m more) 0 h1
              simpa using this
      · left
        have hr := rowGo_range n row m 0
        exact ⟨(rowGo n m row 0).2.1, (rowGo n m row 0).2.2, Prod.ext (rowGo_out n row m 0 hc) rfl, hc, by omega⟩

end Go.Proofs.Ytopgakpggnkkmaa
