/- A row is its beginning and then the rest; two transitions that share no places commute. No program here. -/
import Derived.Test.YtopgakpggnkkmaaNetMorePlain
namespace Go.Proofs.Ytopgakpggnkkmaa

theorem rowGo_shift (n : Nt) : ∀ (row m : List Int) (k : Int), rowGo n m row k = ((rowGo n m row 0).1, k + (rowGo n m row 0).2.1, (rowGo n m row 0).2.2)
  | [], m, k => by simp [rowGo]
  | t :: row, m, k => by
    simp only [rowGo]
    split
    · rw [rowGo_shift n row _ (k + 1), rowGo_shift n row _ (0 + 1)]
      simp only [Int.zero_add]
      refine Prod.ext rfl (Prod.ext ?_ rfl)
      show k + 1 + _ = k + (1 + _)
      omega
    · simp

theorem rowGo_yes {n : Nt} {m row : List Int} {t k : Int} (h : ((n.tr t).fireE m).1 = 0) : rowGo n m (t :: row) k = rowGo n ((n.tr t).fireE m).2 row (k + 1) := by
  simp only [rowGo]; rw [if_pos h]
theorem rowGo_no {n : Nt} {m row : List Int} {t k : Int} (h : ¬ ((n.tr t).fireE m).1 = 0) : rowGo n m (t :: row) k = ([], k, ((n.tr t).fireE m).1) := by
  simp only [rowGo]; rw [if_neg h]

theorem rowGo_append_yes (n : Nt) : ∀ (r1 r2 m : List Int), (rowGo n m r1 0).2.2 = 0 → rowGo n m (r1 ++ r2) 0 = ((rowGo n (rowGo n m r1 0).1 r2 0).1, (r1.length : Int) + (rowGo n (rowGo n m r1 0).1 r2 0).2.1, (rowGo n (rowGo n m r1 0).1 r2 0).2.2)
  | [], r2, m, _ => by simp [rowGo]
  | t :: r1, r2, m, h => by
    by_cases h1 : ((n.tr t).fireE m).1 = 0
    · rw [rowGo_yes h1, rowGo_shift] at h
      have ih := rowGo_append_yes n r1 r2 _ h
      rw [List.cons_append, rowGo_yes h1, rowGo_yes h1, rowGo_shift n (r1 ++ r2), rowGo_shift n r1, ih]
      simp only [Int.zero_add]
      refine Prod.ext rfl (Prod.ext ?_ rfl)
      simp only [List.length_cons]
      omega
    · rw [rowGo_no h1] at h
      exact absurd h h1

theorem rowGo_append_no (n : Nt) : ∀ (r1 r2 m : List Int), ¬ (rowGo n m r1 0).2.2 = 0 → rowGo n m (r1 ++ r2) 0 = rowGo n m r1 0
  | [], r2, m, h => absurd rfl h
  | t :: r1, r2, m, h => by
    by_cases h1 : ((n.tr t).fireE m).1 = 0
    · rw [rowGo_yes h1, rowGo_shift] at h
      have ih := rowGo_append_no n r1 r2 _ h
      rw [List.cons_append, rowGo_yes h1, rowGo_yes h1, rowGo_shift n (r1 ++ r2), rowGo_shift n r1, ih]
    · rw [List.cons_append, rowGo_no h1, rowGo_no h1]

theorem rowGo_codes (n : Nt) : ∀ (row m : List Int) (k : Int), (rowGo n m row k).2.2 = 0 ∨ (rowGo n m row k).2.2 = 91 ∨ (rowGo n m row k).2.2 = 250
  | [], m, k => Or.inl rfl
  | t :: row, m, k => by
    simp only [rowGo]
    split
    · exact rowGo_codes n row _ _
    · rcases fireE_code (n.tr t) m with ⟨_, h⟩ | ⟨_, h | h⟩
      · exact Or.inr (Or.inr h)
      · exact Or.inr (Or.inl h)
      · exact Or.inl h

/-- What the first part of the law comes to. -/
theorem rows_core {n : Nt} {m row : List Int} (c : Nat) (hc : c ≤ row.length) :
    (n.rowE m row = ([], 0, 1)) ∨
    (n.Mark m ∧ n.okB = true ∧ ((n.rowE m row).2.2 != 1) = true ∧ ((n.rowE m row).2.2 == 1) = false ∧
      ((∃ i f, n.rowE m (row.take c) = ([], i, f) ∧ f ≠ 0 ∧ n.rowE m row = ([], i, f)) ∨
       ∃ head, n.rowE m (row.take c) = (head, (c : Int), 0) ∧ n.Mark head ∧ ∃ tail j g, n.rowE head (row.drop c) = (tail, j, g) ∧ n.rowE m row = (tail, (c : Int) + j, g) ∧ 0 ≤ j ∧ j ≤ (row.length : Int))) := by
  cases hmk : n.markB m with
  | false => exact Or.inl (rowE_1 hmk)
  | true =>
    cases hb : row.any n.badT with
    | true => exact Or.inl (rowE_2 hmk hb)
    | false =>
      right
      have hsplit : (row.take c ++ row.drop c).any n.badT = false := by rw [List.take_append_drop]; exact hb
      rw [List.any_append, Bool.or_eq_false_iff] at hsplit
      have hM := Nt.mark_of hmk
      have hlen : (row.take c).length = c := by simp; omega
      have e1 := rowE_3 hmk hb
      have e2 := rowE_3 hmk hsplit.1
      have hcodes := rowGo_codes n row m 0
      refine ⟨hM, by simp only [Nt.markB, Bool.and_eq_true] at hmk; exact hmk.1, by rw [e1]; rcases hcodes with h | h | h <;> (rw [h]; decide), by rw [e1]; rcases hcodes with h | h | h <;> (rw [h]; decide), ?_⟩
      rw [e1, e2]
      by_cases h0 : (rowGo n m (row.take c) 0).2.2 = 0
      · right
        have hall := rowGo_all n (row.take c) m 0 h0
        rw [hlen] at hall
        have hmk2 := rowGo_mark n _ m 0 hM hsplit.1 h0
        have hmark2 : n.markB (rowGo n m (row.take c) 0).1 = true := Nt.mark_mk (by simp only [Nt.markB, Bool.and_eq_true] at hmk; exact hmk.1) hmk2.len hmk2.tok
        refine ⟨(rowGo n m (row.take c) 0).1, Prod.ext rfl (Prod.ext (by simpa using hall) h0), hmk2, ?_⟩
        have hr := rowGo_range n (row.drop c) (rowGo n m (row.take c) 0).1 0
        have happ := rowGo_append_yes n (row.take c) (row.drop c) m h0
        rw [List.take_append_drop, hlen] at happ
        obtain ⟨R, hR⟩ : ∃ R, rowGo n (rowGo n m (row.take c) 0).1 (row.drop c) 0 = R := ⟨_, rfl⟩
        rw [hR] at happ hr
        have hdl : (row.drop c).length ≤ row.length := by simp
        exact ⟨R.1, R.2.1, R.2.2, (rowE_3 hmark2 hsplit.2).trans hR, happ, by omega, by omega⟩
      · left
        have happ := rowGo_append_no n (row.take c) (row.drop c) m h0
        rw [List.take_append_drop] at happ
        rw [happ]
        exact ⟨_, _, Prod.ext (rowGo_out n _ m 0 h0) rfl, h0, Prod.ext (rowGo_out n _ m 0 h0) rfl⟩

/-- Two transitions have no place in common. -/
def Apart (s t : Tr) : Prop := ∀ p, (p ∈ s.inn ∨ p ∈ s.out) → p ∉ t.inn ∧ p ∉ t.out

theorem incs_some : ∀ {ps m : List Int}, ps.Nodup → PlacesOk m.length ps → ((incs m ps).isSome = true ↔ ∀ p ∈ ps, getI m p + 1 ≤ 2147483647)
  | [], m, _, _ => by simp [incs]
  | q :: ps, m, hn, hp => by
    obtain ⟨hn1, hn2⟩ := List.nodup_cons.1 hn
    have hq := hp q (by simp)
    simp only [incs]
    by_cases h : 2147483647 < getI m q + 1
    · rw [if_pos h]
      simp only [Option.isSome_none, Bool.false_eq_true, false_iff]
      intro hall
      have := hall q (by simp)
      omega
    · rw [if_neg h, incs_some hn2 (by rw [len_addI]; exact fun x hx => hp x (by simp [hx]))]
      constructor
      · intro hall p hpm
        rcases List.mem_cons.1 hpm with rfl | hpm
        · omega
        · have := hall p hpm
          rwa [getI_addI_ne hq.1 (hp p (by simp [hpm])).1 (fun e => hn1 (e ▸ hpm))] at this
      · intro hall p hpm
        rw [getI_addI_ne hq.1 (hp p (by simp [hpm])).1 (fun e => hn1 (e ▸ hpm))]
        exact hall p (by simp [hpm])

theorem enB_iff {t : Tr} {m : List Int} : t.enB m = true ↔ ∀ p ∈ t.inn, getI m p ≠ 0 := by
  simp only [Tr.enB, Bool.not_eq_true', List.any_eq_false, zeroAt, beq_iff_eq]

/-- When a transition fires. -/
theorem fire_iff {n : Nt} {m : List Int} (h : n.Mark m) {t : Tr} (ht : t ∈ n.trans) : (t.fireE m).1 = 0 ↔ (∀ p ∈ t.inn, getI m p ≠ 0) ∧ ∀ p ∈ t.out, getI m p - hasI t.inn p + 1 ≤ 2147483647 := by
  have hin := h.ok.inn t ht
  have hout := h.ok.out t ht
  rw [← h.len] at hin hout
  have hs := incs_some (m := decs m t.inn) hout.2.nodup (by rw [len_decs]; exact hout.1)
  have key : (∀ p ∈ t.out, getI (decs m t.inn) p + 1 ≤ 2147483647) ↔ ∀ p ∈ t.out, getI m p - hasI t.inn p + 1 ≤ 2147483647 := by
    refine forall_congr' fun p => forall_congr' fun hp => ?_
    rw [getI_decs (hout.1 p hp).1 (hout.1 p hp).2 hin.1 hin.2.nodup]
  rw [← key, ← hs, ← enB_iff]
  unfold Tr.fireE
  cases he : t.enB m with
  | false => simp
  | true =>
    cases hi : incs (decs m t.inn) t.out with
    | none => simp
    | some m' => simp

theorem getI_apart {n : Nt} {m : List Int} (h : n.Mark m) {s t : Tr} (ht : t ∈ n.trans) (h0 : (t.fireE m).1 = 0) (hst : Apart s t) {p : Int} (hp : p ∈ s.inn ∨ p ∈ s.out) (hp0 : 0 ≤ p) (hp1 : p < (m.length : Int)) : getI (t.fireE m).2 p = getI m p := by
  rw [getI_fire h ht h0 hp0 hp1, hasI_no (hst p hp).1, hasI_no (hst p hp).2]
  omega

theorem Apart.symm {s t : Tr} (h : Apart s t) : Apart t s := by
  intro p hp
  refine ⟨fun h1 => ?_, fun h1 => ?_⟩
  · rcases hp with hp | hp
    · exact (h p (Or.inl h1)).1 hp
    · exact (h p (Or.inl h1)).2 hp
  · rcases hp with hp | hp
    · exact (h p (Or.inr h1)).1 hp
    · exact (h p (Or.inr h1)).2 hp

theorem fire_apart {n : Nt} {m : List Int} (h : n.Mark m) {s t : Tr} (hs : s ∈ n.trans) (ht : t ∈ n.trans) (h0 : (t.fireE m).1 = 0) (hst : Apart s t) : (s.fireE (t.fireE m).2).1 = 0 ↔ (s.fireE m).1 = 0 := by
  rw [fire_iff (h.fire ht h0) hs, fire_iff h hs]
  have hin := (h.ok.inn s hs).1
  have hout := (h.ok.out s hs).1
  rw [← h.len] at hin hout
  refine and_congr (forall_congr' fun p => forall_congr' fun hp => ?_) (forall_congr' fun p => forall_congr' fun hp => ?_)
  · rw [getI_apart h ht h0 hst (Or.inl hp) (hin p hp).1 (hin p hp).2]
  · rw [getI_apart h ht h0 hst (Or.inr hp) (hout p hp).1 (hout p hp).2]

theorem list_ext_getI {a b : List Int} (hl : a.length = b.length) (h : ∀ p : Nat, p < a.length → getI a p = getI b p) : a = b := by
  apply List.ext_getElem hl
  intro i h1 h2
  have := h i h1
  rwa [getI_eq h1, getI_eq h2] at this

theorem fire_swap {n : Nt} {m : List Int} (h : n.Mark m) {s t : Tr} (hs : s ∈ n.trans) (ht : t ∈ n.trans) (hst : Apart s t) (h1 : (s.fireE m).1 = 0) (h2 : (t.fireE m).1 = 0) : (t.fireE (s.fireE m).2).2 = (s.fireE (t.fireE m).2).2 := by
  have h3 : (t.fireE (s.fireE m).2).1 = 0 := (fire_apart h ht hs h1 hst.symm).2 h2
  have h4 : (s.fireE (t.fireE m).2).1 = 0 := (fire_apart h hs ht h2 hst).2 h1
  apply list_ext_getI (by simp only [len_fire])
  intro p hp
  rw [len_fire, len_fire] at hp
  have hp1 : (p : Int) < (m.length : Int) := by omega
  rw [getI_fire (h.fire hs h1) ht h3 (by omega) (by rw [len_fire]; exact hp1), getI_fire h hs h1 (by omega) hp1, getI_fire (h.fire ht h2) hs h4 (by omega) (by rw [len_fire]; exact hp1), getI_fire h ht h2 (by omega) hp1]
  omega

theorem rowE_two {n : Nt} {m : List Int} (h : n.markB m = true) {s t : Nat} (hs : s < n.trans.length) (ht : t < n.trans.length) :
    n.rowE m [(s : Int), (t : Int)] = if (n.trans[s].fireE m).1 = 0 then (if (n.trans[t].fireE (n.trans[s].fireE m).2).1 = 0 then ((n.trans[t].fireE (n.trans[s].fireE m).2).2, 2, 0) else ([], 1, (n.trans[t].fireE (n.trans[s].fireE m).2).1)) else ([], 0, (n.trans[s].fireE m).1) := by
  have b1 : n.badT (s : Int) = false := by simp [Nt.badT]; omega
  have b2 : n.badT (t : Int) = false := by simp [Nt.badT]; omega
  have t1 : n.tr (s : Int) = n.trans[s] := by simp [Nt.tr, hs]
  have t2 : n.tr (t : Int) = n.trans[t] := by simp [Nt.tr, ht]
  rw [rowE_3 h (by simp [b1, b2])]
  simp only [rowGo, t1, t2]
  rfl

/-- What the second part of the law comes to. -/
theorem swap_core {n : Nt} {m : List Int} (h : n.Mark m) (hok : n.okB = true) {s t : Nat} (hs : s < n.trans.length) (ht : t < n.trans.length) (hst : Apart n.trans[s] n.trans[t]) :
    ∃ x a b y c d, n.rowE m [(s : Int), (t : Int)] = (x, a, b) ∧ n.rowE m [(t : Int), (s : Int)] = (y, c, d) ∧ (b == 0) = (d == 0) ∧ x = y ∧ x.length ≤ n.places.length := by
  have hmk : n.markB m = true := Nt.mark_mk hok h.len h.tok
  have ms := List.getElem_mem hs
  have mt := List.getElem_mem ht
  rw [rowE_two hmk hs ht, rowE_two hmk ht hs]
  by_cases h1 : (n.trans[s].fireE m).1 = 0
  · by_cases h2 : (n.trans[t].fireE m).1 = 0
    · have h3 := (fire_apart h mt ms h1 hst.symm).2 h2
      have h4 := (fire_apart h ms mt h2 hst).2 h1
      rw [if_pos h1, if_pos h2, if_pos h3, if_pos h4]
      exact ⟨_, _, _, _, _, _, rfl, rfl, rfl, fire_swap h ms mt hst h1 h2, by rw [len_fire, len_fire, h.len]; exact Nat.le_refl _⟩
    · have h3 : ¬ (n.trans[t].fireE (n.trans[s].fireE m).2).1 = 0 := fun e => h2 ((fire_apart h mt ms h1 hst.symm).1 e)
      rw [if_pos h1, if_neg h2, if_neg h3]
      exact ⟨_, _, _, _, _, _, rfl, rfl, by rw [beq_eq_false_iff_ne.2 h3, beq_eq_false_iff_ne.2 h2], rfl, by simp⟩
  · by_cases h2 : (n.trans[t].fireE m).1 = 0
    · have h4 : ¬ (n.trans[s].fireE (n.trans[t].fireE m).2).1 = 0 := fun e => h1 ((fire_apart h ms mt h2 hst).1 e)
      rw [if_neg h1, if_pos h2, if_neg h4]
      exact ⟨_, _, _, _, _, _, rfl, rfl, by rw [beq_eq_false_iff_ne.2 h1, beq_eq_false_iff_ne.2 h4], rfl, by simp⟩
    · rw [if_neg h1, if_neg h2]
      exact ⟨_, _, _, _, _, _, rfl, rfl, by rw [beq_eq_false_iff_ne.2 h1, beq_eq_false_iff_ne.2 h2], rfl, by simp⟩

end Go.Proofs.Ytopgakpggnkkmaa
