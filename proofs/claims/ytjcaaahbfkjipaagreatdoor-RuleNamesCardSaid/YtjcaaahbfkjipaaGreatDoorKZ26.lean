/- Texts fused by fuse.py: KExprTokP. -/
import Derived.Test.YtjcaaahbfkjipaaGreatDoorKZ01
import Derived.Test.YtjcaaahbfkjipaaGreatDoorKZ00
/- Of ExprTokP: what FRuleNames uses (shake.py). -/
set_option maxRecDepth 100000
/- Tokens and parts of a condition: places, forms, how much is left to read (plain; seat expr). -/
namespace Go.Proofs.YtjcaaahbfkjipaaGreatDoor
open Go.Lib
def isFin : Tk → Bool | .fin _ => true | _ => false
def TkW (t : Tk) : Prop := match t with
  | .nd n _ => HeadW n ∧ n.kids = [] ∧ (n.op = 1 ∨ n.op = 2)
  | .fin _ => True
  | .say w _ => w ≠ [] ∧ w.length ≤ 1000
theorem spanE_le' (p : Nat → Bool) : ∀ l : List UInt8, spanE p l ≤ l.length
  | [] => Nat.le_refl _
  | c :: r => by
    unfold spanE
    split
    · have := spanE_le' p r; simp only [List.length_cons]; omega
    · exact Nat.zero_le _
theorem spanE_pos (p : Nat → Bool) (c : UInt8) (r : List UInt8) (h : p c.toNat = true) : 1 ≤ spanE p (c :: r) := by
  unfold spanE
  rw [if_pos h]
  omega
theorem textE_le (i : Nat) (acc l t : List UInt8) (n : Nat) (h : textE i acc l = some (t, n)) : i < n ∧ n ≤ i + l.length ∧ t.length + i ≤ acc.length + n := by
  fun_induction textE i acc l with
  | case1 => cases h
  | case2 i acc => injection h with h; injection h with h1 h2; subst h1 h2; refine ⟨?_, ?_, ?_⟩ <;> simp <;> omega
  | case3 i acc r ih => have := ih h; simp only [List.length_append, List.length_cons, List.length_nil] at this ⊢; omega
  | case4 i acc c r hne => injection h with h; injection h with h1 h2; subst h1 h2; simp only [List.length_cons]; omega
  | case5 i acc c r h1 h2 h3 ih => have := ih h; simp only [List.length_append, List.length_cons, List.length_nil] at this ⊢; omega
theorem intE_bounds {l : List UInt8} {v : Int} (h : intE l = some v) : -9223372036854775808 ≤ v ∧ v ≤ 9223372036854775807 := by
  unfold intE at h
  split at h
  · next v' e => injection h with h; subst h; exact atoiAll_bounds e
  · cases h
theorem HeadW_lit {v : Vl} (h : VlW v) : HeadW (litN v) := ⟨by show (0 : Int) ≤ 1; omega, by show (1 : Int) ≤ 255; omega, h, by show 0 ≤ _; omega⟩
theorem HeadW_var {s : ByteArray} (h : s.size ≤ 140737488355328) : HeadW (varN s) := ⟨by show (0 : Int) ≤ 2; omega, by show (2 : Int) ≤ 255; omega, VlW.zero, h⟩
theorem VlW_tx {s : ByteArray} (h : s.size ≤ 140737488355328) : VlW (txV s) := ⟨by show (0 : Int) ≤ 3; omega, by show (3 : Int) ≤ 255; omega, by show _ ≤ (0 : Int); omega, by show (0 : Int) ≤ _; omega, h⟩
theorem take_le_span (p : Nat → Bool) (rest : List UInt8) : (rest.take (spanE p rest)).length = spanE p rest := by
  rw [List.length_take]; have := spanE_le' p rest; omega
theorem size_mk (l : List UInt8) : (ByteArray.mk l.toArray).size = l.length := by show l.toArray.size = _; simp
def TokOk (rest : List UInt8) (a : Nat) (tk : Tk) (j : Nat) : Prop := (rest = [] ∧ tk = .fin a ∧ j = a) ∨ (isFin tk = false ∧ tk.at_ = a ∧ a + 1 ≤ j ∧ j ≤ a + rest.length ∧ TkW tk)
theorem tokE_ok {rest : List UInt8} {a : Nat} {tk : Tk} {j : Nat} (hr : rest.length ≤ 1000) (h : tokE rest a = .ok (tk, j)) : TokOk rest a tk j := by
  unfold tokE at h
  split at h
  · injection h with h; injection h with h1 h2; exact .inl ⟨rfl, h1.symm, h2.symm⟩
  · next b r =>
    refine .inr ?_
    split at h
    · next hd =>
      have h1 := spanE_pos digE b r hd
      have h2 := spanE_le' digE (b :: r)
      have h3 := take_le_span digE (b :: r)
      simp only at h
      split at h
      · cases h
      · split at h
        · cases h
        · next v hv =>
          injection h with h
          injection h with e1 e2
          subst e1 e2
          obtain ⟨b1, b2⟩ := intE_bounds hv
          exact ⟨rfl, rfl, by rw [h3]; omega, by rw [h3]; omega, HeadW_lit (.num b1 b2), rfl, .inl rfl⟩
    · split at h
      · next hl =>
        have hin : inNm b.toNat = true := by unfold inNm; rw [hl]; rfl
        have h1 := spanE_pos inNm b r hin
        have h2 := spanE_le' inNm (b :: r)
        have h3 := take_le_span inNm (b :: r)
        have h4 : (List.take (spanE inNm (b :: r)) (b :: r)) ≠ [] := by intro e; rw [e] at h3; simp at h3; omega
        simp only at h
        split at h
        · injection h with h
          injection h with e1 e2
          subst e1 e2
          exact ⟨rfl, rfl, by rw [h3]; omega, by rw [h3]; omega, HeadW_lit (.tr _), rfl, .inl rfl⟩
        · split at h
          · injection h with h
            injection h with e1 e2
            subst e1 e2
            exact ⟨rfl, rfl, by rw [h3]; omega, by rw [h3]; omega, HeadW_lit (.tr _), rfl, .inl rfl⟩
          · split at h
            · injection h with h
              injection h with e1 e2
              subst e1 e2
              exact ⟨rfl, rfl, by rw [h3]; omega, by rw [h3]; omega, h4, by rw [h3]; omega⟩
            · split at h
              · injection h with h
                injection h with e1 e2
                subst e1 e2
                exact ⟨rfl, rfl, by rw [h3]; omega, by rw [h3]; omega, HeadW_var (by rw [size_mk, h3]; omega), rfl, .inr rfl⟩
              · cases h
      · split at h
        · split at h
          · cases h
          · next t n ht =>
            split at h
            · injection h with h
              injection h with e1 e2
              subst e1 e2
              have := textE_le _ _ _ _ _ ht
              simp only [List.tail_cons, List.length_cons, List.length_nil] at this hr
              exact ⟨rfl, rfl, by omega, by simp only [List.length_cons]; omega, HeadW_lit (VlW_tx (by rw [size_mk]; omega)), rfl, .inl rfl⟩
            · cases h
        · have hw1 : ∀ w : List UInt8, w = (if 1 < (b :: r).length ∧ (signL ((b :: r).take 2)).isSome then (b :: r).take 2 else (b :: r).take 1) → 1 ≤ w.length ∧ w.length ≤ (b :: r).length := by
            rintro w rfl
            split <;> simp only [List.length_take, List.length_cons] <;> omega
          simp only at h
          generalize hw : (if 1 < (b :: r).length ∧ (signL ((b :: r).take 2)).isSome then (b :: r).take 2 else (b :: r).take 1) = w at h
          obtain ⟨h1, h2⟩ := hw1 w hw.symm
          split at h
          · injection h with h
            injection h with e1 e2
            subst e1 e2
            refine ⟨rfl, rfl, by omega, by omega, ?_, by omega⟩
            intro e
            rw [e] at h1
            simp at h1
          · cases h
theorem tokE_err {rest : List UInt8} {a : Nat} {p : Nat} {x : Int} (h : tokE rest a = .error (x, p)) : (x = 4 ∨ x = 91) ∧ p = a := by
  unfold tokE at h
  split at h
  · cases h
  · next b r =>
    simp only at h
    generalize (if 1 < (b :: r).length ∧ (signL ((b :: r).take 2)).isSome then (b :: r).take 2 else (b :: r).take 1) = w at h
    repeat' split at h
    all_goals first
      | (cases h; done)
      | (cases h; exact ⟨.inl rfl, rfl⟩)
      | (cases h; exact ⟨.inr rfl, rfl⟩)
theorem dropWhile_le (p : UInt8 → Bool) (l : List UInt8) : (l.dropWhile p).length ≤ l.length := by
  induction l with
  | nil => simp
  | cons c r ih =>
    rw [List.dropWhile_cons]
    split
    · simp only [List.length_cons]; omega
    · exact Nat.le_refl _
theorem nextE_ok {s : List UInt8} {i : Nat} {tk : Tk} {j : Nat} (hs : s.length ≤ 1000) (hi : i ≤ s.length) (h : nextE s i = .ok (tk, j)) : i ≤ tk.at_ ∧ tk.at_ ≤ j ∧ j ≤ s.length ∧ (isFin tk = false → tk.at_ < j) ∧ TkW tk := by
  unfold nextE at h
  have h1 := dropWhile_le (· == 32) (s.drop i)
  rw [List.length_drop] at h1
  rcases tokE_ok (by omega) h with ⟨_, rfl, rfl⟩ | ⟨h2, h3, h4, h5, h6⟩
  · exact ⟨by show i ≤ _ - _; omega, Nat.le_refl _, by omega, (fun e => by cases e), trivial⟩
  · exact ⟨by omega, by omega, by omega, fun _ => by omega, h6⟩
theorem nextE_err {s : List UInt8} {i : Nat} {x : Int} {p : Nat} (h : nextE s i = .error (x, p)) : (x = 4 ∨ x = 91) ∧ p ≤ s.length := by
  unfold nextE at h
  obtain ⟨h1, h2⟩ := tokE_err h
  exact ⟨h1, by omega⟩
/-- How much is left to read. -/
def mu (L : Nat) (st : Tk × Nat) : Nat := 2 * (L - st.2) + (if isFin st.1 then 0 else 1)
theorem next_mu {s : List UInt8} {st st' : Tk × Nat} (hs : s.length ≤ 1000) (hi : st.2 ≤ s.length) (hf : isFin st.1 = false) (h : nextE s st.2 = .ok st') : mu s.length st' < mu s.length st ∧ st'.2 ≤ s.length ∧ st.2 ≤ st'.2 ∧ st'.1.at_ ≤ s.length ∧ TkW st'.1 := by
  obtain ⟨tk, j⟩ := st'
  obtain ⟨h1, h2, h3, h4, h5⟩ := nextE_ok hs hi h
  refine ⟨?_, h3, by simp only; omega, by simp only; omega, h5⟩
  unfold mu
  rw [hf]
  simp only
  cases hk : isFin tk with
  | true => rw [if_pos rfl]; simp; omega
  | false => have := h4 hk; simp; omega
theorem bind_ok {α β : Type} {x : Rs α} {k : α → Rs β} {b : β} (h : (x >>= k) = .ok b) : ∃ a, x = .ok a ∧ k a = .ok b := by
  cases x with
  | error e => cases h
  | ok a => exact ⟨a, rfl, h⟩
theorem bind_is {α β : Type} {x : Rs α} {k : α → Rs β} {a : α} (h : x = .ok a) : (x >>= k) = k a := by rw [h]; rfl
theorem bind_no {α β : Type} {x : Rs α} {k : α → Rs β} {e : Int × Nat} (h : x = .error e) : (x >>= k) = .error e := by rw [h]; rfl
/-- What the lexer's state must be. -/
def StW (L : Nat) (st : Tk × Nat) : Prop := st.2 ≤ L ∧ st.1.at_ ≤ L ∧ TkW st.1
theorem next_stw {s : List UInt8} {i : Nat} {st' : Tk × Nat} (hs : s.length ≤ 1000) (hi : i ≤ s.length) (h : nextE s i = .ok st') : StW s.length st' := by
  obtain ⟨tk, j⟩ := st'
  obtain ⟨h1, h2, h3, h4, h5⟩ := nextE_ok hs hi h
  exact ⟨h3, by simp only; omega, h5⟩
theorem signT_fin {tk : Tk} {p : Int × Nat} (h : signT tk = some p) : isFin tk = false := by cases tk <;> first | rfl | cases h
theorem prs_mu {s : List UInt8} (hs : s.length ≤ 1000) : ∀ (f : Nat) (m : Option Nd) (line : Nat) (st : Tk × Nat) (n : Nd) (st' : Tk × Nat), StW s.length st → prsE s f m line st = .ok (n, st') →
    StW s.length st' ∧ mu s.length st' ≤ mu s.length st ∧ (m = none → mu s.length st' < mu s.length st)
  | 0, m, line, st, n, st', hi, h => by unfold prsE at h; cases h
  | f + 1, none, line, (tk, i), n, st', hi, h => by
    have key : ∀ (ln : Nat) (k : Nd × (Tk × Nat) → Rs (Nd × (Tk × Nat))), isFin tk = false → (∀ m st2, k (m, st2) = .ok (n, st') → StW s.length st2 → mu s.length st2 < mu s.length (tk, i) → StW s.length st' ∧ mu s.length st' ≤ mu s.length st2) →
        (do let st1 ← nextE s i; let r ← prsE s f none ln st1; k r) = .ok (n, st') → StW s.length st' ∧ mu s.length st' ≤ mu s.length (tk, i) ∧ (none = (none : Option Nd) → mu s.length st' < mu s.length (tk, i)) := by
      intro ln k hf hk h
      obtain ⟨st1, h1, h⟩ := bind_ok h
      obtain ⟨⟨m, st2⟩, h2, h⟩ := bind_ok h
      obtain ⟨a1, a2, a3, a4, a5⟩ := next_mu (st := (tk, i)) hs hi.1 hf h1
      obtain ⟨b1, b2, b3⟩ := prs_mu hs f none ln st1 m st2 ⟨a2, a4, a5⟩ h2
      obtain ⟨c1, c2⟩ := hk m st2 h b1 (by have := b3 rfl; omega)
      have := b3 rfl
      exact ⟨c1, by omega, fun _ => by omega⟩
    unfold prsE at h
    simp only at h
    split at h
    · next w a =>
      split at h
      · exact key 3 _ rfl (fun m st2 hk hs2 hm => by have := prs_mu hs f _ _ _ _ _ hs2 hk; exact ⟨this.1, this.2.1⟩) h
      · split at h
        · exact key 7 _ rfl (fun m st2 hk hs2 hm => by have := prs_mu hs f _ _ _ _ _ hs2 hk; exact ⟨this.1, this.2.1⟩) h
        · split at h
          · refine key 1 _ rfl (fun m st2 hk hs2 hm => ?_) h
            obtain ⟨t2, j⟩ := st2
            simp only at hk
            split at hk
            · next c =>
              obtain ⟨st3, h3, hk⟩ := bind_ok hk
              obtain ⟨a1, a2, a3, a4, a5⟩ := next_mu (st := (_, j)) hs hs2.1 rfl h3
              have := prs_mu hs f _ _ _ _ _ ⟨a2, a4, a5⟩ hk
              exact ⟨this.1, by have h6 := this.2.1; omega⟩
            · cases hk
          · cases h
    · cases h
    · next nd a =>
      obtain ⟨st1, h1, h⟩ := bind_ok h
      obtain ⟨a1, a2, a3, a4, a5⟩ := next_mu (st := (Tk.nd nd a, i)) hs hi.1 rfl h1
      have := prs_mu hs f _ _ _ _ _ ⟨a2, a4, a5⟩ h
      exact ⟨this.1, by omega, fun _ => by omega⟩
  | f + 1, some q, line, (tk, i), n, st', hi, h => by
    unfold prsE at h
    simp only at h
    split at h
    · injection h with h; injection h with h1 h2; subst h1 h2; exact ⟨hi, Nat.le_refl _, fun e => by cases e⟩
    · next op ln hsg =>
      split at h
      · injection h with h; injection h with h1 h2; subst h1 h2; exact ⟨hi, Nat.le_refl _, fun e => by cases e⟩
      · obtain ⟨st1, h1, h⟩ := bind_ok h
        obtain ⟨⟨m, st2⟩, h2, h⟩ := bind_ok h
        obtain ⟨a1, a2, a3, a4, a5⟩ := next_mu (st := (tk, i)) hs hi.1 (signT_fin hsg) h1
        obtain ⟨b1, b2, b3⟩ := prs_mu hs f none _ st1 m st2 ⟨a2, a4, a5⟩ h2
        simp only at h
        split at h
        · cases h
        · have := prs_mu hs f _ _ _ _ _ b1 h
          exact ⟨this.1, by omega, fun e => by cases e⟩
theorem mu_le (s : List UInt8) (st : Tk × Nat) : mu s.length st ≤ 2 * s.length + 1 := by
  unfold mu
  split <;> omega
end Go.Proofs.YtjcaaahbfkjipaaGreatDoor
