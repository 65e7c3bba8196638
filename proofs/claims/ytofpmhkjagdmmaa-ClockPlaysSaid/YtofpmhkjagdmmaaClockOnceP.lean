/- What is set goes off once. On lists. -/
import Derived.Test.YtofpmhkjagdmmaaClockOrderP
set_option maxRecDepth 100000
namespace Go.Proofs.Ytofpmhkjagdmmaa

/-- The same token and way. -/
def pairB (a b : Al) : Bool := (b.token == a.token) && (b.via.toList == a.via.toList)
def pairNe (a b : Al) : Prop := pairB a b = false ∧ pairB b a = false
theorem pair_self (a : Al) : pairB a a = true := by simp [pairB]
theorem count_pair {S : List Al} (hS : S.Pairwise pairNe) (f : Al → Bool) : ∀ x ∈ S, (S.filter f).countP (pairB x) = if f x = true then 1 else 0 := by
  induction S with
  | nil => intro x hx; cases hx
  | cons y S ih =>
    obtain ⟨h1, h2⟩ := List.pairwise_cons.1 hS
    intro x hx
    rcases List.mem_cons.1 hx with rfl | hx
    · have hz : (S.filter f).countP (pairB x) = 0 := by
        rw [List.countP_eq_zero]
        intro z hz
        have := h1 z (List.mem_filter.1 hz).1
        rw [this.1]; simp
      by_cases hf : f x = true
      · rw [List.filter_cons_of_pos hf, List.countP_cons_of_pos (pair_self x), hz, if_pos hf]
      · rw [List.filter_cons_of_neg hf, hz, if_neg hf]
    · have hxy : pairB x y = false := (h1 x hx).2
      by_cases hf : f y = true
      · rw [List.filter_cons_of_pos hf, List.countP_cons_of_neg (by rw [hxy]; simp)]
        exact ih h2 x hx
      · rw [List.filter_cons_of_neg hf]
        exact ih h2 x hx

/-- How often an alarm that was set has gone off. -/
theorem once_count {C : List Ent} {S : List Al} {t n : Int} (hC : (C.map Ent.al).Perm S) (hS : S.Pairwise pairNe) {kp : Ent → Bool} (hkp : ∀ e, kp e = !(e.al.token == t)) {C1 : List Ent} (h1 : C1.Perm (C.filter kp)) (hh : HeapE C1) {x : Al} (hx : x ∈ S) :
    ((tickE C1 n).1.map Ent.al).countP (pairB x) = if x.token ≠ t ∧ x.due ≤ n then 1 else 0 := by
  have hp1 : (C1.map Ent.al).Perm (S.filter (fun a => !(a.token == t))) := by
    refine (h1.map Ent.al).trans ?_
    rw [show C.filter kp = C.filter (fun e => (fun a : Al => !(a.token == t)) e.al) from List.filter_congr (fun e _ => hkp e), filter_al C (fun a => !(a.token == t))]
    exact hC.filter _
  have hp2 := tick_perm (n := n) hp1 hh
  rw [hp2.countP_eq, List.filter_filter]
  have := count_pair hS (fun a => decide (a.due ≤ n) && !(a.token == t)) x hx
  rw [this]
  by_cases h2 : x.token = t
  · simp [h2]
  · by_cases h3 : x.due ≤ n <;> simp [h2, h3]
theorem none_before {C : List Ent} (h : ∀ e ∈ C, 0 < e.al.due) : tickE C 0 = ([], C) := by
  refine tick_stop (fun ⟨h1, h2⟩ => ?_)
  have := h (atL C 0) (by rw [atL_eq h1]; exact List.getElem_mem h1)
  omega
theorem tick_due {C : List Ent} {n : Int} (hh : HeapE C) : ∀ a ∈ (tickE C n).1.map Ent.al, a.due ≤ n := by
  intro a ha
  obtain ⟨e, he, rfl⟩ := List.mem_map.1 ha
  exact (tick_ok n _ C rfl hh).2.2.2.1 e he
theorem tick_len {C : List Ent} {n : Int} (hh : HeapE C) : ((tickE C n).1.map Ent.al).length + (tickE C n).2.length = C.length := by
  have := (tick_ok n _ C rfl hh).1.length_eq
  rw [List.length_append] at this
  rw [List.length_map]; omega
/-- A tick more. -/
theorem tick_on {C : List Ent} {a b : Int} (hab : a ≤ b) : (tickE C b).1.map Ent.al = (tickE C a).1.map Ent.al ++ (tickE (tickE C a).2 b).1.map Ent.al ∧ (tickE C b).2 = (tickE (tickE C a).2 b).2 := by
  have := tick_add hab _ C rfl
  rw [this]
  exact ⟨List.map_append, rfl⟩
theorem has_pair {C : List Ent} {S : List Al} (hC : (C.map Ent.al).Perm S) {x : Al} {sm : Al → Ent → Bool} (hsm : ∀ a e, sm a e = pairB a e.al) (h : C.any (sm x) = false) : ∀ a ∈ S, pairNe a x := by
  intro a ha
  obtain ⟨e, he, rfl⟩ := List.mem_map.1 (hC.symm.subset ha)
  have h1 := List.any_eq_false.1 h e he
  rw [hsm] at h1
  have h2 : pairB x e.al = false := by simpa using h1
  refine ⟨?_, h2⟩
  unfold pairB at h2 ⊢
  rw [Bool.and_eq_false_iff] at h2 ⊢
  rcases h2 with h2 | h2
  · left; rw [beq_eq_false_iff_ne] at h2 ⊢; exact Ne.symm h2
  · right; rw [beq_eq_false_iff_ne] at h2 ⊢; exact Ne.symm h2

end Go.Proofs.Ytofpmhkjagdmmaa
