/- No job is handed out while a worker holds it: on lists. -/
import Derived.Test.YtggnheekkbideaaJobPlaysM
import Derived.Test.YtggnheekkbideaaMapN
import Derived.Test.YtggnheekkbideaaJobSortP
set_option maxRecDepth 100000
namespace Go.Proofs.Ytggnheekkbideaa

def idsN (l : List Ins) : Nat → List Int
  | 0 => []
  | i + 1 => idsN l i ++ (atL l i).toks.map (·.id)
theorem tokN_ids (i : Nat) (x : Ins) : ∀ k, k ≤ x.toks.length → (tokN i x k).map (·.t.id) = (x.toks.take k).map (·.id)
  | 0, _ => by simp [tokN]
  | k + 1, h => by
    rw [tokN_succ, List.map_append, tokN_ids i x k (by omega), List.take_succ_eq_append_getElem (by omega), List.map_append, atL_eq (show k < x.toks.length by omega)]
    rfl
theorem insN_ids (i : Nat) (x : Ins) : ((insN i x).map (·.t.id)).Sublist (x.toks.map (·.id)) := by
  unfold insN
  split
  · rw [tokN_ids i x _ (Nat.le_refl _), List.take_length]
    exact List.Sublist.refl _
  · exact List.nil_sublist _
theorem allN_ids (l : List Ins) : ∀ i, ((allN l i).map (·.t.id)).Sublist (idsN l i)
  | 0 => List.Sublist.refl _
  | i + 1 => by
    show ((allN l i ++ insN i (atL l i)).map (·.t.id)).Sublist (idsN l i ++ (atL l i).toks.map (·.id))
    rw [List.map_append]
    exact (allN_ids l i).append (insN_ids i (atL l i))
/-- The running tokens' numbers are unlike. -/
def Uq (l : List Ins) : Prop := ((allT l).map (·.t.id)).Nodup
theorem uq_of {l : List Ins} (h : (idsN l l.length).Nodup) : Uq l := h.sublist (allN_ids l l.length)
theorem Uq.eq {l : List Ins} (h : Uq l) {p q : PT} (hp : p ∈ allT l) (hq : q ∈ allT l) (e : p.t.id = q.t.id) : p = q := by
  obtain ⟨i, hi, rfl⟩ := List.getElem_of_mem hp
  obtain ⟨j, hj, rfl⟩ := List.getElem_of_mem hq
  have h' : ((allT l).map (·.t.id)).Nodup := h
  have := (List.getElem_inj (xs := (allT l).map (·.t.id)) (i := i) (j := j) (h₀ := by simpa using hi) (h₁ := by simpa using hj) h').1 (by simpa using e)
  subst this
  rfl
theorem Uq.find {l : List Ins} (h : Uq l) {p : PT} (hp : p ∈ allT l) : findT l p.t.id = some p := by
  unfold findT
  cases hf : (allT l).find? (isTok p.t.id) with
  | none =>
    have := List.find?_eq_none.1 hf p hp
    simp [isTok] at this
  | some q =>
    have h1 := List.mem_of_find?_eq_some hf
    have h2 := List.find?_some hf
    simp [isTok] at h2
    rw [h.eq h1 hp h2]
theorem find_id {l : List Ins} {t : Int} {p : PT} (h : findT l t = some p) : p.t.id = t := by
  have h2 := List.find?_some h
  simpa [isTok] using h2
theorem find_no {l : List Ins} {t : Int} (h : findT l t = none) : ∀ p ∈ allT l, p.t.id ≠ t := fun p hp e => by
  have := List.find?_eq_none.1 h p hp
  simp [isTok, e] at this

section
variable {f : Tok → Tok}
theorem markP_id (hf : ∀ t, (f t).id = t.id) (i k : Nat) (p : PT) : (markP f i k p).t.id = p.t.id := by
  unfold markP
  split
  · exact hf _
  · rfl
theorem mark_ids (hf : ∀ t, (f t).id = t.id) {l : List Ins} {i k : Nat} (hi : i < l.length) (hk : k < (atL l i).toks.length) : (allT (markL f l i k)).map (·.t.id) = (allT l).map (·.t.id) := by
  rw [allT_mark f l i k hi hk, List.map_map]
  exact List.map_congr_left fun p _ => markP_id hf i k p
theorem mark_stay {l : List Ins} {i k : Nat} (hi : i < l.length) (hk : k < (atL l i).toks.length) {p : PT} (hp : p ∈ allT l) (hne : ¬ (p.i = i ∧ p.k = k)) : p ∈ allT (markL f l i k) := by
  rw [allT_mark f l i k hi hk]
  exact List.mem_map.2 ⟨p, hp, by unfold markP; rw [if_neg hne]⟩
theorem mark_hit {l : List Ins} {p : PT} (hp : p ∈ allT l) : (⟨p.i, p.k, f p.t⟩ : PT) ∈ allT (markL f l p.i p.k) := by
  obtain ⟨h1, h2, _⟩ := allT_at hp
  rw [allT_mark f l p.i p.k h1 h2]
  exact List.mem_map.2 ⟨p, hp, by unfold markP; rw [if_pos ⟨rfl, rfl⟩]⟩
def InL (l : List Ins) (P : List PT) : Prop := ∀ q ∈ P, q.i < l.length ∧ q.k < (atL l q.i).toks.length
theorem InL.tail {l : List Ins} {q : PT} {P : List PT} (h : InL l (q :: P)) : InL (markL f l q.i q.k) P := fun r hr => by
  obtain ⟨h1, _⟩ := h q List.mem_cons_self
  obtain ⟨a, b⟩ := h r (List.mem_cons_of_mem _ hr)
  exact ⟨by rw [markL_len]; exact a, by rw [mark_toks f l _ _ _ h1]; exact b⟩
theorem marks_stay : ∀ (P : List PT) (l : List Ins), InL l P → ∀ p ∈ allT l, (∀ q ∈ P, ¬ (p.i = q.i ∧ p.k = q.k)) → p ∈ allT (marks f l P)
  | [], _, _, _, hp, _ => hp
  | q :: P, l, h, p, hp, hne => by
    obtain ⟨h1, h2⟩ := h q List.mem_cons_self
    exact marks_stay P (markL f l q.i q.k) h.tail p (mark_stay h1 h2 hp (hne q List.mem_cons_self)) (fun r hr => hne r (List.mem_cons_of_mem _ hr))
theorem marks_hit : ∀ (P : List PT) (l : List Ins), InL l P → P.Pairwise (fun a b => ¬ (a.i = b.i ∧ a.k = b.k)) → ∀ p ∈ P, p ∈ allT l → (⟨p.i, p.k, f p.t⟩ : PT) ∈ allT (marks f l P)
  | [], _, _, _, _, h, _ => by cases h
  | q :: P, l, h, hd, p, hp, hpl => by
    obtain ⟨h1, h2⟩ := h q List.mem_cons_self
    obtain ⟨d1, d2⟩ := List.pairwise_cons.1 hd
    rcases List.mem_cons.1 hp with e | e
    · subst e
      exact marks_stay P (markL f l p.i p.k) h.tail _ (mark_hit hpl) (fun r hr => d1 r hr)
    · exact marks_hit P (markL f l q.i q.k) h.tail d2 p e (mark_stay h1 h2 hpl (fun e2 => d1 p e ⟨e2.1.symm, e2.2.symm⟩))
theorem marks_ids (hf : ∀ t, (f t).id = t.id) : ∀ (P : List PT) (l : List Ins), InL l P → (allT (marks f l P)).map (·.t.id) = (allT l).map (·.t.id)
  | [], _, _ => rfl
  | q :: P, l, h => by
    obtain ⟨h1, h2⟩ := h q List.mem_cons_self
    exact (marks_ids hf P (markL f l q.i q.k) h.tail).trans (mark_ids hf h1 h2)
end

/-- What the law keeps of who holds what. -/
def InvO (l : List Ins) (held : Int → Int) (by_ : Int → ByteArray) : Prop :=
  ∀ id, held id ≠ 0 → ∃ p ∈ allT l, p.t.id = id ∧ p.t.til = held id ∧ p.t.worker = by_ id ∧ isB p.t = true ∧ p.t.inc = 0
def foldU {β : Type} (h : Int → β) (v : β) (P : List PT) : Int → β := P.foldl (fun h p => updF h p.t.id v) h
theorem foldU_snoc {β : Type} (h : Int → β) (v : β) (P : List PT) (p : PT) : foldU h v (P ++ [p]) = updF (foldU h v P) p.t.id v := by simp [foldU]
theorem foldU_is {β : Type} (v : β) (id : Int) : ∀ (P : List PT) (h : Int → β), foldU h v P id = if id ∈ P.map (·.t.id) then v else h id := by
  intro P
  induction P with
  | nil => intro h; simp [foldU]
  | cons q P ih =>
    intro h
    show foldU (updF h q.t.id v) v P id = _
    rw [ih]
    unfold updF
    by_cases h1 : id ∈ P.map (·.t.id)
    · rw [if_pos h1, if_pos (by simp at h1 ⊢; exact Or.inr h1)]
    · rw [if_neg h1]
      by_cases h2 : id = q.t.id
      · rw [if_pos h2, if_pos (by simp [h2])]
      · rw [if_neg h2, if_neg (by simp at h1 ⊢; exact ⟨h2, h1⟩)]

theorem fetchP_facts (l : List Ins) (clock n : Int) : (fetchP l clock n).Nodup ∧ ∀ p ∈ fetchP l clock n, p ∈ allT l ∧ freeB clock p.t = true := by
  unfold fetchP
  have hp := stableE_perm (someL (freeB clock) (allT l))
  refine ⟨(hp.nodup_iff.2 (someL_ne (freeB clock) l)).sublist (List.take_sublist _ _), fun p h => ?_⟩
  have h1 := hp.subset (List.mem_of_mem_take h)
  unfold someL at h1
  obtain ⟨a, b⟩ := List.mem_filter.1 h1
  exact ⟨a, b⟩
theorem place_eq {l : List Ins} {p q : PT} (hp : p ∈ allT l) (hq : q ∈ allT l) (h : p.i = q.i ∧ p.k = q.k) : p = q := by
  obtain ⟨_, _, h3, _⟩ := allT_at hp
  obtain ⟨_, _, g3, _⟩ := allT_at hq
  cases p; cases q
  simp only at h h3 g3 ⊢
  obtain ⟨rfl, rfl⟩ := h
  rw [h3, g3]

structure OneF (l : List Ins) (held : Int → Int) (by_ : Int → ByteArray) (clock : Int) (wk : ByteArray) (ticks : Int) (P : List PT) : Prop where
  least : ∀ k (h : k < P.length), foldU held (clock + ticks) (P.take k) P[k].t.id ≤ clock
  find : ∀ k (h : k < P.length), ∃ q, findT (marks (fetchF wk (clock + ticks)) l P) P[k].t.id = some q ∧ q.t.worker = wk ∧ q.t.til = clock + ticks ∧ isB q.t = true ∧ q.t.inc = 0
  inv : InvO (marks (fetchF wk (clock + ticks)) l P) (foldU held (clock + ticks) P) (foldU by_ wk P)
  uq : Uq (marks (fetchF wk (clock + ticks)) l P)
theorem one_fetch {l : List Ins} {held : Int → Int} {by_ : Int → ByteArray} {clock : Int} {wk : ByteArray} {n ticks : Int} (hI : InvO l held by_) (hU : Uq l) (hc : 0 ≤ clock) : OneF l held by_ clock wk ticks (fetchP l clock n) := by
  obtain ⟨hn, hP⟩ := fetchP_facts l clock n
  generalize fetchP l clock n = P at hn hP
  have hin : InL l P := fun q hq => by
    obtain ⟨a, b, _⟩ := allT_at (hP q hq).1
    exact ⟨a, b⟩
  have hpl : P.Pairwise (fun a b => ¬ (a.i = b.i ∧ a.k = b.k)) := by
    rw [List.pairwise_iff_getElem]
    intro i j hi hj hij e
    have := place_eq (hP _ (List.getElem_mem hi)).1 (hP _ (List.getElem_mem hj)).1 e
    exact List.pairwise_iff_getElem.1 hn i j hi hj hij this
  have hfree : ∀ p ∈ P, isB p.t = true ∧ p.t.inc = 0 ∧ p.t.til ≤ clock := fun p hp => by
    have := (hP p hp).2
    unfold freeB at this
    simp only [Bool.and_eq_true, decide_eq_true_eq, beq_iff_eq] at this
    exact ⟨this.1.1, this.1.2, this.2⟩
  have hids := marks_ids (f := fetchF wk (clock + ticks)) (fun _ => rfl) P l hin
  have hUY : Uq (marks (fetchF wk (clock + ticks)) l P) := by unfold Uq; rw [hids]; exact hU
  have hmem : ∀ p ∈ P, (⟨p.i, p.k, fetchF wk (clock + ticks) p.t⟩ : PT) ∈ allT (marks (fetchF wk (clock + ticks)) l P) := fun p hp => marks_hit P l hin hpl p hp (hP p hp).1
  refine ⟨fun k hk => ?_, fun k hk => ?_, fun id hid => ?_, hUY⟩
  · rw [foldU_is, if_neg]
    · by_cases h0 : held P[k].t.id = 0
      · rw [h0]; exact hc
      · obtain ⟨p, hp, e1, e2, _⟩ := hI _ h0
        have hpk := hP _ (List.getElem_mem hk)
        have := hU.eq hp hpk.1 e1
        subst this
        rw [← e2]
        exact (hfree _ (List.getElem_mem hk)).2.2
    · intro hm
      obtain ⟨q, hq, e⟩ := List.mem_map.1 hm
      have := hU.eq (hP _ (List.mem_of_mem_take hq)).1 (hP _ (List.getElem_mem hk)).1 e
      obtain ⟨i, hi, e2⟩ := List.getElem_of_mem hq
      rw [List.length_take] at hi
      rw [List.getElem_take] at e2
      rw [← e2] at this
      exact List.pairwise_iff_getElem.1 hn i k (by omega) hk (by omega) this
  · have hpk := List.getElem_mem hk
    have h1 := hUY.find (hmem _ hpk)
    obtain ⟨g1, g2, _⟩ := hfree _ hpk
    exact ⟨_, h1, rfl, rfl, g1, g2⟩
  · rw [foldU_is] at hid ⊢
    rw [foldU_is]
    by_cases hm : id ∈ P.map (·.t.id)
    · rw [if_pos hm, if_pos hm]
      obtain ⟨p, hp, e⟩ := List.mem_map.1 hm
      obtain ⟨g1, g2, _⟩ := hfree p hp
      exact ⟨_, hmem p hp, e, rfl, rfl, g1, g2⟩
    · rw [if_neg hm] at hid ⊢
      rw [if_neg hm]
      obtain ⟨p, hp, e1, e2⟩ := hI id hid
      refine ⟨p, marks_stay P l hin p hp (fun q hq e => hm ?_), e1, e2⟩
      have := place_eq hp (hP q hq).1 e
      rw [this] at e1
      exact List.mem_map.2 ⟨q, hq, e1⟩

/-- Who fails a job holds it. -/
theorem one_fail_none {l : List Ins} {held : Int → Int} {by_ : Int → ByteArray} {tok : Int} (hI : InvO l held by_) (hf : findT l tok = none) : held tok = 0 := by
  by_cases h : held tok = 0
  · exact h
  · obtain ⟨p, hp, e, _⟩ := hI tok h
    exact absurd e (find_no hf p hp)
theorem one_fail_some {l : List Ins} {held : Int → Int} {by_ : Int → ByteArray} {tok clock : Int} {wk : ByteArray} {p : PT} (hI : InvO l held by_) (hU : Uq l) (hf : findT l tok = some p) (h : held tok ≠ 0) : holdsB wk clock p.t = (decide (clock < held tok) && (by_ tok).toList == wk.toList) := by
  obtain ⟨q, hq, e, e2, e3, e4, e5⟩ := hI tok h
  have := hU.eq hq (find_in hf) (e.trans (find_id hf).symm)
  subst this
  unfold holdsB
  rw [e4, e5, e2, e3]
  simp only [Bool.true_and, beq_self_eq_true]
  cases decide (clock < held tok) <;> cases ((by_ tok).toList == wk.toList) <;> rfl
theorem one_failed {l : List Ins} {held : Int → Int} {by_ : Int → ByteArray} {tok : Int} {p : PT} (hI : InvO l held by_) (hU : Uq l) (hf : findT l tok = some p) : InvO (markL failF l p.i p.k) (updF held tok 0) by_ ∧ Uq (markL failF l p.i p.k) ∧ (⟨p.i, p.k, failF p.t⟩ : PT) ∈ allT (markL failF l p.i p.k) := by
  have hp := find_in hf
  obtain ⟨h1, h2, _⟩ := allT_at hp
  refine ⟨fun id hid => ?_, ?_, mark_hit hp⟩
  · unfold updF at hid ⊢
    by_cases e : id = tok
    · rw [if_pos e] at hid; exact absurd rfl hid
    · rw [if_neg e] at hid ⊢
      obtain ⟨q, hq, e1, e2⟩ := hI id hid
      refine ⟨q, mark_stay h1 h2 hq (fun e3 => e ?_), e1, e2⟩
      have := place_eq hq hp e3
      rw [← e1, this]
      exact find_id hf
  · unfold Uq
    rw [mark_ids (f := failF) (fun _ => rfl) h1 h2]
    exact hU
end Go.Proofs.Ytggnheekkbideaa
