/- A clock's alarms on lists: what is set, what goes off; no program here. -/
import Derived.Test.YtofpmhkjagdmmaaHeapP
set_option maxRecDepth 100000
namespace Go.Proofs.Ytofpmhkjagdmmaa

structure Al where
  due : Int
  token : Int
  via : ByteArray
  inst : Int
structure Ent where
  al : Al
  n : Int
instance : Inhabited Al := ⟨⟨0, 0, default, 0⟩⟩
instance : Inhabited Ent := ⟨⟨default, 0⟩⟩

def cmpI (a b : Int) : Int := if a < b then -1 else if b < a then 1 else 0
def orI (a b c : Int) : Int := if a ≠ 0 then a else if b ≠ 0 then b else c
def cmpEnt (e f : Ent) : Int := orI (cmpI e.al.due f.al.due) (cmpI e.al.token f.al.token) (cmpI e.n f.n)
def ltEnt (e f : Ent) : Bool := decide (cmpEnt e f < 0)

theorem ltEnt_iff (e f : Ent) : ltEnt e f = true ↔ e.al.due < f.al.due ∨ (e.al.due = f.al.due ∧ (e.al.token < f.al.token ∨ (e.al.token = f.al.token ∧ e.n < f.n))) := by
  unfold ltEnt cmpEnt orI cmpI
  rw [decide_eq_true_iff]
  by_cases h1 : e.al.due < f.al.due
  · simp [h1]
  · by_cases h2 : f.al.due < e.al.due
    · simp [h1, h2]; omega
    · have h3 : e.al.due = f.al.due := by omega
      by_cases k1 : e.al.token < f.al.token
      · simp [h3, k1]
      · by_cases k2 : f.al.token < e.al.token
        · simp [h3, k1, k2]; omega
        · have k3 : e.al.token = f.al.token := by omega
          by_cases m1 : e.n < f.n
          · simp [h3, k3, m1]
          · by_cases m2 : f.n < e.n
            · simp [h3, k3, m1, m2]
            · simp [h3, k3, m1, m2]
theorem ltEnt_not (e f : Ent) : ltEnt e f = false ↔ f.al.due < e.al.due ∨ (e.al.due = f.al.due ∧ (f.al.token < e.al.token ∨ (e.al.token = f.al.token ∧ f.n ≤ e.n))) := by
  cases h : ltEnt e f with
  | true => have := (ltEnt_iff e f).1 h; constructor; (intro h; cases h); intro; omega
  | false =>
    have : ¬ _ := fun k => by have := (ltEnt_iff e f).2 k; rw [h] at this; cases this
    constructor
    · intro _; omega
    · intro _; rfl
theorem ltEnt_ord : Ord ltEnt where
  asym a b h := by
    have := (ltEnt_iff a b).1 h
    rw [ltEnt_not]; omega
  trans a b c h k := by
    rw [ltEnt_not] at h k ⊢; omega

abbrev HeapE (l : List Ent) : Prop := Heap ltEnt l

/-- What goes off till 'now', and what stays. -/
def tickF : Nat → List Ent → Int → List Ent × List Ent
  | 0, l, _ => ([], l)
  | f + 1, l, now => if 0 < l.length ∧ (atL l 0).al.due ≤ now then (atL l 0 :: (tickF f ((popE ltEnt l).take (l.length - 1)) now).1, (tickF f ((popE ltEnt l).take (l.length - 1)) now).2) else ([], l)
def tickE (l : List Ent) (now : Int) : List Ent × List Ent := tickF l.length l now

theorem len_rest (l : List Ent) : ((popE ltEnt l).take (l.length - 1)).length = l.length - 1 := by
  rw [List.length_take, len_popE, Nat.min_eq_left (by omega)]
theorem tickF_more : ∀ (f : Nat) (l : List Ent) (now : Int), l.length ≤ f → tickF f l now = tickE l now
  | 0, l, now, h => by
    have : l.length = 0 := by omega
    unfold tickE; rw [this]
  | f + 1, l, now, h => by
    unfold tickE
    cases hl : l.length with
    | zero =>
      show tickF (f + 1) l now = tickF 0 l now
      unfold tickF
      rw [if_neg (by omega)]
    | succ k =>
      rw [tickF, tickF, hl]
      have h1 := tickF_more f ((popE ltEnt l).take (l.length - 1)) now (by rw [len_rest]; omega)
      have h2 : tickF k ((popE ltEnt l).take (l.length - 1)) now = tickE ((popE ltEnt l).take (l.length - 1)) now := by
        unfold tickE; rw [len_rest, hl]; rfl
      rw [hl] at h1 h2
      rw [h1, h2]
theorem tick_stop {l : List Ent} {now : Int} (h : ¬ (0 < l.length ∧ (atL l 0).al.due ≤ now)) : tickE l now = ([], l) := by
  unfold tickE
  cases hl : l.length with
  | zero => rfl
  | succ k => rw [tickF, if_neg h]
theorem tick_pop {l : List Ent} {now : Int} (h : 0 < l.length ∧ (atL l 0).al.due ≤ now) :
    tickE l now = (atL l 0 :: (tickE ((popE ltEnt l).take (l.length - 1)) now).1, (tickE ((popE ltEnt l).take (l.length - 1)) now).2) := by
  unfold tickE
  rw [len_rest]
  obtain ⟨k, hk⟩ : ∃ k, l.length = k + 1 := ⟨l.length - 1, by omega⟩
  rw [hk, tickF, if_pos h, hk]; rfl

theorem tick_ok (now : Int) : ∀ (k : Nat) (l : List Ent), l.length = k → HeapE l →
    l.Perm ((tickE l now).1 ++ (tickE l now).2) ∧ HeapE (tickE l now).2 ∧ (tickE l now).1.Pairwise (fun a b => ltEnt b a = false) ∧ (∀ x ∈ (tickE l now).1, x.al.due ≤ now) ∧ (∀ x ∈ (tickE l now).2, now < x.al.due) := by
  intro k
  induction k with
  | zero =>
    intro l hl _
    obtain rfl := List.eq_nil_of_length_eq_zero hl
    rw [tick_stop (by simp)]
    exact ⟨List.Perm.refl _, heap_nil, List.Pairwise.nil, by simp, by simp⟩
  | succ k ih =>
    intro l hl hh
    have hleast := pop_least ltEnt_ord hh
    by_cases h : 0 < l.length ∧ (atL l 0).al.due ≤ now
    · obtain ⟨h1, h2, h3, h4, h5⟩ := ih ((popE ltEnt l).take (l.length - 1)) (by rw [len_rest]; omega) (pop_heap ltEnt_ord hh)
      have hp := pop_perm (lt := ltEnt) h.1
      rw [tick_pop h]
      refine ⟨hp.trans (List.Perm.cons _ h1), h2, List.pairwise_cons.2 ⟨fun x hx => hleast x (hp.symm.subset (List.mem_cons_of_mem _ (h1.symm.subset (List.mem_append_left _ hx)))), h3⟩, ?_, h5⟩
      intro x hx
      rcases List.mem_cons.1 hx with rfl | hx
      · exact h.2
      · exact h4 x hx
    · rw [tick_stop h]
      refine ⟨List.Perm.refl _, hh, List.Pairwise.nil, by simp, ?_⟩
      intro x hx
      have := hleast x hx
      rw [ltEnt_not] at this
      have h0 : now < (atL l 0).al.due := by omega
      omega

/-- A tick may be cut. -/
theorem tick_add {a b : Int} (hab : a ≤ b) : ∀ (k : Nat) (l : List Ent), l.length = k → tickE l b = ((tickE l a).1 ++ (tickE (tickE l a).2 b).1, (tickE (tickE l a).2 b).2) := by
  intro k
  induction k with
  | zero =>
    intro l hl
    obtain rfl := List.eq_nil_of_length_eq_zero hl
    rw [tick_stop (now := a) (by simp)]; rfl
  | succ k ih =>
    intro l hl
    by_cases h : 0 < l.length ∧ (atL l 0).al.due ≤ a
    · rw [tick_pop h, tick_pop (now := b) ⟨h.1, by omega⟩, ih _ (by rw [len_rest]; omega)]
      rfl
    · rw [tick_stop h]; rfl

/-- The order of alarms as they go off. -/
def leAl (a b : Al) : Prop := a.due < b.due ∨ (a.due = b.due ∧ a.token ≤ b.token)
theorem tick_sorted {l : List Ent} {now : Int} (h : HeapE l) : ((tickE l now).1.map Ent.al).Pairwise leAl := by
  rw [List.pairwise_map]
  refine (tick_ok now _ l rfl h).2.2.1.imp ?_
  intro a b hab
  rw [ltEnt_not] at hab
  unfold leAl; omega
theorem perm_filter_out {l o r : List Ent} {now : Int} (hp : l.Perm (o ++ r)) (h1 : ∀ x ∈ o, x.al.due ≤ now) (h2 : ∀ x ∈ r, now < x.al.due) : (l.filter (fun x => decide (x.al.due ≤ now))).Perm o ∧ (l.filter (fun x => decide (now < x.al.due))).Perm r := by
  have e1 : o.filter (fun x => decide (x.al.due ≤ now)) = o := List.filter_eq_self.2 fun x hx => decide_eq_true (h1 x hx)
  have e2 : r.filter (fun x => decide (x.al.due ≤ now)) = [] := List.filter_eq_nil_iff.2 fun x hx => by have := h2 x hx; simp; omega
  have e3 : o.filter (fun x => decide (now < x.al.due)) = [] := List.filter_eq_nil_iff.2 fun x hx => by have := h1 x hx; simp; omega
  have e4 : r.filter (fun x => decide (now < x.al.due)) = r := List.filter_eq_self.2 fun x hx => decide_eq_true (h2 x hx)
  have p1 := hp.filter (fun x => decide (x.al.due ≤ now))
  have p2 := hp.filter (fun x => decide (now < x.al.due))
  rw [List.filter_append, e1, e2, List.append_nil] at p1
  rw [List.filter_append, e3, e4, List.nil_append] at p2
  exact ⟨p1, p2⟩

/-- Alarms of unlike tokens go off in one order. -/
theorem order_one {a b : List Al} (hp : a.Perm b) (ha : a.Pairwise leAl) (hb : b.Pairwise leAl) (hn : (a.map Al.token).Nodup) : a = b := by
  refine List.Perm.eq_of_pairwise (le := leAl) ?_ ha hb hp
  intro x y hx hy h1 h2
  have hy' := hp.symm.subset hy
  unfold leAl at h1 h2
  have e : x.token = y.token := by omega
  obtain ⟨i, hi, rfl⟩ := List.getElem_of_mem hx
  obtain ⟨j, hj, rfl⟩ := List.getElem_of_mem hy'
  have hne := List.pairwise_iff_getElem.1 hn
  rcases Nat.lt_trichotomy i j with h | h | h
  · exact absurd (by rw [List.getElem_map, List.getElem_map]; exact e) (hne i j (by simpa using hi) (by simpa using hj) h)
  · subst h; rfl
  · exact absurd (by rw [List.getElem_map, List.getElem_map]; exact e.symm) (hne j i (by simpa using hj) (by simpa using hi) h)

end Go.Proofs.Ytofpmhkjagdmmaa
