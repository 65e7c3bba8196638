/- Who leads to whom in a graph; homes; on lists; no program here. -/
import Derived.Test.YtbolacnpljkpbaaDoorReachP
set_option maxRecDepth 100000
namespace Go.Proofs.YtbolacnpljkpbaaDoor

/-- There is an edge from a marking to another one. -/
def Edg (E : List (List (Int × Int))) (i j : Nat) : Prop := ∃ e ∈ E.getD i [], e.2 = (j : Int)

/-- One leads to another one. -/
inductive Leads (E : List (List (Int × Int))) : Nat → Nat → Prop where
  | refl (i : Nat) : Leads E i i
  | step {i j k : Nat} : Leads E i j → Edg E j k → Leads E i k

theorem Leads.trans {E : List (List (Int × Int))} {i j k : Nat} (h : Leads E i j) (h2 : Leads E j k) : Leads E i k := by
  induction h2 with
  | refl => exact h
  | step _ he ih => exact ih.step he
theorem Leads.one {E : List (List (Int × Int))} {i j : Nat} (h : Edg E i j) : Leads E i j := (Leads.refl i).step h
theorem Leads.head {E : List (List (Int × Int))} {i j k : Nat} (h : Edg E i j) (h2 : Leads E j k) : Leads E i k := (Leads.one h).trans h2
theorem Leads.back {E : List (List (Int × Int))} {i k : Nat} (h : Leads E i k) : i = k ∨ ∃ j, Edg E i j ∧ Leads E j k := by
  induction h with
  | refl => exact Or.inl rfl
  | step h he ih =>
    rcases ih with rfl | ⟨j, h1, h2⟩
    · exact Or.inr ⟨_, he, Leads.refl _⟩
    · exact Or.inr ⟨j, h1, h2.step he⟩

/-- Edges lead to markings that there are. -/
def EdgeOk (E : List (List (Int × Int))) : Prop := ∀ l ∈ E, ∀ e ∈ l, 0 ≤ e.2 ∧ e.2 < (E.length : Int)
theorem Edg.lt {E : List (List (Int × Int))} (hE : EdgeOk E) {i j : Nat} (h : Edg E i j) : i < E.length ∧ j < E.length := by
  obtain ⟨e, he, h2⟩ := h
  by_cases hi : i < E.length
  · have : E.getD i [] = E[i] := by simp [hi]
    rw [this] at he
    have := hE _ (List.getElem_mem hi) e he
    exact ⟨hi, by omega⟩
  · have : E.getD i [] = [] := by simp [hi]
    rw [this] at he; cases he
theorem Leads.lt {E : List (List (Int × Int))} (hE : EdgeOk E) {i j : Nat} (h : Leads E i j) (hi : i < E.length) : j < E.length := by
  cases h with
  | refl => exact hi
  | step _ he => exact (he.lt hE).2
theorem Leads.lt' {E : List (List (Int × Int))} (hE : EdgeOk E) {i j : Nat} (h : Leads E i j) (hj : j < E.length) : i < E.length := by
  rcases h.back with rfl | ⟨k, he, _⟩
  · exact hj
  · exact (he.lt hE).1

open Classical in
/-- As a truth. -/
noncomputable def leadsB (E : List (List (Int × Int))) (i j : Nat) : Bool := decide (Leads E i j)
theorem leadsB_iff {E : List (List (Int × Int))} {i j : Nat} : leadsB E i j = true ↔ Leads E i j := by simp [leadsB]

/-- It is reached from all. -/
def IsHome (E : List (List (Int × Int))) (k : Nat) : Prop := ∀ i, i < E.length → Leads E i k
open Classical in
noncomputable def homeB (E : List (List (Int × Int))) (k : Nat) : Bool := decide (IsHome E k)
theorem homeB_iff {E : List (List (Int × Int))} {k : Nat} : homeB E k = true ↔ IsHome E k := by simp [homeB]
noncomputable def homesN (E : List (List (Int × Int))) : List Nat := (List.range E.length).filter (homeB E)
noncomputable def homesE (E : List (List (Int × Int))) : List Int := (homesN E).map (fun k : Nat => (k : Int))

/-- Where a step leads: forth or back. -/
def Nx (E : List (List (Int × Int))) (fw : Bool) (i j : Nat) : Prop := if fw then Edg E i j else Edg E j i
def Lds (E : List (List (Int × Int))) (fw : Bool) (i j : Nat) : Prop := if fw then Leads E i j else Leads E j i
open Classical in
noncomputable def ldsB (E : List (List (Int × Int))) (fw : Bool) (i j : Nat) : Bool := decide (Lds E fw i j)
theorem ldsB_iff {E : List (List (Int × Int))} {fw : Bool} {i j : Nat} : ldsB E fw i j = true ↔ Lds E fw i j := by simp [ldsB]
theorem ldsB_true (E : List (List (Int × Int))) (i j : Nat) : ldsB E true i j = leadsB E i j := by rw [Bool.eq_iff_iff, ldsB_iff, leadsB_iff]; exact Iff.rfl
theorem ldsB_false (E : List (List (Int × Int))) (i j : Nat) : ldsB E false i j = leadsB E j i := by rw [Bool.eq_iff_iff, ldsB_iff, leadsB_iff]; exact Iff.rfl
theorem Lds.refl (E : List (List (Int × Int))) (fw : Bool) (i : Nat) : Lds E fw i i := by cases fw <;> exact Leads.refl i
theorem Lds.step {E : List (List (Int × Int))} {fw : Bool} {i j k : Nat} (h : Lds E fw i j) (he : Nx E fw j k) : Lds E fw i k := by
  cases fw with
  | true => exact Leads.step (i := i) h he
  | false => exact Leads.head (k := i) he h
theorem Lds.ind {E : List (List (Int × Int))} {fw : Bool} {i : Nat} {P : Nat → Prop} (h0 : P i) (hs : ∀ j k, P j → Nx E fw j k → P k) : ∀ {k}, Lds E fw i k → P k := by
  cases fw with
  | true =>
    intro k h
    have h' : Leads E i k := h
    induction h' with
    | refl => exact h0
    | step h1 he ih => exact hs _ _ (ih h1) he
  | false =>
    intro k h
    have h' : Leads E k i := h
    clear h
    induction h' with
    | refl => exact h0
    | step h1 he ih =>
      exact ih (hs _ _ h0 he) 

/-- What has been seen, and what is to do, of all that one leads to. -/
structure Spr (E : List (List (Int × Int))) (fw : Bool) (from_ : Nat) (seen : List Bool) (todo : List Int) : Prop where
  len : seen.length = E.length
  root : seen.getD from_ false = true
  sound : ∀ k, seen.getD k false = true → Lds E fw from_ k
  todo_ : ∀ x ∈ todo, ∃ k : Nat, x = (k : Int) ∧ k < E.length ∧ seen.getD k false = true
  closed : ∀ k, seen.getD k false = true → (k : Int) ∈ todo ∨ ∀ j, Nx E fw k j → seen.getD j false = true

/-- The same in the midst of a round: number 'i' has been taken, and of what it leads to the first are done. -/
structure SprIn (E : List (List (Int × Int))) (fw : Bool) (from_ i : Nat) (done : List Int) (seen : List Bool) (todo : List Int) : Prop where
  len : seen.length = E.length
  root : seen.getD from_ false = true
  sound : ∀ k, seen.getD k false = true → Lds E fw from_ k
  todo_ : ∀ x ∈ todo, ∃ k : Nat, x = (k : Int) ∧ k < E.length ∧ seen.getD k false = true
  at_ : seen.getD i false = true
  closed : ∀ k, seen.getD k false = true → k ≠ i → (k : Int) ∈ todo ∨ ∀ j, Nx E fw k j → seen.getD j false = true
  did : ∀ x ∈ done, seen.getD x.toNat false = true

theorem getD_set (l : List Bool) (i j : Nat) (x : Bool) (h : i < l.length) : (l.set i x).getD j false = if i = j then x else l.getD j false := by
  simp only [List.getD_eq_getElem?_getD, List.getElem?_set]
  by_cases e : i = j
  · subst e; simp [h]
  · simp [e]

theorem Spr.first (E : List (List (Int × Int))) (fw : Bool) {i : Nat} (hi : i < E.length) : Spr E fw i ((List.replicate E.length false).set i true) [(i : Int)] := by
  have hg : ∀ k, ((List.replicate E.length false).set i true).getD k false = true → i = k := by
    intro k hk
    rw [getD_set _ _ _ _ (by simpa using hi)] at hk
    by_cases e : i = k
    · exact e
    · rw [if_neg e] at hk
      simp [List.getD_eq_getElem?_getD, List.getElem?_replicate] at hk
      split at hk <;> simp at hk
  refine ⟨by simp, ?_, ?_, ?_, ?_⟩
  · rw [getD_set _ _ _ _ (by simpa using hi), if_pos rfl]
  · intro k hk; rw [← hg k hk]; exact Lds.refl _ _ _
  · intro x hx
    obtain rfl : x = (i : Int) := by simpa using hx
    exact ⟨i, rfl, hi, by rw [getD_set _ _ _ _ (by simpa using hi), if_pos rfl]⟩
  · intro k hk; left; rw [← hg k hk]; simp

theorem Spr.take {E : List (List (Int × Int))} {fw : Bool} {from_ i : Nat} {seen : List Bool} {todo : List Int} (h : Spr E fw from_ seen (todo ++ [(i : Int)])) : SprIn E fw from_ i [] seen todo := by
  refine ⟨h.len, h.root, h.sound, fun x hx => h.todo_ x (by simp [hx]), ?_, ?_, by simp⟩
  · obtain ⟨k, hk, _, h3⟩ := h.todo_ (i : Int) (by simp)
    have : k = i := by omega
    rw [← this]; exact h3
  · intro k hk hne
    rcases h.closed k hk with h1 | h1
    · left
      rcases List.mem_append.1 h1 with h2 | h2
      · exact h2
      · have : (k : Int) = i := by simpa using h2
        omega
    · exact Or.inr h1

theorem SprIn.old {E : List (List (Int × Int))} {fw : Bool} {from_ i : Nat} {done : List Int} {seen : List Bool} {todo : List Int} (h : SprIn E fw from_ i done seen todo) {x : Int} (hx : seen.getD x.toNat false = true) : SprIn E fw from_ i (done ++ [x]) seen todo := by
  refine ⟨h.len, h.root, h.sound, h.todo_, h.at_, h.closed, ?_⟩
  intro y hy
  rcases List.mem_append.1 hy with hy | hy
  · exact h.did y hy
  · obtain rfl : y = x := by simpa using hy
    exact hx

theorem SprIn.new {E : List (List (Int × Int))} {fw : Bool} {from_ i : Nat} {done : List Int} {seen : List Bool} {todo : List Int} (h : SprIn E fw from_ i done seen todo) {x : Nat} (hx : x < E.length) (hn : Nx E fw i x) : SprIn E fw from_ i (done ++ [(x : Int)]) (seen.set x true) (todo ++ [(x : Int)]) := by
  have hl : x < seen.length := by rw [h.len]; exact hx
  have up : ∀ k, seen.getD k false = true → (seen.set x true).getD k false = true := by
    intro k hk
    rw [getD_set _ _ _ _ hl]
    split
    · rfl
    · exact hk
  refine ⟨by simp [h.len], up _ h.root, ?_, ?_, up _ h.at_, ?_, ?_⟩
  · intro k hk
    rw [getD_set _ _ _ _ hl] at hk
    by_cases e : x = k
    · rw [← e]; exact (h.sound i h.at_).step hn
    · rw [if_neg e] at hk; exact h.sound k hk
  · intro y hy
    rcases List.mem_append.1 hy with hy | hy
    · obtain ⟨k, h1, h2, h3⟩ := h.todo_ y hy
      exact ⟨k, h1, h2, up _ h3⟩
    · obtain rfl : y = (x : Int) := by simpa using hy
      exact ⟨x, rfl, hx, by rw [getD_set _ _ _ _ hl, if_pos rfl]⟩
  · intro k hk hne
    rw [getD_set _ _ _ _ hl] at hk
    by_cases e : x = k
    · left; rw [← e]; simp
    · rw [if_neg e] at hk
      rcases h.closed k hk hne with h1 | h1
      · left; simp [h1]
      · right; exact fun j hj => up _ (h1 j hj)
  · intro y hy
    rcases List.mem_append.1 hy with hy | hy
    · exact up _ (h.did y hy)
    · obtain rfl : y = (x : Int) := by simpa using hy
      rw [Int.toNat_natCast, getD_set _ _ _ _ hl, if_pos rfl]

theorem SprIn.out {E : List (List (Int × Int))} {fw : Bool} {from_ i : Nat} {done : List Int} {seen : List Bool} {todo : List Int} (h : SprIn E fw from_ i done seen todo) (hd : ∀ j : Nat, Nx E fw i j → (j : Int) ∈ done) : Spr E fw from_ seen todo := by
  refine ⟨h.len, h.root, h.sound, h.todo_, ?_⟩
  intro k hk
  by_cases e : k = i
  · right
    intro j hj
    rw [e] at hj
    have := h.did _ (hd j hj)
    simpa using this
  · exact h.closed k hk e

theorem Spr.done {E : List (List (Int × Int))} {fw : Bool} {from_ : Nat} {seen : List Bool} (h : Spr E fw from_ seen []) : seen = (List.range E.length).map (ldsB E fw from_) := by
  refine List.ext_getElem (by simp [h.len]) ?_
  intro k h1 h2
  have hk : seen.getD k false = seen[k] := by simp [h1]
  rw [List.getElem_map, List.getElem_range, ← hk]
  cases e : seen.getD k false with
  | true => rw [Eq.comm, ldsB_iff]; exact h.sound k e
  | false =>
    cases e2 : ldsB E fw from_ k with
    | false => rfl
    | true =>
      have := Lds.ind (P := fun j => seen.getD j false = true) h.root (fun j k hj hn => by
        rcases h.closed j hj with h3 | h3
        · cases h3
        · exact h3 k hn) (ldsB_iff.1 e2)
      rw [e] at this; cases this

/-- How many have not been seen. -/
def unseen (seen : List Bool) : Nat := seen.count false
theorem unseen_set {seen : List Bool} {x : Nat} (hx : x < seen.length) (h : seen.getD x false = false) : unseen (seen.set x true) + 1 = unseen seen := by
  unfold unseen
  have h2 : seen[x] = false := by simpa [hx] using h
  rw [List.count_set hx, h2]
  have : 0 < seen.count false := List.count_pos_iff.2 (h2 ▸ List.getElem_mem hx)
  simp
  omega

/-- The candidate. -/
structure Cand (E : List (List (Int × Int))) (i last : Nat) (left : List Bool) : Prop where
  len : left.length = E.length
  lt : last < i ∨ i = 0 ∧ last = 0
  some_ : ∀ k, left.getD k false = true → ∃ c, c < i ∧ Leads E k c
  home : (∃ h, h < i ∧ IsHome E h) → IsHome E last ∧ ∀ k, k < E.length → left.getD k false = true

theorem Cand.first (E : List (List (Int × Int))) : Cand E 0 0 (List.replicate E.length false) := by
  refine ⟨by simp, Or.inr ⟨rfl, rfl⟩, ?_, fun ⟨h, h1, _⟩ => by omega⟩
  intro k hk
  simp [List.getD_eq_getElem?_getD, List.getElem?_replicate] at hk
  split at hk <;> simp at hk
theorem Cand.skip {E : List (List (Int × Int))} (_hE : EdgeOk E) {i last : Nat} {left : List Bool} (h : Cand E i last left) (hi : left.getD i false = true) (hl : i < E.length) : Cand E (i + 1) last left := by
  refine ⟨h.len, ?_, ?_, ?_⟩
  · have := h.lt; omega
  · intro k hk
    obtain ⟨c, h1, h2⟩ := h.some_ k hk
    exact ⟨c, by omega, h2⟩
  · rintro ⟨q, h1, h2⟩
    by_cases e : q = i
    · subst e
      obtain ⟨c, c1, c2⟩ := h.some_ _ hi
      exact h.home ⟨c, c1, fun j hj => (h2 j hj).trans c2⟩
    · exact h.home ⟨q, by omega, h2⟩
theorem Cand.take {E : List (List (Int × Int))} {i last : Nat} {left : List Bool} (h : Cand E i last left) (hi : left.getD i false = false) (hl : i < E.length) : Cand E (i + 1) i ((List.range E.length).map (fun k => left.getD k false || ldsB E false i k)) := by
  have hg : ∀ k, k < E.length → ((List.range E.length).map (fun k => left.getD k false || ldsB E false i k)).getD k false = (left.getD k false || ldsB E false i k) := by
    intro k hk; simp [hk]
  have hn : ∀ k, ¬ k < E.length → ((List.range E.length).map (fun k => left.getD k false || ldsB E false i k)).getD k false = false := by
    intro k hk
    rw [List.getD_eq_getElem?_getD, List.getElem?_eq_none (by simp; omega)]; rfl
  refine ⟨by simp, Or.inl (by omega), ?_, ?_⟩
  · intro k hk
    by_cases e : k < E.length
    · rw [hg k e, Bool.or_eq_true] at hk
      rcases hk with hk | hk
      · obtain ⟨c, h1, h2⟩ := h.some_ k hk
        exact ⟨c, by omega, h2⟩
      · rw [ldsB_false, leadsB_iff] at hk
        exact ⟨i, by omega, hk⟩
    · rw [hn k e] at hk; cases hk
  · rintro ⟨q, h1, h2⟩
    have hq : q = i := by
      by_cases e : q = i
      · exact e
      · have := (h.home ⟨q, by omega, h2⟩).2 i hl
        rw [hi] at this; cases this
    subst hq
    refine ⟨h2, fun k hk => ?_⟩
    rw [hg k hk, ldsB_false, Bool.or_eq_true]
    exact Or.inr (leadsB_iff.2 (h2 k hk))

theorem Cand.homes_none {E : List (List (Int × Int))} {last : Nat} {left : List Bool} (h : Cand E E.length last left) (hf : false ∈ (List.range E.length).map (ldsB E false last)) : homesN E = [] := by
  obtain ⟨k, hk, h2⟩ := List.mem_map.1 hf
  rw [ldsB_false] at h2
  have hk' : k < E.length := by simpa using hk
  unfold homesN
  rw [List.filter_eq_nil_iff]
  intro j hj h3
  have := (h.home ⟨j, by simpa using hj, homeB_iff.1 h3⟩).1 k hk'
  rw [leadsB_iff.2 this] at h2; cases h2
theorem Cand.homes_some {E : List (List (Int × Int))} {last : Nat} (hf : false ∉ (List.range E.length).map (ldsB E false last)) (hl : last < E.length) : homesN E = (List.range E.length).filter (ldsB E true last) := by
  have hh : IsHome E last := by
    intro k hk
    rw [← leadsB_iff, ← ldsB_false]
    cases e : ldsB E false last k with
    | true => rfl
    | false => exact absurd (List.mem_map.2 ⟨k, by simpa using hk, e⟩) hf
  unfold homesN
  refine List.filter_congr ?_
  intro k hk
  rw [ldsB_true]
  rw [Bool.eq_iff_iff, homeB_iff, leadsB_iff]
  exact ⟨fun h => h last hl, fun h i hi => (hh i hi).trans h⟩

end Go.Proofs.YtbolacnpljkpbaaDoor
