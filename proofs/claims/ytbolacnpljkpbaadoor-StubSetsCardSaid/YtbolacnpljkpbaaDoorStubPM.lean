/- Texts merged by merge.py: StubP, StubW, StubG, StubC. -/
import Derived.Test.YtbolacnpljkpbaaDoorReachAllP
set_option maxRecDepth 100000
/- Stubborn sets on lists: closures, the set that is taken, what stays; no program here. -/
namespace Go.Proofs.YtbolacnpljkpbaaDoor
open Classical

/-- Does a transition in a set bring another one in? -/
def needB (m : List Int) (t u : Tr) : Bool :=
  if t.enB m then t.inn.any (fun p => u.inn.contains p)
  else match t.inn.find? (zeroAt m) with | some p => u.out.contains p | none => false

def InT (n : Nt) (t : Int) : Prop := 0 ≤ t ∧ t < (n.trans.length : Int)

/-- What a set that has a transition must have. -/
inductive Cl (n : Nt) (m : List Int) (t : Int) : Int → Prop
  | self : Cl n m t t
  | step {a b : Int} : Cl n m t a → InT n b → needB m (n.tr a) (n.tr b) = true → Cl n m t b

theorem Cl.inT {n : Nt} {m : List Int} {t a : Int} (ht : InT n t) (h : Cl n m t a) : InT n a := by
  cases h with
  | self => exact ht
  | step _ hb _ => exact hb

def idxL (n : Nt) : List Int := (List.range n.trans.length).map (fun (k : Nat) => (k : Int))
theorem mem_idxL {n : Nt} {t : Int} : t ∈ idxL n ↔ InT n t := by
  unfold idxL InT
  simp only [List.mem_map, List.mem_range]
  constructor
  · rintro ⟨k, h, rfl⟩; omega
  · intro h; exact ⟨t.toNat, by omega, by omega⟩
theorem range_sorted : ∀ (k : Nat), ((List.range k).map (fun (q : Nat) => (q : Int))).Pairwise (· < ·) := by
  intro k
  rw [List.pairwise_map]
  exact (List.pairwise_lt_range).imp (by intro a b h; omega)
noncomputable def clL (n : Nt) (m : List Int) (t : Int) : List Int := (idxL n).filter (fun k => decide (Cl n m t k))
theorem mem_clL {n : Nt} {m : List Int} {t a : Int} (ht : InT n t) : a ∈ clL n m t ↔ Cl n m t a := by
  unfold clL
  rw [List.mem_filter, mem_idxL]
  simp only [decide_eq_true_eq]
  exact ⟨fun h => h.2, fun h => ⟨h.inT ht, h⟩⟩
theorem clL_sorted (n : Nt) (m : List Int) (t : Int) : (clL n m t).Pairwise (· < ·) := (range_sorted _).filter _
theorem clL_len (n : Nt) (m : List Int) (t : Int) : (clL n m t).length ≤ n.trans.length := by
  unfold clL
  refine Nat.le_trans (List.length_filter_le _ _) ?_
  simp [idxL]

/-- How many of a set are enabled. -/
def enCnt (n : Nt) (m : List Int) (L : List Int) : Nat := L.countP (fun t => (n.tr t).enB m)
noncomputable def bestGo (n : Nt) (m : List Int) : List Int → List Int × Nat → List Int × Nat
  | [], b => b
  | t :: r, b => bestGo n m r (if enCnt n m (clL n m t) < b.2 then (clL n m t, enCnt n m (clL n m t)) else b)
noncomputable def setL (n : Nt) (m : List Int) : List Int := (bestGo n m (n.enE m) ([], n.trans.length + 1)).1
noncomputable def firesL (n : Nt) (m : List Int) : List Int := (setL n m).filter (fun t => (n.tr t).enB m)

theorem enCnt_le (n : Nt) (m : List Int) (t : Int) : enCnt n m (clL n m t) ≤ n.trans.length := Nat.le_trans List.countP_le_length (clL_len n m t)
theorem bestGo_one {n : Nt} {m : List Int} : ∀ (l : List Int) (b : List Int × Nat), (bestGo n m l b).1 = b.1 ∨ ∃ t ∈ l, (bestGo n m l b).1 = clL n m t
  | [], b => .inl rfl
  | t :: r, b => by
    rw [bestGo]
    rcases bestGo_one r (if enCnt n m (clL n m t) < b.2 then (clL n m t, enCnt n m (clL n m t)) else b) with h | ⟨u, hu, h⟩
    · rw [h]
      split
      · exact .inr ⟨t, List.mem_cons_self, rfl⟩
      · exact .inl rfl
    · exact .inr ⟨u, List.mem_cons_of_mem _ hu, h⟩
theorem setL_nil {n : Nt} {m : List Int} (h : n.enE m = []) : setL n m = [] := by unfold setL; rw [h]; rfl
theorem setL_some {n : Nt} {m : List Int} (h : n.enE m ≠ []) : ∃ t ∈ n.enE m, setL n m = clL n m t := by
  unfold setL
  cases hl : n.enE m with
  | nil => exact absurd hl h
  | cons t r =>
    rw [bestGo, if_pos (by have := enCnt_le n m t; show _ < n.trans.length + 1; omega)]
    rcases bestGo_one r (clL n m t, enCnt n m (clL n m t)) with h | ⟨u, hu, h⟩
    · exact ⟨t, List.mem_cons_self, h⟩
    · exact ⟨u, List.mem_cons_of_mem _ hu, h⟩
theorem enE_inT {n : Nt} {m : List Int} {t : Int} (h : t ∈ n.enE m) : InT n t ∧ (n.tr t).enB m = true := by
  obtain ⟨q, hq, rfl, e, he⟩ := enE_mem h
  exact ⟨⟨by omega, by omega⟩, by rw [e]; exact he⟩
theorem inT_enE {n : Nt} {m : List Int} {t : Int} (h : InT n t) (he : (n.tr t).enB m = true) : t ∈ n.enE m := by
  obtain ⟨q, rfl⟩ := Int.eq_ofNat_of_zero_le h.1
  have hq : q < n.trans.length := by have := h.2; omega
  refine enE_of hq ?_
  unfold Nt.tr at he
  simpa [hq] using he
theorem setL_sorted (n : Nt) (m : List Int) : (setL n m).Pairwise (· < ·) := by
  by_cases h : n.enE m = []
  · rw [setL_nil h]; exact List.Pairwise.nil
  · obtain ⟨t, _, e⟩ := setL_some h
    rw [e]; exact clL_sorted n m t
theorem setL_inT {n : Nt} {m : List Int} {t : Int} (h : t ∈ setL n m) : InT n t := by
  by_cases h0 : n.enE m = []
  · rw [setL_nil h0] at h; cases h
  · obtain ⟨u, hu, e⟩ := setL_some h0
    rw [e] at h
    exact ((mem_clL (enE_inT hu).1).1 h).inT (enE_inT hu).1
theorem setL_closed {n : Nt} {m : List Int} {a b : Int} (h : a ∈ setL n m) (hb : InT n b) (hn : needB m (n.tr a) (n.tr b) = true) : b ∈ setL n m := by
  by_cases h0 : n.enE m = []
  · rw [setL_nil h0] at h; cases h
  · obtain ⟨u, hu, e⟩ := setL_some h0
    rw [e] at h ⊢
    exact (mem_clL (enE_inT hu).1).2 (((mem_clL (enE_inT hu).1).1 h).step hb hn)
theorem setL_has {n : Nt} {m : List Int} (h : n.enE m ≠ []) : ∃ t ∈ setL n m, (n.tr t).enB m = true := by
  obtain ⟨t, ht, e⟩ := setL_some h
  exact ⟨t, by rw [e]; exact (mem_clL (enE_inT ht).1).2 .self, (enE_inT ht).2⟩
theorem setL_len (n : Nt) (m : List Int) : (setL n m).length ≤ n.trans.length := by
  by_cases h0 : n.enE m = []
  · rw [setL_nil h0]; exact Nat.zero_le _
  · obtain ⟨u, hu, e⟩ := setL_some h0
    rw [e]; exact clL_len _ _ _
theorem firesL_nil {n : Nt} {m : List Int} : firesL n m = [] ↔ n.enE m = [] := by
  constructor
  · intro h
    by_cases h0 : n.enE m = []
    · exact h0
    · obtain ⟨t, ht, he⟩ := setL_has h0
      have : t ∈ firesL n m := List.mem_filter.2 ⟨ht, he⟩
      rw [h] at this; cases this
  · intro h; unfold firesL; rw [setL_nil h]; rfl
theorem firesL_enE {n : Nt} {m : List Int} {t : Int} (h : t ∈ firesL n m) : t ∈ n.enE m := by
  obtain ⟨h1, h2⟩ := List.mem_filter.1 h
  exact inT_enE (setL_inT h1) h2

/-- Two sorted lists with the same members are one. -/
theorem sorted_eq {a b : List Int} (ha : a.Pairwise (· < ·)) (hb : b.Pairwise (· < ·)) (h : ∀ x, x ∈ a ↔ x ∈ b) : a = b := by
  induction a generalizing b with
  | nil =>
    cases b with
    | nil => rfl
    | cons y b => exact absurd ((h y).2 List.mem_cons_self) (by simp)
  | cons x a ih =>
    cases b with
    | nil => exact absurd ((h x).1 List.mem_cons_self) (by simp)
    | cons y b =>
      obtain ⟨ha1, ha2⟩ := List.pairwise_cons.1 ha
      obtain ⟨hb1, hb2⟩ := List.pairwise_cons.1 hb
      have hxy : x = y := by
        rcases List.mem_cons.1 ((h x).1 List.mem_cons_self) with e | e
        · exact e
        · rcases List.mem_cons.1 ((h y).2 List.mem_cons_self) with e' | e'
          · exact e'.symm
          · have := hb1 x e; have := ha1 y e'; omega
      subst hxy
      congr 1
      refine ih ha2 hb2 fun z => ⟨fun hz => ?_, fun hz => ?_⟩
      · rcases List.mem_cons.1 ((h z).1 (List.mem_cons_of_mem _ hz)) with e | e
        · have := ha1 z hz; omega
        · exact e
      · rcases List.mem_cons.1 ((h z).2 (List.mem_cons_of_mem _ hz)) with e | e
        · have := hb1 z hz; omega
        · exact e

theorem tr_mem_of {n : Nt} {t : Int} (h : InT n t) : n.tr t ∈ n.trans := by
  obtain ⟨q, rfl⟩ := Int.eq_ofNat_of_zero_le h.1
  have hq : q < n.trans.length := by have := h.2; omega
  unfold Nt.tr
  simp only [Int.toNat_natCast, List.getD_eq_getElem?_getD, List.getElem?_eq_getElem hq, Option.getD_some]
  exact List.getElem_mem hq

/-- What what is not in the set leaves: of what is in it and enabled no token is taken; of what is not enabled the empty place stays empty. -/
structure Stays (n : Nt) (m a : List Int) : Prop where
  mark : n.Mark a
  more : ∀ s ∈ setL n m, (n.tr s).enB m = true → ∀ p ∈ (n.tr s).inn, getI m p ≤ getI a p
  none : ∀ s ∈ setL n m, (n.tr s).enB m = false → ∀ p, (n.tr s).inn.find? (zeroAt m) = some p → getI a p = 0

theorem find_zero {t : Tr} {m : List Int} (h : t.enB m = false) : ∃ p, t.inn.find? (zeroAt m) = some p ∧ p ∈ t.inn ∧ getI m p = 0 := by
  unfold Tr.enB at h
  simp only [Bool.not_eq_false'] at h
  obtain ⟨q, hq, hz⟩ := List.any_eq_true.1 h
  cases hf : t.inn.find? (zeroAt m) with
  | none => exact absurd hz (by simpa using List.find?_eq_none.1 hf q hq)
  | some p =>
    refine ⟨p, rfl, List.mem_of_find?_eq_some hf, ?_⟩
    have := List.find?_some hf
    simpa [zeroAt] using this
theorem Stays.first {n : Nt} {m : List Int} (h : n.Mark m) : Stays n m m := by
  refine ⟨h, fun _ _ _ _ _ => Int.le_refl _, fun s _ _ p hp => ?_⟩
  have := List.find?_some hp
  simpa [zeroAt] using this
theorem Stays.same {n : Nt} {m a : List Int} (h : Stays n m a) (hm : n.Mark m) {s : Int} (hs : s ∈ setL n m) : (n.tr s).enB a = (n.tr s).enB m := by
  have ht := tr_mem_of (setL_inT hs)
  cases he : (n.tr s).enB m with
  | true =>
    rw [enB_iff]
    intro p hp
    have h1 := h.more s hs he p hp
    have h2 := enB_get he hm.tok p hp
    omega
  | false =>
    obtain ⟨p, hf, hp, _⟩ := find_zero he
    have h0 := h.none s hs he p hf
    cases ha : (n.tr s).enB a with
    | false => rfl
    | true => exact absurd h0 (enB_iff.1 ha p hp)
theorem Stays.step {n : Nt} {m a : List Int} (h : Stays n m a) {u : Int} (hu : InT n u) (hno : u ∉ setL n m) (h0 : ((n.tr u).fireE a).1 = 0) : Stays n m ((n.tr u).fireE a).2 := by
  have hut := tr_mem_of hu
  have hl : (a.length : Int) = n.places.length := by have := h.mark.len; omega
  refine ⟨h.mark.fire hut h0, fun s hs he p hp => ?_, fun s hs he p hf => ?_⟩
  · have hst := tr_mem_of (setL_inT hs)
    have hpl := (h.mark.ok.inn _ hst).1 p hp
    rw [getI_fire h.mark hut h0 hpl.1 (by omega)]
    have h1 := h.more s hs he p hp
    have h2 : hasI (n.tr u).inn p = 0 := by
      refine hasI_no fun hin => hno (setL_closed hs hu ?_)
      unfold needB
      rw [if_pos he, List.any_eq_true]
      exact ⟨p, hp, by simpa using hin⟩
    have := (hasI_range (n.tr u).out p).1
    omega
  · have hst := tr_mem_of (setL_inT hs)
    have hp : p ∈ (n.tr s).inn := List.mem_of_find?_eq_some hf
    have hpl := (h.mark.ok.inn _ hst).1 p hp
    have hz := h.none s hs he p hf
    have h2 : hasI (n.tr u).out p = 0 := by
      refine hasI_no fun hin => hno (setL_closed hs hu ?_)
      unfold needB
      rw [if_neg (by simp [he]), hf]
      simpa using hin
    have h3 : hasI (n.tr u).inn p = 0 := by
      refine hasI_no fun hin => ?_
      have : (n.tr u).enB a = true := by
        rcases fireE_code (n.tr u) a with ⟨_, e⟩ | ⟨e, _⟩
        · omega
        · exact e
      exact absurd hz (enB_iff.1 this p hin)
    rw [getI_fire h.mark hut h0 hpl.1 (by omega)]
    omega
end Go.Proofs.YtbolacnpljkpbaaDoor

/- The worklist that grows a stubborn set, and who takes from and puts on each place, on lists; no program here. -/
namespace Go.Proofs.YtbolacnpljkpbaaDoor
open Classical

/-- Who takes from a place, who puts on it. -/
def takesL (n : Nt) (p : Int) : List Int := (idxL n).filter (fun i => (n.tr i).inn.contains p)
def givesL (n : Nt) (p : Int) : List Int := (idxL n).filter (fun i => (n.tr i).out.contains p)
theorem mem_takesL {n : Nt} {p i : Int} : i ∈ takesL n p ↔ InT n i ∧ p ∈ (n.tr i).inn := by
  unfold takesL; rw [List.mem_filter, mem_idxL]; simp
theorem mem_givesL {n : Nt} {p i : Int} : i ∈ givesL n p ↔ InT n i ∧ p ∈ (n.tr i).out := by
  unfold givesL; rw [List.mem_filter, mem_idxL]; simp
theorem takesL_len (n : Nt) (p : Int) : (takesL n p).length ≤ n.trans.length := Nat.le_trans (List.length_filter_le _ _) (by simp [idxL])
theorem givesL_len (n : Nt) (p : Int) : (givesL n p).length ≤ n.trans.length := Nat.le_trans (List.length_filter_le _ _) (by simp [idxL])

/-- The same of the first k transitions. -/
def upL (n : Nt) (f : Tr → List Int) (k : Nat) (p : Int) : List Int := ((List.range k).map (fun (q : Nat) => (q : Int))).filter (fun i => (f (n.tr i)).contains p)
theorem upL_all (n : Nt) (p : Int) : upL n Tr.inn n.trans.length p = takesL n p ∧ upL n Tr.out n.trans.length p = givesL n p := ⟨rfl, rfl⟩
theorem upL_zero (n : Nt) (f : Tr → List Int) (p : Int) : upL n f 0 p = [] := rfl
theorem upL_succ (n : Nt) (f : Tr → List Int) (k : Nat) (p : Int) : upL n f (k + 1) p = upL n f k p ++ (if (f (n.tr (k : Int))).contains p then [(k : Int)] else []) := by
  unfold upL
  rw [List.range_succ, List.map_append, List.filter_append]
  congr 1
  simp only [List.map_cons, List.map_nil, List.filter_cons, List.filter_nil]
theorem upL_len (n : Nt) (f : Tr → List Int) (k : Nat) (p : Int) : (upL n f k p).length ≤ k := Nat.le_trans (List.length_filter_le _ _) (by simp)
/-- And of the next one's first q places. -/
def upQ (n : Nt) (f : Tr → List Int) (k q : Nat) (p : Int) : List Int := upL n f k p ++ (if ((f (n.tr (k : Int))).take q).contains p then [(k : Int)] else [])
theorem upQ_zero (n : Nt) (f : Tr → List Int) (k : Nat) (p : Int) : upQ n f k 0 p = upL n f k p := by simp [upQ]
theorem upQ_full {n : Nt} {f : Tr → List Int} {k q : Nat} (h : (f (n.tr (k : Int))).length ≤ q) (p : Int) : upQ n f k q p = upL n f (k + 1) p := by
  rw [upQ, upL_succ, List.take_of_length_le h]
theorem upQ_other {n : Nt} {f : Tr → List Int} {k q : Nat} (h : q < (f (n.tr (k : Int))).length) {p : Int} (hp : p ≠ (f (n.tr (k : Int)))[q]) : upQ n f k (q + 1) p = upQ n f k q p := by
  unfold upQ
  rw [List.take_succ_eq_append_getElem h]
  have e : ((f (n.tr (k : Int))).take q ++ [(f (n.tr (k : Int)))[q]]).contains p = ((f (n.tr (k : Int))).take q).contains p := by
    rw [Bool.eq_iff_iff]
    simp only [List.contains_eq_mem, decide_eq_true_eq, List.mem_append, List.mem_singleton]
    exact ⟨fun h => h.elim id (fun e => absurd e hp), .inl⟩
  rw [e]
theorem take_fresh : ∀ {l : List Int} {k : Nat} (h : k < l.length), l.Nodup → l[k] ∉ l.take k
  | x :: l, 0, _, _ => by simp
  | x :: l, k + 1, h, hn => by
    obtain ⟨h1, h2⟩ := List.nodup_cons.1 hn
    intro hm
    rw [List.take_succ_cons] at hm
    rcases List.mem_cons.1 hm with e | hm
    · simp only [List.getElem_cons_succ] at e
      exact h1 (e ▸ List.getElem_mem _)
    · exact take_fresh (l := l) (k := k) (by simpa using h) h2 (by simpa using hm)
theorem upQ_same {n : Nt} {f : Tr → List Int} {k q : Nat} (hn : (f (n.tr (k : Int))).Nodup) (h : q < (f (n.tr (k : Int))).length) : upQ n f k (q + 1) (f (n.tr (k : Int)))[q] = upQ n f k q (f (n.tr (k : Int)))[q] ++ [(k : Int)] := by
  unfold upQ
  have e1 : ((f (n.tr (k : Int))).take (q + 1)).contains (f (n.tr (k : Int)))[q] = true := by
    rw [List.take_succ_eq_append_getElem h, List.contains_eq_mem]
    exact decide_eq_true (List.mem_append_right _ (List.mem_singleton.2 rfl))
  have e2 : ((f (n.tr (k : Int))).take q).contains (f (n.tr (k : Int)))[q] = false := by
    have := take_fresh h hn
    simpa using this
  rw [e1, e2]
  simp
theorem upQ_len (n : Nt) (f : Tr → List Int) (k q : Nat) (p : Int) : (upQ n f k q p).length ≤ k + 1 := by
  unfold upQ
  rw [List.length_append]
  have := upL_len n f k p
  split <;> simp <;> omega

/-- What is new of a list. -/
def addN (S : List Int) : List Int → List Int
  | [] => []
  | u :: r => if S.contains u then addN S r else u :: addN (S ++ [u]) r
theorem mem_addN : ∀ (l S : List Int) (x : Int), x ∈ S ++ addN S l ↔ x ∈ S ∨ x ∈ l
  | [], S, x => by simp [addN]
  | u :: r, S, x => by
    rw [addN]
    split
    · next h =>
      rw [mem_addN r S x]
      have hu : u ∈ S := by simpa using h
      constructor
      · rintro (h1 | h1)
        · exact .inl h1
        · exact .inr (List.mem_cons_of_mem _ h1)
      · rintro (h1 | h1)
        · exact .inl h1
        · rcases List.mem_cons.1 h1 with rfl | h1
          · exact .inl hu
          · exact .inr h1
    · have e : S ++ u :: addN (S ++ [u]) r = (S ++ [u]) ++ addN (S ++ [u]) r := by simp
      rw [e, mem_addN r (S ++ [u]) x, List.mem_append, List.mem_singleton, List.mem_cons]
      constructor
      · rintro ((h1 | h1) | h1)
        · exact .inl h1
        · exact .inr (.inl h1)
        · exact .inr (.inr h1)
      · rintro (h1 | h1 | h1)
        · exact .inl (.inl h1)
        · exact .inl (.inr h1)
        · exact .inr h1
theorem addN_mem {l S : List Int} {x : Int} (h : x ∈ addN S l) : x ∈ l ∧ x ∉ S := by
  induction l generalizing S with
  | nil => cases h
  | cons u r ih =>
    rw [addN] at h
    split at h
    · obtain ⟨h1, h2⟩ := ih h
      exact ⟨List.mem_cons_of_mem _ h1, h2⟩
    · next hu =>
      rcases List.mem_cons.1 h with rfl | h
      · exact ⟨List.mem_cons_self, by simpa using hu⟩
      · obtain ⟨h1, h2⟩ := ih h
        exact ⟨List.mem_cons_of_mem _ h1, fun hx => h2 (List.mem_append_left _ hx)⟩
theorem addN_nodup {l S : List Int} (h : S.Nodup) : (S ++ addN S l).Nodup := by
  induction l generalizing S with
  | nil => simpa [addN] using h
  | cons u r ih =>
    rw [addN]
    split
    · exact ih h
    · next hu =>
      have hu : u ∉ S := by simpa using hu
      have e : S ++ u :: addN (S ++ [u]) r = (S ++ [u]) ++ addN (S ++ [u]) r := by simp
      rw [e]
      refine ih ?_
      rw [List.nodup_append]
      refine ⟨h, by simp, fun a ha b hb => ?_⟩
      obtain rfl : b = u := by simpa using hb
      rintro rfl
      exact hu ha
theorem addN_drop {S l : List Int} {k : Nat} (h : k < l.length) : addN S (l.drop k) = if S.contains l[k] then addN S (l.drop (k + 1)) else l[k] :: addN (S ++ [l[k]]) (l.drop (k + 1)) := by
  rw [List.drop_eq_getElem_cons h, addN]

/-- A stubborn set under way: S what is in it, L what is left to be looked at, X what is being looked at. -/
structure Wk (n : Nt) (m : List Int) (t : Int) (S L X : List Int) : Prop where
  nodup : S.Nodup
  cl : ∀ a ∈ S, Cl n m t a
  has : t ∈ S
  sub : ∀ a ∈ L, a ∈ S
  subX : ∀ a ∈ X, a ∈ S
  done : ∀ a ∈ S, a ∉ L → a ∉ X → ∀ b, InT n b → needB m (n.tr a) (n.tr b) = true → b ∈ S
theorem Wk.first {n : Nt} {m : List Int} {t : Int} : Wk n m t [t] [t] [] := by
  refine ⟨by simp, fun a ha => ?_, by simp, by simp, by simp, fun a ha hn => absurd ha hn⟩
  obtain rfl : a = t := by simpa using ha
  exact .self
theorem Wk.pop {n : Nt} {m : List Int} {t u : Int} {S L : List Int} (h : Wk n m t S (L ++ [u]) []) : Wk n m t S L [u] := by
  refine ⟨h.nodup, h.cl, h.has, fun a ha => h.sub a (List.mem_append_left _ ha), fun a ha => h.sub a (List.mem_append_right _ ha), fun a ha h1 h2 => h.done a ha (fun hm => ?_) (by simp)⟩
  rcases List.mem_append.1 hm with hm | hm
  · exact h1 hm
  · exact h2 hm
theorem Wk.add {n : Nt} {m : List Int} {t u : Int} {S L : List Int} (h : Wk n m t S L [u]) {l : List Int} (hl : ∀ b ∈ l, InT n b ∧ needB m (n.tr u) (n.tr b) = true) : Wk n m t (S ++ addN S l) (L ++ addN S l) [u] := by
  have hu : u ∈ S := h.subX u (by simp)
  refine ⟨addN_nodup h.nodup, fun a ha => ?_, List.mem_append_left _ h.has, fun a ha => ?_, fun a ha => List.mem_append_left _ (h.subX a ha), fun a ha h1 h2 b hb hn => ?_⟩
  · rcases (mem_addN l S a).1 ha with h1 | h1
    · exact h.cl a h1
    · exact (h.cl u hu).step (hl a h1).1 (hl a h1).2
  · rcases List.mem_append.1 ha with ha | ha
    · exact List.mem_append_left _ (h.sub a ha)
    · exact List.mem_append_right _ ha
  · rcases List.mem_append.1 ha with ha | ha
    · exact List.mem_append_left _ (h.done a ha (fun hm => h1 (List.mem_append_left _ hm)) h2 b hb hn)
    · exact absurd (List.mem_append_right _ ha) h1
theorem Wk.close {n : Nt} {m : List Int} {t u : Int} {S L : List Int} (h : Wk n m t S L [u]) (hn : ∀ b, InT n b → needB m (n.tr u) (n.tr b) = true → b ∈ S) : Wk n m t S L [] := by
  refine ⟨h.nodup, h.cl, h.has, h.sub, by simp, fun a ha h1 _ => ?_⟩
  by_cases e : a = u
  · subst e; exact hn
  · exact h.done a ha h1 (by simpa using e)
theorem Wk.end_ {n : Nt} {m : List Int} {t : Int} {S : List Int} (h : Wk n m t S [] []) {x : Int} : x ∈ S ↔ Cl n m t x := by
  refine ⟨h.cl x, fun hc => ?_⟩
  induction hc with
  | self => exact h.has
  | step _ hb hn ih => exact h.done _ ih (by simp) (by simp) _ hb hn
theorem Wk.len {n : Nt} {m : List Int} {t : Int} {S L X : List Int} (h : Wk n m t S L X) (ht : InT n t) : S.length ≤ n.trans.length := by
  have : ∀ (k : Nat) (S : List Int), S.Nodup → (∀ a ∈ S, 0 ≤ a ∧ a < (k : Int)) → S.length ≤ k := by
    intro k
    induction k with
    | zero =>
      intro S _ hs
      cases S with
      | nil => exact Nat.le_refl _
      | cons a S => have := hs a List.mem_cons_self; omega
    | succ k ih =>
      intro S hn hs
      have h1 := ih (S.erase (k : Int)) (hn.erase _) (fun a ha => by
        have h2 := hs a (List.mem_of_mem_erase ha)
        have h3 : a ≠ (k : Int) := fun e => by
          rw [e] at ha
          exact absurd ha (by rw [hn.mem_erase_iff]; simp)
        omega)
      have := List.length_erase (a := (k : Int)) (l := S)
      split at this <;> omega
  exact this _ S h.nodup fun a ha => (h.cl a ha).inT ht
theorem needB_takes {n : Nt} {m : List Int} {u b : Int} (he : (n.tr u).enB m = true) : (InT n b ∧ needB m (n.tr u) (n.tr b) = true) ↔ ∃ p ∈ (n.tr u).inn, b ∈ takesL n p := by
  unfold needB
  rw [if_pos he, List.any_eq_true]
  constructor
  · rintro ⟨hb, p, hp, h⟩
    exact ⟨p, hp, mem_takesL.2 ⟨hb, by simpa using h⟩⟩
  · rintro ⟨p, hp, h⟩
    obtain ⟨h1, h2⟩ := mem_takesL.1 h
    exact ⟨h1, p, hp, by simpa using h2⟩
theorem needB_gives {n : Nt} {m : List Int} {u b p : Int} (he : (n.tr u).enB m = false) (hf : (n.tr u).inn.find? (zeroAt m) = some p) : (InT n b ∧ needB m (n.tr u) (n.tr b) = true) ↔ b ∈ givesL n p := by
  unfold needB
  rw [if_neg (by simp [he]), hf, mem_givesL]
  simp
end Go.Proofs.YtbolacnpljkpbaaDoor

/- The markings that are kept, on lists: all are reached, and no deadlock is lost; no program here. -/
namespace Go.Proofs.YtbolacnpljkpbaaDoor
open Classical

noncomputable def sxF (n : Nt) (most : Nat) : Nat → Nat → Gr → Option Gr
  | 0, _, g => some g
  | f + 1, i, g => if i < g.marks.length then (exIn n most i (firesL n (mkAt g i)) g).bind (sxF n most f (i + 1)) else some g
noncomputable def stubE (n : Nt) (most : Nat) : Option Gr := sxF n most (most + 1) 0 (rootG n)

theorem fires_ok {n : Nt} {most : Nat} {g : Gr} (x : XOk n most g) (hm : most ≤ 1024) {i : Nat} (hi : i < g.marks.length) {t : Int} (ht : t ∈ n.enE (mkAt g i)) : ((n.tr t).fireE (mkAt g i)).1 = 0 := by
  obtain ⟨q, hq, rfl, e2, e3⟩ := enE_mem ht
  obtain ⟨hM, hs⟩ := x.mark i hi
  have e := mkAt_eq hi
  rw [e] at e3
  have hle := x.le
  rw [e2, e]
  exact (fire_low hM (List.getElem_mem hq) e3 (U := 1 + (i : Int)) (by omega) hs).1

/-- All edges of the firings F are there, of the first markings; of the next one some. -/
structure SAll (n : Nt) (F : List Int → List Int) (g : Gr) (i : Nat) (did : List Int) : Prop where
  old : ∀ j, j < i → edAt g j = (F (mkAt g j)).map (edgeOf n g j) ∧ ∀ t ∈ F (mkAt g j), 0 ≤ findM g.marks (fireG n g j t)
  now : edAt g i = did.map (edgeOf n g i) ∧ ∀ t ∈ did, 0 ≤ findM g.marks (fireG n g i t)
  later : ∀ j, i < j → edAt g j = []
theorem SAll.step {n : Nt} {F : List Int → List Int} {most : Nat} {g : Gr} (x : XOk n most g) {i : Nat} (hi : i < g.marks.length) {t : Int} {did : List Int} (h : SAll n F g i did) : SAll n F (stepG n i g t) i (did ++ [t]) := by
  have hie : i < g.edges.length := by rw [x.elen]; exact hi
  have keep : ∀ j u, j < g.marks.length → 0 ≤ findM g.marks (fireG n g j u) → findM (stepG n i g t).marks (fireG n (stepG n i g t) j u) = findM g.marks (fireG n g j u) := by
    intro j u hj h0
    rw [step_fireG n i g t hj, step_marks, findM_put h0]
  refine ⟨?_, ?_, ?_⟩
  · intro j hj
    obtain ⟨h1, h2⟩ := h.old j hj
    rw [step_edAt n hie, if_neg (by omega), step_mkAt n i g t (by omega)]
    refine ⟨?_, fun u hu => by rw [keep j u (by omega) (h2 u hu)]; exact h2 u hu⟩
    rw [h1]
    refine List.map_congr_left fun u hu => ?_
    unfold edgeOf
    rw [keep j u (by omega) (h2 u hu)]
  · obtain ⟨h1, h2⟩ := h.now
    have hself : findM (stepG n i g t).marks (fireG n (stepG n i g t) i t) = g.idx (fireG n g i t) := by
      rw [step_fireG n i g t hi, step_marks, findM_put_self]
    rw [step_edAt n hie, if_pos rfl]
    refine ⟨?_, ?_⟩
    · rw [h1, List.map_append]
      congr 1
      · refine List.map_congr_left fun u hu => ?_
        unfold edgeOf
        rw [keep i u hi (h2 u hu)]
      · simp only [List.map_cons, List.map_nil, edgeOf, hself]
    · intro u hu
      rcases List.mem_append.1 hu with hu | hu
      · rw [keep i u hi (h2 u hu)]; exact h2 u hu
      · obtain rfl : u = t := by simpa using hu
        rw [hself]
        exact (idx_range g _).1
  · intro j hj
    rw [step_edAt n hie, if_neg (by omega)]
    exact h.later j hj
theorem SAll.next {n : Nt} {F : List Int → List Int} {g : Gr} {i : Nat} (h : SAll n F g i (F (mkAt g i))) : SAll n F g (i + 1) [] := by
  refine ⟨fun j hj => ?_, ⟨h.later _ (by omega), by simp⟩, fun j hj => h.later j (by omega)⟩
  by_cases e : j = i
  · subst e; exact h.now
  · exact h.old j (by omega)
theorem SAll.first (n : Nt) (F : List Int → List Int) : SAll n F (rootG n) 0 [] := by
  refine ⟨fun j hj => by omega, ⟨rfl, by simp⟩, fun j hj => ?_⟩
  match j, hj with
  | j + 1, _ => simp [edAt, rootG]

theorem exIn_sall {n : Nt} {F : List Int → List Int} {most : Nat} (hm : most ≤ 1024) {i : Nat} : ∀ (ts did : List Int) (g h : Gr), XOk n most g → i < g.marks.length → did ++ ts = F (mkAt g i) → (∀ t ∈ ts, t ∈ n.enE (mkAt g i)) → SAll n F g i did → exIn n most i ts g = some h →
    XOk n most h ∧ i < h.marks.length ∧ SAll n F h i (F (mkAt h i)) ∧ g.marks.length ≤ h.marks.length
  | [], did, g, h, x, hi, he, _, hA, e => by
    simp only [exIn, Option.some.injEq] at e
    subst e
    rw [← he, List.append_nil]
    exact ⟨x, hi, hA, Nat.le_refl _⟩
  | t :: ts, did, g, h, x, hi, he, hen, hA, e => by
    simp only [exIn] at e
    split at e
    · cases e
    · next hlt =>
      have ht : t ∈ n.enE (mkAt g i) := hen t List.mem_cons_self
      have hle : g.marks.length ≤ (stepG n i g t).marks.length := by rw [step_len]; split <;> omega
      have hk := step_mkAt n i g t hi
      obtain ⟨a1, a2, a3, a6⟩ := exIn_sall hm ts (did ++ [t]) _ h (x.step hm hi ht (by omega)) (by omega) (by rw [hk, ← he]; simp) (by rw [hk]; exact fun u hu => hen u (List.mem_cons_of_mem _ hu)) (hA.step x hi) e
      exact ⟨a1, a2, a3, by omega⟩

/-- All of what is kept. -/
structure SFull (n : Nt) (most : Nat) (g : Gr) : Prop where
  ok : XOk n most g
  edges : ∀ j, j < g.marks.length → edAt g j = (firesL n (mkAt g j)).map (edgeOf n g j) ∧ ∀ t ∈ firesL n (mkAt g j), 0 ≤ findM g.marks (fireG n g j t)
theorem sxF_all {n : Nt} {most : Nat} (hm : most ≤ 1024) : ∀ (f i : Nat) (g h : Gr), most + 1 ≤ i + f → XOk n most g → i ≤ g.marks.length → SAll n (firesL n) g i [] → sxF n most f i g = some h → SFull n most h
  | 0, i, g, h, hf, x, hi, _, _ => by have := x.le; omega
  | f + 1, i, g, h, hf, x, hi, hA, e => by
    simp only [sxF] at e
    by_cases hlt : i < g.marks.length
    · rw [if_pos hlt] at e
      cases e1 : exIn n most i (firesL n (mkAt g i)) g with
      | none => rw [e1] at e; cases e
      | some g1 =>
        rw [e1] at e
        obtain ⟨a1, a2, a3, _⟩ := exIn_sall (F := firesL n) hm _ [] g g1 x hlt rfl (fun t ht => firesL_enE ht) hA e1
        exact sxF_all hm f (i + 1) g1 h (by omega) a1 a2 a3.next e
    · rw [if_neg hlt, Option.some.injEq] at e
      subst e
      obtain rfl : i = g.marks.length := by omega
      exact ⟨x, hA.old⟩
theorem stub_all {n : Nt} {most : Nat} (hok : n.okB = true) (h1 : 1 ≤ most) (hm : most ≤ 1024) {g : Gr} (h : stubE n most = some g) : SFull n most g :=
  sxF_all hm (most + 1) 0 (rootG n) g (by omega) (XOk.first hok h1) (by omega) (SAll.first n _) h

/-- Markings that lead to nothing but one another, by firings that are not refused. -/
def ClosedM (n : Nt) (G : List (List Int)) : Prop := ∀ x ∈ G, n.Mark x ∧ ∀ t, InT n t → (n.tr t).enB x = true → ((n.tr t).fireE x).1 = 0 ∧ ((n.tr t).fireE x).2 ∈ G
theorem findM_memOf {l : List (List Int)} {m : List Int} (h : 0 ≤ findM l m) : m ∈ l := by
  obtain ⟨i, hi, _, e, _⟩ := findM_at h
  rw [← e]; exact List.getElem_mem hi
theorem full_closed {n : Nt} {most : Nat} (hm : most ≤ 1024) {g : Gr} (x : XFull n most g) : ClosedM n g.marks := by
  intro y hy
  obtain ⟨i, hi, rfl⟩ := List.getElem_of_mem hy
  refine ⟨(x.ok.mark i hi).1, fun t ht he => ?_⟩
  rw [← mkAt_eq hi] at he ⊢
  have hen := inT_enE ht he
  exact ⟨fires_ok x.ok hm hi hen, findM_memOf ((x.edges i hi).2 t hen)⟩

theorem nodupM_le : ∀ {a b : List (List Int)}, a.Nodup → (∀ x ∈ a, x ∈ b) → a.length ≤ b.length
  | [], _, _, _ => Nat.zero_le _
  | x :: a, b, hn, hs => by
    have hx := hs x List.mem_cons_self
    obtain ⟨h1, h2⟩ := List.nodup_cons.1 hn
    have := nodupM_le (b := b.erase x) h2 (fun y hy => by
      refine (List.mem_erase_of_ne ?_).2 (hs y (List.mem_cons_of_mem _ hy))
      rintro rfl; exact h1 hy)
    have h3 := List.length_erase_of_mem hx
    have h4 : 0 < b.length := List.length_pos_of_mem hx
    simp only [List.length_cons]
    omega

theorem put_marks (g : Gr) (m : List Int) (f : Int × Int) {G : List (List Int)} (h : ∀ x ∈ g.marks, x ∈ G) (hm : m ∈ G) : ∀ x ∈ (g.put m f).marks, x ∈ G := by
  intro x hx
  unfold Gr.put at hx
  split at hx
  · exact h x hx
  · rcases List.mem_append.1 hx with hx | hx
    · exact h x hx
    · obtain rfl : x = m := by simpa using hx
      exact hm
theorem exIn_in {n : Nt} {most : Nat} (hm : most ≤ 1024) {G : List (List Int)} (hG : ClosedM n G) (hGl : G.length ≤ most) {i : Nat} : ∀ (ts : List Int) (g : Gr), XOk n most g → i < g.marks.length → (∀ t ∈ ts, t ∈ n.enE (mkAt g i)) → (∀ x ∈ g.marks, x ∈ G) →
    ∃ h, exIn n most i ts g = some h ∧ XOk n most h ∧ (∀ x ∈ h.marks, x ∈ G) ∧ i < h.marks.length
  | [], g, x, hi, _, hs => ⟨g, rfl, x, hs, hi⟩
  | t :: ts, g, x, hi, hen, hs => by
    have ht : t ∈ n.enE (mkAt g i) := hen t List.mem_cons_self
    have hmem : fireG n g i t ∈ G := by
      have h1 := hs _ (List.getElem_mem hi)
      rw [← mkAt_eq hi] at h1
      exact ((hG _ h1).2 t (enE_inT ht).1 (enE_inT ht).2).2
    have hlt : g.idx (fireG n g i t) < (most : Int) := by
      unfold Gr.idx
      split
      · have := (findM_range g.marks (fireG n g i t)).2
        have := x.le
        omega
      · next h0 =>
        have hno := findM_no (Int.not_le.1 h0)
        have hnd : (fireG n g i t :: g.marks).Nodup := List.nodup_cons.2 ⟨hno, x.nodup⟩
        have := nodupM_le hnd (b := G) (fun y hy => by
          rcases List.mem_cons.1 hy with rfl | hy
          · exact hmem
          · exact hs y hy)
        simp only [List.length_cons] at this
        omega
    have hk := step_mkAt n i g t hi
    have hle : g.marks.length ≤ (stepG n i g t).marks.length := by rw [step_len]; split <;> omega
    obtain ⟨h, e, a1, a2, a3⟩ := exIn_in (i := i) hm hG hGl ts (stepG n i g t) (x.step hm hi ht hlt) (by omega) (by rw [hk]; exact fun u hu => hen u (List.mem_cons_of_mem _ hu)) (by rw [step_marks]; exact put_marks g _ _ hs hmem)
    exact ⟨h, by rw [exIn, if_neg (by omega), e], a1, a2, a3⟩
theorem sxF_in {n : Nt} {most : Nat} (hm : most ≤ 1024) {G : List (List Int)} (hG : ClosedM n G) (hGl : G.length ≤ most) : ∀ (f i : Nat) (g : Gr), XOk n most g → i ≤ g.marks.length → (∀ x ∈ g.marks, x ∈ G) →
    ∃ h, sxF n most f i g = some h ∧ ∀ x ∈ h.marks, x ∈ G
  | 0, i, g, _, _, hs => ⟨g, rfl, hs⟩
  | f + 1, i, g, x, hi, hs => by
    rw [sxF]
    by_cases hlt : i < g.marks.length
    · rw [if_pos hlt]
      obtain ⟨h, e, a1, a2, a3⟩ := exIn_in (i := i) hm hG hGl (firesL n (mkAt g i)) g x hlt (fun t ht => firesL_enE ht) hs
      rw [e]
      exact sxF_in hm hG hGl f (i + 1) h a1 (by omega) a2
    · rw [if_neg hlt]
      exact ⟨g, rfl, hs⟩
theorem stub_in {n : Nt} {most : Nat} (hok : n.okB = true) (h1 : 1 ≤ most) (hm : most ≤ 1024) {g : Gr} (x : XFull n most g) : ∃ h, stubE n most = some h ∧ ∀ y ∈ h.marks, y ∈ g.marks := by
  refine sxF_in hm (full_closed hm x) x.ok.le (most + 1) 0 (rootG n) (XOk.first hok h1) (Nat.zero_le _) fun y hy => ?_
  have e : y = oneL n.places.length n.init := by simpa [rootG] using hy
  rw [e, ← x.ok.root, mkAt_eq x.ok.pos]
  exact List.getElem_mem _

/-- From a marking by firings to another. -/
def Path (n : Nt) : List Int → List Int → List Int → Prop
  | m, [], d => m = d
  | m, t :: r, d => (InT n t ∧ (n.tr t).enB m = true) ∧ Path n ((n.tr t).fireE m).2 r d
theorem Path.app {n : Nt} : ∀ {r1 : List Int} {m a d : List Int} {r2 : List Int}, Path n m r1 a → Path n a r2 d → Path n m (r1 ++ r2) d
  | [], m, a, d, r2, h1, h2 => by cases h1; exact h2
  | t :: r1, m, a, d, r2, h1, h2 => ⟨h1.1, Path.app h1.2 h2⟩
theorem Path.cut {n : Nt} : ∀ {r1 : List Int} {m d : List Int} {r2 : List Int}, Path n m (r1 ++ r2) d → ∃ a, Path n m r1 a ∧ Path n a r2 d
  | [], m, d, r2, h => ⟨m, rfl, h⟩
  | t :: r1, m, d, r2, h => by
    obtain ⟨a, h1, h2⟩ := Path.cut h.2
    exact ⟨a, ⟨h.1, h1⟩, h2⟩
theorem Path.in {n : Nt} {G : List (List Int)} (hG : ClosedM n G) : ∀ {r m d : List Int}, Path n m r d → m ∈ G → d ∈ G
  | [], m, d, h, hm => by cases h; exact hm
  | t :: r, m, d, h, hm => Path.in hG h.2 ((hG m hm).2 t h.1.1 h.1.2).2

theorem XOk.path {n : Nt} {most : Nat} {g : Gr} (x : XOk n most g) : ∀ {i : Nat}, i < g.marks.length → ∃ r, Path n (mkAt g 0) r (mkAt g i) := by
  intro i
  induction i using Nat.strongRecOn with
  | _ i ih =>
    intro h
    by_cases h0 : i = 0
    · subst h0; exact ⟨[], rfl⟩
    · obtain ⟨j, q, e, hj, hq, f1, f2⟩ := x.src_at (by omega) h
      obtain ⟨r, hr⟩ := ih j hj (by omega)
      refine ⟨r ++ [(q : Int)], hr.app ⟨⟨⟨by omega, by omega⟩, ?_⟩, f2⟩⟩
      rcases fireE_code (n.tr (q : Int)) (mkAt g j) with ⟨_, e⟩ | ⟨e, _⟩
      · omega
      · exact e

theorem mark_ext {n : Nt} {a b : List Int} (ha : n.Mark a) (hb : n.Mark b) (h : ∀ p : Int, 0 ≤ p → p < (a.length : Int) → getI a p = getI b p) : a = b := by
  refine List.ext_getElem (by rw [ha.len, hb.len]) fun i h1 h2 => ?_
  have := h (i : Int) (by omega) (by omega)
  rwa [getI_eq h1, getI_eq h2] at this

/-- What is in the set and enabled may go ahead of what is not in it. -/
theorem go_ahead {n : Nt} {G : List (List Int)} (hG : ClosedM n G) {m : List Int} (hm : n.Mark m) {u : Int} (hu : u ∈ setL n m) : ∀ {r : List Int} {x a : List Int}, x ∈ G → Stays n m x → (∀ t ∈ r, t ∉ setL n m) → Path n x r a → (n.tr u).enB a = true →
    (n.tr u).enB m = true ∧ (n.tr u).enB x = true ∧ Path n ((n.tr u).fireE x).2 r ((n.tr u).fireE a).2
  | [], x, a, hx, hs, _, hp, he => by
    cases hp
    exact ⟨by rw [← hs.same hm hu]; exact he, he, rfl⟩
  | t :: r, x, a, hx, hs, hno, hp, he => by
    obtain ⟨⟨ht, hte⟩, hp⟩ := hp
    obtain ⟨f0, hx1⟩ := (hG x hx).2 t ht hte
    have hs1 := hs.step ht (hno t List.mem_cons_self) f0
    obtain ⟨h1, h2, h3⟩ := go_ahead hG hm hu hx1 hs1 (fun v hv => hno v (List.mem_cons_of_mem _ hv)) hp he
    have hux : (n.tr u).enB x = true := by rw [hs.same hm hu]; exact h1
    have huT := setL_inT hu
    obtain ⟨g0, hy⟩ := (hG x hx).2 u huT hux
    have hut := tr_mem_of huT
    have htt := tr_mem_of ht
    have hMx := (hG x hx).1
    have hMy := (hG _ hy).1
    have hMx1 := (hG _ hx1).1
    obtain ⟨k0, hz⟩ := (hG _ hx1).2 u huT h2
    have hMz := (hG _ hz).1
    have hfree : ∀ p ∈ (n.tr t).inn, hasI (n.tr u).inn p = 0 := by
      intro p hp
      refine hasI_no fun hin => hno t List.mem_cons_self (setL_closed hu ht ?_)
      unfold needB
      rw [if_pos h1, List.any_eq_true]
      exact ⟨p, hin, by simpa using hp⟩
    have hty : (n.tr t).enB ((n.tr u).fireE x).2 = true := by
      rw [enB_iff]
      intro p hp
      have hpl := (hMx.ok.inn _ htt).1 p hp
      rw [getI_fire hMx hut g0 hpl.1 (by have := hMx.len; omega), hfree p hp]
      have := enB_get hte hMx.tok p hp
      have := (hasI_range (n.tr u).out p).1
      omega
    obtain ⟨l0, hv⟩ := (hG _ hy).2 t ht hty
    have hMv := (hG _ hv).1
    refine ⟨h1, hux, ⟨ht, hty⟩, ?_⟩
    have e : ((n.tr t).fireE ((n.tr u).fireE x).2).2 = ((n.tr u).fireE ((n.tr t).fireE x).2).2 := by
      refine mark_ext hMv hMz fun p hp0 hp1 => ?_
      have l1 := hMv.len
      have l2 := hMy.len
      have l3 := hMx.len
      have l4 := hMx1.len
      rw [getI_fire hMy htt l0 hp0 (by omega), getI_fire hMx hut g0 hp0 (by omega), getI_fire hMx1 hut k0 hp0 (by omega), getI_fire hMx htt f0 hp0 (by omega)]
      omega
    rw [e]
    exact h3

theorem split_first {P : Int → Prop} : ∀ (r : List Int), (∀ t ∈ r, ¬ P t) ∨ ∃ r1 u r2, r = r1 ++ u :: r2 ∧ P u ∧ ∀ t ∈ r1, ¬ P t
  | [] => .inl (by simp)
  | t :: r => by
    by_cases h : P t
    · exact .inr ⟨[], t, r, rfl, h, by simp⟩
    · rcases split_first (P := P) r with h1 | ⟨r1, u, r2, e, h1, h2⟩
      · refine .inl fun v hv => ?_
        rcases List.mem_cons.1 hv with rfl | hv
        · exact h
        · exact h1 v hv
      · refine .inr ⟨t :: r1, u, r2, by rw [e]; rfl, h1, fun v hv => ?_⟩
        rcases List.mem_cons.1 hv with rfl | hv
        · exact h
        · exact h2 v hv
theorem Path.stays {n : Nt} {G : List (List Int)} (hG : ClosedM n G) {m : List Int} : ∀ {r x a : List Int}, x ∈ G → Stays n m x → (∀ t ∈ r, t ∉ setL n m) → Path n x r a → Stays n m a
  | [], x, a, _, hs, _, hp => by cases hp; exact hs
  | t :: r, x, a, hx, hs, hno, hp => by
    obtain ⟨f0, hx1⟩ := (hG x hx).2 t hp.1.1 hp.1.2
    exact Path.stays hG hx1 (hs.step hp.1.1 (hno t List.mem_cons_self) f0) (fun v hv => hno v (List.mem_cons_of_mem _ hv)) hp.2

/-- No deadlock is lost. -/
theorem dead_kept {n : Nt} {G H : List (List Int)} (hG : ClosedM n G) (hH : ∀ x ∈ H, x ∈ G) (hF : ∀ x ∈ H, ∀ t ∈ firesL n x, ((n.tr t).fireE x).2 ∈ H) : ∀ (k : Nat) {r m d : List Int}, r.length = k → m ∈ H → Path n m r d → n.enE d = [] → d ∈ H
  | 0, r, m, d, hk, hm, hp, _ => by
    obtain rfl := List.length_eq_zero_iff.1 hk
    cases hp
    exact hm
  | k + 1, r, m, d, hk, hm, hp, hd => by
    have hmG := hH m hm
    have hM := (hG m hmG).1
    have hne : n.enE m ≠ [] := by
      intro h0
      match r, hk, hp with
      | t :: r, _, hp =>
        have := inT_enE hp.1.1 hp.1.2
        rw [h0] at this; cases this
    rcases split_first (P := fun t => t ∈ setL n m) r with hno | ⟨r1, u, r2, e, hu, hno⟩
    · exfalso
      obtain ⟨s, hs, he⟩ := setL_has hne
      have := (Path.stays hG hmG (Stays.first hM) hno hp).same hM hs
      rw [he] at this
      have h1 := inT_enE (setL_inT hs) this
      rw [hd] at h1; cases h1
    · subst e
      obtain ⟨a, p1, p2⟩ := Path.cut hp
      obtain ⟨⟨_, hua⟩, p3⟩ := p2
      obtain ⟨h1, _, h3⟩ := go_ahead hG hM hu hmG (Stays.first hM) hno p1 hua
      refine dead_kept hG hH hF k (r := r1 ++ r2) ?_ (hF m hm u (List.mem_filter.2 ⟨hu, h1⟩)) (h3.app p3) hd
      simp only [List.length_append, List.length_cons] at hk ⊢
      omega

theorem stub_dead {n : Nt} {most : Nat} (hm : most ≤ 1024) {g h : Gr} (x : XFull n most g) (y : SFull n most h) (hs : ∀ z ∈ h.marks, z ∈ g.marks) {d : List Int} (hd : d ∈ g.marks) (h0 : n.enE d = []) : d ∈ h.marks := by
  obtain ⟨i, hi, rfl⟩ := List.getElem_of_mem hd
  obtain ⟨r, hr⟩ := x.ok.path hi
  rw [x.ok.root, ← y.ok.root, mkAt_eq hi] at hr
  refine dead_kept (full_closed hm x) hs (fun z hz t ht => ?_) r.length rfl ?_ hr h0
  · obtain ⟨j, hj, rfl⟩ := List.getElem_of_mem hz
    have := (y.edges j hj).2 t (by rw [mkAt_eq hj]; exact ht)
    unfold fireG at this
    rw [mkAt_eq hj] at this
    exact findM_memOf this
  · rw [mkAt_eq y.ok.pos]; exact List.getElem_mem _

/-- As many deadlocks are kept as there are. -/
theorem stub_dead_len {n : Nt} {most : Nat} (hm : most ≤ 1024) {g h : Gr} (x : XFull n most g) (y : SFull n most h) (hs : ∀ z ∈ h.marks, z ∈ g.marks) :
    (h.marks.filter (fun d => (n.enE d).isEmpty)).length = (g.marks.filter (fun d => (n.enE d).isEmpty)).length := by
  refine Nat.le_antisymm (nodupM_le (y.ok.nodup.filter _) fun z hz => ?_) (nodupM_le (x.ok.nodup.filter _) fun z hz => ?_)
  · obtain ⟨a, b⟩ := List.mem_filter.1 hz
    exact List.mem_filter.2 ⟨hs z a, b⟩
  · obtain ⟨a, b⟩ := List.mem_filter.1 hz
    exact List.mem_filter.2 ⟨stub_dead hm x y hs a (List.isEmpty_iff.1 b), b⟩
end Go.Proofs.YtbolacnpljkpbaaDoor

/- Stubborn sets reckoned: a closure by rounds; the examples. -/
namespace Go.Proofs.YtbolacnpljkpbaaDoor
open Classical

theorem filter_sub {α : Type} {p q : α → Bool} : ∀ (l : List α), (∀ x ∈ l, p x = true → q x = true) → (l.filter p).Sublist (l.filter q)
  | [], _ => List.Sublist.slnil
  | x :: l, h => by
    have ih := filter_sub l (fun y hy => h y (List.mem_cons_of_mem _ hy))
    rw [List.filter_cons, List.filter_cons]
    by_cases hp : p x = true
    · rw [if_pos hp, if_pos (h x List.mem_cons_self hp)]; exact ih.cons_cons x
    · rw [if_neg hp]
      split
      · exact ih.cons x
      · exact ih

def stepC (n : Nt) (m : List Int) (S : List Int) : List Int := (idxL n).filter (fun b => S.contains b || S.any (fun a => needB m (n.tr a) (n.tr b)))
def clC (n : Nt) (m : List Int) (t : Int) : Nat → List Int
  | 0 => (idxL n).filter (fun b => b == t)
  | k + 1 => stepC n m (clC n m t k)
theorem clC_idx (n : Nt) (m : List Int) (t : Int) : ∀ k, ∃ P : Int → Bool, clC n m t k = (idxL n).filter P
  | 0 => ⟨_, rfl⟩
  | _ + 1 => ⟨_, rfl⟩
theorem clC_sorted (n : Nt) (m : List Int) (t : Int) (k : Nat) : (clC n m t k).Pairwise (· < ·) := by
  obtain ⟨P, e⟩ := clC_idx n m t k
  rw [e]; exact (range_sorted _).filter _
theorem clC_len (n : Nt) (m : List Int) (t : Int) (k : Nat) : (clC n m t k).length ≤ n.trans.length := by
  obtain ⟨P, e⟩ := clC_idx n m t k
  rw [e]
  refine Nat.le_trans (List.length_filter_le _ _) ?_
  simp [idxL]
theorem clC_grows (n : Nt) (m : List Int) (t : Int) (k : Nat) : (clC n m t k).Sublist (clC n m t (k + 1)) := by
  obtain ⟨P, e⟩ := clC_idx n m t k
  rw [clC, stepC, e]
  refine filter_sub _ fun x hx hp => ?_
  rw [Bool.or_eq_true, List.contains_iff_mem]
  exact Or.inl (List.mem_filter.2 ⟨hx, hp⟩)
theorem clC_fix (n : Nt) (m : List Int) (t : Int) (ht : InT n t) : ∀ k, stepC n m (clC n m t k) = clC n m t k ∨ k + 1 ≤ (clC n m t k).length
  | 0 => by
    refine Or.inr ?_
    have : t ∈ clC n m t 0 := by rw [clC, List.mem_filter, mem_idxL]; exact ⟨ht, by simp⟩
    have := List.length_pos_of_mem this
    omega
  | k + 1 => by
    rcases clC_fix n m t ht k with h | h
    · refine Or.inl ?_
      show stepC n m (stepC n m (clC n m t k)) = stepC n m (clC n m t k)
      rw [h, h]
    · by_cases e : (clC n m t (k + 1)).length ≤ (clC n m t k).length
      · have := (clC_grows n m t k).eq_of_length_le e
        refine Or.inl ?_
        rw [← this]
        exact this.symm
      · exact Or.inr (by omega)
theorem clC_sound (n : Nt) (m : List Int) (t : Int) : ∀ k x, x ∈ clC n m t k → Cl n m t x
  | 0, x, h => by
    rw [clC, List.mem_filter] at h
    have : x = t := by simpa using h.2
    rw [this]; exact .self
  | k + 1, x, h => by
    rw [clC, stepC, List.mem_filter, mem_idxL] at h
    obtain ⟨h1, h2⟩ := h
    rw [Bool.or_eq_true, List.contains_iff_mem, List.any_eq_true] at h2
    rcases h2 with h2 | ⟨a, ha, hn⟩
    · exact clC_sound n m t k x h2
    · exact (clC_sound n m t k a ha).step h1 hn
theorem clC_self (n : Nt) (m : List Int) (t : Int) (ht : InT n t) : ∀ k, t ∈ clC n m t k
  | 0 => by rw [clC, List.mem_filter, mem_idxL]; exact ⟨ht, by simp⟩
  | k + 1 => (clC_grows n m t k).subset (clC_self n m t ht k)
theorem clL_is {n : Nt} {m : List Int} {t : Int} (ht : InT n t) : clL n m t = clC n m t n.trans.length := by
  have hfix : stepC n m (clC n m t n.trans.length) = clC n m t n.trans.length := by
    rcases clC_fix n m t ht n.trans.length with h | h
    · exact h
    · have := clC_len n m t n.trans.length
      omega
  refine sorted_eq (clL_sorted _ _ _) (clC_sorted _ _ _ _) fun x => ?_
  rw [mem_clL ht]
  refine ⟨fun h => ?_, clC_sound n m t _ x⟩
  induction h with
  | self => exact clC_self n m t ht _
  | step _ hb hn ih =>
    rw [← hfix, stepC, List.mem_filter, mem_idxL]
    refine ⟨hb, ?_⟩
    rw [Bool.or_eq_true, List.any_eq_true]
    exact Or.inr ⟨_, ih, hn⟩

def bestC (n : Nt) (m : List Int) : List Int → List Int × Nat → List Int × Nat
  | [], b => b
  | t :: r, b => bestC n m r (if enCnt n m (clC n m t n.trans.length) < b.2 then (clC n m t n.trans.length, enCnt n m (clC n m t n.trans.length)) else b)
theorem bestGo_is {n : Nt} {m : List Int} : ∀ (l : List Int) (b : List Int × Nat), (∀ t ∈ l, InT n t) → bestGo n m l b = bestC n m l b
  | [], _, _ => rfl
  | t :: r, b, h => by
    rw [bestGo, bestC, clL_is (h t List.mem_cons_self)]
    exact bestGo_is r _ fun u hu => h u (List.mem_cons_of_mem _ hu)
def setC (n : Nt) (m : List Int) : List Int := (bestC n m (n.enE m) ([], n.trans.length + 1)).1
def firesC (n : Nt) (m : List Int) : List Int := (setC n m).filter (fun t => (n.tr t).enB m)
theorem setL_is (n : Nt) (m : List Int) : setL n m = setC n m := by
  unfold setL setC
  rw [bestGo_is _ _ fun t ht => (enE_inT ht).1]
theorem firesL_is (n : Nt) (m : List Int) : firesL n m = firesC n m := by unfold firesL firesC; rw [setL_is]
def sxC (n : Nt) (most : Nat) : Nat → Nat → Gr → Option Gr
  | 0, _, g => some g
  | f + 1, i, g => if i < g.marks.length then (exIn n most i (firesC n (mkAt g i)) g).bind (sxC n most f (i + 1)) else some g
theorem sxF_is (n : Nt) (most : Nat) : ∀ (f i : Nat) (g : Gr), sxF n most f i g = sxC n most f i g
  | 0, _, _ => rfl
  | f + 1, i, g => by
    rw [sxF, sxC, firesL_is]
    have : sxF n most f (i + 1) = sxC n most f (i + 1) := funext (sxF_is n most f (i + 1))
    rw [this]
def stubC (n : Nt) (most : Nat) : Option Gr := sxC n most (most + 1) 0 (rootG n)
theorem stubE_is (n : Nt) (most : Nat) : stubE n most = stubC n most := sxF_is n most _ _ _

/-- Two rows that have nothing to do with one another. -/
def rowsN : Nt := ⟨[⟨#[40, 105, 110, 41]⟩, ⟨#[40, 111, 117, 116, 41]⟩, ⟨#[97]⟩, ⟨#[98]⟩, ⟨#[99]⟩, ⟨#[100]⟩], [⟨⟨#[105]⟩, [0], [2, 4]⟩, ⟨⟨#[115]⟩, [2], [3]⟩, ⟨⟨#[116]⟩, [4], [5]⟩], 0, 1⟩
def rowsG : Gr := ⟨[[1, 0, 0, 0, 0, 0], [0, 0, 1, 0, 1, 0], [0, 0, 0, 1, 1, 0], [0, 0, 0, 1, 0, 1]], [[(0, 1)], [(1, 2)], [(2, 3)], []], [(0, 0), (0, 0), (1, 1), (2, 2)]⟩
theorem rows_stub : stubE rowsN 9 = some rowsG := by rw [stubE_is]; rfl
theorem rows_stub3 : stubE rowsN 3 = none := by rw [stubE_is]; rfl
theorem rows_set : setL rowsN [0, 0, 1, 0, 1, 0] = [1] := by rw [setL_is]; rfl
theorem rows_all : ∃ g, exploreE rowsN 9 = some g ∧ g.marks.length = 5 := ⟨_, rfl, rfl⟩
theorem rows_ok : rowsN.okB = true := by rfl
theorem rows_mark : rowsN.markB [0, 0, 1, 0, 1, 0] = true := by rfl
end Go.Proofs.YtbolacnpljkpbaaDoor
