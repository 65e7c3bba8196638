/- One token of one instance turned; on lists, no program here. -/
import Derived.Test.YtggnheekkbideaaJobTokP
import Derived.Test.YtggnheekkbideaaInsO
set_option maxRecDepth 100000
namespace Go.Proofs.Ytggnheekkbideaa

def markX (f : Tok → Tok) (x : Ins) (k : Nat) : Ins := { x with toks := x.toks.set k (f (atL x.toks k)) }
/-- The token at k of the instance at i is turned. -/
def markL (f : Tok → Tok) (l : List Ins) (i k : Nat) : List Ins := l.set i (markX f (atL l i) k)
def markP (f : Tok → Tok) (i k : Nat) (p : PT) : PT := if p.i = i ∧ p.k = k then ⟨p.i, p.k, f p.t⟩ else p
def marks (f : Tok → Tok) (l : List Ins) (P : List PT) : List Ins := P.foldl (fun l p => markL f l p.i p.k) l

theorem markL_len (f : Tok → Tok) (l : List Ins) (i k : Nat) : (markL f l i k).length = l.length := by simp [markL]
theorem atL_set {α : Type} [Inhabited α] (l : List α) (i j : Nat) (y : α) : atL (l.set i y) j = if j = i ∧ i < l.length then y else atL l j := by
  unfold atL
  rw [List.getD_eq_getElem?_getD, List.getD_eq_getElem?_getD]
  by_cases h : j = i
  · subst h
    by_cases h2 : j < l.length
    · rw [if_pos ⟨rfl, h2⟩, List.getElem?_set_self h2]; rfl
    · rw [if_neg (fun h => h2 h.2), List.getElem?_eq_none (by simp; omega), List.getElem?_eq_none (by omega)]
  · rw [if_neg (fun h2 => h h2.1), List.getElem?_set_ne (Ne.symm h)]
theorem atL_mark (f : Tok → Tok) (l : List Ins) (i k j : Nat) (hi : i < l.length) : atL (markL f l i k) j = if j = i then markX f (atL l i) k else atL l j := by
  unfold markL
  rw [atL_set]
  by_cases h : j = i
  · rw [if_pos ⟨h, hi⟩, if_pos h]
  · rw [if_neg (fun h2 => h h2.1), if_neg h]
theorem markX_toks (f : Tok → Tok) (x : Ins) (k : Nat) : (markX f x k).toks.length = x.toks.length := by simp [markX]
theorem atL_markX (f : Tok → Tok) (x : Ins) (k j : Nat) (hk : k < x.toks.length) : atL (markX f x k).toks j = if j = k then f (atL x.toks k) else atL x.toks j := by
  unfold markX
  simp only
  rw [atL_set]
  by_cases h : j = k
  · rw [if_pos ⟨h, hk⟩, if_pos h]
  · rw [if_neg (fun h2 => h h2.1), if_neg h]
theorem mark_toks (f : Tok → Tok) (l : List Ins) (i k j : Nat) (hi : i < l.length) : (atL (markL f l i k) j).toks.length = (atL l j).toks.length := by
  rw [atL_mark f l i k j hi]
  split
  · rename_i h; subst h; exact markX_toks _ _ _
  · rfl
theorem mark_state (f : Tok → Tok) (l : List Ins) (i k j : Nat) (hi : i < l.length) : (atL (markL f l i k) j).state = (atL l j).state := by
  rw [atL_mark f l i k j hi]
  split
  · rename_i h; subst h; rfl
  · rfl
theorem mark_small {f : Tok → Tok} {l : List Ins} {i k : Nat} (h : SmL l) (hi : i < l.length) : SmL (markL f l i k) := by
  refine ⟨by rw [markL_len]; exact h.1, fun x hx => ?_⟩
  unfold markL at hx
  rcases List.mem_or_eq_of_mem_set hx with h1 | h1
  · exact h.2 x h1
  · subst h1
    have := h.2 (atL l i) (by rw [atL_eq hi]; exact List.getElem_mem _)
    exact ⟨this.1, by rw [markX_toks]; exact this.2⟩

theorem insN_mark (f : Tok → Tok) (i k : Nat) (x : Ins) (hk : k < x.toks.length) : insN i (markX f x k) = (insN i x).map (markP f i k) := by
  unfold insN
  show (if x.state = 1 then _ else _) = _
  split
  · unfold tokN
    rw [markX_toks, List.map_map]
    refine List.map_congr_left fun j hj => ?_
    simp only [Function.comp, markP, atL_markX f x k j hk]
    by_cases h : j = k
    · subst h; simp
    · simp [h]
  · rfl
theorem insN_other (f : Tok → Tok) (i k m : Nat) (x : Ins) (h : m ≠ i) : (insN m x).map (markP f i k) = insN m x := by
  unfold insN
  split
  · unfold tokN
    rw [List.map_map]
    refine List.map_congr_left fun j hj => ?_
    simp [Function.comp, markP, h]
  · rfl
/-- The tokens behind it. -/
theorem allT_mark (f : Tok → Tok) (l : List Ins) (i k : Nat) (hi : i < l.length) (hk : k < (atL l i).toks.length) : allT (markL f l i k) = (allT l).map (markP f i k) := by
  have : ∀ m, allN (markL f l i k) m = (allN l m).map (markP f i k) := by
    intro m
    induction m with
    | zero => rfl
    | succ m ih =>
      show allN _ m ++ insN m _ = (allN l m ++ insN m (atL l m)).map _
      rw [List.map_append, ih, atL_mark f l i k m hi]
      by_cases h : m = i
      · subst h; rw [if_pos rfl, insN_mark f m k _ hk]
      · rw [if_neg h, insN_other f i k m _ h]
  unfold allT
  rw [markL_len]
  exact this _

/-- Rows of places that are all there. -/
def InP (l : List Ins) (P : List PT) : Prop := ∀ p ∈ P, p.i < l.length ∧ p.k < (atL l p.i).toks.length ∧ p.t = atL (atL l p.i).toks p.k ∧ (atL l p.i).state = 1
theorem marks_len (f : Tok → Tok) : ∀ (P : List PT) (l : List Ins), (marks f l P).length = l.length
  | [], _ => rfl
  | p :: P, l => by
    show (marks f (markL f l p.i p.k) P).length = _
    rw [marks_len f P, markL_len]
theorem marks_snoc (f : Tok → Tok) (P : List PT) (l : List Ins) (p : PT) : marks f l (P ++ [p]) = markL f (marks f l P) p.i p.k := by simp [marks]
theorem marks_toks (f : Tok → Tok) : ∀ (P : List PT) (l : List Ins), (∀ p ∈ P, p.i < l.length) → ∀ j, (atL (marks f l P) j).toks.length = (atL l j).toks.length
  | [], _, _, _ => rfl
  | p :: P, l, h, j => by
    show (atL (marks f (markL f l p.i p.k) P) j).toks.length = _
    rw [marks_toks f P _ (fun q hq => by rw [markL_len]; exact h q (List.mem_cons_of_mem _ hq)) j]
    exact mark_toks f l p.i p.k j (h p List.mem_cons_self)
theorem marks_small (f : Tok → Tok) : ∀ (P : List PT) (l : List Ins), (∀ p ∈ P, p.i < l.length) → SmL l → SmL (marks f l P)
  | [], _, _, h => h
  | p :: P, l, hp, h => by
    show SmL (marks f (markL f l p.i p.k) P)
    exact marks_small f P _ (fun q hq => by rw [markL_len]; exact hp q (List.mem_cons_of_mem _ hq)) (mark_small h (hp p List.mem_cons_self))
/-- A number stays. -/
theorem marks_id (f : Tok → Tok) (hf : ∀ t, (f t).id = t.id) : ∀ (P : List PT) (l : List Ins), (∀ p ∈ P, p.i < l.length ∧ p.k < (atL l p.i).toks.length) → ∀ i k, (atL (atL (marks f l P) i).toks k).id = (atL (atL l i).toks k).id
  | [], _, _, _, _ => rfl
  | p :: P, l, h, i, k => by
    show (atL (atL (marks f (markL f l p.i p.k) P) i).toks k).id = _
    obtain ⟨h1, h2⟩ := h p List.mem_cons_self
    rw [marks_id f hf P _ (fun q hq => by
      obtain ⟨a, b⟩ := h q (List.mem_cons_of_mem _ hq)
      exact ⟨by rw [markL_len]; exact a, by rw [mark_toks f l _ _ _ h1]; exact b⟩) i k, atL_mark f l _ _ i h1]
    split
    · rename_i e
      subst e
      rw [atL_markX f _ _ _ h2]
      split
      · rename_i e2; subst e2; exact hf _
      · rfl
    · rfl

/-- In memory of the call's own. -/
def setT (R : List Ih) (i k : Nat) (y : Tok) : List Ih := R.set i { atL R i with x := { (atL R i).x with toks := (atL R i).x.toks.set k y } }
theorem setT_len (R : List Ih) (i k : Nat) (y : Tok) : (setT R i k y).length = R.length := by simp [setT]
theorem atL_map_x (R : List Ih) (i : Nat) (hi : i < R.length) : atL (R.map (·.x)) i = (atL R i).x := by
  rw [atL_eq (by simpa using hi), atL_eq hi]; simp
theorem setT_map (R : List Ih) (i k : Nat) (y : Tok) (f : Tok → Tok) (hi : i < R.length) (hy : y = f (atL (atL R i).x.toks k)) : (setT R i k y).map (·.x) = markL f (R.map (·.x)) i k := by
  unfold setT markL markX
  rw [List.map_set, atL_map_x R i hi, hy]
theorem setT_twice (R : List Ih) (i k : Nat) (y z : Tok) (hi : i < R.length) : setT (setT R i k y) i k z = setT R i k z := by
  unfold setT
  rw [List.set_set, atL_set, if_pos ⟨rfl, hi⟩]
  simp only [List.set_set]

section
open Go.RowKit
theorem InsO.setT {w : World} {lo : Nat} {v : Value} {R : List Ih} (h : InsO w lo v R) {i k j : Nat} (hi : i < R.length) (hk : k < (atL R i).x.toks.length) (hj : j < 9) (u : Value) (y : Tok) (hy : cellT y = (cellT (atL (atL R i).x.toks k)).set j u) :
    ∃ gt, (atL R i).ta = some ⟨gt, 0, none⟩ ∧ lo ≤ gt ∧ gt < w.heap.size ∧ (∃ cs, w.heap[gt]? = some (.cells cs 41 (0, 0))) ∧ InsO (w.setCell ⟨gt, k * 9 + j, none⟩ u) lo v (setT R i k y) := by
  have hR := atL_eq hi
  have hm : atL R i ∈ R := by rw [hR]; exact List.getElem_mem _
  have ht := h.own.toks _ hm
  obtain ⟨gt, hta, _, hlo, hlt⟩ := OwnF.some ht (by omega)
  have ht' : RowT w lo (.slice (some ⟨gt, 0, none⟩) (atL R i).x.toks.length (atL R i).tc) (atL R i).x.toks := by rw [← hta]; exact ht
  obtain ⟨cs, hcs, _, _⟩ := OwnF.block ht'
  refine ⟨gt, hta, hlo, hlt, ⟨cs, hcs⟩, ?_⟩
  have hset := OwnF.set cellT_len ht' hk hj u y (by rw [hy, atL_eq hk])
  have hg := grownBy_setCell w gt (k * 9 + j) u
  -- another row stands
  have oth : ∀ {α : Type} {f : α → List Value} {k' : Nat} {e : TypeId} {v' : Value} {A : List α}, OwnF f e k' w lo v' A → v'.ownBlock ≠ some gt → OwnF f e k' (w.setCell ⟨gt, k * 9 + j, none⟩ u) lo v' A := fun hA hne =>
    hA.keepB fun q hq => heap_setCell_other w _ q _ (fun e => by simp only at e; rw [e] at hq; exact hne hq)
  have ety : ∀ {α : Type} {f : α → List Value} {k' : Nat} {e : TypeId} {v' : Value} {A : List α}, OwnF f e k' w lo v' A → e ≠ 41 → v'.ownBlock ≠ some gt := fun hA hne e => by
    rcases hA.2 with ⟨e2, _⟩ | ⟨g1, c1, cur1, e2, _, h1, _⟩
    · rw [e2] at e; cases e
    · rw [e2] at e; injection e with e
      simp only at e
      subst e
      rw [hcs] at h1
      injection h1 with h1
      injection h1 with _ h1
      exact hne h1.symm
  have hdif : ∀ q (hq : q < R.length), q ≠ i → (tvI R[q]).ownBlock ≠ some gt := by
    intro q hq hne e
    have hpw := List.pairwise_iff_getElem.1 h.own.apart
    have hgt : (tvI R[i]).ownBlock = some gt := by rw [← hR]; show (Value.slice (atL R i).ta _ _).ownBlock = _; rw [hta]; rfl
    rcases Nat.lt_or_gt_of_ne hne with hlt | hgt'
    · exact hpw q i hq hi hlt gt e hgt
    · exact hpw i q hi hq hgt' gt hgt e
  refine ⟨?_, ?_⟩
  · -- the instances' row: the same cells
    have hc : cellsF cellI (Go.Proofs.Ytggnheekkbideaa.setT R i k y) = cellsF cellI R := by
      have := cellsF_set cellI_len R i 0 hi (by omega) (.int .i64 (atL R i).x.id) { atL R i with x := { (atL R i).x with toks := (atL R i).x.toks.set k y } } (by
        rw [← hR]
        show [_, _, _, _, Value.slice (atL R i).ta ((atL R i).x.toks.set k y).length (atL R i).tc] = _
        rw [List.length_set]; rfl)
      unfold Go.Proofs.Ytggnheekkbideaa.setT
      rw [← this]
      refine List.ext_getElem? fun q => ?_
      rw [List.getElem?_set]
      split
      · rename_i e
        subst e
        have hq := cellsF_at cellI_len R i 0 hi (by omega)
        have hlen : i * 5 + 0 < (cellsF cellI R).length := by rw [cellsF_len cellI_len]; omega
        rw [if_pos hlen, hq, ← hR]; rfl
      · rfl
    have h0 := oth h.row (ety h.row (by decide))
    unfold RowI OwnF at h0 ⊢
    rw [setT_len, hc]
    exact h0
  · refine ⟨fun x hx => ?_, fun x hx => ?_, ?_⟩
    · rcases List.mem_or_eq_of_mem_set hx with h1 | h1
      · exact oth (h.own.vars x h1) (ety (h.own.vars x h1) (by decide))
      · subst h1
        have hv := h.own.vars (atL R i) hm
        exact oth (v' := vvI (atL R i)) (A := (atL R i).x.vars) hv (ety hv (by decide))
    · obtain ⟨q, hq, rfl⟩ := List.getElem_of_mem hx
      rw [setT_len] at hq
      by_cases e : q = i
      · subst e
        have : (Go.Proofs.Ytggnheekkbideaa.setT R q k y)[q] = { atL R q with x := { (atL R q).x with toks := (atL R q).x.toks.set k y } } := by simp [Go.Proofs.Ytggnheekkbideaa.setT]
        rw [this]
        show RowT _ lo (.slice (atL R q).ta ((atL R q).x.toks.set k y).length (atL R q).tc) _
        rw [List.length_set, hta]
        exact hset
      · have : (Go.Proofs.Ytggnheekkbideaa.setT R i k y)[q]'(by rw [setT_len]; exact hq) = R[q] := by simp [Go.Proofs.Ytggnheekkbideaa.setT, List.getElem_set_ne (Ne.symm e)]
        rw [this]
        exact oth (h.own.toks _ (List.getElem_mem _)) (hdif q hq e)
    · have hb : ∀ q (hq : q < R.length), (tvI ((Go.Proofs.Ytggnheekkbideaa.setT R i k y)[q]'(by rw [setT_len]; exact hq))).ownBlock = (tvI R[q]).ownBlock := by
        intro q hq
        by_cases e : q = i
        · subst e
          have : (Go.Proofs.Ytggnheekkbideaa.setT R q k y)[q]'(by rw [setT_len]; exact hq) = { atL R q with x := { (atL R q).x with toks := (atL R q).x.toks.set k y } } := by simp [Go.Proofs.Ytggnheekkbideaa.setT]
          rw [this, ← hR]
          show (Value.slice (atL R q).ta _ _).ownBlock = (Value.slice (atL R q).ta _ _).ownBlock
          cases (atL R q).ta <;> rfl
        · have : (Go.Proofs.Ytggnheekkbideaa.setT R i k y)[q]'(by rw [setT_len]; exact hq) = R[q] := by simp [Go.Proofs.Ytggnheekkbideaa.setT, List.getElem_set_ne (Ne.symm e)]
          rw [this]
      rw [List.pairwise_iff_getElem]
      intro a b ha hb' hab g h1 h2
      rw [setT_len] at ha hb'
      rw [hb a ha] at h1
      rw [hb b hb'] at h2
      exact List.pairwise_iff_getElem.1 h.own.apart a b ha hb' hab g h1 h2
end
end Go.Proofs.Ytggnheekkbideaa
