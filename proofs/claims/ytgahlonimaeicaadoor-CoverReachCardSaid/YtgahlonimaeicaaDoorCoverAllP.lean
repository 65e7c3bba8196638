/- Each marking that is reached is covered by a node. On lists. -/
import Derived.Test.YtgahlonimaeicaaDoorCoverInv
import Derived.Test.YtgahlonimaeicaaDoorNetEffP
set_option maxRecDepth 100000
namespace Go.Proofs.YtgahlonimaeicaaDoor

theorem wcov_iff : ∀ (a b : List Int), wcoversB a b = true ↔ a.length = b.length ∧ ∀ p : Nat, p < a.length → getI a (p : Int) = -1 ∨ (getI b (p : Int) ≠ -1 ∧ getI b (p : Int) ≤ getI a (p : Int))
  | [], [] => by simp [wcoversB]
  | [], y :: b => by simp [wcoversB]
  | x :: a, [] => by simp [wcoversB]
  | x :: a, y :: b => by
    have ih := wcov_iff a b
    simp only [wcoversB, Bool.and_eq_true, ih, List.length_cons]
    constructor
    · rintro ⟨h0, h1, h2⟩
      refine ⟨by omega, fun p hp => ?_⟩
      cases p with
      | zero =>
        rw [getI_cons_zero, getI_cons_zero]
        simp [moreB] at h0
        omega
      | succ p =>
        rw [getI_cons_succ, getI_cons_succ]
        exact h2 p (by omega)
    · rintro ⟨h1, h2⟩
      refine ⟨?_, by omega, fun p hp => ?_⟩
      · have := h2 0 (by omega)
        rw [getI_cons_zero, getI_cons_zero] at this
        simp [moreB]
        omega
      · have := h2 (p + 1) (by omega)
        rwa [getI_cons_succ, getI_cons_succ] at this

/-- a is b, or more where it is without end. -/
def Over (a b : List Int) : Prop := a.length = b.length ∧ ∀ p : Nat, p < a.length → getI a (p : Int) = -1 ∨ getI a (p : Int) = getI b (p : Int)
theorem Over.refl (a : List Int) : Over a a := ⟨rfl, fun _ _ => Or.inr rfl⟩
theorem Over.trans {a b c : List Int} (h : Over a b) (k : Over b c) : Over a c := by
  refine ⟨h.1.trans k.1, fun p hp => ?_⟩
  have h1 := h.2 p hp
  have h2 := k.2 p (by rw [← h.1]; exact hp)
  omega
theorem Over.cov {a b c : List Int} (h : Over a b) (k : wcoversB b c = true) : wcoversB a c = true := by
  obtain ⟨k1, k2⟩ := (wcov_iff b c).1 k
  refine (wcov_iff a c).2 ⟨h.1.trans k1, fun p hp => ?_⟩
  have h1 := h.2 p hp
  have h2 := k2 p (by rw [← h.1]; exact hp)
  omega
theorem over_widen1 : ∀ m old : List Int, Over (widen1 m old) m
  | [], _ => Over.refl _
  | x :: m, [] => Over.refl _
  | x :: m, o :: old => by
    have ih := over_widen1 m old
    refine ⟨by simp [widen1, len_widen1], fun p hp => ?_⟩
    cases p with
    | zero =>
      rw [widen1, getI_cons_zero, getI_cons_zero]
      split
      · exact Or.inl rfl
      · exact Or.inr rfl
    | succ p =>
      rw [widen1, getI_cons_succ, getI_cons_succ]
      exact ih.2 p (by rw [len_widen1]; simp [widen1, len_widen1] at hp; omega)
theorem over_widenF (l : List Nd) : ∀ (f : Nat) (i : Int) (m : List Int), Over (widenF l f i m) m
  | 0, _, m => Over.refl m
  | f + 1, i, m => by
    rw [widenF]
    split
    · exact Over.refl m
    · refine (over_widenF l f _ _).trans ?_
      split
      · exact over_widen1 _ _
      · exact Over.refl m
theorem over_widenE (l : List Nd) (i : Int) (m : List Int) : Over (widenE l i m) m := over_widenF l _ _ _

theorem getI_add1_ne {by_ : Int} {o : List Int} {p q : Int} (hp : 0 ≤ p) (hq : 0 ≤ q) (h : q ≠ p) : getI (add1 by_ o q) p = getI o p := by
  unfold add1
  split
  · rfl
  · exact getI_addI_ne hq hp h
theorem getI_add1 {by_ : Int} {o : List Int} {p : Int} (hp : 0 ≤ p) (hl : p < (o.length : Int)) : getI (add1 by_ o p) p = if getI o p = -1 then -1 else getI o p + by_ := by
  unfold add1
  split
  · rename_i h; rw [h]
  · exact getI_addI hp hl
theorem getI_addW {by_ : Int} : ∀ {ps o : List Int} {p : Int}, 0 ≤ p → p < (o.length : Int) → PlacesOk o.length ps → ps.Nodup → getI (addW by_ o ps) p = if getI o p = -1 then -1 else getI o p + by_ * hasI ps p
  | [], o, p, _, _, _, _ => by
    simp only [addW, hasI]
    split
    · assumption
    · omega
  | q :: ps, o, p, h0, h1, hp, hn => by
    obtain ⟨hn1, hn2⟩ := List.nodup_cons.1 hn
    have hq := hp q (by simp)
    rw [addW, getI_addW h0 (by rw [len_add1]; exact h1) (by rw [len_add1]; exact fun x hx => hp x (by simp [hx])) hn2]
    by_cases e : q = p
    · subst e
      rw [getI_add1 h0 h1, hasI_no hn1]
      simp only [hasI, beq_self_eq_true, if_true]
      split
      · simp
      · split
        · omega
        · omega
    · rw [getI_add1_ne h0 hq.1 e]
      have : hasI (q :: ps) p = hasI ps p := by simp [hasI, e]
      rw [this]

/-- A wide marking behind a transition. -/
theorem getI_wideE {t : Tr} {a : List Int} (hi : PlacesOk a.length t.inn) (ho : PlacesOk a.length t.out) (ni : t.inn.Nodup) (no : t.out.Nodup) (hw : ∀ p : Nat, p < a.length → -1 ≤ getI a (p : Int)) (hen : t.enB a = true) {p : Nat} (hp : p < a.length) :
    getI (t.wideE a) (p : Int) = if getI a (p : Int) = -1 then -1 else getI a (p : Int) - hasI t.inn p + hasI t.out p := by
  unfold Tr.wideE
  rw [getI_addW (by omega) (by rw [len_addW]; omega) (by rw [len_addW]; exact ho) no, getI_addW (by omega) (by omega) hi ni]
  have hr1 := hasI_range t.inn p
  by_cases e : getI a (p : Int) = -1
  · simp [e]
  · rw [if_neg e, if_neg e]
    have h0 := hw p hp
    have hz : hasI t.inn p = 1 → 1 ≤ getI a (p : Int) := fun h1 => by
      have hmem : (p : Int) ∈ t.inn := by
        rcases Classical.em ((p : Int) ∈ t.inn) with hm | hm
        · exact hm
        · rw [hasI_no hm] at h1; omega
      have : t.inn.any (zeroAt a) = false := by simpa [Tr.enB] using hen
      have := List.any_eq_false.1 this _ hmem
      simp [zeroAt] at this
      omega
    rw [if_neg (by omega)]
    omega

theorem cover_fire {n : Nt} {a m : List Int} (hm : n.Mark m) {t : Tr} (ht : t ∈ n.trans) (h0 : (t.fireE m).1 = 0) (hc : wcoversB a m = true) : t.enB a = true ∧ wcoversB (t.wideE a) (t.fireE m).2 = true := by
  obtain ⟨hl, hp⟩ := (wcov_iff a m).1 hc
  have hin := hm.ok.inn t ht
  have hout := hm.ok.out t ht
  rw [← hm.len, ← hl] at hin hout
  have hen : t.enB m = true := by
    revert h0
    unfold Tr.fireE
    cases t.enB m with
    | true => intro _; rfl
    | false => intro h; cases h
  have hnz : ∀ q ∈ t.inn, 1 ≤ getI m q := fun q hq => by
    have : t.inn.any (zeroAt m) = false := by simpa [Tr.enB] using hen
    have := List.any_eq_false.1 this _ hq
    simp [zeroAt] at this
    have := (tokens_get hm.tok q).1
    omega
  have hen2 : t.enB a = true := by
    have : t.inn.any (zeroAt a) = false := by
      refine List.any_eq_false.2 fun q hq => ?_
      obtain ⟨r, rfl⟩ := Int.eq_ofNat_of_zero_le (hin.1 q hq).1
      have h1 := hp r (by have := (hin.1 _ hq).2; omega)
      have h2 := hnz _ hq
      simp [zeroAt]
      omega
    simp [Tr.enB, this]
  refine ⟨hen2, (wcov_iff _ _).2 ⟨by rw [len_wideE, len_fire, hl], fun p hpl => ?_⟩⟩
  rw [len_wideE] at hpl
  have h1 := hp p hpl
  have h2 := (tokens_get hm.tok (p : Int)).1
  rw [getI_wideE hin.1 hout.1 hin.2.nodup hout.2.nodup (fun q hq => by have := hp q hq; have := (tokens_get hm.tok (q : Int)).1; omega) hen2 hpl]
  have hf := getI_fire hm ht h0 (p := (p : Int)) (by omega) (by omega)
  have h3 := (tokens_get (hm.fire ht h0).tok (p : Int)).1
  split
  · exact Or.inl rfl
  · right
    omega

theorem mem_enGo {m : List Int} : ∀ (ts : List Tr) (k q : Nat) (h : q < ts.length), ts[q].enB m = true → ((k + q : Nat) : Int) ∈ enGo m ts k
  | t :: ts, k, 0, _, he => by
    simp only [List.getElem_cons_zero] at he
    simp [enGo, he]
  | t :: ts, k, q + 1, h, he => by
    have := mem_enGo ts (k + 1) q (by simpa using h) (by simpa using he)
    rw [show k + 1 + q = k + (q + 1) by omega] at this
    simp only [enGo]
    split
    · exact List.mem_cons_of_mem _ this
    · exact this

/-- Is a marking covered by a node? -/
def Covd (l : List Nd) (m : List Int) : Prop := ∃ j, j < l.length ∧ wcoversB (ndAt l j).mark m = true

theorem covd_step {n : Nt} {l : List Nd} (hK : KidOk n l) (hD : ∀ i, i < l.length → Done n l i) {m : List Int} (hm : n.Mark m) (hc : Covd l m) {q : Nat} (hq : q < n.trans.length) (h0 : (n.trans[q].fireE m).1 = 0) : Covd l (n.trans[q].fireE m).2 := by
  obtain ⟨j, hj, hcj⟩ := hc
  obtain ⟨i, hi, hai, hci⟩ : ∃ i, i < l.length ∧ (ndAt l i).again < 0 ∧ wcoversB (ndAt l i).mark m = true := by
    by_cases ha : (ndAt l j).again < 0
    · exact ⟨j, hj, ha, hcj⟩
    · obtain ⟨i, h1, h2, h3, _⟩ := again_first hK hj (by omega)
      exact ⟨i, by omega, h3, by rw [h2]; exact hcj⟩
  have ht := List.getElem_mem hq
  obtain ⟨hen, hcov⟩ := cover_fire hm ht h0 hci
  have hd := hD i hi
  unfold Done at hd
  rw [if_pos hai] at hd
  have hmem := mem_enGo n.trans 0 q hq hen
  rw [← hd, Nat.zero_add] at hmem
  unfold kidsOf at hmem
  obtain ⟨d, hdm, hdt⟩ := List.mem_map.1 hmem
  obtain ⟨hdl, hdp⟩ := List.mem_filter.1 hdm
  have hdp' : d.par = (i : Int) := by simpa using hdp
  obtain ⟨c, hcl, hce⟩ := List.getElem_of_mem hdl
  have hc0 : 0 < c := by
    rcases Nat.eq_zero_or_pos c with e | e
    · subst e
      have h1 := hK.root
      rw [ndAt_eq hK.pos, hce] at h1
      rw [h1] at hdp'
      exact absurd hdp' (by show ¬ ((-1 : Int) = (i : Int)); omega)
    · exact e
  obtain ⟨i2, k2, hk2, a1, a2, a3, a4⟩ := hK.kid c hc0 hcl
  rw [ndAt_eq hcl, hce] at a4
  have e1 : i2 = i := by
    have : d.par = (i2 : Int) := by rw [a4]; rfl
    omega
  subst e1
  have e2 : k2 = q := by
    have : d.tr = (k2 : Int) := by rw [a4]; rfl
    omega
  subst e2
  refine ⟨c, hcl, ?_⟩
  rw [ndAt_eq hcl, hce, a4]
  show wcoversB (widenE (l.take c) i2 (n.trans[k2].wideE (ndAt (l.take c) i2).mark)) _ = true
  rw [ndAt_take a1 (by omega)]
  exact (over_widenE _ _ _).cov hcov

theorem rowGo_cov {n : Nt} {l : List Nd} (hK : KidOk n l) (hD : ∀ i, i < l.length → Done n l i) : ∀ (row m : List Int) (k : Int), n.Mark m → row.any n.badT = false → Covd l m → ∀ i : Nat, i ≤ row.length → (i : Int) ≤ (rowGo n m row k).2.1 - k →
    ∃ m', rowGo n m (row.take i) k = (m', k + i, 0) ∧ Covd l m' ∧ n.Mark m'
  | [], m, k, hm, _, hc, i, hi, _ => by
    obtain rfl : i = 0 := by simpa using hi
    exact ⟨m, by simp [rowGo], hc, hm⟩
  | t :: row, m, k, hm, hb, hc, i, hi, hk => by
    simp only [List.any_cons, Bool.or_eq_false_iff] at hb
    cases i with
    | zero => exact ⟨m, by simp [rowGo], hc, hm⟩
    | succ i =>
      obtain ⟨q, rfl, hq, e, hmem⟩ := Nt.tr_mem hb.1
      simp only [rowGo] at hk
      by_cases h0 : ((n.tr (q : Int)).fireE m).1 = 0
      · rw [if_pos h0] at hk
        have hc' : Covd l ((n.tr (q : Int)).fireE m).2 := by
          rw [e] at h0 ⊢
          exact covd_step hK hD hm hc hq h0
        obtain ⟨m', r1, r2, r3⟩ := rowGo_cov hK hD row _ (k + 1) (hm.fire hmem h0) hb.2 hc' i (by simpa using hi) (by omega)
        refine ⟨m', ?_, r2, r3⟩
        simp only [List.take_succ_cons, rowGo]
        rw [if_pos h0, r1]
        simp only [Prod.mk.injEq, true_and, and_true]
        omega
      · rw [if_neg h0] at hk
        simp only at hk
        omega

theorem wcov_self {a : List Int} : wcoversB a a = true := (wcov_iff a a).2 ⟨rfl, fun p _ => by omega⟩

/-- The law on lists: whatever fires of a row, what it leads to is covered. -/
theorem all_law {n : Nt} {l : List Nd} (hok : n.okB = true) (hg : growE n 4096 = some l) (row : List Int) (i : Nat) (hi : i ≤ row.length) (hk : (i : Int) ≤ (n.rowE (oneL n.places.length n.init) row).2.1) :
    ∃ m', n.rowE (oneL n.places.length n.init) (row.take i) = (m', (i : Int), 0) ∧ Covd l m' ∧ n.Mark m' := by
  have ok := Nt.ok_of hok
  obtain ⟨hK, hD⟩ := growE_inv hg (by omega)
  have htok : Tokens (oneL n.places.length n.init) := by
    intro x hx
    unfold oneL at hx
    rcases mem_set_cases hx with rfl | h2
    · omega
    · have := List.eq_of_mem_replicate h2; omega
  have hlen : (oneL n.places.length n.init).length = n.places.length := by simp [oneL]
  have hmb : n.markB (oneL n.places.length n.init) = true := Nt.mark_mk hok hlen htok
  have hm := Nt.mark_of hmb
  have hc : Covd l (oneL n.places.length n.init) := ⟨0, hK.pos, by rw [hK.root]; exact wcov_self⟩
  unfold Nt.rowE at hk ⊢
  rw [hmb, if_pos rfl] at hk ⊢
  cases hb : row.any n.badT with
  | true =>
    rw [hb, if_pos rfl] at hk
    have hi0 : i = 0 := by simp at hk; omega
    subst hi0
    simp only [List.take_zero, List.any_nil]
    exact ⟨_, by simp [rowGo], hc, hm⟩
  | false =>
    rw [hb, if_neg (by simp)] at hk
    obtain ⟨m', r1, r2, r3⟩ := rowGo_cov hK hD row _ 0 hm hb hc i hi (by omega)
    have hb2 : (row.take i).any n.badT = false := by
      rw [List.any_eq_false] at hb ⊢
      exact fun x hx => hb x (List.mem_of_mem_take hx)
    rw [hb2, if_neg (by simp)]
    exact ⟨m', by rw [r1]; simp, r2, r3⟩

end Go.Proofs.YtgahlonimaeicaaDoor
