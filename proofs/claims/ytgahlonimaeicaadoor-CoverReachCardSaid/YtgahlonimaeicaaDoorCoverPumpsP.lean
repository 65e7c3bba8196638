/- Of a net that is not bounded a row of firings can be fired again and again. On lists. -/
import Derived.Test.YtgahlonimaeicaaDoorCoverWay
import Derived.Test.YtgahlonimaeicaaDoorCoverTreeP
set_option maxRecDepth 100000
namespace Go.Proofs.YtgahlonimaeicaaDoor

theorem wayF_acc (l : List Nd) : ∀ (f : Nat) (i : Int) (acc : List Nd), wayF l f i acc = wayF l f i [] ++ acc
  | 0, _, acc => rfl
  | f + 1, i, acc => by
    rw [wayF, wayF]
    split
    · rfl
    · rw [wayF_acc l f _ (ndAt l i.toNat :: acc), wayF_acc l f _ [ndAt l i.toNat]]
      simp
theorem wayF_fuel {l : List Nd} (hup : Up l) : ∀ (f g : Nat) (i : Int) (acc : List Nd), i < (l.length : Int) → i + 1 ≤ f → i + 1 ≤ g → wayF l f i acc = wayF l g i acc
  | 0, g, i, acc, _, h1, _ => by rw [wayF_neg _ _ (by omega), wayF_neg _ _ (by omega)]
  | f + 1, 0, i, acc, _, _, h2 => by rw [wayF_neg _ _ (by omega), wayF_neg _ _ (by omega)]
  | f + 1, g + 1, i, acc, hi, h1, h2 => by
    rw [wayF, wayF]
    split
    · rfl
    · obtain ⟨q, rfl⟩ := Int.eq_ofNat_of_zero_le (show 0 ≤ i by omega)
      have hq : q < l.length := by omega
      have hp := hup q hq
      have e : (ndAt l ((q : Int)).toNat).par = l[q].par := by rw [show ((q : Int)).toNat = q by omega, ndAt_eq hq]
      rw [e]
      exact wayF_fuel hup f g _ _ (by omega) (by omega) (by omega)
theorem way_step {l : List Nd} (hup : Up l) {i : Nat} (hi : i < l.length) : wayE l i = wayF l (l.length + 1) l[i].par [] ++ [l[i]] := by
  have hp := hup i hi
  unfold wayE
  rw [wayF_step l l.length hi [], wayF_acc, wayF_fuel hup l.length (l.length + 1) _ [] (by omega) (by omega) (by omega)]
theorem way_root {l : List Nd} (hup : Up l) {i : Nat} (hi : i < l.length) (h : l[i].par < 0) : wayE l i = [l[i]] := by
  rw [way_step hup hi, wayF_neg _ _ h]; rfl
theorem way_kid {l : List Nd} (hup : Up l) {i a : Nat} (hi : i < l.length) (h : l[i].par = (a : Int)) : wayE l i = wayE l a ++ [l[i]] := by
  rw [way_step hup hi, h]; rfl

theorem rowGo_append (n : Nt) : ∀ (r s m : List Int) (k : Int), (rowGo n m r k).2.2 = 0 → rowGo n m (r ++ s) k = rowGo n (rowGo n m r k).1 s (k + r.length)
  | [], s, m, k, _ => by simp [rowGo]
  | t :: r, s, m, k, h => by
    simp only [rowGo, List.cons_append] at h ⊢
    by_cases hf : ((n.tr t).fireE m).1 = 0
    · rw [if_pos hf] at h ⊢
      rw [if_pos hf, rowGo_append n r s _ _ h]
      congr 1
      simp; omega
    · rw [if_neg hf] at h
      exact absurd h hf

/-- A tree's marks up to a node are markings. -/
def CleanTo (n : Nt) (l : List Nd) (i : Nat) : Prop := ∀ j, j ≤ i → n.Mark (ndAt l j).mark ∧ ∀ x ∈ (ndAt l j).mark, x ≤ 2147483646

/-- A step of the way, where nothing is without end. -/
theorem clean_step {n : Nt} {l : List Nd} (hK : KidOk n l) {i : Nat} (h0 : 0 < i) (hi : i < l.length) {a : Nat} (ha : (ndAt l i).par = (a : Int)) (hm : n.Mark (ndAt l a).mark) (hs : ∀ x ∈ (ndAt l a).mark, x ≤ 2147483646) :
    a < i ∧ ∃ k, ∃ hk : k < n.trans.length, (ndAt l i).tr = (k : Int) ∧ (n.trans[k].fireE (ndAt l a).mark).1 = 0 ∧ (ndAt l i).mark = widenE (l.take i) a (n.trans[k].fireE (ndAt l a).mark).2 := by
  obtain ⟨a', k, hk, h1, h2, h3, h4⟩ := hK.kid i h0 hi
  have e : a' = a := by
    have : (ndAt l i).par = (a' : Int) := by rw [h4]; rfl
    omega
  subst e
  obtain ⟨f0, f1⟩ := exact_fire hm (List.getElem_mem hk) h3 hs
  refine ⟨h1, k, hk, by rw [h4]; rfl, f0, ?_⟩
  rw [f1, h4]
  show widenE (l.take i) a' (n.trans[k].wideE (ndAt (l.take i) a').mark) = _
  rw [ndAt_take h1 (by omega)]

/-- From each node of a way its rest leads to the way's end. -/
theorem way_fires {n : Nt} {l : List Nd} (hK : KidOk n l) (hup : Up l) : ∀ (i : Nat), i < l.length → CleanTo n l i → ∀ c, c < (wayE l i).length → ∀ d, (wayE l i)[c]? = some d →
    (rowGo n d.mark (((wayE l i).map Nd.tr).drop (c + 1)) 0).2.2 = 0 ∧ (rowGo n d.mark (((wayE l i).map Nd.tr).drop (c + 1)) 0).1 = (ndAt l i).mark ∧ n.Mark d.mark := by
  intro i
  induction i using Nat.strongRecOn with
  | _ i ih =>
    intro hi hcl c hc d hd
    have hlast : (wayE l i).length = c + 1 → (rowGo n d.mark (((wayE l i).map Nd.tr).drop (c + 1)) 0).2.2 = 0 ∧ (rowGo n d.mark (((wayE l i).map Nd.tr).drop (c + 1)) 0).1 = d.mark := fun h => by
      rw [List.drop_eq_nil_of_le (by simp; omega)]
      exact ⟨rfl, rfl⟩
    by_cases h0 : i = 0
    · subst h0
      have hr := way_root hup hi (by rw [← ndAt_eq hi, hK.root]; show (-1 : Int) < 0; omega)
      rw [hr] at hc hd hlast ⊢
      obtain rfl : c = 0 := by simpa using hc
      obtain rfl : l[0] = d := by simpa using hd
      obtain ⟨l1, l2⟩ := hlast rfl
      exact ⟨l1, by rw [l2, ndAt_eq hi], by rw [← ndAt_eq hi]; exact (hcl 0 (by omega)).1⟩
    · obtain ⟨a, k0, hS⟩ := kid_said hK (by omega) hi
      have hal := hS.lt
      obtain ⟨_, k, hk, e1, e2, e3⟩ := clean_step hK (by omega) hi hS.par (hcl a (by omega)).1 (hcl a (by omega)).2
      have hov := over_widenE (l.take i) a (n.trans[k].fireE (ndAt l a).mark).2
      have hno : (-1 : Int) ∉ (ndAt l i).mark := fun hm => by have := ((hcl i (Nat.le_refl _)).1.tok _ hm).1; omega
      have e4 : (ndAt l i).mark = (n.trans[k].fireE (ndAt l a).mark).2 := by
        rw [e3] at hno ⊢
        exact over_same hov hno
      have hw := way_kid hup hi (a := a) (by rw [← ndAt_eq hi]; exact hS.par)
      have hcla : CleanTo n l a := fun j hj => hcl j (by omega)
      by_cases hca : c < (wayE l a).length
      · have hd2 : (wayE l a)[c]? = some d := by
          rw [hw, List.getElem?_append_left hca] at hd
          exact hd
        obtain ⟨g1, g2, g3⟩ := ih a hal (by omega) hcla c hca d hd2
        have hrow : ((wayE l i).map Nd.tr).drop (c + 1) = ((wayE l a).map Nd.tr).drop (c + 1) ++ [(k : Int)] := by
          rw [hw, List.map_append, List.drop_append_of_le_length (by simp; omega)]
          congr 1
          simp only [List.map_cons, List.map_nil]
          rw [← ndAt_eq hi, e1]
        have htr : n.tr (k : Int) = n.trans[k] := by simp [Nt.tr, hk]
        rw [hrow, rowGo_append n _ _ _ _ g1, g2]
        simp only [rowGo, htr]
        rw [if_pos e2]
        exact ⟨rfl, e4.symm, g3⟩
      · have hcl' : (wayE l i).length = c + 1 := by
          rw [hw, List.length_append, List.length_singleton] at hc ⊢
          omega
        obtain ⟨l1, l2⟩ := hlast hcl'
        have hdd : d = l[i] := by
          have hc2 : c = (wayE l a).length := by
            rw [hw, List.length_append, List.length_singleton] at hcl'
            omega
          rw [hw, hc2, List.getElem?_append_right (Nat.le_refl _)] at hd
          simpa using hd.symm
        exact ⟨l1, by rw [l2, hdd, ndAt_eq hi], by rw [hdd, ← ndAt_eq hi]; exact (hcl i (Nat.le_refl _)).1⟩

theorem widen1_self : ∀ m : List Int, widen1 m m = m
  | [] => rfl
  | x :: m => by
    rw [widen1, widen1_self m, if_neg]
    simp [moreB]

/-- What is widened is more than some node of the way. -/
theorem widen_same {l : List Nd} (hup : Up l) {i : Nat} (hi : i ≤ l.length) (m : List Int) : ∀ a, a < i → (∀ d ∈ wayE l a, wcoversB m d.mark = true → widen1 m d.mark = m) → widenE (l.take i) (a : Int) m = m := by
  have hupt : Up (l.take i) := fun j hj => by
    rw [List.getElem_take]
    exact hup j (by simp at hj; omega)
  intro a
  induction a using Nat.strongRecOn with
  | _ a ih =>
    intro ha hall
    have hal : a < l.length := by omega
    have hat : a < (l.take i).length := by simp; omega
    have hmem : l[a] ∈ wayE l a := by rw [way_step hup hal]; simp
    rw [widenE_step hupt hat, List.getElem_take]
    have e : (if wcoversB m l[a].mark = true then widen1 m l[a].mark else m) = m := by
      split
      · exact hall _ hmem (by assumption)
      · rfl
    rw [e]
    by_cases hn : l[a].par < 0
    · exact widenE_neg _ hn _
    · obtain ⟨b, hb⟩ := Int.eq_ofNat_of_zero_le (show 0 ≤ l[a].par by omega)
      have := (hup a hal).2
      rw [hb] at this ⊢
      refine ih b (by omega) (by omega) fun d hd => hall d ?_
      rw [way_kid hup hal hb]
      exact List.mem_append_left _ hd

theorem wcov_tok : ∀ {a b : List Int}, Tokens a → Tokens b → wcoversB a b = true → coversB a b = true
  | [], [], _, _, _ => rfl
  | x :: a, y :: b, ha, hb, h => by
    simp only [wcoversB, Bool.and_eq_true] at h
    have h1 := ha x (by simp)
    have h2 := hb y (by simp)
    simp only [coversB, Bool.and_eq_true, decide_eq_true_eq]
    refine ⟨?_, wcov_tok (fun z hz => ha z (by simp [hz])) (fun z hz => hb z (by simp [hz])) h.2⟩
    have := h.1
    simp [moreB] at this
    omega
  | [], _ :: _, _, _, h => by simp [wcoversB] at h
  | _ :: _, [], _, _, h => by simp [wcoversB] at h

theorem fire_small {n : Nt} {m : List Int} (hm : n.Mark m) {t : Tr} (ht : t ∈ n.trans) {U : Int} (hU : U ≤ 2147483646) (hs : ∀ x ∈ m, x ≤ U) : (t.fireE m).1 ≠ 91 ∧ ((t.fireE m).1 = 0 → ∀ x ∈ (t.fireE m).2, x ≤ U + 1) := by
  rcases fireE_code t m with ⟨_, h⟩ | ⟨he, _⟩
  · exact ⟨by omega, fun h0 => by omega⟩
  · obtain ⟨f0, f1⟩ := exact_fire hm ht he (fun x hx => by have := hs x hx; omega)
    refine ⟨by omega, fun _ x hx => ?_⟩
    obtain ⟨p, hp, rfl⟩ := List.getElem_of_mem hx
    rw [len_fire] at hp
    have hg := getI_fire hm ht f0 (p := (p : Int)) (by omega) (by omega)
    rw [getI_eq (by rw [len_fire]; exact hp), getI_eq hp] at hg
    have h1 := hasI_range t.inn p
    have h2 := hasI_range t.out p
    have := hs _ (List.getElem_mem hp)
    omega
theorem rowGo_small (n : Nt) : ∀ (row m : List Int) (k U : Int), n.Mark m → row.any n.badT = false → U + row.length ≤ 2147483646 → (∀ x ∈ m, x ≤ U) → (rowGo n m row k).2.2 ≠ 91 ∧ ((rowGo n m row k).2.2 = 0 → ∀ x ∈ (rowGo n m row k).1, x ≤ U + row.length)
  | [], m, k, U, _, _, _, hs => ⟨by simp [rowGo], fun _ x hx => by have := hs x hx; simp; omega⟩
  | t :: row, m, k, U, hm, hb, hU, hs => by
    simp only [List.any_cons, Bool.or_eq_false_iff] at hb
    obtain ⟨q, rfl, _, _, hmem⟩ := Nt.tr_mem hb.1
    simp only [List.length_cons] at hU
    obtain ⟨h1, h2⟩ := fire_small hm hmem (U := U) (by omega) hs
    simp only [rowGo]
    by_cases h0 : ((n.tr (q : Int)).fireE m).1 = 0
    · rw [if_pos h0]
      obtain ⟨g1, g2⟩ := rowGo_small n row _ (k + 1) (U + 1) (hm.fire hmem h0) hb.2 (by omega) (h2 h0)
      exact ⟨g1, fun hz x hx => by have := g2 hz x hx; simp only [List.length_cons]; omega⟩
    · rw [if_neg h0]
      exact ⟨h1, fun hz => absurd hz h0⟩

def subL (a b : List Int) : List Int := List.zipWith (· - ·) a b
theorem shift_of_cov : ∀ {a b : List Int}, coversB a b = true → Shift (subL a b) a b := by
  intro a b h
  have hl := coversB_len a b h
  have hlen : (subL a b).length = a.length := by simp [subL, hl]
  have get : ∀ p : Nat, p < a.length → getI (subL a b) (p : Int) = getI a (p : Int) - getI b (p : Int) := fun p hp => by
    rw [getI_eq (by omega), getI_eq hp, getI_eq (by omega)]
    simp [subL]
  have nn : ∀ (a b : List Int), coversB a b = true → ∀ p : Nat, p < a.length → getI b (p : Int) ≤ getI a (p : Int) := by
    intro a
    induction a with
    | nil => intro b _ p hp; simp at hp
    | cons x a ih =>
      intro b hb p hp
      cases b with
      | nil => simp [coversB] at hb
      | cons y b =>
        simp only [coversB, Bool.and_eq_true, decide_eq_true_eq] at hb
        cases p with
        | zero => rw [getI_cons_zero, getI_cons_zero]; exact hb.1
        | succ p => rw [getI_cons_succ, getI_cons_succ]; exact ih b hb.2 p (by simpa using hp)
  exact ⟨hlen.symm, by rw [hlen, hl], fun p hp => by rw [get p (by omega)]; have := nn a b h p (by omega); omega, fun p hp => by rw [get p (by omega)]; omega⟩

/-- A marking from which a row fires and is so much more behind it. -/
structure Pump (n : Nt) (row dl m : List Int) (V : Int) : Prop where
  mark : n.Mark m
  le : ∀ x ∈ m, x ≤ V
  ok : (rowGo n m row 0).2.2 = 0
  sh : Shift dl (rowGo n m row 0).1 m
theorem Pump.next {n : Nt} {row dl m : List Int} {V : Int} (h : Pump n row dl m V) (hb : row.any n.badT = false) (hV : V + row.length + row.length ≤ 2147483646) : Pump n row dl (rowGo n m row 0).1 (V + row.length) := by
  have hm2 := rowGo_mark n row m 0 h.mark hb h.ok
  have hle := (rowGo_small n row m 0 V h.mark hb (by omega) h.le).2 h.ok
  have h91 := (rowGo_small n row _ 0 (V + row.length) hm2 hb (by omega) hle).1
  rcases Shift.row n row dl _ _ 0 h.sh h.mark hm2 hb h.ok with e | ⟨e1, e2⟩
  · exact absurd e h91
  · exact ⟨hm2, hle, e1, e2⟩
theorem Pump.more {n : Nt} {row dl m : List Int} {V : Int} (h : Pump n row dl m V) (hd : ∃ p : Nat, p < dl.length ∧ getI dl (p : Int) ≠ 0) : coversB (rowGo n m row 0).1 m = true ∧ (rowGo n m row 0).1 ≠ m := by
  refine ⟨h.sh.covers, fun e => ?_⟩
  obtain ⟨p, hp, hp0⟩ := hd
  have := h.sh.eq p hp
  rw [e] at this
  omega
theorem Pump.start {n : Nt} {row m : List Int} {V : Int} (hm : n.Mark m) (hle : ∀ x ∈ m, x ≤ V) (hok : (rowGo n m row 0).2.2 = 0) (hc : coversB (rowGo n m row 0).1 m = true) (hne : (rowGo n m row 0).1 ≠ m) :
    Pump n row (subL (rowGo n m row 0).1 m) m V ∧ ∃ p : Nat, p < (subL (rowGo n m row 0).1 m).length ∧ getI (subL (rowGo n m row 0).1 m) (p : Int) ≠ 0 := by
  have sh := shift_of_cov hc
  refine ⟨⟨hm, hle, hok, sh⟩, ?_⟩
  rcases Classical.em (∃ p : Nat, p < (subL (rowGo n m row 0).1 m).length ∧ getI (subL (rowGo n m row 0).1 m) (p : Int) ≠ 0) with h | h
  · exact h
  · exfalso
    apply hne
    refine list_ext_getI (sh.la.trans sh.lb.symm) fun p hp => ?_
    have h1 := sh.eq p (by rw [← sh.la]; exact hp)
    rcases Classical.em (getI (subL (rowGo n m row 0).1 m) (p : Int) = 0) with e | e
    · omega
    · exact absurd ⟨p, by rw [← sh.la]; exact hp, e⟩ h

/-- As net.Row answers it. -/
theorem rowE_of {n : Nt} {m row : List Int} (hok : n.okB = true) (hm : n.Mark m) (hb : row.any n.badT = false) (h : (rowGo n m row 0).2.2 = 0) : n.rowE m row = ((rowGo n m row 0).1, (row.length : Int), 0) := by
  unfold Nt.rowE
  rw [Nt.mark_mk hok hm.len hm.tok, if_pos rfl, hb, if_neg (by simp)]
  have := rowGo_all n row m 0 h
  exact Prod.ext rfl (Prod.ext (by rw [this, Int.zero_add]) h)

theorem way_len {l : List Nd} (hup : Up l) : ∀ i, i < l.length → 1 ≤ (wayE l i).length ∧ (wayE l i).length ≤ i + 1 := by
  intro i
  induction i using Nat.strongRecOn with
  | _ i ih =>
    intro hi
    by_cases hn : l[i].par < 0
    · rw [way_root hup hi hn]; simp
    · obtain ⟨a, ha⟩ := Int.eq_ofNat_of_zero_le (show 0 ≤ l[i].par by omega)
      have hlt := (hup i hi).2
      rw [ha] at hlt
      rw [way_kid hup hi ha, List.length_append, List.length_singleton]
      have := ih a (by omega) (by omega)
      omega
theorem way_row {n : Nt} {l : List Nd} (hK : KidOk n l) (hup : Up l) : ∀ i, i < l.length → (((wayE l i).map Nd.tr).drop 1).any n.badT = false := by
  intro i
  induction i using Nat.strongRecOn with
  | _ i ih =>
    intro hi
    by_cases h0 : i = 0
    · subst h0
      rw [way_root hup hi (by rw [← ndAt_eq hi, hK.root]; show (-1 : Int) < 0; omega)]
      rfl
    · obtain ⟨a, k, hS⟩ := kid_said hK (by omega) hi
      have hal := hS.lt
      have h1 := (way_len hup a (by omega)).1
      rw [way_kid hup hi (a := a) (by rw [← ndAt_eq hi]; exact hS.par), List.map_append, List.drop_append_of_le_length (by simp; omega), List.any_append, ih a hal (by omega)]
      simp only [List.map_cons, List.map_nil, List.any_cons, List.any_nil, Bool.or_false, Bool.false_or]
      rw [← ndAt_eq hi, hS.tr]
      have := hS.kk
      simp [Nt.badT]
      omega

theorem way_le {l : List Nd} (hup : Up l) {V : Int} : ∀ {i : Nat}, (∀ j, j ≤ i → ∀ x ∈ (ndAt l j).mark, x ≤ V) → i < l.length → ∀ d ∈ wayE l i, ∀ x ∈ d.mark, x ≤ V := by
  intro i
  induction i using Nat.strongRecOn with
  | _ i ih =>
    intro hV hi d hd
    have hself : ∀ x ∈ l[i].mark, x ≤ V := by rw [← ndAt_eq hi]; exact hV i (Nat.le_refl _)
    by_cases hn : l[i].par < 0
    · rw [way_root hup hi hn] at hd
      obtain rfl : d = l[i] := by simpa using hd
      exact hself
    · obtain ⟨a, ha⟩ := Int.eq_ofNat_of_zero_le (show 0 ≤ l[i].par by omega)
      have hlt := (hup i hi).2
      rw [ha] at hlt
      rw [way_kid hup hi ha] at hd
      rcases List.mem_append.1 hd with hd | hd
      · exact ih a (by omega) (fun j hj => hV j (by omega)) (by omega) d hd
      · obtain rfl : d = l[i] := by simpa using hd
        exact hself

/-- What the way to the first node with Many says. -/
theorem pump_law {n : Nt} {l : List Nd} (hok : n.okB = true) (hK : KidOk n l) (hG : GOk n 4096 l) {i : Nat} (hi : i < l.length) (hm : (-1 : Int) ∈ (ndAt l i).mark) (hf : ∀ j, j < i → (-1 : Int) ∉ (ndAt l j).mark) :
    ∃ ms : List Int, 2 ≤ (wayE l i).length ∧ (wayE l i).length ≤ 4096 ∧ (((wayE l i).map Nd.tr).drop 1).any n.badT = false ∧
      (∀ c, c + 1 < (wayE l i).length → ∀ d, (wayE l i)[c]? = some d → (rowGo n d.mark (((wayE l i).map Nd.tr).drop (c + 1)) 0).2.2 = 0 ∧ (rowGo n d.mark (((wayE l i).map Nd.tr).drop (c + 1)) 0).1 = ms ∧ n.Mark d.mark ∧ ∀ x ∈ d.mark, x ≤ 33554433) ∧
      ∃ c d, c + 1 < (wayE l i).length ∧ (wayE l i)[c]? = some d ∧ coversB ms d.mark = true ∧ ms ≠ d.mark := by
  have hup := hG.up
  have hlm := hG.le
  have h0 : 0 < i := by
    rcases Nat.eq_zero_or_pos i with e | e
    · subst e
      rw [hK.root] at hm
      have : (-1 : Int) ∈ oneL n.places.length n.init := hm
      unfold oneL at this
      rcases mem_set_cases this with e | h2
      · omega
      · have := List.eq_of_mem_replicate h2; omega
    · exact e
  have hb : ∀ j, j < i → (∀ x ∈ (ndAt l j).mark, 0 ≤ x ∧ x ≤ 33554433) ∧ n.Mark (ndAt l j).mark := fun j hj => by
    have hjl : j < l.length := by omega
    have hw := hG.wide j hjl
    rw [← ndAt_eq hjl] at hw
    have hr : ∀ x ∈ (ndAt l j).mark, 0 ≤ x ∧ x ≤ 33554433 := fun x hx => by
      have h1 := hw x hx
      have h2 : x ≠ -1 := fun e => hf j hj (e ▸ hx)
      omega
    refine ⟨hr, Nt.mark_of (Nt.mark_mk hok ?_ fun x hx => ?_)⟩
    · rw [ndAt_eq hjl]; exact hG.len _ (List.getElem_mem hjl)
    · have := hr x hx; omega
  obtain ⟨a, k0, hS⟩ := kid_said hK h0 hi
  have hal := hS.lt
  have hma := (hb a hal).2
  obtain ⟨_, k, hk, e1, e2, e3⟩ := clean_step hK h0 hi hS.par hma (fun x hx => by have := ((hb a hal).1 x hx).2; omega)
  have hms := hma.fire (List.getElem_mem hk) e2
  have hcla : CleanTo n l a := fun j hj => ⟨(hb j (by omega)).2, fun x hx => by have := ((hb j (by omega)).1 x hx).2; omega⟩
  have hw := way_kid hup hi (a := a) (by rw [← ndAt_eq hi]; exact hS.par)
  have hla := way_len hup a (by omega)
  have hli : (wayE l i).length = (wayE l a).length + 1 := by rw [hw]; simp
  have htr : n.tr (k : Int) = n.trans[k] := by simp [Nt.tr, hk]
  refine ⟨(n.trans[k].fireE (ndAt l a).mark).2, by omega, by omega, way_row hK hup i hi, fun c hc d hd => ?_, ?_⟩
  · have hca : c < (wayE l a).length := by omega
    have hd2 : (wayE l a)[c]? = some d := by
      rw [hw, List.getElem?_append_left hca] at hd
      exact hd
    obtain ⟨g1, g2, g3⟩ := way_fires hK hup a (by omega) hcla c hca d hd2
    have hrow : ((wayE l i).map Nd.tr).drop (c + 1) = ((wayE l a).map Nd.tr).drop (c + 1) ++ [(k : Int)] := by
      rw [hw, List.map_append, List.drop_append_of_le_length (by simp; omega)]
      congr 1
      simp only [List.map_cons, List.map_nil]
      rw [← ndAt_eq hi, e1]
    rw [hrow, rowGo_append n _ _ _ _ g1, g2]
    simp only [rowGo, htr]
    rw [if_pos e2]
    refine ⟨rfl, rfl, g3, ?_⟩
    exact way_le hup (fun j hj => fun x hx => ((hb j (by omega)).1 x hx).2) (by omega) _ (List.mem_of_getElem? hd2)
  · have hne : widenE (l.take i) (a : Int) (n.trans[k].fireE (ndAt l a).mark).2 ≠ (n.trans[k].fireE (ndAt l a).mark).2 := fun e => by
      rw [e3, e] at hm
      have := (hms.tok _ hm).1
      omega
    rcases Classical.em (∀ d ∈ wayE l a, wcoversB (n.trans[k].fireE (ndAt l a).mark).2 d.mark = true → widen1 (n.trans[k].fireE (ndAt l a).mark).2 d.mark = (n.trans[k].fireE (ndAt l a).mark).2) with h | h
    · exact absurd (widen_same hup (by omega) _ a hal h) hne
    · simp only [Classical.not_forall] at h
      obtain ⟨d, hd, hc, hx⟩ := h
      obtain ⟨c, hcl, hce⟩ := List.getElem_of_mem hd
      have hd2 : (wayE l a)[c]? = some d := by rw [List.getElem?_eq_getElem hcl, hce]
      refine ⟨c, d, by omega, by rw [hw, List.getElem?_append_left hcl]; exact hd2, ?_, fun e => hx ?_⟩
      · exact wcov_tok hms.tok (way_fires hK hup a (by omega) hcla c hcl d hd2).2.2.tok hc
      · rw [← e]; exact widen1_self _

end Go.Proofs.YtgahlonimaeicaaDoor
