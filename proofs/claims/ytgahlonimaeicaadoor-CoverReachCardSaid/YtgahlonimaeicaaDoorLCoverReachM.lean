/- Texts merged by merge.py: CoverReachP, CoverReachQ, ReachExp, ReachRead2, CoverLong, Open, OpenNet, CoverLaid, LCoverReach. -/
import Derived.Test.YtgahlonimaeicaaDoorCoverPumpsP
import Derived.Test.YtgahlonimaeicaaDoorCoverExact
import Derived.Test.YtgahlonimaeicaaDoorReachAllP
import Derived.Test.YtgahlonimaeicaaDoorCoverTreeP
import Derived.Test.YtgahlonimaeicaaDoorReachExplore
import Derived.Test.YtgahlonimaeicaaDoorCoverGrow
import Derived.Test.YtgahlonimaeicaaDoorCoverNode
import Derived.Test.YtgahlonimaeicaaDoorCoverWorks2
import Derived.Test.YtgahlonimaeicaaDoorBase
import Derived.Deep.Slices
import Derived.Deep.Strs
import Derived.SizedLaws
import Derived.Lib.SmallJoins
import Derived.Test.YtgahlonimaeicaaDoorCoverKey
import Derived.Test.YtgahlonimaeicaaDoorStrInt
import Derived.LaidMore
import Derived.OpenShut
import Derived.Stop.Joined
import Derived.Lib.LaidTab
import Derived.Stop.LaidErr
import Derived.Deep.OwnRows
set_option maxRecDepth 100000
/- In a bounded net the nodes' markings are just those that are reached; a net that reaches few is bounded. On lists; no program here. -/
namespace Go.Proofs.YtgahlonimaeicaaDoor

/-- What firings lead to. -/
inductive Rch (n : Nt) : List Int → Prop where
  | root : Rch n (oneL n.places.length n.init)
  | step {m : List Int} {k : Nat} (h : Rch n m) (hk : k < n.trans.length) (hf : (n.trans[k].fireE m).1 = 0) : Rch n (n.trans[k].fireE m).2
theorem Rch.mark {n : Nt} (hok : n.okB = true) {m : List Int} (h : Rch n m) : n.Mark m := by
  induction h with
  | root => exact ((XOk.first (most := 1) hok (Nat.le_refl _)).mark 0 (by simp [rootG])).1
  | step _ hk hf ih => exact ih.fire (List.getElem_mem hk) hf
theorem tr_of {n : Nt} {t : Int} (h : n.badT t = false) : ∃ k : Nat, ∃ hk : k < n.trans.length, t = (k : Int) ∧ n.tr t = n.trans[k] := by
  simp only [Nt.badT, Bool.or_eq_false_iff, decide_eq_false_iff_not] at h
  obtain ⟨k, rfl⟩ := Int.eq_ofNat_of_zero_le (show 0 ≤ t by omega)
  exact ⟨k, by omega, rfl, by simp [Nt.tr, show k < n.trans.length by omega]⟩
theorem Rch.row {n : Nt} : ∀ (row m : List Int) (k : Int), Rch n m → row.any n.badT = false → (rowGo n m row k).2.2 = 0 → Rch n (rowGo n m row k).1
  | [], m, k, h, _, _ => h
  | t :: row, m, k, h, hb, h0 => by
    simp only [List.any_cons, Bool.or_eq_false_iff] at hb
    obtain ⟨q, hq, rfl, e⟩ := tr_of hb.1
    simp only [rowGo] at h0 ⊢
    rw [e] at h0 ⊢
    by_cases hf : (n.trans[q].fireE m).1 = 0
    · rw [if_pos hf] at h0 ⊢
      exact Rch.row row _ _ (h.step hq hf) hb.2 h0
    · rw [if_neg hf] at h0
      exact absurd h0 hf
theorem rch_found {n : Nt} {most : Nat} {g : Gr} (x : XFull n most g) {m : List Int} (h : Rch n m) : ∃ i, i < g.marks.length ∧ mkAt g i = m := by
  induction h with
  | root => exact ⟨0, x.ok.pos, x.ok.root⟩
  | @step m k _ hk hf ih =>
    obtain ⟨i, hi, rfl⟩ := ih
    have e : n.tr (k : Int) = n.trans[k] := by simp [Nt.tr, hk]
    have hb : ([(k : Int)] : List Int).any n.badT = false := by simp [Nt.badT]; omega
    have hr : rowGo n (mkAt g i) [(k : Int)] 0 = ((n.trans[k].fireE (mkAt g i)).2, 1, 0) := by
      simp only [rowGo]
      rw [e, if_pos hf]; rfl
    obtain ⟨j, hj, h1, _⟩ := x.short [(k : Int)] (mkAt g i) i 0 hi rfl hb (by rw [hr])
    exact ⟨j, hj, by rw [h1, hr]⟩
theorem found_rch {n : Nt} {most : Nat} {g : Gr} (x : XOk n most g) {i : Nat} (hi : i < g.marks.length) : Rch n (mkAt g i) := by
  obtain ⟨h1, h2⟩ := x.row hi
  have := Rch.row (gwayE g i) (mkAt g 0) 0 (by rw [x.root]; exact Rch.root) h2 (by rw [h1])
  rw [h1] at this
  exact this
theorem found_mem {n : Nt} {most : Nat} {g : Gr} (x : XFull n most g) {m : List Int} : m ∈ g.marks ↔ Rch n m := by
  constructor
  · intro h
    obtain ⟨i, hi, rfl⟩ := List.getElem_of_mem h
    rw [← mkAt_eq hi]; exact found_rch x.ok hi
  · intro h
    obtain ⟨i, hi, rfl⟩ := rch_found x h
    rw [mkAt_eq hi]; exact List.getElem_mem hi

theorem nodup_le {α : Type} [BEq α] [LawfulBEq α] : ∀ {a b : List α}, a.Nodup → (∀ x ∈ a, x ∈ b) → a.length ≤ b.length
  | [], b, _, _ => by simp
  | x :: a, b, hn, hs => by
    obtain ⟨h1, h2⟩ := List.nodup_cons.1 hn
    have hx := hs x (by simp)
    have := nodup_le (a := a) (b := b.erase x) h2 (fun y hy => by
      have hyx : y ≠ x := fun e => h1 (e ▸ hy)
      exact (List.mem_erase_of_ne hyx).2 (hs y (by simp [hy])))
    rw [List.length_erase_of_mem hx] at this
    have hp : 0 < b.length := List.length_pos_of_mem hx
    simp only [List.length_cons]
    omega

theorem way_mem {l : List Nd} (hup : Up l) : ∀ {i : Nat}, i < l.length → ∀ d ∈ wayE l i, ∃ j, j ≤ i ∧ d = ndAt l j := by
  intro i
  induction i using Nat.strongRecOn with
  | _ i ih =>
    intro hi d hd
    by_cases hn : l[i].par < 0
    · rw [way_root hup hi hn] at hd
      obtain rfl : d = l[i] := by simpa using hd
      exact ⟨i, Nat.le_refl _, (ndAt_eq hi).symm⟩
    · obtain ⟨a, ha⟩ := Int.eq_ofNat_of_zero_le (show 0 ≤ l[i].par by omega)
      have hlt := (hup i hi).2
      rw [ha] at hlt
      rw [way_kid hup hi ha] at hd
      rcases List.mem_append.1 hd with hd | hd
      · obtain ⟨j, hj, e⟩ := ih a (by omega) (by omega) d hd
        exact ⟨j, by omega, e⟩
      · obtain rfl : d = l[i] := by simpa using hd
        exact ⟨i, Nat.le_refl _, (ndAt_eq hi).symm⟩
/-- Without -1 a tree's node is its parent's firing (up to a number). -/
def BdTo (l : List Nd) (N : Nat) : Prop := ∀ j, j < N → (-1 : Int) ∉ (ndAt l j).mark
def Bd (l : List Nd) : Prop := BdTo l l.length
theorem bd_mark {n : Nt} {l : List Nd} (hok : n.okB = true) (hG : GOk n 4096 l) {N : Nat} (hB : BdTo l N) {j : Nat} (hjN : j < N) (hj : j < l.length) : n.Mark (ndAt l j).mark ∧ ∀ x ∈ (ndAt l j).mark, x ≤ 33554433 := by
  have hlm := hG.le
  have hw := hG.wide j hj
  rw [← ndAt_eq hj] at hw
  have hr : ∀ x ∈ (ndAt l j).mark, 0 ≤ x ∧ x ≤ 33554433 := fun x hx => by
    have h1 := hw x hx
    have h2 : x ≠ -1 := fun e => hB j hjN (e ▸ hx)
    omega
  refine ⟨Nt.mark_of (Nt.mark_mk hok ?_ fun x hx => ?_), fun x hx => (hr x hx).2⟩
  · rw [ndAt_eq hj]; exact hG.len _ (List.getElem_mem hj)
  · have := hr x hx; omega
theorem bd_kid {n : Nt} {l : List Nd} (hok : n.okB = true) (hK : KidOk n l) (hG : GOk n 4096 l) {N : Nat} (hB : BdTo l N) {i : Nat} (h0 : 0 < i) (hiN : i < N) (hi : i < l.length) :
    ∃ a k, ∃ hk : k < n.trans.length, a < i ∧ (ndAt l i).par = (a : Int) ∧ (ndAt l i).tr = (k : Int) ∧ (n.trans[k].fireE (ndAt l a).mark).1 = 0 ∧ (ndAt l i).mark = (n.trans[k].fireE (ndAt l a).mark).2 := by
  obtain ⟨a, k0, hk0, h1, h2, h3, h4⟩ := hK.kid i h0 hi
  have hp : (ndAt l i).par = (a : Int) := by rw [h4]; rfl
  have hma := bd_mark hok hG hB (show a < N by omega) (show a < l.length by omega)
  obtain ⟨_, k, hk, e1, e2, e3⟩ := clean_step hK h0 hi hp hma.1 (fun x hx => by have := hma.2 x hx; omega)
  refine ⟨a, k, hk, h1, hp, e1, e2, ?_⟩
  have hov := over_widenE (l.take i) (a : Int) (n.trans[k].fireE (ndAt l a).mark).2
  rw [← e3] at hov
  exact over_same hov (hB i hiN)
theorem tree_rch {n : Nt} {l : List Nd} (hok : n.okB = true) (hK : KidOk n l) (hG : GOk n 4096 l) {N : Nat} (hB : BdTo l N) : ∀ i, i < N → i < l.length → Rch n (ndAt l i).mark := by
  intro i
  induction i using Nat.strongRecOn with
  | _ i ih =>
    intro hiN hi
    by_cases h0 : i = 0
    · subst h0; rw [hK.root]; exact Rch.root
    · obtain ⟨a, k, hk, h1, _, _, h2, h3⟩ := bd_kid hok hK hG hB (by omega) hiN hi
      rw [h3]
      exact (ih a h1 (by omega) (by omega)).step hk h2
theorem rch_tree {n : Nt} {l : List Nd} (hok : n.okB = true) (hK : KidOk n l) (hD : ∀ i, i < l.length → Done n l i) (hG : GOk n 4096 l) (hB : Bd l) {m : List Int} (h : Rch n m) : ∃ i, i < l.length ∧ (ndAt l i).mark = m ∧ (ndAt l i).again < 0 := by
  have first : ∀ j, j < l.length → ∃ i, i < l.length ∧ (ndAt l i).mark = (ndAt l j).mark ∧ (ndAt l i).again < 0 := by
    intro j hj
    by_cases ha : (ndAt l j).again < 0
    · exact ⟨j, hj, rfl, ha⟩
    · obtain ⟨i, hi, e, h1, _⟩ := again_first hK hj (by omega)
      exact ⟨i, by omega, e, h1⟩
  induction h with
  | root => exact ⟨0, hK.pos, by rw [hK.root]; rfl, by rw [hK.root]; show (-1 : Int) < 0; decide⟩
  | @step m k _ hk hf ih =>
    obtain ⟨i, hi, rfl, ha⟩ := ih
    have hen : n.trans[k].enB (ndAt l i).mark = true := by
      cases e : n.trans[k].enB (ndAt l i).mark with
      | true => rfl
      | false => unfold Tr.fireE at hf; rw [e] at hf; simp at hf
    have hmem : (k : Int) ∈ kidsOf l i := by
      have := hD i hi
      unfold Done at this
      rw [this, if_pos ha]
      exact enE_of hk hen
    unfold kidsOf at hmem
    obtain ⟨d, hd, hdt⟩ := List.mem_map.1 hmem
    obtain ⟨hdl, hdp⟩ := List.mem_filter.1 hd
    obtain ⟨j, hj, rfl⟩ := List.getElem_of_mem hdl
    have hp : l[j].par = (i : Int) := by simpa using hdp
    have h0 : 0 < j := by
      rcases Nat.eq_zero_or_pos j with e | e
      · subst e
        have := hK.root
        rw [ndAt_eq hj] at this
        rw [this] at hp
        simp [rootNd] at hp
      · exact e
    obtain ⟨a, k', hk', h1, h2, h3, h4, h5⟩ := bd_kid hok hK hG hB h0 hj hj
    rw [ndAt_eq hj] at h2 h3 h5
    obtain rfl : a = i := by omega
    obtain rfl : k' = k := by omega
    obtain ⟨i', hi', e, ha'⟩ := first j hj
    exact ⟨i', hi', by rw [e, ndAt_eq hj, h5], ha'⟩

/-- The nodes that are the first of their marking. -/
def firsts (l : List Nd) : List Nd := l.filter fun d => decide (d.again < 0)
theorem first_new {n : Nt} {l : List Nd} (hK : KidOk n l) {i j : Nat} (hij : i < j) (hj : j < l.length) (ha : (ndAt l j).again < 0) : (ndAt l i).mark ≠ (ndAt l j).mark := by
  intro e
  obtain ⟨a, k, hk, h1, h2, h3, h4⟩ := hK.kid j (by omega) hj
  have hag : (ndAt l j).again = againE (l.take j) (ndAt l j).mark := by rw [h4]; rfl
  rw [hag] at ha
  unfold againE at ha
  cases hf : (l.take j).findIdx? (fun d => d.mark == (ndAt l j).mark) with
  | some q => rw [hf] at ha; simp at ha; omega
  | none =>
    have := List.findIdx?_eq_none_iff.1 hf (ndAt l i) (by
      rw [ndAt_eq (by omega)]
      exact List.mem_iff_getElem.2 ⟨i, by simp; omega, by simp⟩)
    rw [e] at this
    simp at this
theorem firsts_nodup {n : Nt} {l : List Nd} (hK : KidOk n l) : ((firsts l).map Nd.mark).Nodup := by
  unfold List.Nodup firsts
  rw [List.pairwise_map]
  have hp : l.Pairwise (fun a b => b.again < 0 → a.mark ≠ b.mark) := by
    rw [List.pairwise_iff_getElem]
    intro i j hi hj hij ha
    have := first_new hK hij hj (by rw [ndAt_eq hj]; exact ha)
    rwa [ndAt_eq hi, ndAt_eq hj] at this
  have h2 := hp.filter (fun d => decide (d.again < 0))
  refine List.Pairwise.imp_of_mem ?_ h2
  intro a b _ hb h
  exact h (of_decide_eq_true (List.mem_filter.1 hb).2)
theorem firsts_mem {n : Nt} {l : List Nd} (hok : n.okB = true) (hK : KidOk n l) (hD : ∀ i, i < l.length → Done n l i) (hG : GOk n 4096 l) (hB : Bd l) {m : List Int} : m ∈ (firsts l).map Nd.mark ↔ Rch n m := by
  constructor
  · intro h
    obtain ⟨d, hd, rfl⟩ := List.mem_map.1 h
    obtain ⟨j, hj, rfl⟩ := List.getElem_of_mem (List.mem_filter.1 hd).1
    rw [← ndAt_eq hj]
    exact tree_rch hok hK hG hB j hj hj
  · intro h
    obtain ⟨i, hi, rfl, ha⟩ := rch_tree hok hK hD hG hB h
    refine List.mem_map.2 ⟨ndAt l i, List.mem_filter.2 ⟨?_, decide_eq_true ha⟩, rfl⟩
    rw [ndAt_eq hi]; exact List.getElem_mem hi
/-- A bounded tree has just as many markings as the graph. -/
theorem same_many {n : Nt} {l : List Nd} {most : Nat} {g : Gr} (hok : n.okB = true) (hK : KidOk n l) (hD : ∀ i, i < l.length → Done n l i) (hG : GOk n 4096 l) (hB : Bd l) (x : XFull n most g) : (firsts l).length = g.marks.length := by
  have h1 := nodup_le (firsts_nodup hK) (fun m hm => (found_mem x).2 ((firsts_mem hok hK hD hG hB).1 hm))
  have h2 := nodup_le x.ok.nodup (fun m hm => (firsts_mem hok hK hD hG hB).2 ((found_mem x).1 hm))
  rw [List.length_map] at h1 h2
  omega

/-- Where all that is reached is among few, the graph is told. -/
theorem exIn_in {n : Nt} {most i : Nat} (hm : most ≤ 1024) {S : List (List Int)} (hS : ∀ m, Rch n m → m ∈ S) (hl : S.length ≤ most) : ∀ (ts did : List Int) (g : Gr), XOk n most g → i < g.marks.length → did ++ ts = n.enE (mkAt g i) → (∀ m ∈ g.marks, Rch n m) →
    ∃ h, exIn n most i ts g = some h ∧ XOk n most h ∧ (∀ m ∈ h.marks, Rch n m) ∧ g.marks.length ≤ h.marks.length
  | [], did, g, x, hi, he, hR => ⟨g, rfl, x, hR, Nat.le_refl _⟩
  | t :: ts, did, g, x, hi, he, hR => by
    have ht : t ∈ n.enE (mkAt g i) := by rw [← he]; simp
    obtain ⟨q, hq, rfl, e2, e3⟩ := enE_mem ht
    have hMi := (x.mark i hi)
    rw [← mkAt_eq hi] at hMi
    have hle := x.le
    have hf := (fire_low hMi.1 (List.getElem_mem hq) e3 (U := 1 + (i : Int)) (by omega) hMi.2).1
    have hr : Rch n (fireG n g i (q : Int)) := by
      unfold fireG
      rw [e2]
      exact (hR _ (by rw [mkAt_eq hi]; exact List.getElem_mem hi)).step hq hf
    have hlt : g.idx (fireG n g i (q : Int)) < (most : Int) := by
      have hir := idx_range g (fireG n g i (q : Int))
      by_cases hfd : 0 ≤ findM g.marks (fireG n g i (q : Int))
      · have := hir.2.2.2 hfd; omega
      · have hno := findM_no (l := g.marks) (m := fireG n g i (q : Int)) (by omega)
        have hnd : (g.marks ++ [fireG n g i (q : Int)]).Nodup := by
          rw [List.nodup_append]
          refine ⟨x.nodup, by simp, ?_⟩
          intro a ha b hb e
          obtain rfl : b = _ := by simpa using hb
          subst e
          exact hno ha
        have := nodup_le hnd (b := S) (fun m hmm => by
          rcases List.mem_append.1 hmm with h | h
          · exact hS _ (hR _ h)
          · obtain rfl : m = _ := by simpa using h
            exact hS _ hr)
        simp only [List.length_append, List.length_singleton] at this
        omega
    have hx2 := x.step hm hi ht hlt
    have hlen : g.marks.length ≤ (stepG n i g (q : Int)).marks.length := by rw [step_len]; split <;> omega
    have hR2 : ∀ m ∈ (stepG n i g (q : Int)).marks, Rch n m := by
      intro m hmm
      rw [step_marks] at hmm
      unfold Gr.put at hmm
      split at hmm
      · exact hR m hmm
      · rcases List.mem_append.1 hmm with h | h
        · exact hR m h
        · obtain rfl : m = _ := by simpa using h
          exact hr
    obtain ⟨h, h1, h2, h3, h4⟩ := exIn_in hm hS hl ts (did ++ [(q : Int)]) _ hx2 (Nat.lt_of_lt_of_le hi hlen) (by rw [step_mkAt n i g _ hi, ← he]; simp) hR2
    refine ⟨h, ?_, h2, h3, by omega⟩
    rw [exIn, if_neg (by omega)]
    exact h1
theorem exF_in {n : Nt} {most : Nat} (hm : most ≤ 1024) {S : List (List Int)} (hS : ∀ m, Rch n m → m ∈ S) (hl : S.length ≤ most) : ∀ (f i : Nat) (g : Gr), XOk n most g → (∀ m ∈ g.marks, Rch n m) → ∃ h, exF n most f i g = some h
  | 0, i, g, _, _ => ⟨g, rfl⟩
  | f + 1, i, g, x, hR => by
    simp only [exF]
    by_cases hlt : i < g.marks.length
    · rw [if_pos hlt]
      obtain ⟨h, h1, h2, h3, _⟩ := exIn_in hm hS hl (n.enE (mkAt g i)) [] g x hlt rfl hR
      rw [h1]
      exact exF_in hm hS hl f (i + 1) h h2 h3
    · rw [if_neg hlt]; exact ⟨g, rfl⟩
/-- A bounded tree of few markings: the graph is told. -/
theorem few_told {n : Nt} {l : List Nd} {most : Nat} (hok : n.okB = true) (hK : KidOk n l) (hD : ∀ i, i < l.length → Done n l i) (hG : GOk n 4096 l) (hB : Bd l) (h1 : 1 ≤ most) (hm : most ≤ 1024) (hl : (firsts l).length ≤ most) : ∃ g, exploreE n most = some g := by
  have x := XOk.first hok h1
  refine exF_in hm (S := (firsts l).map Nd.mark) (fun m h => (firsts_mem hok hK hD hG hB).2 h) (by rw [List.length_map]; exact hl) (most + 1) 0 (rootG n) x ?_
  intro m hmm
  obtain ⟨i, hi, rfl⟩ := List.getElem_of_mem hmm
  rw [← mkAt_eq hi]
  exact found_rch x hi

/-- How many tokens. -/
def sumL (m : List Int) : Int := m.foldr (· + ·) 0
theorem sum_cov : ∀ {a b : List Int}, coversB a b = true → sumL b ≤ sumL a ∧ (a ≠ b → sumL b < sumL a)
  | [], [], _ => ⟨Int.le_refl _, fun h => absurd rfl h⟩
  | [], y :: b, h => by simp [coversB] at h
  | x :: a, [], h => by simp [coversB] at h
  | x :: a, y :: b, h => by
    have h0 : y ≤ x ∧ coversB a b = true := by
      simp only [coversB, Bool.and_eq_true, decide_eq_true_eq] at h
      exact h
    obtain ⟨h1, h2⟩ := sum_cov (a := a) (b := b) h0.2
    have e1 : sumL (x :: a) = x + sumL a := rfl
    have e2 : sumL (y :: b) = y + sumL b := rfl
    refine ⟨by omega, fun hne => ?_⟩
    by_cases hxy : x = y
    · have : a ≠ b := fun e => hne (by rw [hxy, e])
      have := h2 this
      omega
    · omega
/-- What can be fired again and again is more each time: no graph holds it. -/
theorem no_pump {n : Nt} {most : Nat} {g : Gr} (_hok : n.okB = true) (x : XFull n most g) (hm : most ≤ 1024) {row dl m : List Int} {V : Int} (hP : Pump n row dl m V) (hd : ∃ p : Nat, p < dl.length ∧ getI dl (p : Int) ≠ 0) (hb : row.any n.badT = false) (hV : V ≤ 33554433) (hrl : row.length ≤ 4096) (hr : Rch n m) : False := by
  have key : ∀ k : Nat, k ≤ 1024 → ∃ L : List (List Int), L.Nodup ∧ L.length = k + 1 ∧ (∀ y ∈ L, Rch n y) ∧ ∃ m, Pump n row dl m (V + (k : Int) * row.length) ∧ Rch n m ∧ ∀ y ∈ L, sumL y ≤ sumL m := by
    intro k
    induction k with
    | zero => exact fun _ => ⟨[m], by simp, rfl, (fun y hy => by
        rw [List.mem_singleton.1 hy]; exact hr), m, by simpa using hP, hr, (fun y hy => by
        rw [List.mem_singleton.1 hy]; exact Int.le_refl _)⟩
    | succ k ih =>
      intro hk
      obtain ⟨L, h1, h2, h3, m1, hP1, hr1, h4⟩ := ih (by omega)
      have hmul : (k : Int) * (row.length : Int) ≤ 1024 * 4096 := Int.mul_le_mul (by omega) (by omega) (by omega) (by omega)
      have hN := hP1.next hb (by omega)
      obtain ⟨c1, c2⟩ := hP1.more hd
      have hs := (sum_cov c1).2 c2
      have hr2 := Rch.row row m1 0 hr1 hb hP1.ok
      refine ⟨(rowGo n m1 row 0).1 :: L, ?_, by simp [h2], ?_, _, ?_, hr2, ?_⟩
      · refine List.nodup_cons.2 ⟨fun h => ?_, h1⟩
        have := h4 _ h; omega
      · intro y hy
        rcases List.mem_cons.1 hy with rfl | hy
        · exact hr2
        · exact h3 y hy
      · have e : V + ((k + 1 : Nat) : Int) * (row.length : Int) = V + (k : Int) * (row.length : Int) + (row.length : Int) := by
          rw [Int.natCast_add, Int.add_mul]; omega
        rw [e]; exact hN
      · intro y hy
        rcases List.mem_cons.1 hy with rfl | hy
        · exact Int.le_refl _
        · have := h4 y hy; omega
  have hle := x.ok.le
  obtain ⟨L, h1, h2, h3, _⟩ := key g.marks.length (by omega)
  have := nodup_le h1 (fun y hy => (found_mem x).2 (h3 y hy))
  omega
/-- A net that reaches few has a bounded tree. -/
theorem few_bounded {n : Nt} {l : List Nd} {most : Nat} {g : Gr} (hok : n.okB = true) (hK : KidOk n l) (hG : GOk n 4096 l) (x : XFull n most g) (hm : most ≤ 1024) : Bd l := by
  have all : ∀ i, i < l.length → (-1 : Int) ∉ (ndAt l i).mark := by
    intro i
    induction i using Nat.strongRecOn with
    | _ i ih =>
      intro hi hmm
      have hf : ∀ j, j < i → (-1 : Int) ∉ (ndAt l j).mark := fun j hj => ih j hj (by omega)
      obtain ⟨ms, p1, p2, p3, p4, c, d, q1, q2, q3, q4⟩ := pump_law hok hK hG hi hmm hf
      obtain ⟨r1, r2, r3, r4⟩ := p4 c q1 d q2
      have hbad : (((wayE l i).map Nd.tr).drop (c + 1)).any n.badT = false := by
        rw [List.any_eq_false]
        intro t ht
        have h1 := List.any_eq_false.1 p3 t (by
          have : ((wayE l i).map Nd.tr).drop (c + 1) = (((wayE l i).map Nd.tr).drop 1).drop c := by rw [List.drop_drop]; congr 1; omega
          rw [this] at ht
          exact List.mem_of_mem_drop ht)
        exact h1
      obtain ⟨hP, hd⟩ := Pump.start (row := ((wayE l i).map Nd.tr).drop (c + 1)) r3 r4 r1 (by rw [r2]; exact q3) (by rw [r2]; exact q4)
      refine no_pump hok x hm hP hd hbad (Int.le_refl _) (by simp; omega) ?_
      obtain ⟨j, hj, e⟩ := way_mem hG.up hi d (List.mem_of_getElem? q2)
      rw [e]
      have hji : j < i := by
        rcases Nat.lt_or_ge j i with h | h
        · exact h
        · exfalso
          obtain rfl : j = i := by omega
          have := r3.tok
          rw [e] at this
          have := (this _ hmm).1
          omega
      exact tree_rch hok hK hG (N := i) (fun q hq => ih q hq (by omega)) j hji (by omega)
  exact all

end Go.Proofs.YtgahlonimaeicaaDoor

/- What a net's tree and its graph tell of one another. On lists; no program here. -/
namespace Go.Proofs.YtgahlonimaeicaaDoor

theorem expR_of {n : Nt} (hok : n.okB = true) {b : Nat} (h1 : 1 ≤ b) (h2 : b ≤ 1024) : (expR n (b : Int) = .inl 170 ∧ exploreE n b = none) ∨ ∃ g, expR n (b : Int) = .inr g ∧ XFull n b g := by
  have e : expR n (b : Int) = match exploreE n b with | none => .inl 170 | some g => .inr g := by
    unfold expR; rw [hok, if_pos rfl, if_neg (by omega), if_neg (by omega), Int.toNat_natCast]; rfl
  rw [e]
  cases hx : exploreE n b with
  | none => exact Or.inl ⟨rfl, rfl⟩
  | some g => exact Or.inr ⟨g, rfl, explore_all hok h1 h2 hx⟩
theorem expR_any (n : Nt) (b : Int) : (∃ c, expR n b = .inl c) ∨ ∃ g, expR n b = .inr g := by
  cases expR n b with
  | inl c => exact Or.inl ⟨c, rfl⟩
  | inr g => exact Or.inr ⟨g, rfl⟩
theorem creach_law (n : Nt) {b : Nat} (h1 : 1 ≤ b) (h2 : b ≤ 1024) :
    growR n 4096 = .inl 1 ∨ (growR n 4096 = .inl 170 ∧ (expR n (b : Int) = .inl 170 ∨ ∃ g, expR n (b : Int) = .inr g)) ∨
      (∃ l, growR n 4096 = .inr l ∧ n.okB = true ∧ KidOk n l ∧ (∀ i, i < l.length → Done n l i) ∧ ((expR n (b : Int) = .inl 170 ∧ exploreE n b = none) ∨ ∃ g, expR n (b : Int) = .inr g ∧ XFull n b g)) := by
  cases hok : n.okB with
  | false => left; unfold growR; rw [hok]; rfl
  | true =>
    right
    have hx := expR_of hok h1 h2
    have e : growR n 4096 = match growE n 4096 with | none => .inl 170 | some l => .inr l := by
      unfold growR; rw [hok, if_pos rfl, if_neg (by omega), if_neg (by omega)]; rfl
    rw [e]
    obtain ⟨o, ho⟩ : ∃ o, growE n 4096 = o := ⟨_, rfl⟩
    rw [ho]
    cases o with
    | none =>
      left
      refine ⟨rfl, ?_⟩
      rcases hx with ⟨h, _⟩ | ⟨g, h, _⟩
      · exact Or.inl h
      · exact Or.inr ⟨g, h⟩
    | some l =>
      right
      have := growE_inv ho (by omega)
      exact ⟨l, rfl, rfl, this.1, this.2, hx⟩

theorem bd_of {l : List Nd} (h : boundedB l = true) : Bd l := by
  intro j hj hm
  unfold boundedB at h
  rw [Bool.not_eq_true', List.any_eq_false] at h
  refine h (ndAt l j) ?_ (by simpa using hm)
  rw [ndAt_eq hj]; exact List.getElem_mem hj
theorem of_bd {l : List Nd} (h : Bd l) : boundedB l = true := by
  unfold boundedB
  rw [Bool.not_eq_true', List.any_eq_false]
  intro d hd hc
  obtain ⟨j, hj, rfl⟩ := List.getElem_of_mem hd
  exact h j hj (by rw [ndAt_eq hj]; simpa using hc)

/-- How many nodes Node tells as first ones. -/
def dist (l : List Nd) : Nat := (l.filter fun d => decide (d.again = -1)).length
theorem dist_firsts {n : Nt} {l : List Nd} (hK : KidOk n l) : dist l = (firsts l).length := by
  unfold dist firsts
  congr 1
  refine List.filter_congr fun d hd => ?_
  obtain ⟨j, hj, rfl⟩ := List.getElem_of_mem hd
  have hr := again_range hK hj
  rw [ndAt_eq hj] at hr
  exact decide_eq_decide.2 (by omega)
theorem dist_take {l : List Nd} {i : Nat} (hi : i < l.length) : ((l.take (i + 1)).filter fun d => decide (d.again = -1)).length = ((l.take i).filter fun d => decide (d.again = -1)).length + if (ndAt l i).again = -1 then 1 else 0 := by
  rw [List.take_add_one, List.getElem?_eq_getElem hi, ndAt_eq hi]
  simp only [Option.toList_some, List.filter_append, List.length_append]
  congr 1
  by_cases h : l[i].again = -1 <;> simp [h]

theorem told_no {n : Nt} {l : List Nd} {b : Nat} (hok : n.okB = true) (hK : KidOk n l) (hD : ∀ i, i < l.length → Done n l i) (hG : GOk n 4096 l) (h1 : 1 ≤ b) (h2 : b ≤ 1024) (hx : exploreE n b = none) (hb : boundedB l = true) : b < dist l := by
  rw [dist_firsts hK]
  refine Nat.lt_of_not_le fun h => ?_
  obtain ⟨g, hg⟩ := few_told hok hK hD hG (bd_of hb) h1 h2 h
  rw [hx] at hg; cases hg
theorem told_yes {n : Nt} {l : List Nd} {b : Nat} {g : Gr} (hok : n.okB = true) (hK : KidOk n l) (hD : ∀ i, i < l.length → Done n l i) (hG : GOk n 4096 l) (h2 : b ≤ 1024) (hx : XFull n b g) :
    boundedB l = true ∧ dist l = g.marks.length ∧ ∀ i, i < l.length → 0 ≤ findM g.marks (ndAt l i).mark := by
  have hB := few_bounded hok hK hG hx h2
  refine ⟨of_bd hB, by rw [dist_firsts hK]; exact same_many hok hK hD hG hB hx, fun i hi => findM_mem ((found_mem hx).2 (tree_rch hok hK hG hB i hi hi))⟩

end Go.Proofs.YtgahlonimaeicaaDoor

/- Explore's contract, cut by its answer (for a seat that has not the stage's own examples). -/
namespace Go.Proofs.YtgahlonimaeicaaDoor
open Go.RowKit

/-- A graph that was explored. -/
def ExpOk (w : World) (n : Nt) (_most : Nat) (g : Gr) (e : Ending) (w' : World) : Prop :=
  ∃ p, e = .returned (.tuple #[.pointer (some ⟨p, 0, none⟩), .int .i64 0]) ∧ GrR w' w'.heap.size p n.trans.length g (homesE g.edges) ∧ Below w.heap.size w w'
theorem exp_ok (w : World) (B : Nat) (hB : B ≤ w.heap.size) (vp vt : Value) (n : Nt) (hn : NtR w B vp vt n) (most : Int) (htab : Pow10 B w) {g : Gr} (h : expR n most = .inr g) :
    Calls Tryd.prog 35 #[.agg #[vp, vt, .int .i64 n.init, .int .i64 n.final], .int .i64 most] w (ExpOk w n most.toNat g) :=
  (explore_any w B hB vp vt n hn most htab).mono fun e w' hp => by
    obtain ⟨hb, ⟨c, h1, _⟩ | ⟨g', p, h1, h2, h3⟩⟩ := hp
    · rw [h] at h1; cases h1
    · rw [h] at h1; cases h1; exact ⟨p, h2, h3, hb⟩
theorem exp_no (w : World) (B : Nat) (hB : B ≤ w.heap.size) (vp vt : Value) (n : Nt) (hn : NtR w B vp vt n) (most : Int) (htab : Pow10 B w) {c : Int} (h : expR n most = .inl c) :
    Calls Tryd.prog 35 #[.agg #[vp, vt, .int .i64 n.init, .int .i64 n.final], .int .i64 most] w fun e w' => e = .returned (.tuple #[.pointer none, .int .i64 c]) ∧ Below w.heap.size w w' :=
  (explore_any w B hB vp vt n hn most htab).mono fun e w' hp => by
    obtain ⟨hb, ⟨c, h1, h2⟩ | ⟨g', p, h1, h2, h3⟩⟩ := hp
    · rw [h] at h1; cases h1; exact ⟨h2, hb⟩
    · rw [h] at h1; cases h1

end Go.Proofs.YtgahlonimaeicaaDoor

/- Readers of a graph: Find, Edges, Way, Home, Homes. -/
namespace Go.Proofs.YtgahlonimaeicaaDoor
open Go.RowKit Go.Maps Go.WideMaps

/-- The number that Find tells. -/
def foundE (ms : List (List Int)) (m : List Int) : Int := if 0 ≤ findM ms m then findM ms m else 0
theorem find_run {w : World} {mp : Nat} {ms : List (List Int)} {k : Nat} {D : DataW Unit} (h : MapR w mp k D) (hD : MapG D ms) {m : List Int} (hkey : keyOf Tryd.prog 9 (.string (keyS m)) = some (.string (keyL m))) :
    (Instr.lookup 78 (.map (some mp)) (.string (keyS m)) true).run Tryd.prog w = .ok (.tuple #[.int .i64 (foundE ms m), .bool (decide (0 ≤ findM ms m))]) w := by
  obtain ⟨v, ps, hrun, hR⟩ := World.ownsMap.look_ok h law_str Tryd.underlying78 (zero_int _) (plainElem_int (H := Unit) Tryd.underlying3 (by decide)) hkey
  obtain ⟨h1, h2⟩ := hD.2 m
  obtain ⟨c, rfl, hc, _⟩ := plainElem_int_inv Tryd.underlying3 hR
  have hc' := congrArg Prod.fst hc
  simp only at hc'
  rw [hrun, h1]
  have : c = foundE ms m := by
    unfold foundE
    by_cases hf : 0 ≤ findM ms m
    · rw [if_pos hf]
      rw [h2 hf] at hc'
      injection hc' with hc'
      injection hc' with _ hc'
      exact hc'.symm
    · rw [if_neg hf]
      rw [decide_eq_false hf] at h1
      rw [Maps.atKey_of_not_has h1] at hc'
      injection hc' with hc'
      injection hc' with _ hc'
      exact hc'.symm
  rw [this]

theorem gfind_nil (w : World) (vm : Value) : Calls Tryd.prog 38 #[.pointer none, vm] w fun e w' => e = .returned (.tuple #[.int .i64 0, .bool false]) ∧ w = w' := by
  go_enter Tryd.func38, Tryd.ntmps38
  go_wp2_with fail
  go_ret2
  exact ⟨rfl, rfl⟩
set_option maxHeartbeats 1000000 in
theorem gfind_any (w : World) (B p nt : Nat) (g : Gr) (hs : List Int) (h : GrR w B p nt g hs) (hB : B ≤ w.heap.size) (htab : Pow10 B w) (vm : Value) (m : List Int) (hm : Ints w w.heap.size vm m) (hw : ∀ x ∈ m, In64 x) (hml : m.length ≤ 4096) :
    Calls Tryd.prog 38 #[.pointer (some ⟨p, 0, none⟩), vm] w fun e w' => e = .returned (.tuple #[.int .i64 (foundE g.marks m), .bool (decide (0 ≤ findM g.marks m))]) ∧ Below w.heap.size w w' := by
  obtain ⟨v0, a1, c1, x, y, vM, mp, vE, vF, vH, h1, h2, h3, h4, h5, h6, h7, h8, h10⟩ := h
  obtain ⟨k1, k4, k5, k6, k7, k8⟩ := gbox h1
  obtain ⟨D, h8, h9⟩ := h8
  obtain ⟨am, cm, rfl⟩ := hm.val
  have hdr : Below w.heap.size w w.drew := (Below.refl _ _).drew
  have hK := Lib.hid (rkey_any w.drew _ m w.heap.size (Nat.le_refl _) (hm.mono hdr (Nat.le_refl _)) hw hml (tab_up (htab.on (hdr.mono hB)) (show B ≤ w.heap.size from hB)))
  have hkey := Lib.hid (key_of hw hml)
  have hplt : p < w.heap.size := by omega
  have HM := Lib.hid h8
  have HD := Lib.hid h9
  have hmpw : mp < w.heap.size := by omega
  obtain ⟨c, hc⟩ : ∃ c, foundE g.marks m = c := ⟨_, rfl⟩
  obtain ⟨t, ht⟩ : ∃ t, decide (0 ≤ findM g.marks m) = t := ⟨_, rfl⟩
  have HC := Lib.hid hc
  have HT := Lib.hid ht
  rw [hc, ht]
  clear hc ht h1 h3 h4 h5 h6 h8 h9 k1 k4 k6 k7 k8
  go_enter Tryd.func38, Tryd.ntmps38
  go_upto_region 3 with fail
  go_cut [6, 7] (fun s6 s7 wx => s6 = .int .i64 c ∧ s7 = .bool t ∧ Below w.heap.size w wx)
  case first =>
    go_region_held3 (fun w' => w'.cell? ⟨p, 5, none⟩ = some (.map (some mp)))
      (first | go_keep | (rw [Below.cellB HB3 hplt]; assumption))
      (first | (go_at_call 65; refine hK.out.mono ?_; rintro e w2 ⟨rfl, hb2⟩; have HB3 : Below w.heap.size w w2 := hdr.trans hb2; have hrun := find_run (mapR_below HM.out HB3 hmpw) HD.out hkey.out; rw [HC.out, HT.out] at hrun))
    go_wp2_with fail
    go_meet
    case rel => exact ⟨rfl, rfl, HB3⟩
  case rest =>
    obtain ⟨rfl, rfl, hb⟩ := hcut
    go_wp2_with fail
    go_ret2
    exact ⟨rfl, hb⟩

end Go.Proofs.YtgahlonimaeicaaDoor

/- long: has a net more than a statement looks at? -/
namespace Go.Proofs.YtgahlonimaeicaaDoor
open Go.RowKit

def longB (n : Nt) : Bool := decide (40 < n.places.length) || decide (40 < n.trans.length)
theorem long_is (w : World) (vp vt : Value) (n : Nt) (B : Nat) (hn : NtR w B vp vt n) {t : Bool} (ht : longB n = t) :
    Calls Tryd.prog 11 #[.agg #[vp, vt, .int .i64 n.init, .int .i64 n.final]] w fun e w' => e = .returned (.bool t) ∧ Below w.heap.size w w' := by
  obtain ⟨ap, cp, rfl⟩ := hn.1.val
  obtain ⟨at_, ct, rfl⟩ := hn.2.val
  have hb := (Below.refl w.heap.size w).alloc (Nat.le_refl _) (.cells #[.slice ap n.places.length cp, .slice at_ n.trans.length ct, .int .i64 n.init, .int .i64 n.final] 25)
  unfold longB at ht
  by_cases h1 : 40 < n.places.length
  · obtain rfl : t = true := by rw [← ht]; simp [h1]
    have d1 : decide ((40 : Int) < (n.places.length : Int)) = true := decide_eq_true (by omega)
    clear ht
    go_enter Tryd.func11, Tryd.ntmps11
    go_wp2_with fail
    go_ret
    exact ⟨rfl, hb⟩
  · have d1 : decide ((40 : Int) < (n.places.length : Int)) = false := decide_eq_false (by omega)
    by_cases h2 : 40 < n.trans.length
    · have d2 : decide ((40 : Int) < (n.trans.length : Int)) = true := decide_eq_true (by omega)
      obtain rfl : t = true := by rw [← ht]; simp [h2]
      clear ht
      go_enter Tryd.func11, Tryd.ntmps11
      go_wp2_with fail
      go_ret
      exact ⟨rfl, hb⟩
    · have d2 : decide ((40 : Int) < (n.trans.length : Int)) = false := decide_eq_false (by omega)
      obtain rfl : t = false := by rw [← ht]; simp [h1, h2]
      clear ht
      go_enter Tryd.func11, Tryd.ntmps11
      go_wp2_with fail
      go_ret
      exact ⟨rfl, hb⟩

end Go.Proofs.YtgahlonimaeicaaDoor

/- What a reading of the arguments gives: slices of numbers and of strings, nets. -/
namespace Go.Proofs.YtgahlonimaeicaaDoor
open Go.RowKit Go.Deep Go.ChangeShapes Go.WideShapes

section
variable {H : Type} {enc : TypeId × Value → H} {P : Program} {W : World} {spare : Nat → Bool} {held : Bool}

/-- All slices and strings of a reading are within the reach. -/
def Fits (P : Program) (t : TypeId) (d : DataW H) : Prop := ∀ n ∈ d.weights P t, n ≤ reachBytes

theorem fits_arg {ts : List TypeId} {ds : List (DataW H)} (h : (DataW.weightsEach P ts ds).all (· ≤ reachBytes) = true) {j : Nat} {t : TypeId} {d : DataW H} (ht : ts[j]? = some t) (hd : ds[j]? = some d) : Fits P t d := by
  intro n hn
  have := List.all_eq_true.1 h _ (DataW.weights_mem_each ht hd n hn)
  simpa using this

theorem fits_part {t : TypeId} {fs : Array Field} {parts : List (DataW H)} (ht : P.underlying t = some (.struct fs)) (h : Fits P t (.agg parts)) {j : Nat} {f : Field} {d : DataW H} (hf : fs[j]? = some f) (hd : parts[j]? = some d) : Fits P f.type d := by
  intro n hn
  refine h n ?_
  simp only [DataW.weights, ht]
  exact DataW.weights_mem_each (j := j) (by simp [hf]) hd n hn

theorem weightsAll_mem {e : TypeId} {l : List (DataW H)} {d : DataW H} (hd : d ∈ l) {n : Nat} (hn : n ∈ d.weights P e) : n ∈ DataW.weightsAll P e l := by
  induction l with
  | nil => cases hd
  | cons x r ih =>
    simp only [DataW.weightsAll, List.mem_append]
    rcases List.mem_cons.1 hd with rfl | h
    · exact Or.inl hn
    · exact Or.inr (ih h)

theorem fits_elem {t e : TypeId} {elems sp : List (DataW H)} (ht : P.underlying t = some (.slice e)) (h : Fits P t (.slice elems sp)) {d : DataW H} (hd : d ∈ elems) : Fits P e d := by
  intro n hn
  refine h n ?_
  simp only [DataW.weights, ht, List.mem_cons, List.mem_append]
  exact Or.inr (Or.inl (weightsAll_mem hd hn))

theorem fits_len {t e : TypeId} {elems sp : List (DataW H)} (ht : P.underlying t = some (.slice e)) (h : Fits P t (.slice elems sp)) : elems.length * P.bytesOf e ≤ reachBytes := by
  have := h ((elems.length + sp.length) * P.bytesOf e) (by simp [DataW.weights, ht])
  exact Nat.le_trans (Nat.mul_le_mul_right _ (Nat.le_add_right _ _)) this

theorem add_none {a : Addr} (b o i : Nat) (h : a = ⟨b, o, none⟩) : a.add i = ⟨b, o + i, none⟩ := by
  subst h
  unfold Addr.add
  split <;> simp_all

/-- An address that leads to cells bears no spot. -/
theorem addr_of_cell {w : World} {a : Addr} {v : Value} (h : w.cell? a = some v) : ∃ b o, a = ⟨b, o, none⟩ ∧ b < w.heap.size := by
  obtain ⟨b, o, s⟩ := a
  refine ⟨b, o, ?_, World.block_lt_of_cell? w _ h⟩
  unfold World.cell? at h
  split at h
  · cases s with
    | none => rfl
    | some s => simp at h
  · cases h

/-- FROM A READING BY INDEX TO A COLUMN. -/
theorem col_of {α : Type} [Inhabited α] {mk : α → Value} {a : Addr} {len : Nat} (V : Nat → Value) (hV : ∀ i, i < len → W.cell? (a.add i) = some (V i)) (hmk : ∀ i, i < len → ∃ x, V i = mk x) :
    ∃ l : List α, l.length = len ∧ Col mk W W.heap.size (some a) l ∧ ∀ i (h : i < l.length), V i = mk l[i] := by
  obtain ⟨f, hf⟩ := choose_lt hmk
  refine ⟨(List.range len).map f, by simp, ?_, fun i h => by simp at h ⊢; exact hf i h⟩
  intro i hi
  have hi' : i < len := by simpa using hi
  have h0 := hV 0 (by omega)
  rw [show a.add 0 = a by simp [Addr.add]] at h0
  obtain ⟨b, o, rfl, hb⟩ := addr_of_cell h0
  refine ⟨b, o, rfl, hb, ?_⟩
  have := hV i hi'
  rw [add_none b o i rfl] at this
  rw [this, hf i hi']
  simp

theorem open_ints_col {t e : TypeId} {k : IntKind} {fuel L : Nat} {cs : List Value} {d : DataW H} {ps : List MemPlace} (ht : P.underlying t = some (.slice e)) (he : P.underlying e = some (.int k)) (hc : P.cellsOf e = 1)
    (hL : reachBytes / P.bytesOf e ≤ L) (hpos : 0 < P.bytesOf e) (h : DataW.trod enc P W 0 spare held fuel t cs = some (d, ps)) (hfit : Fits P t d) :
    ∃ v l, cs = [v] ∧ ColV (Value.int k) L W W.heap.size v l ∧ ∀ x ∈ l, (Lit.int k x).wf = true := by
  rcases open_slice1 ht hc h with ⟨rfl, _⟩ | ⟨a, len, cap, m, n, V, D, Pl, rfl, _, hlc, hm, hmm, hx, hV⟩
  · exact ⟨_, [], rfl, ColV.nil _ _ _ _, by simp⟩
  · have hlm : len ≤ m := by rw [hmm]; split <;> omega
    have hint : ∀ i, i < len → ∃ x : Int, V i = .int k x ∧ (Lit.int k x).wf = true := fun i hi => by
      obtain ⟨y, hy, _, hw⟩ := DataW.trod_int he (hV i (by omega)).2
      simp at hy
      exact ⟨y, hy, hw⟩
    obtain ⟨l, hlen, hcol, hval⟩ := col_of (mk := Value.int k) V (fun i hi => (hV i (by omega)).1) (fun i hi => let ⟨x, hx, _⟩ := hint i hi; ⟨x, hx⟩)
    refine ⟨_, l, rfl, ⟨some a, cap, by rw [hlen], ?_, by omega, hcol⟩, ?_⟩
    · have hd : d = _ := congrArg Prod.fst hx
      subst hd
      have := fits_len ht hfit
      simp only [List.length_map, List.length_range] at this
      rw [hlen]
      exact Nat.le_trans ((Nat.le_div_iff_mul_le hpos).2 this) hL
    · intro x hx
      obtain ⟨i, hi, rfl⟩ := List.getElem_of_mem hx
      obtain ⟨y, hy, hw⟩ := hint i (by omega)
      rw [hval i hi] at hy
      cases hy
      exact hw

theorem open_strs_col {t e : TypeId} {fuel L : Nat} {cs : List Value} {d : DataW H} {ps : List MemPlace} (ht : P.underlying t = some (.slice e)) (he : P.underlying e = some .string) (hc : P.cellsOf e = 1)
    (hL : reachBytes / P.bytesOf e ≤ L) (hpos : 0 < P.bytesOf e) (h : DataW.trod enc P W 0 spare held fuel t cs = some (d, ps)) (hfit : Fits P t d) :
    ∃ v l, cs = [v] ∧ ColV Value.string L W W.heap.size v l := by
  rcases open_slice1 ht hc h with ⟨rfl, _⟩ | ⟨a, len, cap, m, n, V, D, Pl, rfl, _, hlc, hm, hmm, hx, hV⟩
  · exact ⟨_, [], rfl, ColV.nil _ _ _ _⟩
  · have hlm : len ≤ m := by rw [hmm]; split <;> omega
    have hint : ∀ i, i < len → ∃ x : ByteArray, V i = .string x := fun i hi => by
      obtain ⟨y, hy, _, hw⟩ := DataW.trod_string he (hV i (by omega)).2
      simp at hy
      exact ⟨y, hy⟩
    obtain ⟨l, hlen, hcol, hval⟩ := col_of (mk := Value.string) V (fun i hi => (hV i (by omega)).1) hint
    refine ⟨_, l, rfl, ⟨some a, cap, by rw [hlen], ?_, by omega, hcol⟩⟩
    have hd : d = _ := congrArg Prod.fst hx
    subst hd
    have := fits_len ht hfit
    simp only [List.length_map, List.length_range] at this
    rw [hlen]
    exact Nat.le_trans ((Nat.le_div_iff_mul_le hpos).2 this) hL

end
end Go.Proofs.YtgahlonimaeicaaDoor

/- What a reading of a net gives. -/
namespace Go.Proofs.YtgahlonimaeicaaDoor
open Go.RowKit Go.Deep Go.ChangeShapes Go.WideShapes Go.Joins

/-- The numbers of a list fit their kind. -/
def I64s (l : List Int) : Prop := ∀ x ∈ l, (Lit.int .i64 x).wf = true

instance : Inhabited Tr := ⟨⟨default, [], []⟩⟩

section
variable {H : Type} {enc : TypeId × Value → H} {W : World} {spare : Nat → Bool} {held : Bool}

theorem cells3 {a : Addr} {cs : List Value} (h : W.cells? 0 a 3 = some cs) : ∃ v0 v1 v2, cs = [v0, v1, v2] ∧ W.cell? (a.add 0) = some v0 ∧ W.cell? (a.add 1) = some v1 ∧ W.cell? (a.add 2) = some v2 := by
  obtain ⟨_, hl, hc⟩ := World.cells?_some h
  match cs, hl with
  | [v0, v1, v2], _ => exact ⟨v0, v1, v2, rfl, hc 0 (by omega), hc 1 (by omega), hc 2 (by omega)⟩

theorem open_tr {fuel : Nat} {cs : List Value} {d : DataW H} {ps : List MemPlace} (h : DataW.trod enc Tryd.prog W 0 spare held fuel 42 cs = some (d, ps)) (hfit : Fits Tryd.prog 42 d) :
    ∃ vi vo, ∃ t : Tr, cs = [.string t.label, vi, vo] ∧ Ints W W.heap.size vi t.inn ∧ Ints W W.heap.size vo t.out ∧ I64s t.inn ∧ I64s t.out := by
  obtain ⟨y0, y1, y2, n, hx, hl, h0, h1, h2⟩ := trod_struct3 Tryd.underlying42 h
  have hl3 : cs.length = 3 := hl.trans (by kernel_rfl)
  have k0 : Tryd.prog.cellsOf 9 = 1 := by kernel_rfl
  have k1 : Tryd.prog.cellsOf 33 = 1 := by kernel_rfl
  match cs, hl3 with
  | [c0, c1, c2], _ =>
    simp only [k0, k1, List.take, List.drop] at h0 h1 h2
    simp only [Prod.mk.injEq] at hx
    obtain ⟨rfl, _⟩ := hx
    obtain ⟨s, hs, _⟩ := DataW.trod_string Tryd.underlying9 h0
    obtain ⟨vi, li, hvi, hci, hwi⟩ := open_ints_col (L := 17592186044416) Tryd.underlying33 Tryd.underlying3 (by kernel_rfl) (by rw [show Tryd.prog.bytesOf 3 = 8 by kernel_rfl]; decide) (by rw [show Tryd.prog.bytesOf 3 = 8 by kernel_rfl]; decide) h1
      (fits_part (j := 1) Tryd.underlying42 hfit rfl rfl)
    obtain ⟨vo, lo, hvo, hco, hwo⟩ := open_ints_col (L := 17592186044416) Tryd.underlying33 Tryd.underlying3 (by kernel_rfl) (by rw [show Tryd.prog.bytesOf 3 = 8 by kernel_rfl]; decide) (by rw [show Tryd.prog.bytesOf 3 = 8 by kernel_rfl]; decide) h2
      (fits_part (j := 2) Tryd.underlying42 hfit rfl rfl)
    simp at hs hvi hvo
    exact ⟨vi, vo, ⟨s, li, lo⟩, by rw [hs, hvi, hvo], hci, hco, hwi, hwo⟩

theorem open_trs {fuel : Nat} {cs : List Value} {d : DataW H} {ps : List MemPlace} (h : DataW.trod enc Tryd.prog W 0 spare held fuel 23 cs = some (d, ps)) (hfit : Fits Tryd.prog 23 d) :
    ∃ v, ∃ l : List Tr, cs = [v] ∧ Trs W W.heap.size v l ∧ ∀ t ∈ l, I64s t.inn ∧ I64s t.out := by
  have k3 : Tryd.prog.cellsOf 42 = 3 := by kernel_rfl
  have k64 : Tryd.prog.bytesOf 42 = 64 := by kernel_rfl
  rcases open_slice Tryd.underlying23 h with ⟨rfl, _⟩ | ⟨a, len, cap, m, n, D, Pl, rfl, _, hlc, hm, hmm, hx, hV⟩
  · exact ⟨_, [], rfl, ⟨none, 0, rfl, by simp, fun i h => by simp at h⟩, by simp⟩
  · have hlm : len ≤ m := by rw [hmm]; split <;> omega
    have hd : d = _ := congrArg Prod.fst hx
    subst hd
    have each : ∀ i, i < len → ∃ t : Tr, ∃ vi vo, W.cell? ((a.add (i * 3)).add 0) = some (.string t.label) ∧ W.cell? ((a.add (i * 3)).add 1) = some vi ∧ W.cell? ((a.add (i * 3)).add 2) = some vo ∧ Ints W W.heap.size vi t.inn ∧ Ints W W.heap.size vo t.out ∧ I64s t.inn ∧ I64s t.out := fun i hi => by
      obtain ⟨cs, hcs, ht⟩ := hV i (by omega)
      rw [k3] at hcs
      obtain ⟨v0, v1, v2, rfl, hc0, hc1, hc2⟩ := cells3 hcs
      obtain ⟨vi, vo, t, he, g1, g2, g3, g4⟩ := open_tr ht (fits_elem Tryd.underlying23 hfit (by simp; exact ⟨i, hi, rfl⟩))
      simp at he
      obtain ⟨rfl, rfl, rfl⟩ := he
      exact ⟨t, v1, v2, hc0, hc1, hc2, g1, g2, g3, g4⟩
    obtain ⟨f, hf⟩ := choose_lt (α := Tr) each
    have hlen := fits_len Tryd.underlying23 hfit
    rw [k64] at hlen
    simp only [List.length_map, List.length_range, reachBytes] at hlen
    refine ⟨_, (List.range len).map f, rfl, ⟨some a, cap, by simp, by simp; omega, ?_⟩, ?_⟩
    · intro i hi
      have hi' : i < len := by simpa using hi
      obtain ⟨vi, vo, c0, c1, c2, g1, g2, _, _⟩ := hf i hi'
      obtain ⟨_, _, c00, _⟩ := hf 0 (by omega)
      rw [show (a.add (0 * 3)).add 0 = a by simp [Addr.add]] at c00
      obtain ⟨b, o, rfl, hb⟩ := addr_of_cell c00
      rw [add_none b o (i * 3) rfl] at c0 c1 c2
      rw [add_none b (o + i * 3) _ rfl] at c0 c1 c2
      refine ⟨b, o, vi, vo, rfl, hb, ?_, c1, c2, ?_, ?_⟩
      · simpa using c0
      · simpa using g1
      · simpa using g2
    · intro t ht
      simp at ht
      obtain ⟨i, hi, rfl⟩ := ht
      obtain ⟨vi, vo, c0, c1, c2, g1, g2, g3, g4⟩ := hf i hi
      exact ⟨g3, g4⟩

/-- The numbers of a net fit their kind. -/
def NtI (n : Nt) : Prop := (Lit.int .i64 n.init).wf = true ∧ (Lit.int .i64 n.final).wf = true ∧ ∀ t ∈ n.trans, I64s t.inn ∧ I64s t.out

theorem open_net {v : Value} {d : DataW H} {ps : List MemPlace} {r : Reach} {b0 : Nat} (hv : Value.okWide Tryd.prog W r b0 25 v) (h : DataW.Trod enc Tryd.prog W 0 spare held 25 v d ps) (hfit : Fits Tryd.prog 25 d) :
    ∃ vp vt, ∃ n : Nt, v = .agg #[vp, vt, .int .i64 n.init, .int .i64 n.final] ∧ NtR W W.heap.size vp vt n ∧ NtI n := by
  obtain ⟨v0, v1, v2, v3, y0, y1, y2, y3, m, rfl, rfl, rfl, h0, h1, h2, h3⟩ := open_agg4 Tryd.underlying25 (by kernel_rfl) (by kernel_rfl) hv h
  obtain ⟨vp, lp, hvp, hcp⟩ := open_strs_col (L := 8796093022208) Tryd.underlying22 Tryd.underlying9 (by kernel_rfl) (by rw [show Tryd.prog.bytesOf 9 = 16 by kernel_rfl]; decide) (by rw [show Tryd.prog.bytesOf 9 = 16 by kernel_rfl]; decide) h0
    (fits_part (j := 0) Tryd.underlying25 hfit rfl rfl)
  obtain ⟨vt, lt, hvt, hct, hwt⟩ := open_trs h1 (fits_part (j := 1) Tryd.underlying25 hfit rfl rfl)
  obtain ⟨i, hi, _, hwi⟩ := DataW.trod_int Tryd.underlying3 h2
  obtain ⟨f, hf, _, hwf⟩ := DataW.trod_int Tryd.underlying3 h3
  simp at hvp hvt hi hf
  subst hvp hvt hi hf
  exact ⟨v0, v1, ⟨lp, lt, i, f⟩, rfl, ⟨hcp, hct⟩, hwi, hwf, hwt⟩

theorem open_ints {v : Value} {d : DataW H} {ps : List MemPlace} {r : Reach} {b0 : Nat} (hv : Value.okWide Tryd.prog W r b0 33 v) (h : DataW.Trod enc Tryd.prog W 0 spare held 33 v d ps) (hfit : Fits Tryd.prog 33 d) :
    ∃ l, Ints W W.heap.size v l ∧ I64s l := by
  obtain ⟨fuel, h⟩ := h
  obtain ⟨a, len, cap, rfl⟩ := okWide_slice Tryd.underlying33 hv
  obtain ⟨v, l, hvl, hc, hw⟩ := open_ints_col (L := 17592186044416) Tryd.underlying33 Tryd.underlying3 (by kernel_rfl) (by rw [show Tryd.prog.bytesOf 3 = 8 by kernel_rfl]; decide) (by rw [show Tryd.prog.bytesOf 3 = 8 by kernel_rfl]; decide) h hfit
  simp [Value.cells] at hvl
  subst hvl
  exact ⟨l, hc, hw⟩

end
end Go.Proofs.YtgahlonimaeicaaDoor

/- The listed tables: what the condition gives the walks; the door's own heap meets it. -/
namespace Go.Proofs.YtgahlonimaeicaaDoor
open Go.ChangeShapes Go.WideShapes Go.ChangeAt Go.RowKit

def laid3 : List (String × DataW Unit) := [("math/bits.deBruijn32tab", Rows.laid_math_bits_deBruijn32tab), ("math/bits.deBruijn64tab", Rows.laid_math_bits_deBruijn64tab), ("internal/strconv.uint64pow10", Rows.laid_internal_strconv_uint64pow10)]

theorem door_met (os : Os) (args : Array Value) : laidMetH Tryd.prog laid3 ((World.doorLaid Tryd.prog 24 os).forCall (fun _ _ => 0) ⟨#[], args, []⟩).memory :=
  laidMetH_of_parts3 (fuel := 8) (laidMet_of_run' 8 (by kernel_rfl) (by kernel_rfl)) (by kernel_rfl) (by kernel_rfl)

theorem pow10_of_laid {W : World} (h : laidMetH Tryd.prog laid3 W) : Pow10 W.heap.size W := by
  rw [MakeChecks.laidMetH_plain _ _ _ (by kernel_rfl)] at h
  have h2 : laidMet Tryd.prog [("internal/strconv.uint64pow10", Lib.tabData .u64 Lib.pow10Tab)] W := laidMet.tail (laidMet.tail h)
  exact Lib.tabBelow_of_tabIs (Lib.tabIs_of_head (g := 0) (by kernel_rfl) (by kernel_rfl) Tryd.underlying127 Tryd.underlying117 (by kernel_rfl) (by kernel_rfl) h2)

end Go.Proofs.YtgahlonimaeicaaDoor

/- The walk of the law CoverReach. -/
namespace Go.Proofs.YtgahlonimaeicaaDoor
open Go.RowKit

theorem u64_nn' (x : Int) : ∃ u : Nat, IntKind.u64.wrap x = (u : Int) := by
  have h : 0 ≤ IntKind.u64.wrap x := by
    simp only [IntKind.wrap, IntKind.bits, IntKind.signed]
    simp
    exact Int.emod_nonneg _ (by decide)
  exact Int.eq_ofNat_of_zero_le h
theorem box_up' {w w' : World} {N : Nat} {o : Obj} (h : w.heap[N]? = some o) (hb : Below w.heap.size w w') : w'.heap[N]? = some o := (hb.block N (lt_of_block h)).trans h

set_option maxHeartbeats 2000000 in
theorem distinct_is (w : World) (B p : Nat) (l : List Nd) (h : TreeR w B p l) (hB : B ≤ w.heap.size) (hll : l.length ≤ 4096) {t : Int} (ht : (dist l : Int) = t) :
    Calls Tryd.prog 36 #[.pointer (some ⟨p, 0, none⟩)] w fun e w' => e = .returned (.int .i64 t) ∧ Below w.heap.size w w' := by
  have HT := Lib.hid ht
  clear ht
  go_enter Tryd.func36, Tryd.ntmps36
  go_wp2_with fail
  go_loopg [3, 4] l.length (fun gh s3 s4 wr => ∃ i k : Nat, i + gh = l.length ∧ s4 = .int .i64 (i : Int) ∧ s3 = .int .i64 (k : Int) ∧ Hid (k = ((l.take i).filter fun d => decide (d.again = -1)).length) ∧ k ≤ i ∧ Below w.heap.size w wr)
  case atStart => exact ⟨0, 0, by omega, rfl, rfl, Lib.hid (by simp), by omega, Below.refl _ _⟩
  case round =>
    obtain ⟨i, k, hig, rfl, rfl, hk, hki, hbr⟩ := hrel
    have hzr := hbr.size
    have hTr := h.mono (hbr.mono hB) (show B ≤ wr.heap.size by omega)
    by_cases hi : i < l.length
    · go_wp2_with (go_at_call 13; refine (len_any _ _ _ l hTr).mono ?_; rintro e w8 ⟨rfl, rfl⟩; refine Hid.out ?_)
      refine Lib.hid ?_
      obtain ⟨xp, hxp⟩ : ∃ xp, (ndAt l i).par = xp := ⟨_, rfl⟩
      obtain ⟨xt, hxt⟩ : ∃ xt, (ndAt l i).tr = xt := ⟨_, rfl⟩
      obtain ⟨mk, hmk⟩ : ∃ mk, (ndAt l i).mark = mk := ⟨_, rfl⟩
      obtain ⟨ag, hag⟩ : ∃ ag, (ndAt l i).again = ag := ⟨_, rfl⟩
      have hxi : l[i] = ⟨xp, xt, mk, ag⟩ := by rw [← ndAt_eq hi, ← hxp, ← hxt, ← hmk, ← hag]
      have hct := Lib.hid (dist_take hi)
      rw [hag] at hct
      have HN := Lib.hid (node_is _ _ p l hTr (Nat.le_refl _) i hi hxi rfl)
      clear hxp hxt hmk hag hxi
      go_wp2_with (first | (go_at_call 14; refine HN.out.mono ?_; rintro e w8 ⟨v8, rfl, how8, hb8⟩; refine Hid.out ?_))
      refine Lib.hid ?_
      have hz8 := hb8.size
      obtain ⟨a8, c8, rfl⟩ := how8.shape
      obtain ⟨W8, hW8⟩ : ∃ W8, w8.alloc (.cells #[.int .i64 xp, .int .i64 xt, .slice a8 mk.length c8, .int .i64 ag] 36) = W8 := ⟨_, rfl⟩
      have hbW8 : Below w8.heap.size w8 W8 := by rw [← hW8]; exact (Below.refl _ _).alloc (Nat.le_refl _) _
      have hxW8 : W8.heap[w8.heap.size]? = some (.cells #[.int .i64 xp, .int .i64 xt, .slice a8 mk.length c8, .int .i64 ag] 36) := by rw [← hW8]; exact heap_alloc_new _ _
      have h38 := hbr.trans ((hb8.trans (hbW8.mono hz8)).mono hzr)
      obtain ⟨q0, q1, q2, q3⟩ := box4 hxW8
      clear HN hxW8 how8
      by_cases hm1 : ag = -1
      · subst hm1
        have hk1 : Hid (k + 1 = ((l.take (i + 1)).filter fun d => decide (d.again = -1)).length) := Lib.hid (by rw [hct.out, if_pos rfl, ← hk.out])
        go_wp2_with fail
        go_roundg (l.length - (i + 1))
        case measure => omega
        case rel => exact ⟨i + 1, k + 1, by omega, by go_num, by go_num, hk1, by omega, h38⟩
      · have hk1 : Hid (k = ((l.take (i + 1)).filter fun d => decide (d.again = -1)).length) := Lib.hid (by rw [hct.out, if_neg hm1, ← hk.out]; rfl)
        have e1 : (ag == -1) = false := by rw [beq_eq_false_iff_ne]; exact hm1
        go_wp2_with fail
        go_roundg (l.length - (i + 1))
        case measure => omega
        case rel => exact ⟨i + 1, k, by omega, by go_num, rfl, hk1, by omega, h38⟩
    · have hk' : ¬ ((i : Int) < (l.length : Int)) := by omega
      have hfin : (k : Int) = t := by
        rw [← HT.out]
        have := hk.out
        rw [List.take_of_length_le (by omega)] at this
        rw [this]; rfl
      subst hfin
      go_wp2_with (go_at_call 13; refine (len_any _ _ _ l hTr).mono ?_; rintro e w8 ⟨rfl, rfl⟩)
      go_ret
      exact ⟨rfl, hbr⟩

set_option maxHeartbeats 8000000 in
theorem coverReach_walk (W : World) (htab : Pow10 W.heap.size W) (vp vt : Value) (n : Nt) (hn : NtR W W.heap.size vp vt n) (_gn : NtI n) (a : Int) (_ga : (Lit.int .i64 a).wf = true) :
    Calls Tryd.prog 9 #[.agg #[vp, vt, .int .i64 n.init, .int .i64 n.final], .int .i64 a] W fun e w' => e = .returned (.bool true) ∧ Below W.heap.size W w' := by
  have hbA := (Below.refl W.heap.size W).alloc (Nat.le_refl _) (.cells #[vp, vt, .int .i64 n.init, .int .i64 n.final] 25)
  have hboxA := heap_alloc_new W (.cells #[vp, vt, .int .i64 n.init, .int .i64 n.final] 25)
  obtain ⟨W1, hW1⟩ : ∃ W1, W.alloc (.cells #[vp, vt, .int .i64 n.init, .int .i64 n.final] 25) = W1 := ⟨_, rfl⟩
  have hs1 : W1.heap.size = W.heap.size + 1 := by rw [← hW1]; exact World.size_alloc _ _
  rw [hW1] at hbA hboxA
  obtain ⟨ap, cp, rfl⟩ := hn.1.val
  obtain ⟨at_, ct, rfl⟩ := hn.2.val
  obtain ⟨u, hu⟩ := u64_nn' a
  obtain ⟨c, hc, hc4⟩ : ∃ c : Nat, (u : Int) % 300 = (c : Int) ∧ c < 300 := ⟨u % 300, by omega, by omega⟩
  have LAW0 := creach_law n (b := 1 + c) (by omega) (by omega)
  rw [show ((1 + c : Nat) : Int) = 1 + (c : Int) by omega] at LAW0
  have LAW := Lib.hid LAW0
  clear LAW0
  have t1 := tab_up (htab.on hbA) (show W.heap.size ≤ W1.heap.size by omega)
  go_enter Tryd.func9, Tryd.ntmps9
  go_wp2_with fail
  refine (works_any _ _ (Nat.le_refl _) t1).mono ?_
  rintro e w2 ⟨rfl, hb2⟩
  have B2 := hbA.trans (hb2.mono (by omega))
  have hz2 := hb2.size
  have hn2 := hn.mono B2 (show W.heap.size ≤ w2.heap.size by omega)
  have hbox2 := box_up' hboxA hb2
  obtain ⟨c0, c1, c2, c3⟩ := box4 hbox2
  cases hl : longB n with
  | true =>
    go_wp2_with (first | (go_at_call 11; refine (long_is _ _ _ n _ hn2 hl).mono ?_; rintro e w3 ⟨rfl, hb3⟩; refine Hid.out ?_))
    refine Lib.hid ?_
    have B3 := B2.trans (hb3.mono B2.size)
    have t3 := tab_up (htab.on B3) (show W.heap.size ≤ w3.heap.size by have := B3.size; omega)
    go_wp2_with fail
    refine (works_any _ _ (Nat.le_refl _) t3).mono ?_
    rintro e w4 ⟨rfl, hb4⟩
    go_wp2_with fail
    go_ret
    exact ⟨rfl, B3.trans (hb4.mono B3.size)⟩
  | false =>
    go_wp2_with (first | (go_at_call 11; refine (long_is _ _ _ n _ hn2 hl).mono ?_; rintro e w3 ⟨rfl, hb3⟩; refine Hid.out ?_))
    refine Lib.hid ?_
    have B3 := B2.trans (hb3.mono B2.size)
    have hz3 := hb3.size
    have hn3 := hn2.mono hb3 (show w2.heap.size ≤ w3.heap.size by omega)
    have hbox3 := box_up' hbox2 hb3
    clear c0 c1 c2 c3 hl
    obtain ⟨c0, c1, c2, c3⟩ := box4 hbox3
    have t3 := tab_up (htab.on B3) (show W.heap.size ≤ w3.heap.size by have := B3.size; omega)
    rcases LAW.out with hg1 | ⟨hg1, hx⟩ | ⟨l, hg1, hok, hK, hD, hx⟩
    · have G1 := Lib.hid (grow_no _ _ (Nat.le_refl _) _ _ n hn3 _ t3 hg1)
      clear hg1
      go_wp2_with (first | (go_at_call 12; refine G1.out.mono ?_; rintro e w4 ⟨rfl, hb4⟩; refine Hid.out ?_))
      refine Lib.hid ?_
      have hz4 := hb4.size
      have hbox4 := box_up' hbox3 hb4
      clear c0 c1 c2 c3
      obtain ⟨c0, c1, c2, c3⟩ := box4 hbox4
      have B4 := B3.trans (hb4.mono B3.size)
      have t4 := tab_up (htab.on B4) (show W.heap.size ≤ w4.heap.size by have := B4.size; omega)
      rcases expR_any n (1 + (c : Int)) with ⟨f, hf⟩ | ⟨g, hf⟩
      · have G2 := Lib.hid (exp_no _ _ (Nat.le_refl _) _ _ n (hn3.mono hb4 hz4) _ t4 hf)
        clear hf
        go_wp2_with (first | (go_at_call 35; refine G2.out.mono ?_; rintro e w5 ⟨rfl, hb5⟩; refine Hid.out ?_))
        refine Lib.hid ?_
        go_wp2_with fail
        go_ret
        exact ⟨rfl, B4.trans (hb5.mono B4.size)⟩
      · have G2 := Lib.hid (exp_ok _ _ (Nat.le_refl _) _ _ n (hn3.mono hb4 hz4) _ t4 hf)
        clear hf
        go_wp2_with (first | (go_at_call 35; refine G2.out.mono ?_; rintro e w5 ⟨p5, rfl, hT5, hb5⟩; refine Hid.out ?_))
        refine Lib.hid ?_
        go_wp2_with fail
        go_ret
        exact ⟨rfl, B4.trans (hb5.mono B4.size)⟩
    · have G1 := Lib.hid (grow_no _ _ (Nat.le_refl _) _ _ n hn3 _ t3 hg1)
      clear hg1
      have hx' := Lib.hid hx
      clear hx
      go_wp2_with (first | (go_at_call 12; refine G1.out.mono ?_; rintro e w4 ⟨rfl, hb4⟩; refine Hid.out ?_))
      refine Lib.hid ?_
      have hz4 := hb4.size
      have hbox4 := box_up' hbox3 hb4
      clear c0 c1 c2 c3
      obtain ⟨c0, c1, c2, c3⟩ := box4 hbox4
      have B4 := B3.trans (hb4.mono B3.size)
      have t4 := tab_up (htab.on B4) (show W.heap.size ≤ w4.heap.size by have := B4.size; omega)
      rcases hx'.out with hf | ⟨g, hf⟩
      · have G2 := Lib.hid (exp_no _ _ (Nat.le_refl _) _ _ n (hn3.mono hb4 hz4) _ t4 hf)
        clear hf
        go_wp2_with (first | (go_at_call 35; refine G2.out.mono ?_; rintro e w5 ⟨rfl, hb5⟩; refine Hid.out ?_))
        refine Lib.hid ?_
        go_wp2_with fail
        go_ret
        exact ⟨rfl, B4.trans (hb5.mono B4.size)⟩
      · have G2 := Lib.hid (exp_ok _ _ (Nat.le_refl _) _ _ n (hn3.mono hb4 hz4) _ t4 hf)
        clear hf
        go_wp2_with (first | (go_at_call 35; refine G2.out.mono ?_; rintro e w5 ⟨p5, rfl, hT5, hb5⟩; refine Hid.out ?_))
        refine Lib.hid ?_
        go_wp2_with fail
        go_ret
        exact ⟨rfl, B4.trans (hb5.mono B4.size)⟩
    · have G1 := Lib.hid (grow_ok _ _ (Nat.le_refl _) _ _ n hn3 _ t3 hg1)
      clear hg1
      have HX := Lib.hid hx
      have HK := Lib.hid hK
      have HD := Lib.hid hD
      have HOK := Lib.hid hok
      clear hx hK hD hok
      go_wp2_with (first | (go_at_call 12; refine G1.out.mono ?_; rintro e w4 ⟨p4, rfl, hT4, hG4, hb4⟩; refine Hid.out ?_))
      refine Lib.hid ?_
      have HG : Hid (GOk n 4096 l) := Lib.hid hG4
      have hll : l.length ≤ 4096 := HG.out.le
      have hplc : n.places.length ≤ 4096 := by have := (Nt.ok_of HOK.out).many; omega
      have hmls : Hid (∀ d ∈ l, d.mark.length ≤ 4096) := Lib.hid fun d hd => by rw [HG.out.len d hd]; exact hplc
      clear hG4
      have hz4 := hb4.size
      have hbox4 := box_up' hbox3 hb4
      clear c0 c1 c2 c3
      obtain ⟨c0, c1, c2, c3⟩ := box4 hbox4
      have B4 := B3.trans (hb4.mono B3.size)
      have t4 := tab_up (htab.on B4) (show W.heap.size ≤ w4.heap.size by have := B4.size; omega)
      rcases HX.out with ⟨hf, hnone⟩ | ⟨g, hf, hxf⟩
      · have G2 := Lib.hid (exp_no _ _ (Nat.le_refl _) _ _ n (hn3.mono hb4 hz4) _ t4 hf)
        have HNo := Lib.hid hnone
        clear hf hnone
        go_wp2_with (first | (go_at_call 35; refine G2.out.mono ?_; rintro e w5 ⟨rfl, hb5⟩; refine Hid.out ?_))
        refine Lib.hid ?_
        have hz5 := hb5.size
        have hT5 := hT4.mono hb5 hz5
        have B5 := B4.trans (hb5.mono B4.size)
        clear c0 c1 c2 c3
        cases hbd : boundedB l with
        | false =>
          have HB := Lib.hid (bounded_is _ _ _ l hT5 (Nat.le_refl _) hbd)
          clear hbd
          go_wp2_with (first | (go_at_call 22; refine HB.out.mono ?_; rintro e w6 ⟨rfl, hb6⟩; refine Hid.out ?_))
          refine Lib.hid ?_
          go_wp2_with fail
          go_ret
          exact ⟨rfl, B5.trans (hb6.mono B5.size)⟩
        | true =>
          have hgt : decide (1 + (c : Int) < (dist l : Int)) = true := decide_eq_true (by have := told_no HOK.out HK.out HD.out HG.out (by omega) (by omega) HNo.out hbd; omega)
          have HB := Lib.hid (bounded_is _ _ _ l hT5 (Nat.le_refl _) hbd)
          clear hbd
          go_wp2_with (first | (go_at_call 22; refine HB.out.mono ?_; rintro e w6 ⟨rfl, hb6⟩; refine Hid.out ?_))
          refine Lib.hid ?_
          have HDs := Lib.hid (distinct_is _ _ _ l (hT5.mono hb6 hb6.size) (Nat.le_refl _) hll rfl)
          go_wp2_with (first | (go_at_call 36; refine HDs.out.mono ?_; rintro e w7 ⟨rfl, hb7⟩; refine Hid.out ?_))
          refine Lib.hid ?_
          go_wp2_with fail
          go_ret
          have B6 := B5.trans (hb6.mono B5.size)
          exact ⟨rfl, B6.trans (hb7.mono B6.size)⟩
      · have G2 := Lib.hid (exp_ok _ _ (Nat.le_refl _) _ _ n (hn3.mono hb4 hz4) _ t4 hf)
        obtain ⟨hbd, hds, hfd⟩ := told_yes HOK.out HK.out HD.out HG.out (by omega) hxf
        have HF := Lib.hid hfd
        have HDS := Lib.hid hds
        have HBD := Lib.hid hbd
        clear hf hxf hbd hds hfd
        go_wp2_with (first | (go_at_call 35; refine G2.out.mono ?_; rintro e w5 ⟨p5, rfl, hg5, hb5⟩; refine Hid.out ?_))
        refine Lib.hid ?_
        have hz5 := hb5.size
        have hT5 := hT4.mono hb5 hz5
        have B5 := B4.trans (hb5.mono B4.size)
        have HB := Lib.hid (bounded_is _ _ _ l hT5 (Nat.le_refl _) HBD.out)
        clear c0 c1 c2 c3
        go_wp2_with (first | (go_at_call 22; refine HB.out.mono ?_; rintro e w6 ⟨rfl, hb6⟩; refine Hid.out ?_))
        refine Lib.hid ?_
        have hz6 := hb6.size
        have hT6 := hT5.mono hb6 hz6
        have hg6 := hg5.mono hb6 hz6
        have B6 := B5.trans (hb6.mono B5.size)
        have HDs := Lib.hid (distinct_is _ _ _ l hT6 (Nat.le_refl _) hll (t := (g.marks.length : Int)) (by rw [HDS.out]))
        go_wp2_with (first | (go_at_call 36; refine HDs.out.mono ?_; rintro e w7 ⟨rfl, hb7⟩; refine Hid.out ?_))
        refine Lib.hid ?_
        have hz7 := hb7.size
        have hT7 := hT6.mono hb7 hz7
        have hg7 := hg6.mono hb7 hz7
        have B7 := B6.trans (hb7.mono B6.size)
        go_wp2_with (first | (go_at_call 37; refine (glen_any _ _ p5 _ g _ hg7).mono ?_; rintro e w8 ⟨rfl, rfl⟩; refine Hid.out ?_))
        refine Lib.hid ?_
        clear hT4 hT5 hT6 hg5 hg6 HB HDs G1 G2 hbox2 hbox3 hbox4 hboxA hn2 hn3 t1 t3 t4 hb2 hb3 hb4 hb5 hb6 hb7 B2 B3 B4 B5 B6
        go_wp2_with fail
        go_loopg [10] l.length (fun gh s10 wr => ∃ i : Nat, i + gh = l.length ∧ s10 = .int .i64 (i : Int) ∧ Below w7.heap.size w7 wr)
        case atStart => exact ⟨0, by omega, rfl, Below.refl _ _⟩
        case round =>
          obtain ⟨i, hig, rfl, hbr⟩ := hrel
          have hzr := hbr.size
          have hTr := hT7.mono hbr hzr
          have hgr := hg7.mono hbr hzr
          have Br := B7.trans (hbr.mono B7.size)
          by_cases hi : i < l.length
          · go_wp2_with (go_at_call 13; refine (len_any _ _ _ l hTr).mono ?_; rintro e w8 ⟨rfl, rfl⟩; refine Hid.out ?_)
            refine Lib.hid ?_
            obtain ⟨xp, hxp⟩ : ∃ xp, (ndAt l i).par = xp := ⟨_, rfl⟩
            obtain ⟨xt, hxt⟩ : ∃ xt, (ndAt l i).tr = xt := ⟨_, rfl⟩
            obtain ⟨mk, hmk⟩ : ∃ mk, (ndAt l i).mark = mk := ⟨_, rfl⟩
            obtain ⟨ag, hag⟩ : ∃ ag, (ndAt l i).again = ag := ⟨_, rfl⟩
            have hxi : l[i] = ⟨xp, xt, mk, ag⟩ := by rw [← ndAt_eq hi, ← hxp, ← hxt, ← hmk, ← hag]
            have hml : mk.length ≤ 4096 := by have := hmls.out l[i] (List.getElem_mem hi); rw [hxi] at this; exact this
            have hmi : Hid (∀ x ∈ mk, In64 x) := Lib.hid (by have := HG.out.in64 (by omega) (List.getElem_mem hi); rw [hxi] at this; exact this)
            have hfi : decide (0 ≤ findM g.marks mk) = true := decide_eq_true (by rw [← hmk]; exact HF.out i hi)
            have HN := Lib.hid (node_is _ _ p4 l hTr (Nat.le_refl _) i hi hxi rfl)
            clear hxp hxt hmk hag hxi
            go_wp2_with (first | (go_at_call 14; refine HN.out.mono ?_; rintro e w8 ⟨v8, rfl, how8, hb8⟩; refine Hid.out ?_))
            refine Lib.hid ?_
            have hz8 := hb8.size
            obtain ⟨a8, c8, rfl⟩ := how8.shape
            obtain ⟨W8, hW8⟩ : ∃ W8, w8.alloc (.cells #[.int .i64 xp, .int .i64 xt, .slice a8 mk.length c8, .int .i64 ag] 36) = W8 := ⟨_, rfl⟩
            have hbW8 : Below w8.heap.size w8 W8 := by rw [← hW8]; exact (Below.refl _ _).alloc (Nat.le_refl _) _
            have hxW8 : W8.heap[w8.heap.size]? = some (.cells #[.int .i64 xp, .int .i64 xt, .slice a8 mk.length c8, .int .i64 ag] 36) := by rw [← hW8]; exact heap_alloc_new _ _
            have h38 : Below wr.heap.size wr W8 := hb8.trans (hbW8.mono hz8)
            have hz38 := h38.size
            have B8 := Br.trans (h38.mono Br.size)
            have i8 : Ints W8 W8.heap.size (.slice a8 mk.length c8) mk := (how8.kept hbW8 (Nat.le_refl _)).col (by omega) (Nat.le_refl _)
            obtain ⟨q0, q1, q2, q3⟩ := box4 hxW8
            have HC := gfind_any _ _ p5 _ g _ (hgr.mono h38 hz38) (Nat.le_refl _) (tab_up (htab.on B8) (show W.heap.size ≤ W8.heap.size by have := B8.size; omega)) _ mk i8 hmi.out hml
            rw [hfi] at HC
            have HC' := Lib.hid HC
            clear HN hxW8 HC how8
            go_wp2_with (first | (go_at_call 38; refine HC'.out.mono ?_; rintro e w9 ⟨rfl, hb9⟩; refine Hid.out ?_))
            refine Lib.hid ?_
            go_wp2_with fail
            go_roundg (l.length - (i + 1))
            case measure => omega
            case rel => exact ⟨i + 1, by omega, by go_num, hbr.trans ((h38.trans (hb9.mono hz38)).mono hzr)⟩
          · have hk' : ¬ ((i : Int) < (l.length : Int)) := by omega
            go_wp2_with (go_at_call 13; refine (len_any _ _ _ l hTr).mono ?_; rintro e w8 ⟨rfl, rfl⟩)
            go_ret
            exact ⟨rfl, Br⟩

end Go.Proofs.YtgahlonimaeicaaDoor
