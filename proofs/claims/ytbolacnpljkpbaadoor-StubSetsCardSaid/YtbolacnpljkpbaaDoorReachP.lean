/- All that a net reaches, on lists; no program here. -/
import Derived.Test.YtbolacnpljkpbaaDoorNetShiftP
import Derived.Test.YtbolacnpljkpbaaDoorNetOne
import Derived.Test.YtbolacnpljkpbaaDoorKeyText
set_option maxRecDepth 100000
namespace Go.Proofs.YtbolacnpljkpbaaDoor

/-- A graph: markings, the edges (transition, to) of each, and by which edge (transition, from) each was found. -/
structure Gr where
  marks : List (List Int)
  edges : List (List (Int × Int))
  src : List (Int × Int)

/-- The number of a marking in a list; -1: it is not there. -/
def findM (ms : List (List Int)) (m : List Int) : Int := match ms.findIdx? (fun d => d == m) with | some i => (i : Int) | none => -1
theorem findM_nil (m : List Int) : findM [] m = -1 := rfl
theorem findM_range (l : List (List Int)) (m : List Int) : -1 ≤ findM l m ∧ findM l m < (l.length : Int) := by
  unfold findM
  cases h : l.findIdx? (fun d => d == m) with
  | none => simp; omega
  | some i =>
    have := (List.findIdx?_eq_some_iff_getElem.1 h).1
    simp only
    omega
theorem findM_at {l : List (List Int)} {m : List Int} (h : 0 ≤ findM l m) : ∃ i : Nat, ∃ hi : i < l.length, findM l m = (i : Int) ∧ l[i] = m ∧ ∀ j (hj : j < i), l[j]'(by omega) ≠ m := by
  unfold findM at *
  cases e : l.findIdx? (fun d => d == m) with
  | none => rw [e] at h; simp at h
  | some i =>
    obtain ⟨h1, h2, h3⟩ := List.findIdx?_eq_some_iff_getElem.1 e
    exact ⟨i, h1, rfl, by simpa using h2, fun j hj => by have := h3 j hj; simpa using this⟩
theorem findM_no {l : List (List Int)} {m : List Int} (h : findM l m < 0) : m ∉ l := by
  unfold findM at h
  cases e : l.findIdx? (fun d => d == m) with
  | some i => rw [e] at h; simp at h; omega
  | none =>
    intro hm
    have := List.findIdx?_eq_none_iff.1 e m hm
    simp at this
theorem findM_mem {l : List (List Int)} {m : List Int} (h : m ∈ l) : 0 ≤ findM l m := by
  by_cases e : 0 ≤ findM l m
  · exact e
  · exact absurd h (findM_no (by omega))
theorem findM_app_old {l : List (List Int)} {m : List Int} (h : 0 ≤ findM l m) (d : List Int) : findM (l ++ [d]) m = findM l m := by
  unfold findM at *
  rw [List.findIdx?_append]
  cases e : l.findIdx? (fun d => d == m) with
  | none => rw [e] at h; simp at h
  | some i => simp
theorem findM_app_new {l : List (List Int)} {m : List Int} (h : findM l m < 0) (d : List Int) : findM (l ++ [d]) m = if d = m then (l.length : Int) else -1 := by
  unfold findM at *
  rw [List.findIdx?_append]
  cases e : l.findIdx? (fun d => d == m) with
  | some i => rw [e] at h; simp at h; omega
  | none =>
    by_cases hd : d = m
    · simp [hd, List.findIdx?_cons]
    · simp [hd, List.findIdx?_cons]
theorem findM_self {l : List (List Int)} (hn : l.Nodup) {i : Nat} (hi : i < l.length) : findM l l[i] = (i : Int) := by
  obtain ⟨j, hj, e, e2, e3⟩ := findM_at (findM_mem (List.getElem_mem hi))
  rw [e]
  by_cases h1 : i < j
  · exact absurd rfl (e3 i h1)
  · by_cases h2 : j < i
    · exact absurd e2 (List.pairwise_iff_getElem.1 hn j i hj hi h2)
    · have : j = i := by omega
      omega

def mkAt (g : Gr) (i : Nat) : List Int := g.marks.getD i []
theorem mkAt_eq {g : Gr} {i : Nat} (h : i < g.marks.length) : mkAt g i = g.marks[i] := by simp [mkAt, h]
def edAt (g : Gr) (i : Nat) : List (Int × Int) := g.edges.getD i []
def Gr.put (g : Gr) (m : List Int) (f : Int × Int) : Gr := if 0 ≤ findM g.marks m then g else ⟨g.marks ++ [m], g.edges ++ [[]], g.src ++ [f]⟩
def Gr.idx (g : Gr) (m : List Int) : Int := if 0 ≤ findM g.marks m then findM g.marks m else (g.marks.length : Int)
def Gr.addE (g : Gr) (i : Nat) (e : Int × Int) : Gr := { g with edges := g.edges.set i (edAt g i ++ [e]) }
/-- A firing at the i-th marking: the marking behind it, put, and an edge to it. -/
def fireG (n : Nt) (g : Gr) (i : Nat) (t : Int) : List Int := ((n.tr t).fireE (mkAt g i)).2
def stepG (n : Nt) (i : Nat) (g : Gr) (t : Int) : Gr := (g.put (fireG n g i t) (t, (i : Int))).addE i (t, g.idx (fireG n g i t))
def exIn (n : Nt) (most i : Nat) : List Int → Gr → Option Gr
  | [], g => some g
  | t :: ts, g => if (most : Int) ≤ g.idx (fireG n g i t) then none else exIn n most i ts (stepG n i g t)
def exF (n : Nt) (most : Nat) : Nat → Nat → Gr → Option Gr
  | 0, _, g => some g
  | f + 1, i, g => if i < g.marks.length then (exIn n most i (n.enE (mkAt g i)) g).bind (exF n most f (i + 1)) else some g
def rootG (n : Nt) : Gr := ⟨[oneL n.places.length n.init], [[]], [(0, 0)]⟩
def exploreE (n : Nt) (most : Nat) : Option Gr := exF n most (most + 1) 0 (rootG n)

/-- A graph as far as it has been found. -/
structure XOk (n : Nt) (most : Nat) (g : Gr) : Prop where
  pos : 0 < g.marks.length
  le : g.marks.length ≤ most
  elen : g.edges.length = g.marks.length
  slen : g.src.length = g.marks.length
  mark : ∀ i (h : i < g.marks.length), n.Mark g.marks[i] ∧ ∀ x ∈ g.marks[i], x ≤ 1 + (i : Int)
  nodup : g.marks.Nodup
  root : mkAt g 0 = oneL n.places.length n.init
  edge : ∀ l ∈ g.edges, ∀ e ∈ l, (0 ≤ e.1 ∧ e.1 < (n.trans.length : Int)) ∧ 0 ≤ e.2 ∧ e.2 < (g.marks.length : Int)
  from_ : ∀ i (h : i < g.src.length), (0 ≤ g.src[i].2 ∧ (g.src[i].2 < (i : Int) ∨ i = 0 ∧ g.src[i].2 = 0)) ∧
    (0 < i → 0 ≤ g.src[i].1 ∧ g.src[i].1 < (n.trans.length : Int) ∧ ((n.tr g.src[i].1).fireE (mkAt g g.src[i].2.toNat)).1 = 0 ∧ ((n.tr g.src[i].1).fireE (mkAt g g.src[i].2.toNat)).2 = mkAt g i)

theorem enGo_mem {m : List Int} : ∀ (ts : List Tr) (k : Nat) {t : Int}, t ∈ enGo m ts k → ∃ q : Nat, ∃ h : q < ts.length, t = ((k + q : Nat) : Int) ∧ ts[q].enB m = true
  | [], k, t, h => by simp [enGo] at h
  | x :: ts, k, t, h => by
    rw [enGo] at h
    by_cases e : x.enB m = true
    · rw [if_pos e] at h
      rcases List.mem_cons.1 h with rfl | h
      · exact ⟨0, by simp, by simp, by simpa using e⟩
      · obtain ⟨q, hq, h1, h2⟩ := enGo_mem ts (k + 1) h
        exact ⟨q + 1, by simpa using hq, by rw [h1]; congr 1; omega, by simpa using h2⟩
    · rw [if_neg e] at h
      obtain ⟨q, hq, h1, h2⟩ := enGo_mem ts (k + 1) h
      exact ⟨q + 1, by simpa using hq, by rw [h1]; congr 1; omega, by simpa using h2⟩
theorem enE_mem {n : Nt} {m : List Int} {t : Int} (h : t ∈ n.enE m) : ∃ q : Nat, ∃ hq : q < n.trans.length, t = (q : Int) ∧ n.tr t = n.trans[q] ∧ n.trans[q].enB m = true := by
  obtain ⟨q, hq, h1, h2⟩ := enGo_mem _ _ h
  have e : t = (q : Int) := by rw [h1]; simp
  exact ⟨q, hq, e, by rw [e]; simp [Nt.tr, hq], h2⟩

theorem fire_low {n : Nt} {m : List Int} (hm : n.Mark m) {t : Tr} (ht : t ∈ n.trans) (he : t.enB m = true) {U : Int} (hU : U ≤ 2147483646) (hs : ∀ x ∈ m, x ≤ U) : (t.fireE m).1 = 0 ∧ ∀ x ∈ (t.fireE m).2, x ≤ U + 1 := by
  have f0 : (t.fireE m).1 = 0 := by
    rw [fire_iff hm ht]
    refine ⟨enB_iff.1 he, fun p hp => ?_⟩
    have hpl := (hm.ok.out t ht).1 p hp
    rw [← hm.len] at hpl
    obtain ⟨q, rfl⟩ := Int.eq_ofNat_of_zero_le hpl.1
    have hq : q < m.length := by omega
    rw [getI_eq hq]
    have h1 := hasI_range t.inn (q : Int)
    have := hs _ (List.getElem_mem hq)
    omega
  refine ⟨f0, fun x hx => ?_⟩
  obtain ⟨p, hp, rfl⟩ := List.getElem_of_mem hx
  rw [len_fire] at hp
  have hg := getI_fire hm ht f0 (p := (p : Int)) (by omega) (by omega)
  rw [getI_eq (by rw [len_fire]; exact hp), getI_eq hp] at hg
  have h1 := hasI_range t.inn p
  have h2 := hasI_range t.out p
  have := hs _ (List.getElem_mem hp)
  omega

theorem idx_range (g : Gr) (m : List Int) : 0 ≤ g.idx m ∧ g.idx m ≤ (g.marks.length : Int) ∧ (g.idx m < (g.marks.length : Int) ↔ 0 ≤ findM g.marks m) := by
  have := findM_range g.marks m
  unfold Gr.idx
  split <;> omega
theorem put_len (g : Gr) (m : List Int) (f : Int × Int) : (g.put m f).marks.length = if 0 ≤ findM g.marks m then g.marks.length else g.marks.length + 1 := by
  unfold Gr.put
  split <;> simp
theorem put_mkAt (g : Gr) (m : List Int) (f : Int × Int) {j : Nat} (h : j < g.marks.length) : mkAt (g.put m f) j = mkAt g j := by
  unfold Gr.put
  split
  · rfl
  · rw [mkAt_eq h, mkAt_eq (by simp; omega)]
    simp [h]
theorem addE_mkAt (g : Gr) (i : Nat) (e : Int × Int) (j : Nat) : mkAt (g.addE i e) j = mkAt g j := rfl
theorem put_at (g : Gr) (m : List Int) (f : Int × Int) : ∃ k : Nat, g.idx m = (k : Int) ∧ k < (g.put m f).marks.length ∧ mkAt (g.put m f) k = m := by
  by_cases h : 0 ≤ findM g.marks m
  · obtain ⟨k, hk, e1, e2, _⟩ := findM_at h
    refine ⟨k, by unfold Gr.idx; rw [if_pos h, e1], by rw [put_len, if_pos h]; exact hk, ?_⟩
    rw [put_mkAt _ _ _ hk, mkAt_eq hk, e2]
  · refine ⟨g.marks.length, by unfold Gr.idx; rw [if_neg h], by rw [put_len, if_neg h]; omega, ?_⟩
    unfold Gr.put
    rw [if_neg h, mkAt_eq (by simp)]
    simp
theorem XOk.put {n : Nt} {most : Nat} {g : Gr} (x : XOk n most g) (hm : most ≤ 1024) {i : Nat} (hi : i < g.marks.length) {t : Int} (ht : t ∈ n.enE (mkAt g i)) (hlt : g.idx (fireG n g i t) < (most : Int)) : XOk n most (g.put (fireG n g i t) (t, (i : Int))) := by
  obtain ⟨q, hq, rfl, e2, e3⟩ := enE_mem ht
  obtain ⟨hM, hs⟩ := x.mark i hi
  rw [mkAt_eq hi] at e3
  have hmem := List.getElem_mem hq
  have hle := x.le
  obtain ⟨f0, f1⟩ := fire_low hM hmem e3 (by omega) hs
  have hfe : fireG n g i (q : Int) = (n.trans[q].fireE g.marks[i]).2 := by unfold fireG; rw [e2, mkAt_eq hi]
  by_cases h : 0 ≤ findM g.marks (fireG n g i (q : Int))
  · unfold Gr.put; rw [if_pos h]; exact x
  · have hix : g.idx (fireG n g i (q : Int)) = (g.marks.length : Int) := by unfold Gr.idx; rw [if_neg h]
    rw [hix] at hlt
    have hno := findM_no (l := g.marks) (m := fireG n g i (q : Int)) (by omega)
    have hmk : ∀ j : Nat, j < g.marks.length → mkAt (g.put (fireG n g i (q : Int)) ((q : Int), (i : Int))) j = mkAt g j := fun j hj => put_mkAt _ _ _ hj
    have hel := x.elen
    have hsl := x.slen
    have hp : g.put (fireG n g i (q : Int)) ((q : Int), (i : Int)) = ⟨g.marks ++ [fireG n g i (q : Int)], g.edges ++ [[]], g.src ++ [((q : Int), (i : Int))]⟩ := by unfold Gr.put; rw [if_neg h]
    refine ⟨?_, ?_, ?_, ?_, ?_, ?_, ?_, ?_, ?_⟩
    · rw [hp]; simp
    · rw [hp]; simp; omega
    · rw [hp]; simp; exact hel
    · rw [hp]; simp; exact hsl
    · intro j hj
      by_cases hj2 : j < g.marks.length
      · have := x.mark j hj2
        have e : (g.put (fireG n g i (q : Int)) ((q : Int), (i : Int))).marks[j] = g.marks[j] := by
          have := hmk j hj2
          rw [mkAt_eq hj, mkAt_eq hj2] at this
          exact this
        rw [e]; exact this
      · have hj3 : j = g.marks.length := by
          rw [put_len, if_neg h] at hj; omega
        have e : (g.put (fireG n g i (q : Int)) ((q : Int), (i : Int))).marks[j] = (n.trans[q].fireE g.marks[i]).2 := by
          rw [← hfe]
          subst hj3
          simp [hp]
        rw [e]
        exact ⟨hM.fire hmem f0, fun y hy => by have := f1 y hy; omega⟩
    · rw [hp]
      rw [List.nodup_append]
      exact ⟨x.nodup, by simp, fun a ha b hb => by
        obtain rfl : b = fireG n g i (q : Int) := by simpa using hb
        exact fun e => hno (e ▸ ha)⟩
    · rw [hmk 0 x.pos]; exact x.root
    · rw [hp]
      intro l hl e he
      rcases List.mem_append.1 hl with hl | hl
      · obtain ⟨a1, a2, a3⟩ := x.edge l hl e he
        exact ⟨a1, a2, by simp; omega⟩
      · obtain rfl : l = [] := by simpa using hl
        cases he
    · intro j hj
      by_cases hj2 : j < g.src.length
      · have e : (g.put (fireG n g i (q : Int)) ((q : Int), (i : Int))).src[j] = g.src[j] := by
          simp [hp, hj2]
        obtain ⟨b1, b2⟩ := x.from_ j hj2
        rw [e]
        refine ⟨b1, fun h0 => ?_⟩
        obtain ⟨c1, c2, c3, c4⟩ := b2 h0
        have hlt2 : g.src[j].2.toNat < g.marks.length := by omega
        rw [hmk _ hlt2, hmk j (by omega)]
        exact ⟨c1, c2, c3, c4⟩
      · have hj3 : j = g.src.length := by
          have : (g.put (fireG n g i (q : Int)) ((q : Int), (i : Int))).src.length = g.src.length + 1 := by rw [hp]; simp
          omega
        have e : (g.put (fireG n g i (q : Int)) ((q : Int), (i : Int))).src[j] = ((q : Int), (i : Int)) := by
          subst hj3
          simp [hp]
        rw [e]
        refine ⟨⟨by simp, Or.inl (by simp; omega)⟩, fun h0 => ⟨by simp, by simp; omega, ?_, ?_⟩⟩
        · simp only [Int.toNat_natCast]
          rw [e2, hmk i hi, mkAt_eq hi]; exact f0
        · simp only [Int.toNat_natCast]
          rw [e2, hmk i hi, mkAt_eq hi, ← hfe]
          have hj4 : j = g.marks.length := by omega
          subst hj4
          rw [mkAt_eq (by rw [hp]; simp)]
          simp [hp]
theorem XOk.addE {n : Nt} {most : Nat} {g : Gr} (x : XOk n most g) {i : Nat} {e : Int × Int} (h1 : 0 ≤ e.1 ∧ e.1 < (n.trans.length : Int)) (h2 : 0 ≤ e.2 ∧ e.2 < (g.marks.length : Int)) : XOk n most (g.addE i e) := by
  refine ⟨x.pos, x.le, ?_, x.slen, x.mark, x.nodup, x.root, ?_, x.from_⟩
  · show (g.edges.set i _).length = _
    rw [List.length_set]; exact x.elen
  · intro l hl y hy
    have hl' : l ∈ g.edges.set i (edAt g i ++ [e]) := hl
    rcases List.mem_or_eq_of_mem_set hl' with hl | rfl
    · exact x.edge l hl y hy
    · rcases List.mem_append.1 hy with hy | hy
      · by_cases hi : i < g.edges.length
        · have : edAt g i = g.edges[i] := by simp [edAt, hi]
          rw [this] at hy
          exact x.edge _ (List.getElem_mem hi) y hy
        · have : edAt g i = [] := by simp [edAt, hi]
          rw [this] at hy; cases hy
      · obtain rfl : y = e := by simpa using hy
        exact ⟨h1, h2⟩
theorem XOk.step {n : Nt} {most : Nat} {g : Gr} (x : XOk n most g) (hm : most ≤ 1024) {i : Nat} (hi : i < g.marks.length) {t : Int} (ht : t ∈ n.enE (mkAt g i)) (hlt : g.idx (fireG n g i t) < (most : Int)) : XOk n most (stepG n i g t) := by
  have hp := x.put hm hi ht hlt
  obtain ⟨q, hq, e1, -, -⟩ := enE_mem ht
  obtain ⟨k, k1, k2, -⟩ := put_at g (fireG n g i t) (t, (i : Int))
  refine hp.addE ⟨?_, ?_⟩ ⟨?_, ?_⟩
  · show 0 ≤ t; omega
  · show t < _; omega
  · show 0 ≤ g.idx _; omega
  · show g.idx _ < _; omega
theorem XOk.first {n : Nt} (hok : n.okB = true) {most : Nat} (hm : 1 ≤ most) : XOk n most (rootG n) := by
  have ok := Nt.ok_of hok
  refine ⟨by simp [rootG], by simpa [rootG] using hm, rfl, rfl, ?_, by simp [rootG], rfl, ?_, ?_⟩
  · intro i hi
    have : i = 0 := by simp [rootG] at hi; omega
    subst this
    have hx : ∀ x ∈ oneL n.places.length n.init, 0 ≤ x ∧ x ≤ 1 := by
      intro x hx
      unfold oneL at hx
      rcases mem_set_cases hx with rfl | h2
      · omega
      · have := List.eq_of_mem_replicate h2; omega
    refine ⟨⟨ok, by simp [rootG, oneL], fun x h => ?_⟩, fun x h => ?_⟩
    · have := hx x (by simpa [rootG] using h); omega
    · have := hx x (by simpa [rootG] using h); omega
  · intro l hl e he
    obtain rfl : l = [] := by simpa [rootG] using hl
    cases he
  · intro i hi
    have : i = 0 := by simp [rootG] at hi; omega
    subst this
    exact ⟨⟨by simp [rootG], Or.inr ⟨rfl, by simp [rootG]⟩⟩, fun h => by omega⟩

end Go.Proofs.YtbolacnpljkpbaaDoor
