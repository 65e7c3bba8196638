/- What a graph that was explored is: all that fires leads on, ways, shortest ways, budgets; on lists; no program here. -/
import Derived.Test.YtbolacnpljkpbaaDoorReachP
set_option maxRecDepth 100000
namespace Go.Proofs.YtbolacnpljkpbaaDoor

/-- The edge of a firing. -/
def edgeOf (n : Nt) (g : Gr) (i : Nat) (t : Int) : Int × Int := (t, findM g.marks (fireG n g i t))

/-- The way to a marking: from which marking, by which transition. -/
def gwayF (src : List (Int × Int)) : Nat → Nat → List Int
  | 0, _ => []
  | f + 1, i => if i = 0 then [] else gwayF src f (src.getD i (0, 0)).2.toNat ++ [(src.getD i (0, 0)).1]
def gwayE (g : Gr) (i : Nat) : List Int := gwayF g.src i i
def dep (g : Gr) (i : Nat) : Nat := (gwayE g i).length

/-- Each was found from one ahead of it. -/
def SrcOk (src : List (Int × Int)) : Prop := ∀ j, 0 < j → j < src.length → 0 ≤ (src.getD j (0, 0)).2 ∧ (src.getD j (0, 0)).2 < (j : Int)

theorem gwayF_fuel {src : List (Int × Int)} (hs : SrcOk src) : ∀ (f1 f2 i : Nat), i ≤ f1 → i ≤ f2 → i < src.length → gwayF src f1 i = gwayF src f2 i
  | 0, 0, i, _, _, _ => rfl
  | 0, f2 + 1, i, h1, _, _ => by
    obtain rfl : i = 0 := by omega
    simp [gwayF]
  | f1 + 1, 0, i, _, h2, _ => by
    obtain rfl : i = 0 := by omega
    simp [gwayF]
  | f1 + 1, f2 + 1, i, h1, h2, h3 => by
    by_cases h0 : i = 0
    · simp [gwayF, h0]
    · have := hs i (by omega) h3
      rw [gwayF, gwayF, if_neg h0, if_neg h0, gwayF_fuel hs f1 f2 _ (by omega) (by omega) (by omega)]
theorem gwayF_app {src : List (Int × Int)} (hs : SrcOk src) (e : Int × Int) : ∀ (f i : Nat), i < src.length → gwayF (src ++ [e]) f i = gwayF src f i
  | 0, i, _ => rfl
  | f + 1, i, h => by
    by_cases h0 : i = 0
    · simp [gwayF, h0]
    · have := hs i (by omega) h
      have hg : (src ++ [e]).getD i (0, 0) = src.getD i (0, 0) := by
        simp [List.getD_eq_getElem?_getD, List.getElem?_append_left h]
      rw [gwayF, gwayF, if_neg h0, if_neg h0, hg, gwayF_app hs e f _ (by omega)]
theorem gway_zero (g : Gr) : gwayE g 0 = [] := rfl
theorem gway_step {g : Gr} (hs : SrcOk g.src) {i : Nat} (h0 : 0 < i) (h : i < g.src.length) : gwayE g i = gwayE g (g.src.getD i (0, 0)).2.toNat ++ [(g.src.getD i (0, 0)).1] := by
  obtain ⟨k, rfl⟩ : ∃ k, i = k + 1 := ⟨i - 1, by omega⟩
  have := hs (k + 1) h0 h
  unfold gwayE
  rw [gwayF, if_neg (by omega), gwayF_fuel hs k _ _ (by omega) (Nat.le_refl _) (by omega)]

theorem XOk.srcOk {n : Nt} {most : Nat} {g : Gr} (x : XOk n most g) : SrcOk g.src := by
  intro j h0 h
  have := (x.from_ j h).1
  have e : g.src.getD j (0, 0) = g.src[j] := by simp [h]
  rw [e]; omega
theorem XOk.src_at {n : Nt} {most : Nat} {g : Gr} (x : XOk n most g) {i : Nat} (h0 : 0 < i) (h : i < g.marks.length) : ∃ j : Nat, ∃ q : Nat, g.src.getD i (0, 0) = ((q : Int), (j : Int)) ∧ j < i ∧ q < n.trans.length ∧ ((n.tr (q : Int)).fireE (mkAt g j)).1 = 0 ∧ ((n.tr (q : Int)).fireE (mkAt g j)).2 = mkAt g i := by
  have hl : i < g.src.length := by rw [x.slen]; exact h
  obtain ⟨h1, h2⟩ := x.from_ i hl
  obtain ⟨h3, h4, h5, h6⟩ := h2 h0
  have e : g.src.getD i (0, 0) = g.src[i] := by simp [hl]
  obtain ⟨j, hj⟩ := Int.eq_ofNat_of_zero_le h1.1
  obtain ⟨q, hq⟩ := Int.eq_ofNat_of_zero_le h3
  rw [hj, hq, Int.toNat_natCast] at h5 h6
  refine ⟨j, q, ?_, by omega, by omega, h5, h6⟩
  rw [e, ← hj, ← hq]
theorem XOk.way_step {n : Nt} {most : Nat} {g : Gr} (x : XOk n most g) {i j q : Nat} (h0 : 0 < i) (h : i < g.marks.length) (e : g.src.getD i (0, 0) = ((q : Int), (j : Int))) : gwayE g i = gwayE g j ++ [(q : Int)] := by
  rw [gway_step x.srcOk h0 (by rw [x.slen]; exact h), e]; rfl
theorem XOk.way_le {n : Nt} {most : Nat} {g : Gr} (x : XOk n most g) : ∀ {i : Nat}, i < g.marks.length → (gwayE g i).length ≤ i := by
  intro i
  induction i using Nat.strongRecOn with
  | _ i ih =>
    intro h
    by_cases h0 : i = 0
    · subst h0; simp [gway_zero]
    · obtain ⟨j, q, e, hj, _⟩ := x.src_at (by omega) h
      rw [x.way_step (by omega) h e]
      have := ih j hj (by omega)
      simp; omega

theorem rowGo_app_yes (n : Nt) : ∀ (r1 r2 m : List Int) (k : Int), (rowGo n m r1 k).2.2 = 0 → rowGo n m (r1 ++ r2) k = rowGo n (rowGo n m r1 k).1 r2 (k + r1.length)
  | [], r2, m, k, _ => by simp [rowGo]
  | t :: r1, r2, m, k, h => by
    simp only [rowGo, List.cons_append] at *
    split
    · next h0 =>
      rw [if_pos h0] at h
      rw [rowGo_app_yes n r1 r2 _ _ h]
      congr 1
      simp; omega
    · next h0 =>
      exfalso
      rw [if_neg h0] at h
      exact h0 h
theorem XOk.row {n : Nt} {most : Nat} {g : Gr} (x : XOk n most g) : ∀ {i : Nat}, i < g.marks.length → rowGo n (mkAt g 0) (gwayE g i) 0 = (mkAt g i, ((gwayE g i).length : Int), 0) ∧ (gwayE g i).any n.badT = false := by
  intro i
  induction i using Nat.strongRecOn with
  | _ i ih =>
    intro h
    by_cases h0 : i = 0
    · subst h0; simp [gway_zero, rowGo]
    · obtain ⟨j, q, e, hj, hq, f1, f2⟩ := x.src_at (by omega) h
      obtain ⟨a1, a2⟩ := ih j hj (by omega)
      rw [x.way_step (by omega) h e]
      refine ⟨?_, ?_⟩
      · rw [rowGo_app_yes _ _ _ _ _ (by rw [a1]), a1]
        simp only [rowGo]
        rw [if_pos f1, f2]
        simp
      · rw [List.any_append, a2]
        simp [Nt.badT]; omega

theorem edAt_put (g : Gr) (m : List Int) (f : Int × Int) (j : Nat) : edAt (g.put m f) j = edAt g j := by
  unfold Gr.put
  split
  · rfl
  · unfold edAt
    simp only [List.getD_eq_getElem?_getD]
    by_cases h : j < g.edges.length
    · rw [List.getElem?_append_left h]
    · rw [List.getElem?_append_right (by omega), List.getElem?_eq_none (l := g.edges) (by omega)]
      cases j - g.edges.length <;> rfl
theorem edAt_addE (g : Gr) (i : Nat) (e : Int × Int) (hi : i < g.edges.length) (j : Nat) : edAt (g.addE i e) j = if j = i then edAt g i ++ [e] else edAt g j := by
  unfold Gr.addE edAt
  simp only [List.getD_eq_getElem?_getD, List.getElem?_set]
  by_cases h : j = i
  · subst h; simp [hi]
  · rw [if_neg (fun e => h e.symm), if_neg h]

theorem put_elen (g : Gr) (m : List Int) (f : Int × Int) : (g.put m f).edges.length = if 0 ≤ findM g.marks m then g.edges.length else g.edges.length + 1 := by
  unfold Gr.put
  split <;> simp
theorem step_marks (n : Nt) (i : Nat) (g : Gr) (t : Int) : (stepG n i g t).marks = (g.put (fireG n g i t) (t, (i : Int))).marks := rfl
theorem step_src (n : Nt) (i : Nat) (g : Gr) (t : Int) : (stepG n i g t).src = (g.put (fireG n g i t) (t, (i : Int))).src := rfl
theorem step_len (n : Nt) (i : Nat) (g : Gr) (t : Int) : (stepG n i g t).marks.length = if 0 ≤ findM g.marks (fireG n g i t) then g.marks.length else g.marks.length + 1 := by rw [step_marks, put_len]
theorem step_mkAt (n : Nt) (i : Nat) (g : Gr) (t : Int) {j : Nat} (h : j < g.marks.length) : mkAt (stepG n i g t) j = mkAt g j := put_mkAt g _ _ h
theorem findM_put {g : Gr} {m x : List Int} {f : Int × Int} (h : 0 ≤ findM g.marks x) : findM (g.put m f).marks x = findM g.marks x := by
  unfold Gr.put
  split
  · rfl
  · exact findM_app_old h m
theorem findM_put_self (g : Gr) (m : List Int) (f : Int × Int) : findM (g.put m f).marks m = g.idx m := by
  unfold Gr.put Gr.idx
  split
  · rfl
  · next h => rw [findM_app_new (by omega), if_pos rfl]
theorem step_fireG (n : Nt) (i : Nat) (g : Gr) (t : Int) {j : Nat} (h : j < g.marks.length) (u : Int) : fireG n (stepG n i g t) j u = fireG n g j u := by
  unfold fireG; rw [step_mkAt n i g t h]
theorem step_edAt (n : Nt) {i : Nat} {g : Gr} (hi : i < g.edges.length) (t : Int) (j : Nat) : edAt (stepG n i g t) j = if j = i then edAt g i ++ [(t, g.idx (fireG n g i t))] else edAt g j := by
  unfold stepG
  rw [edAt_addE _ _ _ (by rw [put_elen]; split <;> omega), edAt_put, edAt_put]

/-- All edges are there, of the first markings; of the next one some. -/
structure XAll (n : Nt) (g : Gr) (i : Nat) (did : List Int) : Prop where
  old : ∀ j, j < i → edAt g j = (n.enE (mkAt g j)).map (edgeOf n g j) ∧ ∀ t ∈ n.enE (mkAt g j), 0 ≤ findM g.marks (fireG n g j t)
  now : edAt g i = did.map (edgeOf n g i) ∧ ∀ t ∈ did, 0 ≤ findM g.marks (fireG n g i t)
  later : ∀ j, i < j → edAt g j = []
/-- Nearer ones first. -/
structure XDep (g : Gr) (i : Nat) : Prop where
  mono : ∀ a b, a ≤ b → b < g.marks.length → dep g a ≤ dep g b
  near : i < g.marks.length → ∀ b, b < g.marks.length → dep g b ≤ dep g i + 1
  edge : ∀ a, a < g.marks.length → ∀ e ∈ edAt g a, dep g e.2.toNat ≤ dep g a + 1

theorem XAll.step {n : Nt} {most : Nat} {g : Gr} (x : XOk n most g) {i : Nat} (hi : i < g.marks.length) {t : Int} {did : List Int} (h : XAll n g i did) : XAll n (stepG n i g t) i (did ++ [t]) := by
  have hie : i < g.edges.length := by rw [x.elen]; exact hi
  have keep : ∀ j u, j < g.marks.length → 0 ≤ findM g.marks (fireG n g j u) → findM (stepG n i g t).marks (fireG n (stepG n i g t) j u) = findM g.marks (fireG n g j u) := by
    intro j u hj h0
    rw [step_fireG n i g t hj, step_marks, findM_put h0]
  refine ⟨?_, ?_, ?_⟩
  · intro j hj
    obtain ⟨h1, h2⟩ := h.old j hj
    rw [step_edAt n hie, if_neg (by omega), step_mkAt n i g t (by omega)]
    refine ⟨?_, fun u hu => by rw [keep j u (by omega) (h2 u hu)]; exact h2 u hu⟩
    rw [h1]
    refine List.map_congr_left fun u hu => ?_
    unfold edgeOf
    rw [keep j u (by omega) (h2 u hu)]
  · obtain ⟨h1, h2⟩ := h.now
    have hself : findM (stepG n i g t).marks (fireG n (stepG n i g t) i t) = g.idx (fireG n g i t) := by
      rw [step_fireG n i g t hi, step_marks, findM_put_self]
    rw [step_edAt n hie, if_pos rfl]
    refine ⟨?_, ?_⟩
    · rw [h1, List.map_append]
      congr 1
      · refine List.map_congr_left fun u hu => ?_
        unfold edgeOf
        rw [keep i u hi (h2 u hu)]
      · simp only [List.map_cons, List.map_nil, edgeOf, hself]
    · intro u hu
      rcases List.mem_append.1 hu with hu | hu
      · rw [keep i u hi (h2 u hu)]; exact h2 u hu
      · obtain rfl : u = t := by simpa using hu
        rw [hself]
        exact (idx_range g _).1
  · intro j hj
    rw [step_edAt n hie, if_neg (by omega)]
    exact h.later j hj
theorem XAll.next {n : Nt} {g : Gr} {i : Nat} (h : XAll n g i (n.enE (mkAt g i))) : XAll n g (i + 1) [] := by
  refine ⟨fun j hj => ?_, ⟨h.later _ (by omega), by simp⟩, fun j hj => h.later j (by omega)⟩
  by_cases e : j = i
  · subst e; exact h.now
  · exact h.old j (by omega)
theorem XAll.first (n : Nt) : XAll n (rootG n) 0 [] := by
  refine ⟨fun j hj => by omega, ⟨rfl, by simp⟩, fun j hj => ?_⟩
  match j, hj with
  | j + 1, _ => simp [edAt, rootG]

theorem dep_put {n : Nt} {most : Nat} {g : Gr} (x : XOk n most g) (m : List Int) (f : Int × Int) {j : Nat} (h : j < g.marks.length) : dep (g.put m f) j = dep g j := by
  unfold dep gwayE Gr.put
  split
  · rfl
  · rw [gwayF_app x.srcOk _ _ _ (by rw [x.slen]; exact h)]
theorem XDep.step {n : Nt} {most : Nat} {g : Gr} (x : XOk n most g) (hm : most ≤ 1024) {i : Nat} (hi : i < g.marks.length) {t : Int} (ht : t ∈ n.enE (mkAt g i)) (hlt : g.idx (fireG n g i t) < (most : Int)) (h : XDep g i) : XDep (stepG n i g t) i := by
  have hie : i < g.edges.length := by rw [x.elen]; exact hi
  have x' := x.step hm hi ht hlt
  have hold : ∀ j, j < g.marks.length → dep (stepG n i g t) j = dep g j := fun j hj => dep_put x _ _ hj
  have hlen := step_len n i g t
  have hnew : ¬ 0 ≤ findM g.marks (fireG n g i t) → dep (stepG n i g t) g.marks.length = dep g i + 1 := by
    intro hn
    rw [if_neg hn] at hlen
    have e : (stepG n i g t).src.getD g.marks.length (0, 0) = (t, (i : Int)) := by
      rw [step_src]
      unfold Gr.put
      rw [if_neg hn, ← x.slen]
      simp
    have hp := x.pos
    rw [← hold i hi]
    unfold dep
    rw [gway_step x'.srcOk hp (by rw [x'.slen]; omega), e]
    simp
  have hbound : ∀ b, b < (stepG n i g t).marks.length → dep (stepG n i g t) b ≤ dep g i + 1 := by
    intro b hb
    by_cases e : b < g.marks.length
    · rw [hold b e]; exact h.near hi b e
    · split at hlen
      · omega
      · next hn =>
        obtain rfl : b = g.marks.length := by omega
        rw [hnew hn]; omega
  have hle : g.marks.length ≤ (stepG n i g t).marks.length := by split at hlen <;> omega
  refine ⟨?_, ?_, ?_⟩
  · intro a b hab hb
    by_cases e : b < g.marks.length
    · rw [hold b e, hold a (by omega)]; exact h.mono a b hab e
    · split at hlen
      · omega
      · next hn =>
        obtain rfl : b = g.marks.length := by omega
        rw [hnew hn]
        by_cases e2 : a < g.marks.length
        · rw [hold a e2]; exact h.near hi a e2
        · obtain rfl : a = g.marks.length := by omega
          rw [hnew hn]; omega
  · intro _ b hb
    rw [hold i hi]; exact hbound b hb
  · intro a ha e he
    rw [step_edAt n hie] at he
    by_cases ea : a = i
    · subst ea
      rw [if_pos rfl] at he
      rw [hold a hi]
      rcases List.mem_append.1 he with he | he
      · have h1 := h.edge a hi e he
        have hei : e.2.toNat < g.marks.length := by
          have : edAt g a = g.edges[a] := by simp [edAt, hie]
          rw [this] at he
          have := (x.edge _ (List.getElem_mem hie) e he).2
          omega
        rw [hold _ hei]; exact h1
      · obtain rfl : e = (t, g.idx (fireG n g a t)) := by simpa using he
        refine hbound _ ?_
        obtain ⟨k, k1, k2, _⟩ := put_at g (fireG n g a t) (t, (a : Int))
        show (g.idx (fireG n g a t)).toNat < _
        rw [k1, Int.toNat_natCast]; exact k2
    · rw [if_neg ea] at he
      by_cases e2 : a < g.marks.length
      · have h1 := h.edge a e2 e he
        have hei : e.2.toNat < g.marks.length := by
          have hal : a < g.edges.length := by rw [x.elen]; exact e2
          have : edAt g a = g.edges[a] := by simp [edAt, hal]
          rw [this] at he
          have := (x.edge _ (List.getElem_mem hal) e he).2
          omega
        rw [hold _ hei, hold a e2]; exact h1
      · have : edAt g a = [] := by
          have := x.elen
          unfold edAt
          rw [List.getD_eq_getElem?_getD, List.getElem?_eq_none (by omega)]; rfl
        rw [this] at he; cases he
theorem XDep.next {g : Gr} {i : Nat} (h : XDep g i) : XDep g (i + 1) := by
  refine ⟨h.mono, fun hi b hb => ?_, h.edge⟩
  have h1 := h.near (by omega) b hb
  have h2 := h.mono i (i + 1) (by omega) hi
  omega
theorem XDep.first (n : Nt) : XDep (rootG n) 0 := by
  refine ⟨?_, ?_, ?_⟩
  · intro a b hab hb
    have : b = 0 := by simp [rootG] at hb; omega
    subst this
    obtain rfl : a = 0 := by omega
    omega
  · intro _ b hb
    have : b = 0 := by simp [rootG] at hb; omega
    subst this; omega
  · intro a ha e he
    have : a = 0 := by simp [rootG] at ha; omega
    subst this
    simp [edAt, rootG] at he

theorem exIn_all {n : Nt} {most : Nat} (hm : most ≤ 1024) {i : Nat} : ∀ (ts did : List Int) (g h : Gr), XOk n most g → i < g.marks.length → did ++ ts = n.enE (mkAt g i) → XAll n g i did → XDep g i → exIn n most i ts g = some h →
    XOk n most h ∧ i < h.marks.length ∧ XAll n h i (n.enE (mkAt h i)) ∧ XDep h i ∧ (∀ j, j < g.marks.length → mkAt h j = mkAt g j) ∧ g.marks.length ≤ h.marks.length
  | [], did, g, h, x, hi, he, hA, hD, e => by
    simp only [exIn, Option.some.injEq] at e
    subst e
    rw [← he, List.append_nil]
    exact ⟨x, hi, hA, hD, fun _ _ => rfl, Nat.le_refl _⟩
  | t :: ts, did, g, h, x, hi, he, hA, hD, e => by
    simp only [exIn] at e
    split at e
    · cases e
    · next hlt =>
      have ht : t ∈ n.enE (mkAt g i) := by rw [← he]; simp
      have hle : g.marks.length ≤ (stepG n i g t).marks.length := by rw [step_len]; split <;> omega
      obtain ⟨a1, a2, a3, a4, a5, a6⟩ := exIn_all hm ts (did ++ [t]) _ h (x.step hm hi ht (by omega)) (by omega) (by rw [step_mkAt n i g t hi, ← he]; simp) (hA.step x hi) (hD.step x hm hi ht (by omega)) e
      exact ⟨a1, a2, a3, a4, fun j hj => by rw [a5 j (by omega), step_mkAt n i g t hj], by omega⟩

/-- All of a graph that is told. -/
structure XFull (n : Nt) (most : Nat) (g : Gr) : Prop where
  ok : XOk n most g
  edges : ∀ j, j < g.marks.length → edAt g j = (n.enE (mkAt g j)).map (edgeOf n g j) ∧ ∀ t ∈ n.enE (mkAt g j), 0 ≤ findM g.marks (fireG n g j t)
  near : ∀ a, a < g.marks.length → ∀ e ∈ edAt g a, dep g e.2.toNat ≤ dep g a + 1

theorem exF_all {n : Nt} {most : Nat} (hm : most ≤ 1024) : ∀ (f i : Nat) (g h : Gr), most + 1 ≤ i + f → XOk n most g → i ≤ g.marks.length → XAll n g i [] → XDep g i → exF n most f i g = some h → XFull n most h
  | 0, i, g, h, hf, x, hi, _, _, _ => by have := x.le; omega
  | f + 1, i, g, h, hf, x, hi, hA, hD, e => by
    simp only [exF] at e
    by_cases hlt : i < g.marks.length
    · rw [if_pos hlt] at e
      cases e1 : exIn n most i (n.enE (mkAt g i)) g with
      | none => rw [e1] at e; cases e
      | some g1 =>
        rw [e1] at e
        obtain ⟨a1, a2, a3, a4, _⟩ := exIn_all hm _ [] g g1 x hlt rfl hA hD e1
        exact exF_all hm f (i + 1) g1 h (by omega) a1 a2 a3.next a4.next e
    · rw [if_neg hlt, Option.some.injEq] at e
      subst e
      obtain rfl : i = g.marks.length := by omega
      exact ⟨x, hA.old, hD.edge⟩
theorem explore_all {n : Nt} {most : Nat} (hok : n.okB = true) (h1 : 1 ≤ most) (hm : most ≤ 1024) {g : Gr} (h : exploreE n most = some g) : XFull n most g :=
  exF_all hm (most + 1) 0 (rootG n) g (by omega) (XOk.first hok h1) (by omega) (XAll.first n) (XDep.first n) h

theorem enE_of {n : Nt} {m : List Int} {q : Nat} (hq : q < n.trans.length) (h : n.trans[q].enB m = true) : (q : Int) ∈ n.enE m := by
  have : ∀ (ts : List Tr) (k p : Nat) (hp : p < ts.length), ts[p].enB m = true → ((k + p : Nat) : Int) ∈ enGo m ts k := by
    intro ts
    induction ts with
    | nil => intro k p hp; simp at hp
    | cons x ts ih =>
      intro k p hp hx
      rw [enGo]
      match p, hp, hx with
      | 0, _, hx =>
        have : x.enB m = true := hx
        rw [if_pos this]; simp
      | p + 1, hp, hx =>
        have := ih (k + 1) p (by simpa using hp) (by simpa using hx)
        rw [show k + 1 + p = k + (p + 1) by omega] at this
        split
        · exact List.mem_cons_of_mem _ this
        · exact this
  have h2 := this n.trans 0 q hq h
  rw [Nat.zero_add] at h2
  exact h2

/-- What a row leads to has been found, and no nearer. -/
theorem XFull.short {n : Nt} {most : Nat} {g : Gr} (x : XFull n most g) : ∀ (row m : List Int) (j : Nat) (k : Int), j < g.marks.length → mkAt g j = m → row.any n.badT = false → (rowGo n m row k).2.2 = 0 →
    ∃ j', j' < g.marks.length ∧ mkAt g j' = (rowGo n m row k).1 ∧ dep g j' ≤ dep g j + row.length
  | [], m, j, k, hj, e, _, _ => ⟨j, hj, e, by simp⟩
  | t :: row, m, j, k, hj, e, hb, h0 => by
    simp only [List.any_cons, Bool.or_eq_false_iff] at hb
    obtain ⟨q, rfl, hq, e1, _⟩ := Nt.tr_mem hb.1
    simp only [rowGo] at h0 ⊢
    by_cases h1 : ((n.tr (q : Int)).fireE m).1 = 0
    · rw [if_pos h1] at h0 ⊢
      have hen : n.trans[q].enB m = true := by
        rcases fireE_code (n.tr (q : Int)) m with ⟨_, h2⟩ | ⟨h2, _⟩
        · rw [h2] at h1; cases h1
        · rw [← e1]; exact h2
      subst e
      have hmem := enE_of hq hen
      obtain ⟨a1, a2⟩ := x.edges j hj
      have a3 := a2 _ hmem
      obtain ⟨i, hi, b1, b2, _⟩ := findM_at a3
      have hed : edgeOf n g j (q : Int) ∈ edAt g j := by rw [a1]; exact List.mem_map_of_mem hmem
      have hn := x.near j hj _ hed
      have e3 : (edgeOf n g j (q : Int)).2.toNat = i := by
        unfold edgeOf
        rw [b1, Int.toNat_natCast]
      rw [e3] at hn
      have hmk : mkAt g i = ((n.tr (q : Int)).fireE (mkAt g j)).2 := by rw [mkAt_eq hi, b2]; rfl
      obtain ⟨j', c1, c2, c3⟩ := x.short row _ i (k + 1) hi hmk hb.2 h0
      exact ⟨j', c1, c2, by simp; omega⟩
    · rw [if_neg h1] at h0
      exact absurd h0 h1

theorem rowGo_take (n : Nt) : ∀ (row m : List Int) (i : Nat) (k : Int), k + (i : Int) ≤ (rowGo n m row k).2.1 → (rowGo n m (row.take i) k).2.2 = 0
  | [], m, i, k, _ => by simp [rowGo]
  | t :: row, m, 0, k, _ => by simp [rowGo]
  | t :: row, m, i + 1, k, h => by
    simp only [rowGo, List.take_succ_cons] at *
    split
    · next h0 =>
      rw [if_pos h0] at h
      exact rowGo_take n row _ i (k + 1) (by omega)
    · next h0 =>
      rw [if_neg h0] at h
      simp at h; omega

theorem exIn_le {n : Nt} {most : Nat} {i : Nat} : ∀ (ts : List Int) (g h : Gr), exIn n most i ts g = some h → g.marks.length ≤ h.marks.length
  | [], g, h, e => by simp only [exIn, Option.some.injEq] at e; subst e; exact Nat.le_refl _
  | t :: ts, g, h, e => by
    simp only [exIn] at e
    split at e
    · cases e
    · have := exIn_le ts _ h e
      have h2 := step_len n i g t
      split at h2 <;> omega
theorem exF_le {n : Nt} {most : Nat} : ∀ (f i : Nat) (g h : Gr), exF n most f i g = some h → g.marks.length ≤ h.marks.length
  | 0, i, g, h, e => by simp only [exF, Option.some.injEq] at e; subst e; exact Nat.le_refl _
  | f + 1, i, g, h, e => by
    simp only [exF] at e
    split at e
    · cases e1 : exIn n most i (n.enE (mkAt g i)) g with
      | none => rw [e1] at e; cases e
      | some g1 =>
        rw [e1] at e
        have h1 := exIn_le _ _ _ e1
        have h2 := exF_le f (i + 1) g1 h e
        omega
    · simp only [Option.some.injEq] at e; subst e; exact Nat.le_refl _

/-- What a lesser budget makes of what a greater one has made. -/
def Cut (a : Nat) (x y : Option Gr) : Prop := match y with | none => x = none | some h => if h.marks.length ≤ a then x = some h else x = none
theorem exIn_cut {n : Nt} {a b i : Nat} (hab : a ≤ b) : ∀ (ts : List Int) (g : Gr), g.marks.length ≤ a → Cut a (exIn n a i ts g) (exIn n b i ts g)
  | [], g, hg => by simp [exIn, Cut, hg]
  | t :: ts, g, hg => by
    simp only [exIn]
    have hr := idx_range g (fireG n g i t)
    have hs := step_len n i g t
    by_cases hb : (b : Int) ≤ g.idx (fireG n g i t)
    · rw [if_pos hb, if_pos (by omega)]; rfl
    · rw [if_neg hb]
      by_cases ha : (a : Int) ≤ g.idx (fireG n g i t)
      · rw [if_pos ha]
        cases e : exIn n b i ts (stepG n i g t) with
        | none => rfl
        | some h =>
          have := exIn_le _ _ _ e
          show if h.marks.length ≤ a then _ else _
          rw [if_neg (by rw [if_neg (by omega)] at hs; omega)]
      · rw [if_neg ha]
        refine exIn_cut hab ts _ ?_
        split at hs <;> omega
theorem exF_cut {n : Nt} {a b : Nat} (hab : a ≤ b) : ∀ (fb fa i : Nat) (g : Gr), a + 1 ≤ i + fa → b + 1 ≤ i + fb → g.marks.length ≤ a → i ≤ g.marks.length → Cut a (exF n a fa i g) (exF n b fb i g)
  | 0, fa, i, g, h1, h2, h3, h4 => by omega
  | fb + 1, 0, i, g, h1, h2, h3, h4 => by omega
  | fb + 1, fa + 1, i, g, h1, h2, h3, h4 => by
    simp only [exF]
    by_cases hi : i < g.marks.length
    · rw [if_pos hi, if_pos hi]
      have hc := exIn_cut (n := n) (i := i) hab (n.enE (mkAt g i)) g h3
      cases e : exIn n b i (n.enE (mkAt g i)) g with
      | none =>
        rw [e] at hc
        have hc' : exIn n a i (n.enE (mkAt g i)) g = none := hc
        rw [hc']; rfl
      | some g1 =>
        rw [e] at hc
        have hle := exIn_le _ _ _ e
        by_cases h5 : g1.marks.length ≤ a
        · have hc' : exIn n a i (n.enE (mkAt g i)) g = some g1 := by
            have : if g1.marks.length ≤ a then exIn n a i (n.enE (mkAt g i)) g = some g1 else exIn n a i (n.enE (mkAt g i)) g = none := hc
            rw [if_pos h5] at this; exact this
          rw [hc']
          exact exF_cut hab fb fa (i + 1) g1 (by omega) (by omega) h5 (by omega)
        · have hc' : exIn n a i (n.enE (mkAt g i)) g = none := by
            have : if g1.marks.length ≤ a then exIn n a i (n.enE (mkAt g i)) g = some g1 else exIn n a i (n.enE (mkAt g i)) g = none := hc
            rw [if_neg h5] at this; exact this
          rw [hc']
          show Cut a none (exF n b fb (i + 1) g1)
          cases e2 : exF n b fb (i + 1) g1 with
          | none => rfl
          | some h =>
            have := exF_le _ _ _ _ e2
            show if h.marks.length ≤ a then _ else _
            rw [if_neg (by omega)]
    · rw [if_neg hi, if_neg hi]
      show if g.marks.length ≤ a then _ else _
      rw [if_pos h3]
theorem explore_cut {n : Nt} {a b : Nat} (hab : a ≤ b) (ha : 1 ≤ a) : Cut a (exploreE n a) (exploreE n b) :=
  exF_cut hab (b + 1) (a + 1) 0 (rootG n) (by omega) (by omega) (by simpa [rootG] using ha) (by omega)

end Go.Proofs.YtbolacnpljkpbaaDoor
