/- A graph under way: an edge more; what stands at its end. -/
import Derived.Test.YtbolacnpljkpbaaDoorReachHome2
import Derived.Test.YtbolacnpljkpbaaDoorReachAllP
set_option maxRecDepth 100000
namespace Go.Proofs.YtbolacnpljkpbaaDoor
open Go.RowKit Go.Maps Go.WideMaps

theorem addE_at {g : Gr} {Es : List (List (Int × Int) × Value)} (h : Es.map Prod.fst = g.edges) {i : Nat} (hi : i < Es.length) : edAt g i = Es[i].1 := by
  unfold edAt
  rw [← h]
  simp [hi]

/-- What an edge more leaves. -/
theorem GOwn.addE {w w1 : World} {base p : Nat} {v0 v1 : Value} {a b : Int} {vM : Value} {mp gE nE cE : Nat} {vF : Value} {g : Gr} {Ms : List (List Int × Value)} {Es : List (List (Int × Int) × Value)}
    (h : GOwn w base p v0 v1 a b vM mp (.slice (some ⟨gE, 0, none⟩) nE cE) vF g Ms Es) {i : Nat} (hi : i < Es.length) {x : Int × Int} {u : Value} (hg : w.grownBy w1 Es[i].2.ownBlock) (h1 : RowE w1 base u (Es[i].1 ++ [x]))
    (hat : u.ownBlock = Es[i].2.ownBlock ∨ ∃ q, u.ownBlock = some q ∧ w.heap.size ≤ q) :
    GOwn (w1.setCell ⟨gE, i, none⟩ u) base p v0 v1 a b vM mp (.slice (some ⟨gE, 0, none⟩) nE cE) vF (g.addE i x) Ms (Es.set i (Es[i].1 ++ [x], u)) ∧ Below base w (w1.setCell ⟨gE, i, none⟩ u) ∧
      ∀ base' v l, OwnI w base' v l → OwnI (w1.setCell ⟨gE, i, none⟩ u) base' v l := by
  have hGr : Grid cellE 79 2 42 w base (.slice (some ⟨gE, 0, none⟩) nE cE) Es := ⟨h.rowE, h.edges, h.apart⟩
  have hpush := hGr.push hi (by decide) hg h1 hat
  have hEi : RowE w base Es[i].2 Es[i].1 := h.edges _ (List.getElem_mem hi)
  have hty : ∀ q, Es[i].2.ownBlock = some q → (∃ c, w.heap[q]? = some (.cells c 79)) ∧ base ≤ q := fun q hq => OwnF.ty hEi hq
  obtain ⟨cE', hcE, hgE, _⟩ := OwnF.block h.rowE
  have hgne : some gE ≠ Es[i].2.ownBlock := by
    intro e
    obtain ⟨⟨c, hc⟩, _⟩ := hty gE e.symm
    exact type_ne hc hcE (by decide) rfl
  have hcE1 : w1.heap[gE]? = some (.cells cE' 42) := (hg.block gE (lt_of_block hcE) hgne).trans hcE
  have hgs := grownBy_setCell w1 gE i u
  have blk : ∀ (q : Nat) (o : Obj), w.heap[q]? = some o → (∀ c, o ≠ .cells c 79) → (∀ c, o ≠ .cells c 42) → (w1.setCell ⟨gE, i, none⟩ u).heap[q]? = some o := by
    intro q o hq n1 n2
    have hq1 : w1.heap[q]? = some o := by
      refine (hg.block q (lt_of_block hq) ?_).trans hq
      intro e
      obtain ⟨⟨c, hc⟩, _⟩ := hty q e.symm
      rw [hq] at hc
      exact n1 c (Option.some.inj hc)
    refine (hgs.block q (lt_of_block hq1) ?_).trans hq1
    intro e
    obtain rfl : q = gE := Option.some.inj e
    rw [hq] at hcE
    exact n2 _ (Option.some.inj hcE)
  have nc : ∀ (c c' : Array Value) (t t' : TypeId), t ≠ t' → Obj.cells c t ≠ Obj.cells c' t' := by
    intro c c' t t' hne e
    injection e with _ e
    exact hne e
  have rows : ∀ {β : Type} {f : β → List Value} {e : TypeId} {k : Nat} {v : Value} {L : List β}, OwnF f e k w base v L → e ≠ 42 → (∀ q, v.ownBlock = some q → Es[i].2.ownBlock ≠ some q) → OwnF f e k (w1.setCell ⟨gE, i, none⟩ u) base v L := by
    intro β f e k v L hv hne hn
    have h1 := hv.grown hg (fun q hq e2 => hn q hq e2.symm)
    refine h1.grown hgs ?_
    intro q hq e2
    obtain ⟨⟨c, hc⟩, _⟩ := h1.ty hq
    obtain rfl : q = gE := Option.some.inj e2
    exact type_ne hc hcE1 hne rfl
  have toI : ∀ base' v l, OwnI w base' v l → OwnI (w1.setCell ⟨gE, i, none⟩ u) base' v l := by
    intro base' v l hv
    refine ⟨hv.1, ?_⟩
    rcases hv.2 with h0 | ⟨q, cap, cur, hv2, hbg, hq, r⟩
    · exact Or.inl h0
    · exact Or.inr ⟨q, cap, cur, hv2, hbg, blk q _ hq (fun c => nc _ _ _ _ (by decide)) (fun c => nc _ _ _ _ (by decide)), r⟩
  have other : ∀ {β : Type} {f : β → List Value} {e : TypeId} {k : Nat} {v : Value} {L : List β}, OwnF f e k w base v L → e ≠ 79 → ∀ q, v.ownBlock = some q → Es[i].2.ownBlock ≠ some q := by
    intro β f e k v L hv hne q hq e2
    obtain ⟨⟨c, hc⟩, _⟩ := hv.ty hq
    obtain ⟨⟨c2, hc2⟩, _⟩ := hty q e2
    exact type_ne hc hc2 hne rfl
  have hlt : base ≤ w.heap.size := Nat.le_trans h.hp (Nat.le_of_lt (lt_of_block h.box))
  refine ⟨⟨blk p _ h.box (fun c => nc _ _ _ _ (by decide)) (fun c => nc _ _ _ _ (by decide)), h.hp, h.hmp, h.isM, ?_, rows h.rowM (by decide) (other h.rowM (by decide)), hpush.row, rows h.rowF (by decide) (fun q hq e => h.apartF _ (List.getElem_mem hi) q e hq), fun x hx => toI _ _ _ (h.marks x hx), hpush.own, ?_, hpush.apart, ?_⟩, ?_, toI⟩
  · rw [List.map_set, h.isE]
    show _ = g.edges.set i (edAt g i ++ [x])
    rw [addE_at h.isE hi]
  · intro y hy q hq e
    obtain ⟨j, hj, rfl⟩ := List.getElem_of_mem hy
    rw [List.length_set] at hj
    rw [List.getElem_set] at hq
    by_cases e2 : i = j
    · rw [if_pos e2] at hq
      rcases hat with h2 | ⟨q2, h2, h3⟩
      · have hq' : u.ownBlock = some q := hq
        rw [h2] at hq'
        exact h.apartF _ (List.getElem_mem hi) q hq' e
      · have hq' : u.ownBlock = some q := hq
        rw [h2] at hq'
        obtain rfl := Option.some.inj hq'
        obtain ⟨⟨c, hc⟩, _⟩ := OwnF.ty h.rowF e
        have := lt_of_block hc
        omega
    · rw [if_neg e2] at hq
      exact h.apartF _ (List.getElem_mem hj) q hq e
  · obtain ⟨D, ⟨es, ck, h1, h2⟩, h3⟩ := h.by_
    exact ⟨D, ⟨es, ck, blk mp _ h1 (fun c e => by cases e) (fun c e => by cases e), h2⟩, h3⟩
  · refine ⟨hgs.os.trans hg.os, hgs.tape.trans hg.tape, hgs.output.trans hg.output, Nat.le_trans hg.size hgs.size, fun k hk => ?_⟩
    have h1 : w1.heap[k]? = w.heap[k]? := hg.block k (Nat.lt_of_lt_of_le hk hlt) (fun e => by have := (hty k e.symm).2; omega)
    exact (hgs.block k (Nat.lt_of_lt_of_le hk (Nat.le_trans hlt hg.size)) (fun e => by have := Option.some.inj e; omega)).trans h1

/-- The row of edges of a marking. -/
theorem GOwn.edgeAt {w : World} {base p : Nat} {v0 v1 : Value} {a b : Int} {vM : Value} {mp : Nat} {vE vF : Value} {g : Gr} {Ms : List (List Int × Value)} {Es : List (List (Int × Int) × Value)}
    (h : GOwn w base p v0 v1 a b vM mp vE vF g Ms Es) {i : Nat} (hi : i < Es.length) : ∃ gE cE cur, vE = .slice (some ⟨gE, 0, none⟩) Es.length cE ∧ w.heap[gE]? = some (.cells cur 42) ∧ cur[i]? = some Es[i].2 := by
  obtain ⟨aE, cE, rfl⟩ := OwnF.shape h.rowE
  obtain ⟨gE, rfl, _, _, _⟩ := OwnF.some h.rowE (by omega)
  obtain ⟨cur, hc, _, _⟩ := OwnF.block h.rowE
  refine ⟨gE, cE, cur, rfl, hc, ?_⟩
  have := OwnF.at cellX_len h.rowE hi (j := 0) (by omega)
  rw [Nat.mul_one, Nat.add_zero, cell_of_block hc] at this
  exact this
theorem GOwn.markAt {w : World} {base p : Nat} {v0 v1 : Value} {a b : Int} {vM : Value} {mp : Nat} {vE vF : Value} {g : Gr} {Ms : List (List Int × Value)} {Es : List (List (Int × Int) × Value)}
    (h : GOwn w base p v0 v1 a b vM mp vE vF g Ms Es) {i : Nat} (hi : i < g.marks.length) : ∃ gM cM u, vM = .slice (some ⟨gM, 0, none⟩) g.marks.length cM ∧ gM < w.heap.size ∧ w.cell? ⟨gM, i, none⟩ = some u ∧ OwnI w base u (mkAt g i) := by
  have hl : Ms.length = g.marks.length := by rw [← h.isM]; simp
  obtain ⟨aM, cM, rfl⟩ := OwnF.shape h.rowM
  obtain ⟨gM, rfl, _, _, hlt⟩ := OwnF.some h.rowM (by omega)
  have := OwnF.at cellM_len h.rowM (i := i) (by omega) (j := 0) (by omega)
  rw [Nat.mul_one, Nat.add_zero] at this
  refine ⟨gM, cM, Ms[i].2, by rw [hl], hlt, this, ?_⟩
  have h2 := h.marks _ (List.getElem_mem (show i < Ms.length by omega))
  have e : mkAt g i = Ms[i].1 := by
    unfold mkAt
    rw [← h.isM]
    simp [show i < Ms.length by omega]
  rw [e]; exact h2

/-- It may be read. -/
theorem GOwn.vE {w : World} {base p : Nat} {v0 v1 : Value} {a b : Int} {vM : Value} {mp : Nat} {vE vF : Value} {g : Gr} {Ms : List (List Int × Value)} {Es : List (List (Int × Int) × Value)}
    (h : GOwn w base p v0 v1 a b vM mp vE vF g Ms Es) (hl : g.edges.length ≤ 1024) (hr : ∀ l ∈ g.edges, l.length ≤ 8192) : VCol Prs w w.heap.size vE g.edges := by
  have hle : Es.length = g.edges.length := by rw [← h.isE]; simp
  obtain ⟨aE, cE, rfl⟩ := OwnF.shape h.rowE
  refine ⟨aE, cE, by rw [hle], by omega, fun i hi => ?_⟩
  obtain ⟨gE, rfl, _, _, hlt⟩ := OwnF.some h.rowE (by omega)
  have := OwnF.at cellX_len h.rowE (i := i) (by omega) (j := 0) (by omega)
  rw [Nat.mul_one, Nat.add_zero] at this
  refine ⟨gE, 0, Es[i].2, rfl, hlt, by rw [Nat.zero_add]; exact this, ?_⟩
  have h2 := h.edges _ (List.getElem_mem (show i < Es.length by omega))
  have e : g.edges[i] = Es[i].1 := by
    have := h.isE
    have h3 : (Es.map Prod.fst)[i]? = g.edges[i]? := by rw [this]
    rw [List.getElem?_map, List.getElem?_eq_getElem (by omega), List.getElem?_eq_getElem hi] at h3
    exact (Option.some.inj h3).symm
  rw [e]
  refine RowE.prs h2 ?_ (Nat.le_refl _)
  rw [← e]
  have := hr _ (List.getElem_mem hi)
  omega
theorem GOwn.vM {w : World} {base p : Nat} {v0 v1 : Value} {a b : Int} {vM : Value} {mp : Nat} {vE vF : Value} {g : Gr} {Ms : List (List Int × Value)} {Es : List (List (Int × Int) × Value)}
    (h : GOwn w base p v0 v1 a b vM mp vE vF g Ms Es) (hl : g.marks.length ≤ 1024) (hr : ∀ l ∈ g.marks, l.length ≤ 4096) : VCol Ints w w.heap.size vM g.marks := by
  have hle : Ms.length = g.marks.length := by rw [← h.isM]; simp
  obtain ⟨aM, cM, rfl⟩ := OwnF.shape h.rowM
  refine ⟨aM, cM, by rw [hle], by omega, fun i hi => ?_⟩
  obtain ⟨gM, cM', u, hv, hlt, hc, hu⟩ := h.markAt hi
  obtain rfl : aM = some ⟨gM, 0, none⟩ := by injection hv
  refine ⟨gM, 0, u, rfl, hlt, by rw [Nat.zero_add]; exact hc, ?_⟩
  rw [mkAt_eq hi] at hu
  refine hu.col ?_ (Nat.le_refl _)
  have := hr _ (List.getElem_mem hi)
  omega
theorem GOwn.grE {w : World} {base p : Nat} {v0 v1 : Value} {a b : Int} {vM : Value} {mp : Nat} {vE vF : Value} {g : Gr} {Ms : List (List Int × Value)} {Es : List (List (Int × Int) × Value)}
    (h : GOwn w base p v0 v1 a b vM mp vE vF g Ms Es) (hm : g.marks.length = g.edges.length) (hl : g.edges.length ≤ 1024) (hr : ∀ l ∈ g.edges, l.length ≤ 8192) : GrE w w.heap.size p g.edges.length g.edges := by
  have hle : Ms.length = g.marks.length := by rw [← h.isM]; simp
  obtain ⟨k1, k4, k5, k6, k7, k8⟩ := gbox h.box
  obtain ⟨aM, cM, rfl⟩ := OwnF.shape h.rowM
  exact ⟨aM, cM, vE, by rw [k4, hle, hm], k6, lt_of_block h.box, h.vE hl hr⟩

/-- A store into its own box leaves all else. -/
theorem GOwn.own_box {w : World} {base p : Nat} {v0 v1 : Value} {a b : Int} {vM : Value} {mp : Nat} {vE vF : Value} {g : Gr} {Ms : List (List Int × Value)} {Es : List (List (Int × Int) × Value)}
    (h : GOwn w base p v0 v1 a b vM mp vE vF g Ms Es) {w' : World} (hg : w.grownBy w' (some p)) {u0 u1 : Value} {x y : Int} (hbox : w'.heap[p]? = some (.cells (gCells u0 u1 x y vM mp vE vF (.slice none 0 0)) 83)) :
    GOwn w' base p u0 u1 x y vM mp vE vF g Ms Es := by
  have rows : ∀ {β : Type} {f : β → List Value} {e : TypeId} {k : Nat} {v : Value} {L : List β}, OwnF f e k w base v L → e ≠ 83 → OwnF f e k w' base v L := by
    intro β f e k v L hv hne
    refine hv.grown hg ?_
    intro q hq e2
    obtain ⟨⟨c, hc⟩, _⟩ := hv.ty hq
    obtain rfl : q = p := Option.some.inj e2
    exact type_ne hc h.box hne rfl
  refine ⟨hbox, h.hp, h.hmp, h.isM, h.isE, rows h.rowM (by decide), rows h.rowE (by decide), rows h.rowF (by decide), fun x hx => (h.marks x hx).turned hg (fun cur e => type_ne h.box e (by decide) rfl), fun x hx => rows (h.edges x hx) (by decide), h.apartF, h.apart, ?_⟩
  obtain ⟨D, h1, h3⟩ := h.by_
  refine ⟨D, h1.kept hg ?_, h3⟩
  intro e
  obtain rfl : mp = p := Option.some.inj e
  obtain ⟨es, ck, h2, _⟩ := h1
  rw [h.box] at h2
  cases h2

/-- What stands when its homes are stored. -/
theorem GOwn.grR {w : World} {base p : Nat} {v0 a1 : Value} {a b : Int} {vM : Value} {mp : Nat} {vE vF : Value} {g : Gr} {Ms : List (List Int × Value)} {Es : List (List (Int × Int) × Value)} {at1 : Option Addr} {nt c1 : Nat} (ha : a1 = .slice at1 nt c1)
    (h : GOwn w base p v0 a1 a b vM mp vE vF g Ms Es) {base' : Nat} {vH : Value} {hs : List Int} (hh : OwnI w base' vH hs) (hM : g.marks.length ≤ 1024) (hE : g.edges.length ≤ 1024) (hF : g.src.length ≤ 1024) (hrM : ∀ l ∈ g.marks, l.length ≤ 4096) (hrE : ∀ l ∈ g.edges, l.length ≤ 8192) (hhs : hs.length ≤ 1024) (hnt : nt ≤ 8192) :
    GrR (w.setCell ⟨p, 8, none⟩ vH) w.heap.size p nt g hs := by
  subst ha
  have hset := box_set (i := 8) h.box vH
  have hgs := grownBy_setCell w p 8 vH
  have hplt := lt_of_block h.box
  -- the same graph, its homes left as they are
  have rM := row_box (i := 8) h.rowM h.box (by decide) vH
  have rE := row_box (i := 8) h.rowE h.box (by decide) vH
  have rF := row_box (i := 8) h.rowF h.box (by decide) vH
  have toI : ∀ {base' v l}, OwnI w base' v l → OwnI (w.setCell ⟨p, 8, none⟩ vH) base' v l := fun hv => hv.turned hgs (fun cur e => type_ne h.box e (by decide) rfl)
  have hsz : (w.setCell ⟨p, 8, none⟩ vH).heap.size ≤ w.heap.size := by simp
  refine ⟨v0, at1, c1, a, b, vM, mp, vE, vF, vH, hset, hplt, ?_, ?_, ?_, ?_, ?_, ?_, hnt⟩
  · obtain ⟨aM, cM, hv, hl4, hc⟩ := h.vM hM hrM
    refine ⟨aM, cM, hv, hl4, fun i hi => ?_⟩
    obtain ⟨gM, cM', u, hv', hlt, hcu, hu⟩ := h.markAt hi
    rw [hv] at hv'
    obtain rfl : aM = some ⟨gM, 0, none⟩ := by injection hv'
    have hne : gM ≠ p := by
      obtain ⟨⟨c, hc⟩, _⟩ := OwnF.ty h.rowM (q := gM) (by rw [hv]; rfl)
      exact type_ne hc h.box (by decide)
    refine ⟨gM, 0, u, rfl, hlt, ?_, ?_⟩
    · rw [Nat.zero_add, World.cell?_setCell_far _ _ _ _ (fun e => hne e.symm)]; exact hcu
    · rw [mkAt_eq hi] at hu
      exact (toI hu).col (by have := hrM _ (List.getElem_mem hi); omega) hsz
  · obtain ⟨aE, cE, hv, hl4, hc⟩ := h.vE hE hrE
    refine ⟨aE, cE, hv, hl4, fun i hi => ?_⟩
    have hle : Es.length = g.edges.length := by rw [← h.isE]; simp
    obtain ⟨gE, cE', cur, hv', hcur, hci⟩ := h.edgeAt (i := i) (by omega)
    rw [hv] at hv'
    obtain rfl : aE = some ⟨gE, 0, none⟩ := by injection hv'
    have hne : gE ≠ p := type_ne hcur h.box (by decide)
    have hE2 := h.edges _ (List.getElem_mem (show i < Es.length by omega))
    refine ⟨gE, 0, Es[i].2, rfl, lt_of_block hcur, ?_, ?_⟩
    · rw [Nat.zero_add, World.cell?_setCell_far _ _ _ _ (fun e => hne e.symm), cell_of_block hcur]; exact hci
    · have e : g.edges[i] = Es[i].1 := by
        have h3 : (Es.map Prod.fst)[i]? = g.edges[i]? := by rw [h.isE]
        rw [List.getElem?_map, List.getElem?_eq_getElem (by omega), List.getElem?_eq_getElem hi] at h3
        exact (Option.some.inj h3).symm
      have hr := hrE _ (List.getElem_mem hi)
      rw [e] at hr ⊢
      exact RowE.prs (row_box (i := 8) hE2 h.box (by decide) vH) (by omega) hsz
  · exact RowE.prs rF (by omega) hsz
  · exact (toI hh).col (by omega) hsz
  · obtain ⟨D, ⟨es, ck, h1, _⟩, _⟩ := h.by_
    exact lt_of_block h1
  · obtain ⟨D, h1, h3⟩ := h.by_
    refine ⟨D, h1.kept hgs ?_, h3⟩
    intro e
    obtain rfl : mp = p := Option.some.inj e
    obtain ⟨es, ck, h2, _⟩ := h1
    rw [h.box] at h2
    cases h2

theorem enGo_len (m : List Int) : ∀ (ts : List Tr) (k : Nat), (enGo m ts k).length ≤ ts.length
  | [], k => by simp [enGo]
  | t :: ts, k => by
    rw [enGo]
    have := enGo_len m ts (k + 1)
    split <;> simp <;> omega
theorem XFull.eok {n : Nt} {most : Nat} {g : Gr} (x : XFull n most g) (hm : most ≤ 1024) (ht : n.trans.length ≤ 8192) : EOk g.edges := by
  have hle := x.ok.le
  have hel := x.ok.elen
  refine ⟨fun l hl e he => ?_, by omega, fun l hl => ?_⟩
  · have := (x.ok.edge l hl e he).2
    rw [hel]; exact this
  · obtain ⟨i, hi, rfl⟩ := List.getElem_of_mem hl
    have h1 := (x.edges i (by omega)).1
    have : edAt g i = g.edges[i] := by simp [edAt, hi]
    rw [← this, h1, List.length_map]
    exact Nat.le_trans (enGo_len _ _ _) ht

end Go.Proofs.YtbolacnpljkpbaaDoor
