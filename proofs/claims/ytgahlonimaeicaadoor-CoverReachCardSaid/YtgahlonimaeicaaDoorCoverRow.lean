/- The nodes of a tree in memory of the call's own. -/
import Derived.Test.YtgahlonimaeicaaDoorCoverGrowP
import Derived.Laws.OwnMore
set_option maxRecDepth 100000
namespace Go.Proofs.YtgahlonimaeicaaDoor
open Go.RowKit

def cell4 (x : Nd × Value) : List Value := [.int .i64 x.1.par, .int .i64 x.1.tr, x.2, .int .i64 x.1.again]
def cellsN (L : List (Nd × Value)) : List Value := L.flatMap cell4
theorem cellsN_len : ∀ L : List (Nd × Value), (cellsN L).length = L.length * 4
  | [] => rfl
  | x :: L => by
    have := cellsN_len L
    simp only [cellsN, List.flatMap_cons, List.length_append] at *
    simp [cell4, this]; omega
theorem cellsN_app (L : List (Nd × Value)) (x : Nd × Value) : cellsN (L ++ [x]) = cellsN L ++ cell4 x := by simp [cellsN]
theorem cellsN_at : ∀ (L : List (Nd × Value)) (i j : Nat) (h : i < L.length), j < 4 → (cellsN L)[i * 4 + j]? = (cell4 L[i])[j]?
  | x :: L, 0, j, _, hj => by
    simp only [cellsN, List.flatMap_cons, Nat.zero_mul, Nat.zero_add, List.getElem_cons_zero]
    rw [List.getElem?_append_left (by simp [cell4]; omega)]
  | x :: L, i + 1, j, h, hj => by
    have h' : i < L.length := by simpa using h
    have := cellsN_at L i j h' hj
    simp only [cellsN, List.flatMap_cons, List.getElem_cons_succ] at *
    rw [List.getElem?_append_right (by simp [cell4]; omega), ← this]
    congr 1
    simp [cell4]; omega

/-- A tree under way: the pointer's block, the nodes' block, the markings: each in memory of the call's own. -/
structure Nodes (w : World) (base pt g cap : Nat) (l : List Nd) (L : List (Nd × Value)) : Prop where
  is : L.map Prod.fst = l
  row : w.ownsRow base 36 4 (.slice (some ⟨g, 0, none⟩) l.length cap) l.length (cellsN L)
  tree : w.heap[pt]? = some (.cells #[.slice (some ⟨g, 0, none⟩) l.length cap] 76)
  marks : ∀ x ∈ L, OwnI w base x.2 x.1.mark

theorem row_block {w : World} {base e size g n cap : Nat} {xs : List Value} (h : w.ownsRow base e size (.slice (some ⟨g, 0, none⟩) n cap) n xs) : ∃ cur, w.heap[g]? = some (.cells cur e (0, 0)) ∧ base ≤ g := by
  rcases h.2 with ⟨h0, _⟩ | ⟨g', cap', cur, hv, hb, hg, _⟩
  · cases h0
  · cases hv; exact ⟨cur, hg, hb⟩

theorem type_ne {w : World} {a b : Nat} {c d : Array Value} {s t : TypeId} {f g : Nat × Nat} (ha : w.heap[a]? = some (.cells c s f)) (hb : w.heap[b]? = some (.cells d t g)) (h : s ≠ t) : a ≠ b := by
  intro e
  subst e
  rw [ha] at hb
  exact h (by injection hb with hb; injection hb)

/-- A list of the call's own stands where another block is turned, of another type. -/
theorem OwnI.turned {w w' : World} {base b : Nat} {v : Value} {l : List Int} (h : OwnI w base v l) (hg : w.grownBy w' (some b)) (hne : ∀ cur, w.heap[b]? ≠ some (.cells cur 3 (0, 0))) : OwnI w' base v l := by
  refine World.ownsRow.kept h hg ?_
  rcases h.val with ⟨rfl, _⟩ | ⟨g, cap, rfl, _, _⟩
  · exact Or.inl rfl
  · right
    intro e
    obtain ⟨cur, hc, _⟩ := row_block h
    have : g = b := by injection e
    subst this
    exact hne cur hc

theorem Nodes.nd {w : World} {base pt g cap : Nat} {l : List Nd} {L : List (Nd × Value)} (h : Nodes w base pt g cap l L) {i : Nat} (hi : i < l.length) : ∃ hL : i < L.length, L[i].1 = l[i] := by
  have e := h.is
  subst e
  exact ⟨by simpa using hi, by simp⟩
theorem Nodes.len {w : World} {base pt g cap : Nat} {l : List Nd} {L : List (Nd × Value)} (h : Nodes w base pt g cap l L) : L.length = l.length := by
  rw [← h.is]; simp

/-- The cells of a node. -/
theorem Nodes.at {w : World} {base pt g cap : Nat} {l : List Nd} {L : List (Nd × Value)} (h : Nodes w base pt g cap l L) {i : Nat} (hi : i < l.length) :
    ∃ v, w.cell? ⟨g, i * 4, none⟩ = some (.int .i64 l[i].par) ∧ w.cell? ⟨g, i * 4 + 1, none⟩ = some (.int .i64 l[i].tr) ∧ w.cell? ⟨g, i * 4 + 2, none⟩ = some v ∧ w.cell? ⟨g, i * 4 + 3, none⟩ = some (.int .i64 l[i].again) ∧ OwnI w base v l[i].mark := by
  obtain ⟨hL, e⟩ := h.nd hi
  have c : ∀ j, j < 4 → w.cell? ⟨g, i * 4 + j, none⟩ = (cell4 L[i])[j]? := fun j hj => by
    rw [World.ownsRow.cellAt h.row _ (by omega), cellsN_at L i j hL hj]
  refine ⟨L[i].2, ?_, ?_, ?_, ?_, ?_⟩
  · have := c 0 (by omega); rw [← e]; simpa [cell4] using this
  · have := c 1 (by omega); rw [← e]; simpa [cell4] using this
  · have := c 2 (by omega); simpa [cell4] using this
  · have := c 3 (by omega); rw [← e]; simpa [cell4] using this
  · have := h.marks _ (List.getElem_mem hL); rw [← e]; exact this

/-- It may be read. -/
theorem Nodes.read {w : World} {base pt g cap B : Nat} {l : List Nd} {L : List (Nd × Value)} (h : Nodes w base pt g cap l L) (hB : w.heap.size ≤ B) (hl : l.length ≤ 4096) (hm : ∀ d ∈ l, d.mark.length ≤ 4096) : TreeR w B pt l := by
  obtain ⟨cur, hg, _⟩ := row_block h.row
  have h1 := lt_of_block hg
  have h2 := lt_of_block h.tree
  refine ⟨_, cap, by omega, hl, by rw [cell_of_block h.tree]; rfl, fun i hi => ?_⟩
  obtain ⟨v, c0, c1, c2, c3, how⟩ := h.at hi
  refine ⟨g, 0, v, rfl, by omega, ?_, ?_, ?_, ?_, how.col (by have := hm _ (List.getElem_mem hi); omega) hB⟩
  · rw [Nat.zero_add]; exact c0
  · rw [Nat.zero_add]; exact c1
  · rw [Nat.zero_add]; exact c2
  · rw [Nat.zero_add]; exact c3

/-- It stands where nothing that was there turns. -/
theorem Nodes.kept {w w' : World} {base pt g cap : Nat} {l : List Nd} {L : List (Nd × Value)} (h : Nodes w base pt g cap l L) (hb : Below w.heap.size w w') : Nodes w' base pt g cap l L :=
  ⟨h.is, World.ownsRow.kept h.row (below_grownBy hb none) (Or.inr (by simp [Value.ownBlock])), (hb.block pt (lt_of_block h.tree)).trans h.tree, fun x hx => (h.marks x hx).kept hb (Nat.le_refl _)⟩

/-- .. and where a block of another kind turns. -/
theorem Nodes.turned {w w' : World} {base pt g cap b : Nat} {l : List Nd} {L : List (Nd × Value)} (h : Nodes w base pt g cap l L) (hg : w.grownBy w' (some b)) (h1 : b ≠ pt) (h2 : b ≠ g) (h3 : ∀ x ∈ L, x.2.ownBlock ≠ some b) : Nodes w' base pt g cap l L := by
  refine ⟨h.is, World.ownsRow.kept h.row hg (Or.inr (by simpa [Value.ownBlock] using fun e => h2 e.symm)), ?_, fun x hx => World.ownsRow.kept (h.marks x hx) hg (Or.inr (h3 x hx))⟩
  rw [hg.block pt (lt_of_block h.tree) (by simpa using fun e => h1 e.symm)]
  exact h.tree

theorem heap_setCell_self {w : World} {b i : Nat} {c : Array Value} {t : TypeId} {fr : Nat × Nat} (v : Value) (h : w.heap[b]? = some (.cells c t fr)) : (w.setCell ⟨b, i, none⟩ v).heap[b]? = some (.cells (c.setIfInBounds i v) t fr) := by
  simp [World.setCell, Array.getElem?_modify, h]

/-- A node more, and the pointer's cell stored back. -/
theorem Nodes.push {w w8 : World} {base pt g cap g' cap' : Nat} {l : List Nd} {L : List (Nd × Value)} {d : Nd} {v : Value} (h : Nodes w base pt g cap l L) (hg : w.grownBy w8 (some g))
    (hr : w8.ownsRow base 36 4 (.slice (some ⟨g', 0, none⟩) (l.length + 1) cap') (l.length + 1) (cellsN L ++ cell4 (d, v))) (hv : OwnI w base v d.mark) :
    Nodes (w8.setCell ⟨pt, 0, none⟩ (.slice (some ⟨g', 0, none⟩) (l.length + 1) cap')) base pt g' cap' (l ++ [d]) (L ++ [(d, v)]) := by
  obtain ⟨cur, hc, _⟩ := row_block h.row
  have hpg : pt ≠ g := type_ne h.tree hc (by decide)
  have ht8 : w8.heap[pt]? = some (.cells #[.slice (some ⟨g, 0, none⟩) l.length cap] 76) := (hg.block pt (lt_of_block h.tree) (by simpa using hpg)).trans h.tree
  have hgs : ∀ u, w8.grownBy (w8.setCell ⟨pt, 0, none⟩ u) (some pt) := fun u => grownBy_setCell _ _ _ _
  obtain ⟨cur8, hc8, _⟩ := row_block hr
  have hpg8 : pt ≠ g' := type_ne ht8 hc8 (by decide)
  have mk : ∀ (u : Value) (m : List Int), OwnI w base u m → OwnI (w8.setCell ⟨pt, 0, none⟩ (.slice (some ⟨g', 0, none⟩) (l.length + 1) cap')) base u m := fun u m hu => by
    refine OwnI.turned (b := pt) ?_ (hgs _) (fun cur e => ?_)
    · refine OwnI.turned hu hg (fun cur e => ?_)
      rw [hc] at e
      injection e with e
      injection e with _ e2 _
      exact absurd e2 (by decide)
    · rw [ht8] at e
      injection e with e
      injection e with _ e2 _
      exact absurd e2 (by decide)
  refine ⟨by rw [List.map_append, h.is]; rfl, ?_, ?_, ?_⟩
  · rw [cellsN_app, List.length_append, List.length_singleton]
    exact World.ownsRow.kept hr (hgs _) (Or.inr (by simpa [Value.ownBlock] using hpg8.symm))
  · rw [List.length_append, List.length_singleton]
    exact heap_setCell_self _ ht8
  · intro x hx
    rcases List.mem_append.1 hx with hx | hx
    · exact mk _ _ (h.marks x hx)
    · obtain rfl : x = (d, v) := by simpa using hx
      exact mk _ _ hv

theorem info_nd : (Tryd.prog.info? 36).map (fun i => (i.zero, i.size, i.bytes)) = some (some (.agg #[.int .i64 0, .int .i64 0, .slice none 0 0, .int .i64 0]), 4, 48) := by kernel_rfl
theorem cell4_one {x : Nd × Value} (h : x.2.oneCell' = true) : ∀ u ∈ cell4 x, u.oneCell' = true := by
  intro u hu
  simp only [cell4, List.mem_cons, List.mem_nil_iff, or_false] at hu
  rcases hu with rfl | rfl | rfl | rfl
  · rfl
  · rfl
  · exact h
  · rfl

theorem cells_new (w : World) (cs : Array Value) (T : TypeId) : ∀ j u, cs.toList[j]? = some u → (w.alloc (.cells cs T)).cell? ((⟨w.heap.size, 0, none⟩ : Addr).add j) = some u := by
  intro j u h
  rw [add_addr, Nat.zero_add, cell_of_block (heap_alloc_new _ _)]
  simpa using h

theorem Nodes.turnedMap {w w' : World} {base pt g cap b : Nat} {l : List Nd} {L : List (Nd × Value)} (h : Nodes w base pt g cap l L) (hm : ∃ es ck, w.heap[b]? = some (.map es ck)) (hg : w.grownBy w' (some b)) : Nodes w' base pt g cap l L := by
  obtain ⟨es, ck, hm⟩ := hm
  have ne : ∀ (k : Nat) c t f, w.heap[k]? = some (.cells c t f) → b ≠ k := fun k c t f hk e => by
    subst e
    rw [hm] at hk
    injection hk with hk
    cases hk
  obtain ⟨cur, hc, _⟩ := row_block h.row
  refine h.turned hg (ne _ _ _ _ h.tree) (ne _ _ _ _ hc) (fun x hx => ?_)
  rcases (h.marks x hx).val with ⟨e, _⟩ | ⟨gx, cx, e, _, _⟩
  · rw [e]; simp [Value.ownBlock]
  · obtain hx2 := h.marks x hx
    rw [e] at hx2 ⊢
    obtain ⟨cur2, hc2, _⟩ := row_block hx2
    simpa [Value.ownBlock] using (ne _ _ _ _ hc2).symm

theorem OwnI.turnedMap {w w' : World} {base b : Nat} {v : Value} {l : List Int} (h : OwnI w base v l) (hm : ∃ es ck, w.heap[b]? = some (.map es ck)) (hg : w.grownBy w' (some b)) : OwnI w' base v l := by
  obtain ⟨es, ck, hm⟩ := hm
  exact h.turned hg (fun cur e => by rw [hm] at e; injection e with e; cases e)

end Go.Proofs.YtgahlonimaeicaaDoor
