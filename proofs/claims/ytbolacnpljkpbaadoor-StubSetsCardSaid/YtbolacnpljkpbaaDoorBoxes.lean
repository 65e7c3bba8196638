/- Small laws on blocks and on lists of the call's own (where the texts on package cover are not at hand). -/
import Derived.Test.YtbolacnpljkpbaaDoorAppCol
import Derived.Test.YtbolacnpljkpbaaDoorNetFire
import Derived.Test.YtbolacnpljkpbaaDoorRowsF
import Derived.Laws.OwnMore
set_option maxRecDepth 100000
namespace Go.Proofs.YtbolacnpljkpbaaDoor
open Go.RowKit

theorem box4' {w : World} {b : Nat} {v0 v1 v2 v3 : Value} {t : TypeId} {fr : Nat × Nat} (h : w.heap[b]? = some (.cells #[v0, v1, v2, v3] t fr)) :
    w.cell? ⟨b, 0, none⟩ = some v0 ∧ w.cell? ⟨b, 1, none⟩ = some v1 ∧ w.cell? ⟨b, 2, none⟩ = some v2 ∧ w.cell? ⟨b, 3, none⟩ = some v3 := by
  refine ⟨?_, ?_, ?_, ?_⟩ <;> (rw [cell_of_block h]; rfl)

theorem alloc_get' (w : World) (o : Obj) (k : Nat) : (w.alloc o).heap[k]? = if k = w.heap.size then some o else w.heap[k]? := by
  show (w.heap.push o)[k]? = _
  rw [Array.getElem?_push]

theorem box3 {w : World} {b : Nat} {v0 v1 v2 : Value} {t : TypeId} {fr : Nat × Nat} (h : w.heap[b]? = some (.cells #[v0, v1, v2] t fr)) :
    w.cell? ⟨b, 0, none⟩ = some v0 ∧ w.cell? ⟨b, 1, none⟩ = some v1 ∧ w.cell? ⟨b, 2, none⟩ = some v2 :=
  ⟨by rw [cell_of_block h]; rfl, by rw [cell_of_block h]; rfl, by rw [cell_of_block h]; rfl⟩

theorem val_int {k : IntKind} {a b : Int} (h : a = b) : Value.int k a = Value.int k b := by rw [h]

theorem row_block {w : World} {base e size g n cap : Nat} {xs : List Value} (h : w.ownsRow base e size (.slice (some ⟨g, 0, none⟩) n cap) n xs) : ∃ cur, w.heap[g]? = some (.cells cur e (0, 0)) ∧ base ≤ g := by
  rcases h.2 with ⟨h0, _⟩ | ⟨g', cap', cur, hv, hb, hg, _⟩
  · cases h0
  · cases hv; exact ⟨cur, hg, hb⟩

theorem type_ne {w : World} {a b : Nat} {c d : Array Value} {s t : TypeId} {f g : Nat × Nat} (ha : w.heap[a]? = some (.cells c s f)) (hb : w.heap[b]? = some (.cells d t g)) (h : s ≠ t) : a ≠ b := by
  intro e
  subst e
  rw [ha] at hb
  exact h (by injection hb with hb; injection hb)

/-- A list of the call's own stands where another block is turned, of another type. -/
theorem OwnI.turned {w w' : World} {base b : Nat} {v : Value} {l : List Int} (h : OwnI w base v l) (hg : w.grownBy w' (some b)) (hne : ∀ cur, w.heap[b]? ≠ some (.cells cur 3 (0, 0))) : OwnI w' base v l := by
  refine World.ownsRow.kept h hg ?_
  rcases h.val with ⟨rfl, _⟩ | ⟨g, cap, rfl, _, _⟩
  · exact Or.inl rfl
  · right
    intro e
    obtain ⟨cur, hc, _⟩ := row_block h
    have : g = b := by injection e
    subst this
    exact hne cur hc

theorem heap_setCell_self {w : World} {b i : Nat} {c : Array Value} {t : TypeId} {fr : Nat × Nat} (v : Value) (h : w.heap[b]? = some (.cells c t fr)) : (w.setCell ⟨b, i, none⟩ v).heap[b]? = some (.cells (c.setIfInBounds i v) t fr) := by
  simp [World.setCell, Array.getElem?_modify, h]

theorem cells_new (w : World) (cs : Array Value) (T : TypeId) : ∀ j u, cs.toList[j]? = some u → (w.alloc (.cells cs T)).cell? ((⟨w.heap.size, 0, none⟩ : Addr).add j) = some u := by
  intro j u h
  rw [add_addr, Nat.zero_add, cell_of_block (heap_alloc_new _ _)]
  simpa using h

theorem grownBy_setCell (W : World) (b i : Nat) (v : Value) : W.grownBy (W.setCell ⟨b, i, none⟩ v) (some b) :=
  ⟨rfl, rfl, rfl, by simp, fun k _ hk => heap_setCell_ne _ _ (fun e => hk (by rw [e]))⟩

theorem OwnI.drewN {w : World} {base : Nat} {v : Value} {l : List Int} (h : OwnI w base v l) (n : Nat) : OwnI (w.drewN n) base v l := h.kept (below_drewN' n) (Nat.le_refl _)

end Go.Proofs.YtbolacnpljkpbaaDoor
