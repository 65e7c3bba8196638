/- Rows of rows in memory of the call's own: a row of slices each of which is the call's own; an append to one of them. -/
import Derived.Test.YtbolacnpljkpbaaDoorRowsF
import Derived.Deep.OwnRows
import Derived.Laws.OwnMore
import Derived.Test.YtbolacnpljkpbaaDoorBoxes
set_option maxRecDepth 100000
namespace Go.Proofs.YtbolacnpljkpbaaDoor
open Go.RowKit

def cell1 {α : Type} (x : α × Value) : List Value := [x.2]
theorem cell1_len {α : Type} (x : α × Value) : (cell1 x).length = 1 := rfl
def cellI (x : Int) : List Value := [.int .i64 x]
theorem cellI_len (x : Int) : (cellI x).length = 1 := rfl
theorem cellI_map (l : List Int) : cellsF cellI l = l.map (Value.int .i64) := by
  induction l with
  | nil => rfl
  | cons x l ih => simp only [cellsF, List.flatMap_cons, List.map_cons] at *; rw [ih]; rfl
theorem own_cellI {w : World} {base : Nat} {v : Value} {l : List Int} : OwnF cellI 3 1 w base v l ↔ OwnI w base v l := by
  unfold OwnF OwnI; rw [cellI_map]

def cellB (x : Bool) : List Value := [.bool x]
theorem cellB_len (x : Bool) : (cellB x).length = 1 := rfl

/-- The block of a list of the call's own. -/
theorem OwnF.ty {α : Type} {f : α → List Value} {e : TypeId} {k : Nat} {w : World} {base : Nat} {v : Value} {A : List α} (h : OwnF f e k w base v A) {q : Nat} (hq : v.ownBlock = Option.some q) : (∃ c, w.heap[q]? = Option.some (.cells c e)) ∧ base ≤ q := by
  rcases h.val with ⟨rfl, _⟩ | ⟨b, cap, rfl, hb, _⟩
  · cases hq
  · obtain rfl : b = q := Option.some.inj hq
    obtain ⟨cur, hc, _⟩ := h.block
    exact ⟨⟨cur, hc⟩, hb⟩
theorem OwnF.grown {α : Type} {f : α → List Value} {e : TypeId} {k : Nat} {w w' : World} {base : Nat} {v : Value} {A : List α} (h : OwnF f e k w base v A) {r : Option Nat} (hg : w.grownBy w' r) (hne : ∀ q, v.ownBlock = Option.some q → Option.some q ≠ r) : OwnF f e k w' base v A :=
  h.turned hg (fun g n cap hv => hne g (by rw [hv]; rfl))
theorem OwnF.newer {α : Type} {f : α → List Value} {e : TypeId} {k : Nat} {w' : World} {base : Nat} {v' : Value} {A : List α} {x : α} (h : w'.ownsRow base e k v' (A.length + 1) (cellsF f A ++ f x)) : OwnF f e k w' base v' (A ++ [x]) := by
  unfold OwnF
  rw [List.length_append, List.length_singleton, cellsF_app]
  exact h

theorem OwnF.shape1 {α : Type} {f : α → List Value} {e : TypeId} {k : Nat} {w : World} {base : Nat} {v : Value} {A : List α} {x : α} (h : OwnF f e k w base v (A ++ [x])) : ∃ a cap, v = .slice a (A.length + 1) cap := by
  obtain ⟨a, cap, e⟩ := OwnF.shape h
  exact ⟨a, cap, by rw [e, List.length_append, List.length_singleton]⟩

structure Grid {α : Type} (f : α → List Value) (e : TypeId) (k : Nat) (rt : TypeId) (w : World) (base : Nat) (v : Value) (A : List (List α × Value)) : Prop where
  row : OwnF cell1 rt 1 w base v A
  own : ∀ x ∈ A, OwnF f e k w base x.2 x.1
  apart : A.Pairwise (fun x y => ∀ b, x.2.ownBlock = some b → y.2.ownBlock ≠ some b)

section
variable {α : Type} {f : α → List Value} {e : TypeId} {k : Nat} {rt : TypeId} {w w1 : World} {base : Nat} {v : Value} {A : List (List α × Value)}

theorem Grid.kept (h : Grid f e k rt w base v A) (hb : Below w.heap.size w w1) : Grid f e k rt w1 base v A :=
  ⟨OwnF.kept h.row hb, fun x hx => OwnF.kept (h.own x hx) hb, h.apart⟩
theorem Grid.made (w : World) (n : Nat) (hn : n ≤ maxLen) (hb : base ≤ w.heap.size) : Grid f e k rt (w.alloc (.cells (madeCells #[Value.slice none 0 0] n) rt)) base (.slice (some ⟨w.heap.size, 0, none⟩) n n) (List.replicate n (([] : List α), Value.slice none 0 0)) := by
  refine ⟨?_, ?_, ?_⟩
  · have := World.ownsRow_lit (base := base) (e := rt) (size := 1) w (madeCells #[Value.slice none 0 0] n) n hb hn (by simp [size_madeCells])
    unfold OwnF
    rw [List.length_replicate]
    rw [toList_madeCells_one] at this
    have e2 : cellsF cell1 (List.replicate n (([] : List α), Value.slice none 0 0)) = List.replicate n (Value.slice none 0 0) := by
      induction n with
      | zero => rfl
      | succ n ih =>
        simp only [List.replicate_succ, cellsF, List.flatMap_cons] at *
        rw [ih (by omega) ?_]
        · rfl
        · have h2 := World.ownsRow_lit (base := base) (e := rt) (size := 1) w (madeCells #[Value.slice none 0 0] n) n hb (by omega) (by simp [size_madeCells])
          rw [toList_madeCells_one] at h2
          exact h2
    rw [e2]
    exact this
  · intro x hx
    obtain rfl := List.eq_of_mem_replicate hx
    exact OwnF.nil _ _
  · rw [List.pairwise_iff_getElem]
    intro i j hi hj _ b hx
    rw [List.getElem_replicate] at hx
    cases hx
theorem Grid.at (h : Grid f e k rt w base v A) {i : Nat} (hi : i < A.length) : ∃ g cap, v = .slice (some ⟨g, 0, none⟩) A.length cap ∧ base ≤ g ∧ w.cell? ⟨g, i, none⟩ = some A[i].2 ∧ (∃ cur, w.heap[g]? = some (.cells cur rt)) ∧ OwnF f e k w base A[i].2 A[i].1 := by
  obtain ⟨a, cap, rfl⟩ := OwnF.shape h.row
  obtain ⟨g, rfl, _, hb, _⟩ := OwnF.some h.row (by omega)
  obtain ⟨cur, hc, _⟩ := OwnF.block h.row
  refine ⟨g, cap, rfl, hb, ?_, ⟨cur, hc⟩, h.own _ (List.getElem_mem hi)⟩
  have := OwnF.at cell1_len h.row hi (j := 0) (by omega)
  rw [Nat.mul_one, Nat.add_zero] at this
  exact this

/-- An append to one of the rows: the row's slice is stored anew. -/
theorem Grid.push {g n cap : Nat} (h : Grid f e k rt w base (.slice (some ⟨g, 0, none⟩) n cap) A) {i : Nat} (hi : i < A.length) (hne : e ≠ rt) {v1 : Value} {x : α} (hg : w.grownBy w1 A[i].2.ownBlock)
    (h1 : OwnF f e k w1 base v1 (A[i].1 ++ [x])) (hat : v1.ownBlock = A[i].2.ownBlock ∨ ∃ q, v1.ownBlock = some q ∧ w.heap.size ≤ q) : Grid f e k rt (w1.setCell ⟨g, i, none⟩ v1) base (.slice (some ⟨g, 0, none⟩) n cap) (A.set i (A[i].1 ++ [x], v1)) := by
  obtain ⟨cur, hcur, hbg, hn⟩ := OwnF.block h.row
  have hown := h.own _ (List.getElem_mem hi)
  have hgi : ∀ q, A[i].2.ownBlock = some q → g ≠ q := by
    intro q hq
    obtain ⟨⟨c, hc⟩, _⟩ := hown.ty hq
    exact fun e2 => type_ne hc hcur hne e2.symm
  have hrow1 : OwnF cell1 rt 1 w1 base (.slice (some ⟨g, 0, none⟩) n cap) A := h.row.grown hg (fun q hq e2 => by
    obtain rfl : g = q := Option.some.inj hq
    exact hgi g e2.symm rfl)
  obtain ⟨cur1, hcur1, _, _⟩ := OwnF.block hrow1
  have hset := OwnF.set cell1_len hrow1 hi (j := 0) (by omega) v1 (A[i].1 ++ [x], v1) rfl
  rw [Nat.mul_one, Nat.add_zero] at hset
  have hgs := grownBy_setCell w1 g i v1
  have other : ∀ (u : Value) (l : List α), OwnF f e k w1 base u l → OwnF f e k (w1.setCell ⟨g, i, none⟩ v1) base u l := by
    intro u l hu
    refine hu.grown hgs ?_
    intro q hq e2
    obtain ⟨⟨c, hc⟩, _⟩ := hu.ty hq
    obtain rfl : q = g := Option.some.inj e2
    exact type_ne hc hcur1 hne rfl
  have hij : ∀ j (hj : j < A.length), j ≠ i → ∀ q, A[j].2.ownBlock = some q → A[i].2.ownBlock ≠ some q := by
    intro j hj hji q hq e2
    rcases Nat.lt_or_gt_of_ne hji with h2 | h2
    · exact List.pairwise_iff_getElem.1 h.apart j i hj hi h2 q hq e2
    · exact List.pairwise_iff_getElem.1 h.apart i j hi hj h2 q e2 hq
  have hnew : ∀ j (hj : j < A.length), j ≠ i → ∀ q, A[j].2.ownBlock = some q → v1.ownBlock ≠ some q := by
    intro j hj hji q hq e2
    rcases hat with h2 | ⟨q2, h2, h3⟩
    · rw [h2] at e2; exact hij j hj hji q hq e2
    · rw [h2] at e2
      obtain rfl : q2 = q := Option.some.inj e2
      obtain ⟨⟨c, hc⟩, _⟩ := (h.own _ (List.getElem_mem hj)).ty hq
      have := lt_of_block hc
      omega
  refine ⟨hset, ?_, ?_⟩
  · intro y hy
    obtain ⟨j, hj, rfl⟩ := List.getElem_of_mem hy
    rw [List.length_set] at hj
    rw [List.getElem_set]
    by_cases e2 : i = j
    · subst e2
      rw [if_pos rfl]
      exact other _ _ h1
    · rw [if_neg e2]
      refine other _ _ ((h.own _ (List.getElem_mem hj)).grown hg ?_)
      intro q hq e3
      exact hij j hj (fun e4 => e2 e4.symm) q hq e3.symm
  · rw [List.pairwise_iff_getElem]
    intro a b ha hb hab q
    rw [List.length_set] at ha hb
    rw [List.getElem_set, List.getElem_set]
    by_cases ea : i = a
    · subst ea
      rw [if_pos rfl, if_neg (by omega)]
      intro hq e3
      exact hnew b hb (by omega) q e3 hq
    · rw [if_neg ea]
      by_cases eb : i = b
      · subst eb
        rw [if_pos rfl]
        exact fun hq => hnew a ha (fun e4 => ea e4.symm) q hq
      · rw [if_neg eb]
        exact List.pairwise_iff_getElem.1 h.apart a b ha hb hab q
end
end Go.Proofs.YtbolacnpljkpbaaDoor
