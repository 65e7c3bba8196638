/- Of RowsF: what XFAs uses (shake.py). -/
import Derived.Test.YtbephgifbghilaaGreatDoorKAppCol
import Derived.Laws.OwnMore
/- Rows of elements of more than one cell, in memory of the call's own; each element's cells are told by a function. -/
set_option maxRecDepth 100000
namespace Go.Proofs.YtbephgifbghilaaGreatDoor
open Go.RowKit
section
variable {α : Type} {f : α → List Value} {k : Nat}
def cellsF (f : α → List Value) (L : List α) : List Value := L.flatMap f
theorem cellsF_len (hf : ∀ x, (f x).length = k) : ∀ L : List α, (cellsF f L).length = L.length * k
  | [] => by simp [cellsF]
  | x :: L => by
    have := cellsF_len hf L
    simp only [cellsF, List.flatMap_cons, List.length_append, List.length_cons] at *
    rw [this, hf, Nat.add_mul]; omega
theorem cellsF_app (L : List α) (x : α) : cellsF f (L ++ [x]) = cellsF f L ++ f x := by simp [cellsF]
theorem cellsF_at (hf : ∀ x, (f x).length = k) : ∀ (L : List α) (i j : Nat) (h : i < L.length), j < k → (cellsF f L)[i * k + j]? = (f L[i])[j]?
  | x :: L, 0, j, _, hj => by
    simp only [cellsF, List.flatMap_cons, Nat.zero_mul, Nat.zero_add, List.getElem_cons_zero]
    rw [List.getElem?_append_left (by rw [hf]; exact hj)]
  | x :: L, i + 1, j, h, hj => by
    have h' : i < L.length := by simpa using h
    have := cellsF_at hf L i j h' hj
    simp only [cellsF, List.flatMap_cons, List.getElem_cons_succ] at *
    have e : (i + 1) * k + j = k + (i * k + j) := by rw [Nat.add_mul]; omega
    rw [List.getElem?_append_right (by rw [hf, e]; omega), ← this, hf, e]
    congr 1
    omega
theorem cellsF_set (hf : ∀ x, (f x).length = k) : ∀ (L : List α) (i j : Nat) (h : i < L.length) (_ : j < k) (u : Value) (y : α), f y = (f L[i]).set j u → (cellsF f L).set (i * k + j) u = cellsF f (L.set i y)
  | x :: L, 0, j, _, hj, u, y, hy => by
    simp only [cellsF, List.flatMap_cons, Nat.zero_mul, Nat.zero_add, List.set_cons_zero, List.getElem_cons_zero] at *
    rw [List.set_append, if_pos (by rw [hf]; exact hj), hy]
  | x :: L, i + 1, j, h, hj, u, y, hy => by
    have h' : i < L.length := by simpa using h
    have := cellsF_set hf L i j h' hj u y (by simpa using hy)
    simp only [cellsF, List.flatMap_cons, List.set_cons_succ] at *
    have e : (i + 1) * k + j = k + (i * k + j) := by rw [Nat.add_mul]; omega
    rw [List.set_append, if_neg (by rw [hf, e]; omega), ← this, hf, e]
    congr 2
    omega
/-- A row of such elements in memory of the call's own. -/
def OwnF (f : α → List Value) (e : TypeId) (k : Nat) (w : World) (base : Nat) (v : Value) (A : List α) : Prop := w.ownsRow base e k v A.length (cellsF f A)
variable {e : TypeId} {w : World} {base : Nat}
theorem OwnF.nil (w : World) (base : Nat) : OwnF f e k w base (.slice none 0 0) [] := World.ownsRow_nil _ _ _ _
theorem OwnF.kept {w' : World} {v : Value} {A : List α} (h : OwnF f e k w base v A) (hb : Below w.heap.size w w') : OwnF f e k w' base v A := by
  refine World.ownsRow.kept h (below_grownBy hb none) ?_
  rcases h.2 with ⟨rfl, _⟩ | ⟨g, cap, cur, rfl, _⟩
  · exact Or.inl rfl
  · exact Or.inr (by simp [Value.ownBlock])
theorem OwnF.val {v : Value} {A : List α} (h : OwnF f e k w base v A) : (v = .slice none 0 0 ∧ A = []) ∨ ∃ g cap, v = .slice (some ⟨g, 0, none⟩) A.length cap ∧ base ≤ g ∧ g < w.heap.size := by
  rcases h.2 with ⟨rfl, h0⟩ | ⟨g, cap, cur, rfl, hb, hg, _⟩
  · exact Or.inl ⟨rfl, List.eq_nil_of_length_eq_zero h0⟩
  · exact Or.inr ⟨g, cap, rfl, hb, lt_of_block hg⟩
theorem OwnF.shape {v : Value} {A : List α} (h : OwnF f e k w base v A) : ∃ a cap, v = .slice a A.length cap := by
  rcases h.val with ⟨rfl, rfl⟩ | ⟨g, cap, rfl, _⟩
  · exact ⟨none, 0, rfl⟩
  · exact ⟨_, cap, rfl⟩
theorem OwnF.cap {a : Option Addr} {n cap : Nat} {A : List α} (h : OwnF f e k w base (.slice a n cap) A) : A.length ≤ cap := by
  rcases h.2 with ⟨h0, h1⟩ | ⟨g', cap', cur, hv, _, _, hc, _⟩
  · rw [h1]; exact Nat.zero_le _
  · cases hv; exact hc
theorem OwnF.some {a : Option Addr} {n cap : Nat} {A : List α} (h : OwnF f e k w base (.slice a n cap) A) (hA : 0 < A.length) : ∃ g, a = some ⟨g, 0, none⟩ ∧ n = A.length ∧ base ≤ g ∧ g < w.heap.size := by
  rcases h.val with ⟨_, rfl⟩ | ⟨g, cap, hv, hb, hg⟩
  · simp at hA
  · cases hv; exact ⟨g, rfl, rfl, hb, hg⟩
theorem OwnF.block {g n cap : Nat} {A : List α} (h : OwnF f e k w base (.slice (.some ⟨g, 0, none⟩) n cap) A) : ∃ cur, w.heap[g]? = .some (.cells cur e (0, 0)) ∧ base ≤ g ∧ n = A.length := by
  rcases h.2 with ⟨h0, _⟩ | ⟨g', cap', cur, hv, hb, hg, _⟩
  · cases h0
  · cases hv; exact ⟨cur, hg, hb, rfl⟩
theorem OwnF.at (hf : ∀ x, (f x).length = k) {g n cap : Nat} {A : List α} (h : OwnF f e k w base (.slice (.some ⟨g, 0, none⟩) n cap) A) {i j : Nat} (hi : i < A.length) (hj : j < k) : w.cell? ⟨g, i * k + j, none⟩ = (f A[i])[j]? := by
  obtain ⟨_, _, _, rfl⟩ := h.block
  have : i * k + j < A.length * k := by
    have : (i + 1) * k ≤ A.length * k := Nat.mul_le_mul_right _ hi
    rw [Nat.add_mul] at this; omega
  rw [World.ownsRow.cellAt h _ this, cellsF_at hf A i j hi hj]
theorem OwnF.free {g n cap : Nat} {A : List α} (h : OwnF f e k w base (.slice (.some ⟨g, 0, none⟩) n cap) A) (q : Nat) : w.frozen? ⟨g, q, none⟩ = false := by
  obtain ⟨cur, hg, _⟩ := h.block
  exact free_of_block hg q
theorem OwnF.set (hf : ∀ x, (f x).length = k) {g n cap : Nat} {A : List α} (h : OwnF f e k w base (.slice (.some ⟨g, 0, none⟩) n cap) A) {i j : Nat} (hi : i < A.length) (hj : j < k) (u : Value) (y : α) (hy : f y = (f A[i]).set j u) :
    OwnF f e k (w.setCell ⟨g, i * k + j, none⟩ u) base (.slice (.some ⟨g, 0, none⟩) n cap) (A.set i y) := by
  obtain ⟨_, _, _, rfl⟩ := h.block
  have := (World.ownsRow.stored h (i * k + j) u).1
  unfold OwnF
  rw [List.length_set, ← cellsF_set hf A i j hi hj u y hy]
  exact this
theorem OwnF.news {g n cap : Nat} {A : List α} (h : OwnF f e k w base (.slice (.some ⟨g, 0, none⟩) n cap) A) : ∀ j u, (cellsF f A)[j]? = .some u → w.cell? ((⟨g, 0, none⟩ : Addr).add j) = .some u := World.ownsRow.cells h rfl
end
/-- Columns of elements of more than one cell that may be read. -/
def ColF {α : Type} (f : α → List Value) (k : Nat) (w : World) (B : Nat) (a : Option Addr) (l : List α) : Prop :=
  ∀ i (h : i < l.length), ∃ b o, a = some ⟨b, o, none⟩ ∧ b < B ∧ ∀ j, j < k → w.cell? ⟨b, o + i * k + j, none⟩ = (f l[i])[j]?
theorem ColF.mono {α : Type} {f : α → List Value} {k : Nat} {w w' : World} {B B' : Nat} {a : Option Addr} {l : List α} (h : ColF f k w B a l) (hb : Below B w w') (hB : B ≤ B') : ColF f k w' B' a l := by
  intro i hi
  obtain ⟨b, o, ha, hlt, hc⟩ := h i hi
  exact ⟨b, o, ha, by omega, fun j hj => by rw [Below.cellB hb hlt]; exact hc j hj⟩
theorem OwnF.col {α : Type} {f : α → List Value} {k : Nat} {e : TypeId} {w : World} {base B : Nat} (hf : ∀ x, (f x).length = k) {a : Option Addr} {n cap : Nat} {A : List α} (h : OwnF f e k w base (.slice a n cap) A) (hB : w.heap.size ≤ B) : ColF f k w B a A := by
  intro i hi
  obtain ⟨g, rfl, rfl, _, hg⟩ := h.some (by omega)
  exact ⟨g, 0, rfl, by omega, fun j hj => by rw [Nat.zero_add]; exact h.at hf hi hj⟩
end Go.Proofs.YtbephgifbghilaaGreatDoor
