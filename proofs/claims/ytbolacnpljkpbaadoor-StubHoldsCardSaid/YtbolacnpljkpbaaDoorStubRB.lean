/- Rows of truths that tell which numbers below N are in a list. -/
import Derived.Test.YtbolacnpljkpbaaDoorStubXM
set_option maxRecDepth 100000
namespace Go.Proofs.YtbolacnpljkpbaaDoor
open Go.RowKit
open Classical

theorem box_up {w w' : World} {N : Nat} {o : Obj} (h : w.heap[N]? = some o) (hb : Below w.heap.size w w') : w'.heap[N]? = some o := (hb.block N (lt_of_block h)).trans h

/-- A row of truths: which numbers below N are in a list. -/
def rowB (N : Nat) (S : List Int) : List Bool := (List.range N).map (fun (j : Nat) => S.contains (j : Int))
theorem rowB_len (N : Nat) (S : List Int) : (rowB N S).length = N := by simp [rowB]
theorem rowB_at {N : Nat} {S : List Int} {j : Nat} (h : j < N) : (rowB N S)[j]? = some (S.contains (j : Int)) := by simp [rowB, h]
theorem rowB_nil (N : Nat) : rowB N [] = List.replicate N false := by
  refine List.ext_getElem? fun j => ?_
  by_cases h : j < N
  · rw [rowB_at h, List.getElem?_replicate, if_pos h]; rfl
  · rw [List.getElem?_eq_none (by rw [rowB_len]; omega), List.getElem?_eq_none (by simp; omega)]
theorem rowB_set {N : Nat} {S : List Int} {j : Nat} (h : j < N) : (rowB N S).set j true = rowB N (S ++ [(j : Int)]) := by
  refine List.ext_getElem? fun i => ?_
  by_cases hi : i < N
  · rw [rowB_at hi, List.getElem?_set]
    by_cases e : j = i
    · subst e
      rw [if_pos rfl, if_pos (by rw [rowB_len]; exact h)]
      simp
    · rw [if_neg e, rowB_at hi]
      simp
      omega
  · rw [List.getElem?_eq_none (by rw [List.length_set, rowB_len]; omega), List.getElem?_eq_none (by rw [rowB_len]; omega)]
/-- Such a row in memory of the call's own. -/
def RB (w : World) (base g N : Nat) (S : List Int) : Prop := OwnF cellB 4 1 w base (.slice (some ⟨g, 0, none⟩) N N) (rowB N S)
theorem RB.made {w : World} {N : Nat} (hN : N ≤ maxLen) {base : Nat} (hb : base ≤ w.heap.size) : RB (w.alloc (.cells (madeCells #[Value.bool false] N) 4)) base w.heap.size N [] := by
  have := World.ownsRow_lit (base := base) (e := 4) (size := 1) w (madeCells #[Value.bool false] N) N hb hN (by simp [size_madeCells])
  rw [made_bools0, ← rowB_nil] at this
  unfold RB OwnF
  rw [rowB_len]
  exact this
theorem RB.at {w : World} {base g N : Nat} {S : List Int} (h : RB w base g N S) {j : Nat} (hj : j < N) : w.cell? ⟨g, j, none⟩ = some (.bool (S.contains (j : Int))) := by
  have hj2 : j < (rowB N S).length := by rw [rowB_len]; exact hj
  have := OwnF.at cellB_len h hj2 (j := 0) (by omega)
  rw [Nat.mul_one, Nat.add_zero] at this
  rw [this]
  have e : (rowB N S)[j] = S.contains (j : Int) := by
    have := rowB_at (S := S) hj
    rw [List.getElem?_eq_getElem hj2] at this
    exact Option.some.inj this
  rw [e]; rfl
theorem RB.free {w : World} {base g N : Nat} {S : List Int} (h : RB w base g N S) (j : Nat) : w.frozen? ⟨g, j, none⟩ = false := OwnF.free h j
theorem RB.set {w : World} {base g N : Nat} {S : List Int} (h : RB w base g N S) {j : Nat} (hj : j < N) : RB (w.setCell ⟨g, j, none⟩ (.bool true)) base g N (S ++ [(j : Int)]) := by
  have := OwnF.set cellB_len h (i := j) (by rw [rowB_len]; exact hj) (j := 0) (by omega) (.bool true) true rfl
  rw [Nat.mul_one, Nat.add_zero, rowB_set hj] at this
  exact this
theorem RB.kept {w w' : World} {base g N : Nat} {S : List Int} (h : RB w base g N S) (hb : Below w.heap.size w w') : RB w' base g N S := OwnF.kept h hb
theorem RB.lt {w : World} {base g N : Nat} {S : List Int} (h : RB w base g N S) : base ≤ g ∧ g < w.heap.size := by
  obtain ⟨⟨c2, hc2⟩, h⟩ := OwnF.ty h (q := g) rfl
  exact ⟨h, lt_of_block hc2⟩
theorem RB.other {w : World} {base b2 g g2 N j : Nat} {S T : List Int} (h : RB w base g N S) (_h2 : RB w b2 g2 N T) (hne : g ≠ g2) : RB (w.setCell ⟨g2, j, none⟩ (.bool true)) base g N S :=
  OwnF.grown h (grownBy_setCell w g2 j _) (fun q hq e => by obtain rfl : g = q := Option.some.inj hq; exact hne (Option.some.inj e))
theorem RB.ints {w : World} {base b2 g N j : Nat} {S : List Int} {v : Value} {l : List Int} (h : RB w base g N S) (hv : OwnI w b2 v l) : OwnI (w.setCell ⟨g, j, none⟩ (.bool true)) b2 v l := by
  refine hv.turned (grownBy_setCell w g j _) (fun cur e => ?_)
  obtain ⟨⟨c2, hc2⟩, _⟩ := OwnF.ty h (q := g) rfl
  exact type_ne hc2 e (by decide) rfl
theorem RB.grown {w w6 : World} {base b2 g N : Nat} {S : List Int} {v : Value} {l : List Int} (h : RB w base g N S) (hv : OwnI w b2 v l) (hg : w.grownBy w6 v.ownBlock) : RB w6 base g N S :=
  OwnF.offType h (tyOf (own_cellI.2 hv)) (by decide) hg
theorem take_snoc {l : List Int} {k : Nat} (h : k < l.length) : l.take (k + 1) = l.take k ++ [l[k]] := List.take_succ_eq_append_getElem h
end Go.Proofs.YtbolacnpljkpbaaDoor
