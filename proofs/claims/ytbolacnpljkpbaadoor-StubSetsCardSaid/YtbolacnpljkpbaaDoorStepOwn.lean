/- append onto a row of the call's own as a step of a region that draws its order; worlds in which all old blocks stand but some. -/
import Derived.Test.YtbolacnpljkpbaaDoorAppCol
import Derived.Laws.OwnMore
import Derived.Maps.AppendAt
import Derived.Laws.NewBlocks
import Derived.Test.YtbolacnpljkpbaaDoorRPut
set_option maxRecDepth 100000
namespace Go.Proofs.YtbolacnpljkpbaaDoor
open Go.RowKit

theorem Frm.ofBelow {S : List (Option Nat)} {w w2 : World} (hb : Below w.heap.size w w2) : Frm S w w2 := ⟨hb.os, hb.tape, hb.output, hb.size, fun k hk _ => hb.block k hk⟩
theorem Frm.trans {S T : List (Option Nat)} {w w1 w2 : World} (h : Frm S w w1) (k : Frm T w1 w2) (hT : ∀ r ∈ T, r ∈ S ∨ ∃ j, r = some j ∧ w.heap.size ≤ j) : Frm S w w2 :=
  ⟨k.os.trans h.os, k.tape.trans h.tape, k.output.trans h.output, Nat.le_trans h.size k.size, fun j hj hs => (k.keep j (Nat.lt_of_lt_of_le hj h.size) (fun r hr e => by
    rcases hT r hr with h1 | ⟨q, h1, h2⟩
    · exact hs r h1 e
    · rw [h1] at e; injection e with e; omega)).trans (h.keep j hj hs)⟩
theorem Frm.trans0 {S T : List (Option Nat)} {w w1 w2 : World} (h : Frm S w w1) (k : Frm T w1 w2) (hT : ∀ r ∈ T, r = none ∨ r ∈ S ∨ ∃ j, r = some j ∧ w.heap.size ≤ j) : Frm S w w2 :=
  ⟨k.os.trans h.os, k.tape.trans h.tape, k.output.trans h.output, Nat.le_trans h.size k.size, fun j hj hs => (k.keep j (Nat.lt_of_lt_of_le hj h.size) (fun r hr e => by
    rcases hT r hr with h0 | h1 | ⟨q, h1, h2⟩
    · rw [h0] at e; cases e
    · exact hs r h1 e
    · rw [h1] at e; injection e with e; omega)).trans (h.keep j hj hs)⟩
theorem Frm.mono {S T : List (Option Nat)} {w w1 : World} (h : Frm S w w1) (hT : ∀ r ∈ S, r ∈ T) : Frm T w w1 :=
  ⟨h.os, h.tape, h.output, h.size, fun k hk hs => h.keep k hk (fun r hr => hs r (hT r hr))⟩
/-- What turns lies from B on. -/
theorem Frm.toBelow {S : List (Option Nat)} {B : Nat} {w w' : World} (h : Frm S w w') (hB : B ≤ w.heap.size) (hS : ∀ r ∈ S, ∀ k, r = some k → B ≤ k) : Below B w w' :=
  ⟨h.os, h.tape, h.output, h.size, fun k hk => h.keep k (by omega) (fun r hr e => by have := hS r hr k e; omega)⟩
theorem Frm.block {S : List (Option Nat)} {w w' : World} (h : Frm S w w') {k : Nat} {o : Obj} (hk : w.heap[k]? = some o) (hs : ∀ r ∈ S, r ≠ some k) : w'.heap[k]? = some o :=
  (h.keep k (lt_of_block hk) hs).trans hk

/-- The block of v' is v's, or a new one. -/
def Fresh (w : World) (v v' : Value) : Prop := v'.ownBlock = v.ownBlock ∨ ∃ k, v'.ownBlock = some k ∧ w.heap.size ≤ k
theorem Fresh.refl (w : World) (v : Value) : Fresh w v v := Or.inl rfl
theorem Fresh.trans {w w1 : World} {v v1 v2 : Value} (h : Fresh w v v1) (k : Fresh w1 v1 v2) (hw : w.heap.size ≤ w1.heap.size) : Fresh w v v2 := by
  rcases k with e | ⟨j, e, hj⟩
  · rcases h with e1 | ⟨i, e1, hi⟩
    · exact Or.inl (e.trans e1)
    · exact Or.inr ⟨i, e.trans e1, hi⟩
  · exact Or.inr ⟨j, e, by omega⟩

end Go.Proofs.YtbolacnpljkpbaaDoor
