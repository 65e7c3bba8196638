/- A map from numbers to truths in memory of the call's own. -/
import Derived.Test.YtbolacnpljkpbaaDoorStepOwn
import Derived.Maps.OwnOps
import Derived.Maps.OwnSet
set_option maxRecDepth 100000
namespace Go.Proofs.YtbolacnpljkpbaaDoor
open Go.RowKit Go.Maps

section
variable {H : Type} {P : Program}
theorem plainElem_bool_inv {e : TypeId} (he : P.underlying e = some .bool) {v : Value} {z : DataW H × List MemPlace} (h : plainElem P e v = some z) : ∃ x, v = .bool x ∧ z = (.lit (.bool x), []) := by
  unfold plainElem at h
  rw [he] at h
  cases v <;> simp at h
  exact ⟨_, rfl, h.symm⟩
end

/-- The map at block b says true of just the numbers in S. -/
def SeenM (w : World) (b : Nat) (S : List Int) : Prop :=
  ∃ (D : DataW Unit), w.ownsMap Tryd.prog 3 (plainElem Tryd.prog 4) b S.length D ∧ IsMap D ∧ ∀ x : Int, (Lit.int .i64 x).wf = true → D.atKey (.int .i64 x) (.lit (.bool false)) = .lit (.bool (S.contains x))

theorem SeenM.made (w : World) : SeenM (w.alloc (.map #[] 0)) w.heap.size [] :=
  ⟨.map [], World.ownsMap_made _ _ _ _, ⟨[], rfl⟩, fun _ _ => rfl⟩
theorem SeenM.lt {w : World} {b : Nat} {S : List Int} (h : SeenM w b S) : b < w.heap.size := by
  obtain ⟨D, h1, _⟩ := h
  exact h1.lt
theorem SeenM.kept {w w' : World} {b : Nat} {S : List Int} {row : Option Nat} (h : SeenM w b S) (hg : w.grownBy w' row) (hne : some b ≠ row) : SeenM w' b S := by
  obtain ⟨D, h1, h2, h3⟩ := h
  exact ⟨D, h1.kept hg hne, h2, h3⟩
theorem SeenM.isMap {w : World} {b : Nat} {S : List Int} (h : SeenM w b S) : ∃ es ck, w.heap[b]? = some (.map es ck) := by
  obtain ⟨D, ⟨es, ck, hb, _⟩, _⟩ := h
  exact ⟨es, ck, hb⟩
theorem SeenM.frm {T : List (Option Nat)} {w w' : World} {b : Nat} {S : List Int} (h : SeenM w b S) (hf : Frm T w w') (hne : ∀ r ∈ T, r ≠ some b) : SeenM w' b S := by
  obtain ⟨D, ⟨es, ck, hb, hr⟩, h2, h3⟩ := h
  exact ⟨D, ⟨es, ck, hf.block hb hne, hr⟩, h2, h3⟩
theorem SeenM.look {w : World} {b : Nat} {S : List Int} (h : SeenM w b S) (x : Int) (hx : (Lit.int .i64 x).wf = true) (hz : (zeroValue 4).run Tryd.prog w = .ok (.bool false) w) :
    (Instr.lookup 92 (.map (some b)) (.int .i64 x) false).run Tryd.prog w = .ok (.bool (S.contains x)) w := by
  obtain ⟨D, h1, h2, h3⟩ := h
  obtain ⟨v, ps, hrun, hv⟩ := h1.lookup (int_keyed Tryd.underlying3) Tryd.underlying92 hz (plainElem_bool Tryd.underlying4 false) (keyOf_int_mk Tryd.underlying3 hx)
  obtain ⟨c, rfl, hc⟩ := plainElem_bool_inv Tryd.underlying4 hv
  rw [h3 x hx] at hc
  injection hc with hc
  injection hc with hc
  injection hc with hc
  rw [hrun, hc]
theorem SeenM.put {w : World} {b : Nat} {S : List Int} (h : SeenM w b S) (x : Int) (hx : (Lit.int .i64 x).wf = true) (hn : S.length < maxLen) :
    ∃ w', (Instr.mapUpdate 92 (.map (some b)) (.int .i64 x) (.bool true)).run Tryd.prog w = .ok () w' ∧ SeenM w' b (S ++ [x]) ∧ w.grownBy w' (some b) := by
  obtain ⟨D, h1, h2, h3⟩ := h
  obtain ⟨w', hrun, h4, h5⟩ := h1.update (int_keyed Tryd.underlying3) Tryd.underlying92 hn (keyOf_int_mk Tryd.underlying3 hx) (plainElem_bool Tryd.underlying4 true)
  refine ⟨w', hrun, ⟨_, by rw [List.length_append, List.length_singleton]; exact h4, h2.put _ _, fun y hy => ?_⟩, h5⟩
  by_cases e : y = x
  · subst e
    rw [atKey_put_same h2 (by trivial)]
    simp
  · rw [atKey_put_other (by intro h; injection h with _ h; exact e h), h3 y hy]
    simp [e]
end Go.Proofs.YtbolacnpljkpbaaDoor
