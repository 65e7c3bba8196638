/- What a reading of a slice of structs gives, whatever the struct: one lemma over a reading of one element. -/
import Derived.Test.YtjfiijbmkcfooaaDoorOpen
import Derived.Test.YtjfiijbmkcfooaaDoorRowsF
import Derived.Lib.SmallJoins
set_option maxRecDepth 100000
namespace Go.Proofs.YtjfiijbmkcfooaaDoor
open Go.RowKit Go.Deep Go.ChangeShapes Go.WideShapes Go.Joins

section
variable {H : Type} {enc : TypeId × Value → H} {P : Program} {W : World} {spare : Nat → Bool} {held : Bool}

theorem open_rows {α : Type} [Inhabited α] {t e : TypeId} {k : Nat} (ht : P.underlying t = some (.slice e)) (hk : P.cellsOf e = k) (hk0 : 0 < k) (R : List Value → α → Prop)
    (each : ∀ (fuel : Nat) (cs : List Value) (d : DataW H) (ps : List MemPlace), DataW.trod enc P W 0 spare held fuel e cs = some (d, ps) → Fits P e d → cs.length = k → ∃ x : α, R cs x)
    {fuel : Nat} {cs0 : List Value} {d : DataW H} {ps : List MemPlace} (h : DataW.trod enc P W 0 spare held fuel t cs0 = some (d, ps)) (hfit : Fits P t d) :
    ∃ v, ∃ l : List α, cs0 = [v] ∧ ∃ a cap, v = .slice a l.length cap ∧ l.length * P.bytesOf e ≤ reachBytes ∧ l.length ≤ cap ∧
      ∀ i (_ : i < l.length), ∃ b o cs, a = some ⟨b, o, none⟩ ∧ b < W.heap.size ∧ cs.length = k ∧ (∀ j, j < k → W.cell? ⟨b, o + i * k + j, none⟩ = cs[j]?) ∧ R cs l[i] := by
  rcases open_slice ht h with ⟨rfl, _⟩ | ⟨a, len, cap, m, n, D, Pl, rfl, _, hlc, hm, hmm, hx, hV⟩
  · exact ⟨_, [], rfl, none, 0, rfl, by simp, by simp, fun i h => by simp at h⟩
  · have hlm : len ≤ m := by rw [hmm]; split <;> omega
    have hd : d = _ := congrArg Prod.fst hx
    subst hd
    have each' : ∀ i, i < len → ∃ t : α, ∃ cs, cs.length = k ∧ (∀ j, j < k → W.cell? ((a.add (i * k)).add j) = cs[j]?) ∧ R cs t := fun i hi => by
      obtain ⟨cs, hcs, ht2⟩ := hV i (by omega)
      rw [hk] at hcs
      obtain ⟨_, hl, hc⟩ := World.cells?_some hcs
      obtain ⟨t, hr⟩ := each _ _ _ _ ht2 (fits_elem ht hfit (by simp; exact ⟨i, hi, rfl⟩)) hl
      exact ⟨t, cs, hl, fun j hj => by rw [hc j hj, List.getElem?_eq_getElem (by omega)], hr⟩
    obtain ⟨f, hf⟩ := choose_lt (α := α) each'
    have hlen := fits_len ht hfit
    simp only [List.length_map, List.length_range] at hlen
    refine ⟨_, (List.range len).map f, rfl, some a, cap, by simp, by simpa using hlen, by simpa using hlc, fun i hi => ?_⟩
    have hi' : i < len := by simpa using hi
    obtain ⟨cs, hl, hc, hr⟩ := hf i hi'
    obtain ⟨cs0, hl0, hc0, _⟩ := hf 0 (by omega)
    have c00 := hc0 0 hk0
    rw [show (a.add (0 * k)).add 0 = a by simp [Addr.add], List.getElem?_eq_getElem (by omega)] at c00
    obtain ⟨b, o, rfl, hb⟩ := addr_of_cell c00
    refine ⟨b, o, cs, rfl, hb, hl, fun j hj => ?_, by simpa using hr⟩
    have := hc j hj
    rwa [add_none b o (i * k) rfl, add_none b (o + i * k) _ rfl] at this

/-- Elements without a slice of their own: a column. -/
theorem open_colF {α : Type} [Inhabited α] {f : α → List Value} {t e : TypeId} {k : Nat} (ht : P.underlying t = some (.slice e)) (hk : P.cellsOf e = k) (hk0 : 0 < k) (G : α → Prop)
    (each : ∀ (fuel : Nat) (cs : List Value) (d : DataW H) (ps : List MemPlace), DataW.trod enc P W 0 spare held fuel e cs = some (d, ps) → Fits P e d → cs.length = k → ∃ x : α, cs = f x ∧ G x)
    {fuel : Nat} {cs0 : List Value} {d : DataW H} {ps : List MemPlace} (h : DataW.trod enc P W 0 spare held fuel t cs0 = some (d, ps)) (hfit : Fits P t d) :
    ∃ v, ∃ l : List α, cs0 = [v] ∧ (∃ a cap, v = .slice a l.length cap ∧ l.length * P.bytesOf e ≤ reachBytes ∧ l.length ≤ cap ∧ ColF f k W W.heap.size a l) ∧ ∀ x ∈ l, G x := by
  obtain ⟨v, l, h0, a, cap, h1, h2, hcp, h3⟩ := open_rows ht hk hk0 (fun cs x => cs = f x ∧ G x) each h hfit
  refine ⟨v, l, h0, ⟨a, cap, h1, h2, hcp, fun i hi => ?_⟩, fun x hx => ?_⟩
  · obtain ⟨b, o, cs, e1, e2, _, e3, rfl, _⟩ := h3 i hi
    exact ⟨b, o, e1, e2, e3⟩
  · obtain ⟨i, hi, rfl⟩ := List.getElem_of_mem hx
    obtain ⟨_, _, _, _, _, _, _, _, g⟩ := h3 i hi
    exact g
end
end Go.Proofs.YtjfiijbmkcfooaaDoor
