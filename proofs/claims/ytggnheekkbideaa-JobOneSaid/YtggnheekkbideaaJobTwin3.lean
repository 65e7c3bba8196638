/- job.twins: instances in new memory. -/
import Derived.Test.YtggnheekkbideaaJobTwin2
import Derived.Test.YtggnheekkbideaaOpenF
set_option maxRecDepth 100000
namespace Go.Proofs.Ytggnheekkbideaa
open Go.RowKit Go.Deep Go.ChangeShapes Go.WideShapes Go.Joins

/-- The cells of instances that may be read, as a row. -/
theorem InsR.rows {w : World} {B : Nat} {v : Value} {l : List Ins} (h : InsR w B v l) : ∃ R : List Ih, R.map (·.x) = l ∧ SlF cellI 5 1759218604390 w B v R ∧ ∀ y ∈ R, BsR w B (vvI y) y.x.vars ∧ TsR w B (tvI y) y.x.toks := by
  obtain ⟨a, cap, rfl⟩ := h.val
  have each : ∀ i, i < l.length → ∃ y : Ih, l[i]? = some y.x ∧ (∃ b o, a = some ⟨b, o, none⟩ ∧ b < B ∧ ∀ j, j < 5 → w.cell? ⟨b, o + i * 5 + j, none⟩ = (cellI y)[j]?) ∧ BsR w B (vvI y) y.x.vars ∧ TsR w B (tvI y) y.x.toks := by
    intro i hi
    obtain ⟨b, o, vv, vt, ha, hb, h0, h1, h2, h3, h4, h5, h6⟩ := h.col i hi
    obtain ⟨va, vc, rfl⟩ := h5.val
    obtain ⟨ta, tc, rfl⟩ := h6.val
    refine ⟨⟨l[i], va, vc, ta, tc⟩, List.getElem?_eq_getElem hi, ⟨b, o, ha, hb, fun j hj => ?_⟩, h5, h6⟩
    match j, hj with
    | 0, _ => exact h0
    | 1, _ => exact h1
    | 2, _ => exact h2
    | 3, _ => exact h3
    | 4, _ => exact h4
  obtain ⟨f, hf⟩ := choose_lt (α := Ih) each
  have hfx : ∀ i (hi : i < l.length), (f i).x = l[i] := fun i hi => by
    have := (hf i hi).1
    rw [List.getElem?_eq_getElem hi] at this
    injection this with this
    exact this.symm
  refine ⟨(List.range l.length).map f, ?_, ⟨a, cap, by simp, by simpa using h.len, ?_, fun i hi => ?_⟩, fun y hy => ?_⟩
  · refine List.ext_getElem (by simp) fun i h1 h2 => ?_
    simp only [List.getElem_map, List.getElem_range]
    exact hfx i h2
  · obtain ⟨a', cap', hv, _, hc, _⟩ := h
    cases hv
    simpa using hc
  · have hi' : i < l.length := by simpa using hi
    obtain ⟨_, ⟨b, o, e1, e2, e3⟩, _⟩ := hf i hi'
    exact ⟨b, o, e1, e2, by simpa using e3⟩
  · obtain ⟨i, hi, rfl⟩ := List.getElem_of_mem hy
    have hi' : i < l.length := by simpa using hi
    simpa using (hf i hi').2.2

/-- copy(dst, src): dst made just now and of src's length. -/
theorem run_copy_slF {P : Program} {α : Type} {f : α → List Value} {k : Nat} (w : World) (hf : ∀ x, (f x).length = k) (h1 : ∀ x, ∀ u ∈ f x, u.oneCell' = true) {sT ty e : TypeId} {g n : Nat} {L B : Nat} {sv : Value} {R : List α} (hk : 0 < k)
    (hu : P.underlying sT = some (.slice e)) (hs : (P.info? e).map (·.size) = some k) (hsv : SlF f k L w B sv R) (hn : R.length = n) (hc : ∀ j, j < n * k → (w.cell? ⟨g, j, none⟩).isSome = true) (hfr : ∀ j, w.frozen? ⟨g, j, none⟩ = false) :
    (Builtin.copy_ #[sT, sT] ty #[.slice (some ⟨g, 0, none⟩) n n, sv]).run P w = .ok (goInt (n : Nat)) (w.setCells g 0 (cellsF f R)) := by
  subst hn
  obtain ⟨a, cap, rfl, hl, _, hcol⟩ := hsv
  cases a with
  | none =>
    have hl0 : R = [] := by
      cases R with
      | nil => rfl
      | cons x l => obtain ⟨b, o, hb, _⟩ := hcol 0 (by simp); cases hb
    subst hl0
    cases hq : P.info? e with
    | none => simp [hq] at hs
    | some i =>
      simp [Builtin.copy_, run_underlying hu, Builtin.lenOf, Builtin.firstCells, sizeOf, typeInfo, hq, storeCells, Result.andThen, cellsF, World.setCells]
  | some ad =>
    have hlen : (cellsF f R).length = R.length * k := cellsF_len hf R
    have hmin : Nat.min R.length R.length = R.length := Nat.min_eq_right (Nat.le_refl _)
    have := run_copy_kK (P := P) w k sT sT ty e g 0 R.length R.length ad R.length cap (cellsF f R) hu hs (by rw [hmin, hlen]) (by
      intro j u hu
      have hj : j < (cellsF f R).length := (List.getElem?_eq_some_iff.1 hu).1
      rw [hlen] at hj
      have hi : j / k < R.length := (Nat.div_lt_iff_lt_mul hk).2 hj
      obtain ⟨b, o, hb, _, hcc⟩ := hcol (j / k) hi
      cases hb
      have hm : j % k < k := Nat.mod_lt _ hk
      have e := Nat.div_add_mod' j k
      rw [add_addrK, show o + j = o + (j / k) * k + j % k by omega, hcc _ hm, ← hu]
      have := cellsF_at hf R (j / k) (j % k) hi hm
      rw [e] at this
      exact this.symm)
      (fun j hj => by rw [Nat.zero_add]; exact hc j (by omega)) (fun j _ => by rw [Nat.zero_add]; exact hfr _) (cellsF_one' h1 R)
    rw [hmin] at this
    exact this

/-- .. what it leaves is a row of the call's own. -/
theorem own_copied {w : World} {R : List Ih} {n : Nat} {z : Value} (hn : R.length = n) (hm : n ≤ maxLen) (_hz : z.cells.size = 5) :
    RowI ((w.alloc (.cells (madeCells z.cells (n * 5)) 45)).setCells w.heap.size 0 (cellsF cellI R)) w.heap.size (.slice (some ⟨w.heap.size, 0, none⟩) n n) R ∧
      Below w.heap.size w ((w.alloc (.cells (madeCells z.cells (n * 5)) 45)).setCells w.heap.size 0 (cellsF cellI R)) := by
  subst hn
  have hms : (madeCells z.cells (R.length * 5)).size = R.length * 5 := size_madeCells _ _
  have h0 : (w.alloc (.cells (madeCells z.cells (R.length * 5)) 45)).ownsRow w.heap.size 45 5 (.slice (some ⟨w.heap.size, 0, none⟩) R.length R.length) R.length (madeCells z.cells (R.length * 5)).toList :=
    ⟨by simpa using hms, .inr ⟨_, R.length, _, rfl, Nat.le_refl _, heap_alloc_new w _, Nat.le_refl _, hm, hms, by rw [List.take_of_length_le (by simp [hms])]⟩⟩
  obtain ⟨h1, h2⟩ := stored_many (cellsF cellI R) 0 _ _ h0
  have e : setsL (madeCells z.cells (R.length * 5)).toList 0 (cellsF cellI R) = cellsF cellI R := by
    have hl := cellsF_len cellI_len R
    rw [setsL_eqK _ _ _ (by simp [hl, hms]), List.drop_of_length_le (by simp [hl, hms])]
    simp
  rw [e] at h1
  exact ⟨h1, ((Below.refl _ _).alloc (Nat.le_refl _) _).grown h2 (by simp) (fun k hk => by injection hk with hk; omega)⟩
theorem made_cell {w : World} {n : Nat} {z : Array Value} {t : TypeId} {j : Nat} (hj : j < n) : ((w.alloc (.cells (madeCells z n) t)).cell? ⟨w.heap.size, j, none⟩).isSome = true := by
  rw [cell_of_block (heap_alloc_new w _), Array.getElem?_eq_getElem (by rw [size_madeCells]; exact hj)]
  rfl

end Go.Proofs.Ytggnheekkbideaa
