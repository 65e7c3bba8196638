/- Lists of numbers whose length is bounded by their reading's bulk (for the second forms). -/
import Derived.Test.YtapnkkoplnhleaaDoorOpenNet
set_option maxRecDepth 100000
namespace Go.Proofs.YtapnkkoplnhleaaDoor
open Go.RowKit Go.Deep Go.ChangeShapes Go.WideShapes

section
variable {H : Type} {enc : TypeId × Value → H} {P : Program} {W : World} {spare : Nat → Bool} {held : Bool}

theorem bulk_pos (d : DataW H) : 1 ≤ Rows.uptoBulk d := by
  cases d with
  | lit l => cases l <;> simp [Rows.uptoBulk]
  | _ => simp [Rows.uptoBulk]
theorem bulk_many (l : List (DataW H)) : l.length ≤ Rows.uptoBulkAll l := by
  induction l with
  | nil => simp
  | cons x r ih =>
    have := bulk_pos x
    simp only [Rows.uptoBulkAll, List.length_cons]
    omega
theorem bulk_in {d : DataW H} : ∀ {l : List (DataW H)}, d ∈ l → Rows.uptoBulk d ≤ Rows.uptoBulkAll l
  | x :: r, h => by
    simp only [Rows.uptoBulkAll]
    rcases List.mem_cons.1 h with rfl | e
    · omega
    · have := bulk_in e; omega
theorem open_ints_at {t e : TypeId} {k : IntKind} {fuel L : Nat} {cs : List Value} {d : DataW H} {ps : List MemPlace} (ht : P.underlying t = some (.slice e)) (he : P.underlying e = some (.int k)) (hc : P.cellsOf e = 1)
    (hL : reachBytes / P.bytesOf e ≤ L) (hpos : 0 < P.bytesOf e) (h : DataW.trod enc P W 0 spare held fuel t cs = some (d, ps)) (hfit : Fits P t d) :
    ∃ v l, cs = [v] ∧ ColV (Value.int k) L W W.heap.size v l ∧ (∀ x ∈ l, (Lit.int k x).wf = true) ∧ l.length ≤ Rows.uptoBulk d := by
  rcases open_slice1 ht hc h with ⟨rfl, _⟩ | ⟨a, len, cap, m, n, V, D, Pl, rfl, _, hlc, hm, hmm, hx, hV⟩
  · exact ⟨_, [], rfl, ColV.nil _ _ _ _, by simp, by simp⟩
  · have hlm : len ≤ m := by rw [hmm]; split <;> omega
    have hint : ∀ i, i < len → ∃ x : Int, V i = .int k x ∧ (Lit.int k x).wf = true := fun i hi => by
      obtain ⟨y, hy, _, hw⟩ := DataW.trod_int he (hV i (by omega)).2
      simp at hy
      exact ⟨y, hy, hw⟩
    obtain ⟨l, hlen, hcol, hval⟩ := col_of (mk := Value.int k) V (fun i hi => (hV i (by omega)).1) (fun i hi => let ⟨x, hx, _⟩ := hint i hi; ⟨x, hx⟩)
    have hd : d = _ := congrArg Prod.fst hx
    subst hd
    refine ⟨_, l, rfl, ⟨some a, cap, by rw [hlen], ?_, by omega, hcol⟩, ?_, ?_⟩
    · have := fits_len ht hfit
      simp only [List.length_map, List.length_range] at this
      rw [hlen]
      exact Nat.le_trans ((Nat.le_div_iff_mul_le hpos).2 this) hL
    · intro x hx
      obtain ⟨i, hi, rfl⟩ := List.getElem_of_mem hx
      obtain ⟨y, hy, hw⟩ := hint i (by omega)
      rw [hval i hi] at hy
      cases hy
      exact hw
    · simp only [Rows.uptoBulk]
      refine Nat.le_trans ?_ (Nat.le_trans (Nat.le_add_right _ _) (Nat.le_succ _))
      refine Nat.le_trans ?_ (bulk_many _)
      rw [hlen]
      simp
theorem open_ints_bulk {v : Value} {d : DataW H} {ps : List MemPlace} {r : Reach} {b0 : Nat} (hv : Value.okWide Tryd.prog W r b0 26 v) (h : DataW.Trod enc Tryd.prog W 0 spare held 26 v d ps) (hfit : Fits Tryd.prog 26 d) :
    ∃ l, Ints W W.heap.size v l ∧ I64s l ∧ l.length ≤ Rows.uptoBulk d := by
  obtain ⟨fuel, h⟩ := h
  obtain ⟨a, len, cap, rfl⟩ := okWide_slice Tryd.underlying26 hv
  obtain ⟨v, l, hvl, hc, hw, hb⟩ := open_ints_at (L := 17592186044416) Tryd.underlying26 Tryd.underlying3 (by kernel_rfl) (by rw [show Tryd.prog.bytesOf 3 = 8 by kernel_rfl]; decide) (by rw [show Tryd.prog.bytesOf 3 = 8 by kernel_rfl]; decide) h hfit
  simp [Value.cells] at hvl
  subst hvl
  exact ⟨l, hc, hw, hb⟩
theorem bulk_arg {ds gs : List (DataW H)} {j : Nat} {d : DataW H} (hk : Rows.uptoSmall H (ds ++ gs) = true) (hd : ds[j]? = some d) : Rows.uptoBulk d ≤ 1048576 := by
  have h1 : Rows.uptoBulkAll (ds ++ gs) ≤ 1048576 := of_decide_eq_true hk
  exact Nat.le_trans (bulk_in (List.mem_append_left _ (List.mem_of_getElem? hd))) h1
end
end Go.Proofs.YtapnkkoplnhleaaDoor
