/- What a reading of the arguments gives: slices of numbers and of strings, nets. -/
import Derived.Test.YtlgfhbfdjckdnaaGreatDoorBase
import Derived.Deep.Slices
import Derived.Deep.Strs
import Derived.SizedLaws
set_option maxRecDepth 100000
namespace Go.Proofs.YtlgfhbfdjckdnaaGreatDoor
open Go.RowKit Go.Deep Go.ChangeShapes Go.WideShapes

section
variable {H : Type} {enc : TypeId × Value → H} {P : Program} {W : World} {spare : Nat → Bool} {held : Bool}

/-- All slices and strings of a reading are within the reach. -/
def Fits (P : Program) (t : TypeId) (d : DataW H) : Prop := ∀ n ∈ d.weights P t, n ≤ reachBytes

theorem fits_arg {ts : List TypeId} {ds : List (DataW H)} (h : (DataW.weightsEach P ts ds).all (· ≤ reachBytes) = true) {j : Nat} {t : TypeId} {d : DataW H} (ht : ts[j]? = some t) (hd : ds[j]? = some d) : Fits P t d := by
  intro n hn
  have := List.all_eq_true.1 h _ (DataW.weights_mem_each ht hd n hn)
  simpa using this

theorem fits_part {t : TypeId} {fs : Array Field} {parts : List (DataW H)} (ht : P.underlying t = some (.struct fs)) (h : Fits P t (.agg parts)) {j : Nat} {f : Field} {d : DataW H} (hf : fs[j]? = some f) (hd : parts[j]? = some d) : Fits P f.type d := by
  intro n hn
  refine h n ?_
  simp only [DataW.weights, ht]
  exact DataW.weights_mem_each (j := j) (by simp [hf]) hd n hn

theorem weightsAll_mem {e : TypeId} {l : List (DataW H)} {d : DataW H} (hd : d ∈ l) {n : Nat} (hn : n ∈ d.weights P e) : n ∈ DataW.weightsAll P e l := by
  induction l with
  | nil => cases hd
  | cons x r ih =>
    simp only [DataW.weightsAll, List.mem_append]
    rcases List.mem_cons.1 hd with rfl | h
    · exact Or.inl hn
    · exact Or.inr (ih h)

theorem fits_elem {t e : TypeId} {elems sp : List (DataW H)} (ht : P.underlying t = some (.slice e)) (h : Fits P t (.slice elems sp)) {d : DataW H} (hd : d ∈ elems) : Fits P e d := by
  intro n hn
  refine h n ?_
  simp only [DataW.weights, ht, List.mem_cons, List.mem_append]
  exact Or.inr (Or.inl (weightsAll_mem hd hn))

theorem fits_len {t e : TypeId} {elems sp : List (DataW H)} (ht : P.underlying t = some (.slice e)) (h : Fits P t (.slice elems sp)) : elems.length * P.bytesOf e ≤ reachBytes := by
  have := h ((elems.length + sp.length) * P.bytesOf e) (by simp [DataW.weights, ht])
  exact Nat.le_trans (Nat.mul_le_mul_right _ (Nat.le_add_right _ _)) this

theorem add_none {a : Addr} (b o i : Nat) (h : a = ⟨b, o, none⟩) : a.add i = ⟨b, o + i, none⟩ := by
  subst h
  unfold Addr.add
  split <;> simp_all

/-- An address that leads to cells bears no spot. -/
theorem addr_of_cell {w : World} {a : Addr} {v : Value} (h : w.cell? a = some v) : ∃ b o, a = ⟨b, o, none⟩ ∧ b < w.heap.size := by
  obtain ⟨b, o, s⟩ := a
  refine ⟨b, o, ?_, World.block_lt_of_cell? w _ h⟩
  unfold World.cell? at h
  split at h
  · cases s with
    | none => rfl
    | some s => simp at h
  · cases h

/-- FROM A READING BY INDEX TO A COLUMN. -/
theorem col_of {α : Type} [Inhabited α] {mk : α → Value} {a : Addr} {len : Nat} (V : Nat → Value) (hV : ∀ i, i < len → W.cell? (a.add i) = some (V i)) (hmk : ∀ i, i < len → ∃ x, V i = mk x) :
    ∃ l : List α, l.length = len ∧ Col mk W W.heap.size (some a) l ∧ ∀ i (h : i < l.length), V i = mk l[i] := by
  obtain ⟨f, hf⟩ := choose_lt hmk
  refine ⟨(List.range len).map f, by simp, ?_, fun i h => by simp at h ⊢; exact hf i h⟩
  intro i hi
  have hi' : i < len := by simpa using hi
  have h0 := hV 0 (by omega)
  rw [show a.add 0 = a by simp [Addr.add]] at h0
  obtain ⟨b, o, rfl, hb⟩ := addr_of_cell h0
  refine ⟨b, o, rfl, hb, ?_⟩
  have := hV i hi'
  rw [add_none b o i rfl] at this
  rw [this, hf i hi']
  simp

theorem open_ints_col {t e : TypeId} {k : IntKind} {fuel L : Nat} {cs : List Value} {d : DataW H} {ps : List MemPlace} (ht : P.underlying t = some (.slice e)) (he : P.underlying e = some (.int k)) (hc : P.cellsOf e = 1)
    (hL : reachBytes / P.bytesOf e ≤ L) (hpos : 0 < P.bytesOf e) (h : DataW.trod enc P W 0 spare held fuel t cs = some (d, ps)) (hfit : Fits P t d) :
    ∃ v l, cs = [v] ∧ ColV (Value.int k) L W W.heap.size v l ∧ ∀ x ∈ l, (Lit.int k x).wf = true := by
  rcases open_slice1 ht hc h with ⟨rfl, _⟩ | ⟨a, len, cap, m, n, V, D, Pl, rfl, _, hlc, hm, hmm, hx, hV⟩
  · exact ⟨_, [], rfl, ColV.nil _ _ _ _, by simp⟩
  · have hlm : len ≤ m := by rw [hmm]; split <;> omega
    have hint : ∀ i, i < len → ∃ x : Int, V i = .int k x ∧ (Lit.int k x).wf = true := fun i hi => by
      obtain ⟨y, hy, _, hw⟩ := DataW.trod_int he (hV i (by omega)).2
      simp at hy
      exact ⟨y, hy, hw⟩
    obtain ⟨l, hlen, hcol, hval⟩ := col_of (mk := Value.int k) V (fun i hi => (hV i (by omega)).1) (fun i hi => let ⟨x, hx, _⟩ := hint i hi; ⟨x, hx⟩)
    refine ⟨_, l, rfl, ⟨some a, cap, by rw [hlen], ?_, by omega, hcol⟩, ?_⟩
    · have hd : d = _ := congrArg Prod.fst hx
      subst hd
      have := fits_len ht hfit
      simp only [List.length_map, List.length_range] at this
      rw [hlen]
      exact Nat.le_trans ((Nat.le_div_iff_mul_le hpos).2 this) hL
    · intro x hx
      obtain ⟨i, hi, rfl⟩ := List.getElem_of_mem hx
      obtain ⟨y, hy, hw⟩ := hint i (by omega)
      rw [hval i hi] at hy
      cases hy
      exact hw

theorem open_strs_col {t e : TypeId} {fuel L : Nat} {cs : List Value} {d : DataW H} {ps : List MemPlace} (ht : P.underlying t = some (.slice e)) (he : P.underlying e = some .string) (hc : P.cellsOf e = 1)
    (hL : reachBytes / P.bytesOf e ≤ L) (hpos : 0 < P.bytesOf e) (h : DataW.trod enc P W 0 spare held fuel t cs = some (d, ps)) (hfit : Fits P t d) :
    ∃ v l, cs = [v] ∧ ColV Value.string L W W.heap.size v l := by
  rcases open_slice1 ht hc h with ⟨rfl, _⟩ | ⟨a, len, cap, m, n, V, D, Pl, rfl, _, hlc, hm, hmm, hx, hV⟩
  · exact ⟨_, [], rfl, ColV.nil _ _ _ _⟩
  · have hlm : len ≤ m := by rw [hmm]; split <;> omega
    have hint : ∀ i, i < len → ∃ x : ByteArray, V i = .string x := fun i hi => by
      obtain ⟨y, hy, _, hw⟩ := DataW.trod_string he (hV i (by omega)).2
      simp at hy
      exact ⟨y, hy⟩
    obtain ⟨l, hlen, hcol, hval⟩ := col_of (mk := Value.string) V (fun i hi => (hV i (by omega)).1) hint
    refine ⟨_, l, rfl, ⟨some a, cap, by rw [hlen], ?_, by omega, hcol⟩⟩
    have hd : d = _ := congrArg Prod.fst hx
    subst hd
    have := fits_len ht hfit
    simp only [List.length_map, List.length_range] at this
    rw [hlen]
    exact Nat.le_trans ((Nat.le_div_iff_mul_le hpos).2 this) hL

end
end Go.Proofs.YtlgfhbfdjckdnaaGreatDoor
