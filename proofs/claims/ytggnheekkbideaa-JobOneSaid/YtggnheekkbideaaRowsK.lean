/- Rows of elements of k cells: whole elements loaded, stored, exchanged, copied within a row. -/
import Derived.Test.YtggnheekkbideaaRowsF
import Derived.Test.YtggnheekkbideaaBase
import Derived.Laws.CopyOwn
import Derived.BigRegion
import Derived.Shelf.SlicesQ.Reverse
set_option maxRecDepth 100000
namespace Go.Proofs.Ytggnheekkbideaa
open Go.RowKit

theorem add_addrK (b o i : Nat) : (⟨b, o, none⟩ : Addr).add i = ⟨b, o + i, none⟩ := by
  unfold Addr.add
  split <;> simp_all
/-- A run of stores into a list. -/
def setsL (xs : List Value) : Nat → List Value → List Value
  | _, [] => xs
  | s, v :: r => setsL (xs.set s v) (s + 1) r
theorem len_setsL : ∀ (vs : List Value) (s : Nat) (xs : List Value), (setsL xs s vs).length = xs.length
  | [], _, _ => rfl
  | v :: r, s, xs => by rw [setsL, len_setsL r]; simp
theorem get_setsL : ∀ (vs : List Value) (s : Nat) (xs : List Value) (t : Nat), s + vs.length ≤ xs.length → (setsL xs s vs)[t]? = if s ≤ t ∧ t < s + vs.length then vs[t - s]? else xs[t]?
  | [], s, xs, t, _ => by rw [setsL, if_neg (by simp only [List.length_nil]; omega)]
  | v :: r, s, xs, t, h => by
    simp only [List.length_cons] at h
    rw [setsL, get_setsL r (s + 1) _ t (by simp; omega)]
    by_cases h1 : s + 1 ≤ t ∧ t < s + 1 + r.length
    · rw [if_pos h1, if_pos (by simp; omega)]
      obtain ⟨u, rfl⟩ : ∃ u, t = s + 1 + u := ⟨t - (s + 1), by omega⟩
      rw [show s + 1 + u - s = u + 1 by omega, show s + 1 + u - (s + 1) = u by omega, List.getElem?_cons_succ]
    · rw [if_neg h1]
      by_cases h2 : t = s
      · subst h2
        rw [if_pos (by simp), List.getElem?_set_self (by omega), show t - t = 0 by omega, List.getElem?_cons_zero]
      · rw [if_neg (by simp; omega), List.getElem?_set_ne (Ne.symm h2)]
theorem stored_many {base g n cap : Nat} {e : TypeId} {size : Nat} : ∀ (vs : List Value) (s : Nat) (w : World) (xs : List Value), w.ownsRow base e size (.slice (some ⟨g, 0, none⟩) n cap) n xs →
    (w.setCells g s vs).ownsRow base e size (.slice (some ⟨g, 0, none⟩) n cap) n (setsL xs s vs) ∧ w.grownBy (w.setCells g s vs) (some g)
  | [], _, w, _, h => ⟨h, ⟨rfl, rfl, rfl, Nat.le_refl _, fun _ _ _ => rfl⟩⟩
  | v :: r, s, w, xs, h => by
    obtain ⟨h1, h2⟩ := World.ownsRow.stored h s v
    obtain ⟨h3, h4⟩ := stored_many r (s + 1) _ _ h1
    refine ⟨h3, ⟨h4.os.trans h2.os, h4.tape.trans h2.tape, h4.output.trans h2.output, Nat.le_trans h2.size h4.size, fun k hk hne => ?_⟩⟩
    exact (h4.block k (Nat.lt_of_lt_of_le hk h2.size) hne).trans (h2.block k hk hne)
theorem setsL_eqK : ∀ (vs : List Value) (s : Nat) (xs : List Value), s + vs.length ≤ xs.length → setsL xs s vs = xs.take s ++ (vs ++ xs.drop (s + vs.length)) := by
  intro vs s xs h
  apply List.ext_getElem?
  intro t
  rw [get_setsL vs s xs t h, List.getElem?_append, List.getElem?_append, List.length_take, Nat.min_eq_left (by omega)]
  by_cases h1 : t < s
  · rw [if_neg (by omega), if_pos h1, List.getElem?_take, if_pos h1]
  · rw [if_neg h1]
    by_cases h2 : t < s + vs.length
    · rw [if_pos (by omega), if_pos (by omega)]
    · rw [if_neg (by omega), if_neg (by omega), List.getElem?_drop]
      congr 1
      omega

section
variable {α : Type} {f : α → List Value} {k : Nat}
theorem cellsF_takeK (hf : ∀ x, (f x).length = k) : ∀ (l : List α) (i : Nat), (cellsF f l).take (i * k) = cellsF f (l.take i)
  | [], i => by simp [cellsF]
  | x :: l, 0 => by simp [cellsF]
  | x :: l, i + 1 => by
    have ih := cellsF_takeK hf l i
    show (f x ++ cellsF f l).take ((i + 1) * k) = f x ++ cellsF f (l.take i)
    rw [← ih, List.take_append, List.take_of_length_le (by rw [hf, Nat.add_mul]; omega), hf, show (i + 1) * k - k = i * k by rw [Nat.add_mul]; omega]
theorem cellsF_dropK (hf : ∀ x, (f x).length = k) : ∀ (l : List α) (i : Nat), (cellsF f l).drop (i * k) = cellsF f (l.drop i)
  | [], i => by simp [cellsF]
  | x :: l, 0 => by simp
  | x :: l, i + 1 => by
    have ih := cellsF_dropK hf l i
    show (f x ++ cellsF f l).drop ((i + 1) * k) = cellsF f (l.drop i)
    rw [← ih, List.drop_append, List.drop_of_length_le (by rw [hf, Nat.add_mul]; omega), hf, show (i + 1) * k - k = i * k by rw [Nat.add_mul]; omega, List.nil_append]
theorem cellsF_one' (h1 : ∀ x, ∀ u ∈ f x, u.oneCell' = true) (l : List α) : ∀ u ∈ cellsF f l, u.oneCell' = true := by
  intro u hu
  obtain ⟨x, _, hx⟩ := List.mem_flatMap.1 hu
  exact h1 x u hx

variable {e : TypeId} {w : World} {base g n cap : Nat} {A : List α}
/-- A whole element is loaded. -/
theorem ownK_load {P : Program} (hf : ∀ x, (f x).length = k) (h : OwnF f e k w base (.slice (some ⟨g, 0, none⟩) n cap) A) {i : Nat} (hi : i < A.length) :
    Sem.run P (loadCellsFrom ⟨g, i * k, none⟩ 0 k #[]) w = .ok (f A[i]).toArray w := by
  refine run_loadCellsFrom_list _ _ _ (f A[i]) k (hf _) fun j v hj => ?_
  have hj5 : j < k := by have := (List.getElem?_eq_some_iff.1 hj).1; rwa [hf] at this
  rw [add_addrK, h.at hf hi hj5]
  exact hj
theorem ownK_inb (_hf : ∀ x, (f x).length = k) (h : OwnF f e k w base (.slice (some ⟨g, 0, none⟩) n cap) A) {q : Nat} (hq : q < A.length * k) : w.cell? ⟨g, q, none⟩ = (cellsF f A)[q]? := by
  obtain ⟨_, _, _, rfl⟩ := h.block
  exact World.ownsRow.cellAt h _ hq
theorem mul_in {i k m j : Nat} (hi : i < m) (hj : j < k) : i * k + j < m * k := by
  have : (i + 1) * k ≤ m * k := Nat.mul_le_mul_right _ hi
  rw [Nat.add_mul] at this; omega
/-- A whole element is stored. -/
theorem ownK_store {P : Program} (hf : ∀ x, (f x).length = k) (h1 : ∀ x, ∀ u ∈ f x, u.oneCell' = true) (h : OwnF f e k w base (.slice (some ⟨g, 0, none⟩) n cap) A) {i : Nat} (hi : i < A.length) (x : α) :
    Sem.run P (storeCells ⟨g, i * k, none⟩ (f x) 0) w = .ok () (w.setCells g (i * k) (f x)) := by
  have := run_storeCells_cells (P := P) g (i * k) (f x) 0 w (fun c hc => by
      rw [hf] at hc
      have hq := mul_in hi hc
      rw [Nat.add_zero, ownK_inb hf h hq, List.getElem?_eq_getElem (by rw [cellsF_len hf]; exact hq)]; rfl)
    (fun c hc => by rw [Nat.add_zero]; exact h.free _) (h1 x)
  rwa [Nat.add_zero] at this
theorem ownK_set (hf : ∀ x, (f x).length = k) (h : OwnF f e k w base (.slice (some ⟨g, 0, none⟩) n cap) A) {i : Nat} (hi : i < A.length) (x : α) :
    OwnF f e k (w.setCells g (i * k) (f x)) base (.slice (some ⟨g, 0, none⟩) n cap) (A.set i x) ∧ w.grownBy (w.setCells g (i * k) (f x)) (some g) := by
  obtain ⟨_, _, _, rfl⟩ := h.block
  obtain ⟨h1, h2⟩ := stored_many (f x) (i * k) w _ h
  refine ⟨?_, h2⟩
  have hR : (cellsF f A).length = A.length * k := cellsF_len hf A
  have hb : i * k + k ≤ A.length * k := by rw [← Nat.succ_mul]; exact Nat.mul_le_mul_right _ hi
  have e : setsL (cellsF f A) (i * k) (f x) = cellsF f (A.set i x) := by
    rw [setsL_eqK _ _ _ (by rw [hf, hR]; exact hb), cellsF_takeK hf, hf, show i * k + k = (i + 1) * k by rw [Nat.add_mul]; omega, cellsF_dropK hf, List.set_eq_take_append_cons_drop, if_pos hi]
    simp [cellsF]
  rw [e] at h1
  unfold OwnF
  rw [List.length_set]
  exact h1
end

theorem run_copy_kK {P : Program} (w : World) (k : Nat) (dT sT ty elem : TypeId) (b o dLen dCap : Nat) (a : Addr) (sLen sCap : Nat) (cs : List Value)
    (hu : P.underlying dT = some (.slice elem)) (hs : (P.info? elem).map (·.size) = some k) (hn : cs.length = Nat.min sLen dLen * k)
    (hsrc : ∀ j v, cs[j]? = some v → w.cell? (a.add j) = some v) (hc : ∀ j, j < cs.length → (w.cell? ⟨b, o + j, none⟩).isSome = true) (hf : ∀ j, j < cs.length → w.frozen? ⟨b, o + j, none⟩ = false) (h1 : ∀ v ∈ cs, v.oneCell' = true) :
    (Builtin.copy_ #[dT, sT] ty #[.slice (some ⟨b, o, none⟩) dLen dCap, .slice (some a) sLen sCap]).run P w = .ok (goInt (Nat.min sLen dLen)) (w.setCells b o cs) := by
  have hl := run_loadCells_list (P := P) w a cs hsrc
  have hst := run_storeCells_cells (P := P) b o cs 0 w (by simpa using hc) (by simpa using hf) h1
  cases hq : P.info? elem with
  | none => simp [hq] at hs
  | some i =>
    have hi : i.size = k := by simpa [hq] using hs
    simp [Builtin.copy_, run_underlying hu, Builtin.lenOf, Builtin.firstCells, sizeOf, typeInfo, hq, hi, ← hn, hl, hst]
/-- Nothing goes over where one of the two has no element. -/
theorem run_copy_zeroK {P : Program} (w : World) (k : Nat) (dT sT ty elem : TypeId) (d a : Addr) (dLen dCap sLen sCap : Nat) (hu : P.underlying dT = some (.slice elem)) (hs : (P.info? elem).map (·.size) = some k) (hn : Nat.min sLen dLen = 0) :
    (Builtin.copy_ #[dT, sT] ty #[.slice (some d) dLen dCap, .slice (some a) sLen sCap]).run P w = .ok (goInt 0) w := by
  cases hq : P.info? elem with
  | none => simp [hq] at hs
  | some i =>
    simp [Builtin.copy_, run_underlying hu, Builtin.lenOf, Builtin.firstCells, sizeOf, typeInfo, hq, hn, storeCells, loadCells, loadCellsFrom, Result.andThen]

section
variable {α : Type} {f : α → List Value} {k : Nat} {e sT : TypeId} {w : World} {base g cap : Nat}
/-- copy(s[m+1:], s[m:]) within one row. -/
theorem ownK_shift {P : Program} (hu : P.underlying sT = some (.slice e)) (hs : (P.info? e).map (·.size) = some k) (hf : ∀ x, (f x).length = k) (h1 : ∀ x, ∀ u ∈ f x, u.oneCell' = true) {R : List α} {m : Nat}
    (h : OwnF f e k w base (.slice (some ⟨g, 0, none⟩) R.length cap) R) (hk : m + 1 < R.length) (ty : TypeId) (c1 c2 : Nat) :
    ∃ w', (Builtin.copy_ #[sT, sT] ty #[.slice (some ⟨g, (m + 1) * k, none⟩) (R.length - (m + 1)) c1, .slice (some ⟨g, m * k, none⟩) (R.length - m) c2]).run P w = .ok (goInt (R.length - (m + 1) : Nat)) w' ∧
      OwnF f e k w' base (.slice (some ⟨g, 0, none⟩) R.length cap) (R.take (m + 1) ++ (R.drop m).take (R.length - (m + 1))) ∧ w.grownBy w' (some g) := by
  obtain ⟨M, hM⟩ : ∃ M, (R.drop m).take (R.length - (m + 1)) = M := ⟨_, rfl⟩
  have hMl : M.length = R.length - (m + 1) := by rw [← hM, List.length_take, List.length_drop]; omega
  have hlen : (cellsF f M).length = (R.length - (m + 1)) * k := by rw [cellsF_len hf, hMl]
  have hR : (cellsF f R).length = R.length * k := cellsF_len hf R
  have hsum : (m + 1) * k + (R.length - (m + 1)) * k = R.length * k := by rw [← Nat.add_mul]; congr 1; omega
  have hsum2 : m * k + k = (m + 1) * k := by rw [Nat.add_mul]; omega
  obtain ⟨g1, g2⟩ := stored_many (cellsF f M) ((m + 1) * k) w _ h
  have hmin : Nat.min (R.length - m) (R.length - (m + 1)) = R.length - (m + 1) := Nat.min_eq_right (by omega)
  have hcell : ∀ j, j < R.length * k → w.cell? ⟨g, j, none⟩ = (cellsF f R)[j]? := fun j hj => ownK_inb hf h hj
  have hsrc : ∀ j v, (cellsF f M)[j]? = some v → w.cell? ((⟨g, m * k, none⟩ : Addr).add j) = some v := fun j v hj => by
    have hjl : j < (cellsF f M).length := (List.getElem?_eq_some_iff.1 hj).1
    rw [add_addrK, hcell _ (by omega), ← hj, ← hM, ← cellsF_takeK hf, ← cellsF_dropK hf, List.getElem?_take, if_pos (by omega), List.getElem?_drop]
  have hrun := run_copy_kK (P := P) w k sT sT ty e g ((m + 1) * k) (R.length - (m + 1)) c1 ⟨g, m * k, none⟩ (R.length - m) c2 (cellsF f M) hu hs (by rw [hlen, hmin]) hsrc
    (fun j hj => by rw [hcell _ (by omega), List.getElem?_eq_getElem (by omega)]; rfl) (fun j _ => h.free _) (cellsF_one' h1 M)
  rw [hmin] at hrun
  refine ⟨_, hrun, ?_, g2⟩
  have e : setsL (cellsF f R) ((m + 1) * k) (cellsF f M) = cellsF f (R.take (m + 1) ++ M) := by
    rw [setsL_eqK _ _ _ (by omega), cellsF_takeK hf, List.drop_of_length_le (by omega), List.append_nil]
    simp [cellsF]
  rw [e] at g1
  unfold OwnF
  rw [hM, show (R.take (m + 1) ++ M).length = R.length by rw [List.length_append, List.length_take, hMl]; omega]
  exact g1

theorem shift_setK {α : Type} {O : List α} {z a : α} {k : Nat} (hk : k < O.length) : ((O ++ [z]).take (k + 1) ++ ((O ++ [z]).drop k).take ((O ++ [z]).length - (k + 1))).set k a = O.take k ++ a :: O.drop k := by
  rw [List.take_append_of_le_length (by omega), List.drop_append_of_le_length (by omega), List.take_append_of_le_length (by simp), List.take_of_length_le (i := (O ++ [z]).length - (k + 1)) (by simp), List.take_add_one, List.getElem?_eq_getElem hk]
  simp only [Option.toList_some, List.append_assoc, List.singleton_append]
  have e := List.set_append (s := O.take k) (t := O[k] :: O.drop k) (i := k) (x := a)
  rw [e, if_neg (by rw [List.length_take]; omega), show k - (O.take k).length = 0 by rw [List.length_take]; omega]
  rfl

/-- copy(s[m+1:], s[m:]) behind append(s, z): what a store at m then makes the insertion. -/
theorem ownK_ins {P : Program} (hu : P.underlying sT = some (.slice e)) (hs : (P.info? e).map (·.size) = some k) (hf : ∀ x, (f x).length = k) (h1 : ∀ x, ∀ u ∈ f x, u.oneCell' = true) {O : List α} {z x : α} {n6 m : Nat}
    (h : OwnF f e k w base (.slice (some ⟨g, 0, none⟩) (O.length + 1) cap) (O ++ [z])) (hn : O.length + 1 = n6) (hm : m ≤ O.length) (ty : TypeId) :
    ∃ ad w7, ∃ R : List α, (if cap = m + 1 then some (⟨g, 0, none⟩ : Addr) else some ⟨g, (m + 1) * k, none⟩) = some ad ∧
      (Builtin.copy_ #[sT, sT] ty #[.slice (some ad) (n6 - (m + 1)) (cap - (m + 1)), .slice (some ⟨g, m * k, none⟩) (n6 - m) (cap - m)]).run P w = .ok (goInt (n6 - (m + 1) : Nat)) w7 ∧
      OwnF f e k w7 base (.slice (some ⟨g, 0, none⟩) n6 cap) R ∧ R.length = n6 ∧ w.grownBy w7 (some g) ∧ R.set m x = O.take m ++ x :: O.drop m := by
  subst hn
  have hcap := OwnF.cap h
  have hl : (O ++ [z]).length = O.length + 1 := by simp
  rw [hl] at hcap
  rcases Nat.lt_or_eq_of_le hm with hlt | rfl
  · rw [← hl] at h
    obtain ⟨w7, g1, g2, g3⟩ := ownK_shift (m := m) hu hs hf h1 h (by omega) ty (cap - (m + 1)) (cap - m)
    have hset := shift_setK (z := z) (a := x) hlt
    obtain ⟨R, hR⟩ : ∃ R, (O ++ [z]).take (m + 1) ++ ((O ++ [z]).drop m).take ((O ++ [z]).length - (m + 1)) = R := ⟨_, rfl⟩
    have hRl : R.length = O.length + 1 := by rw [← hR]; simp; omega
    rw [hR] at g2 hset
    rw [hl] at g1 g2
    exact ⟨_, w7, R, if_neg (by omega), g1, g2, hRl, g3, hset⟩
  · have hz : O.length + 1 - (O.length + 1) = 0 := by omega
    have hr : ∀ ad, (Builtin.copy_ #[sT, sT] ty #[.slice (some ad) (O.length + 1 - (O.length + 1)) (cap - (O.length + 1)), .slice (some ⟨g, O.length * k, none⟩) (O.length + 1 - O.length) (cap - O.length)]).run P w = .ok (goInt (O.length + 1 - (O.length + 1) : Nat)) w := fun ad => by
      have := run_copy_zeroK (P := P) w k sT sT ty e ad ⟨g, O.length * k, none⟩ (O.length + 1 - (O.length + 1)) (cap - (O.length + 1)) (O.length + 1 - O.length) (cap - O.length) hu hs (by rw [hz]; exact Nat.min_eq_right (by omega))
      rw [this, hz]; rfl
    have hs : (O ++ [z]).set O.length x = O.take O.length ++ x :: O.drop O.length := by simp
    by_cases hc : cap = O.length + 1
    · exact ⟨_, w, _, if_pos hc, hr _, h, hl, ⟨rfl, rfl, rfl, Nat.le_refl _, fun _ _ _ => rfl⟩, hs⟩
    · exact ⟨_, w, _, if_neg hc, hr _, h, hl, ⟨rfl, rfl, rfl, Nat.le_refl _, fun _ _ _ => rfl⟩, hs⟩
end
end Go.Proofs.Ytggnheekkbideaa
