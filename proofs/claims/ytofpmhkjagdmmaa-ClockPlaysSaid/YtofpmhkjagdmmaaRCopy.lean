/- copy(dst, src) at elements of k cells. -/
import Derived.Test.YtofpmhkjagdmmaaRTwice
import Derived.Laws.CopyOwn
set_option maxRecDepth 100000
namespace Go.Proofs.Ytofpmhkjagdmmaa
open Go.RowKit

theorem run_copy_k {P : Program} (w : World) (k : Nat) (dT sT ty elem : TypeId) (b o dLen dCap : Nat) (a : Addr) (sLen sCap : Nat) (cs : List Value)
    (hu : P.underlying dT = some (.slice elem)) (hs : (P.info? elem).map (·.size) = some k) (hn : cs.length = Nat.min sLen dLen * k)
    (hsrc : ∀ j v, cs[j]? = some v → w.cell? (a.add j) = some v) (hc : ∀ j, j < cs.length → (w.cell? ⟨b, o + j, none⟩).isSome = true) (hf : ∀ j, j < cs.length → w.frozen? ⟨b, o + j, none⟩ = false) (h1 : ∀ v ∈ cs, v.oneCell' = true) :
    (Builtin.copy_ #[dT, sT] ty #[.slice (some ⟨b, o, none⟩) dLen dCap, .slice (some a) sLen sCap]).run P w = .ok (goInt (Nat.min sLen dLen)) (w.setCells b o cs) := by
  have hl := run_loadCells_list (P := P) w a cs hsrc
  have hst := run_storeCells_cells (P := P) b o cs 0 w (by simpa using hc) (by simpa using hf) h1
  cases hq : P.info? elem with
  | none => simp [hq] at hs
  | some i =>
    have hi : i.size = k := by simpa [hq] using hs
    simp [Builtin.copy_, run_underlying hu, Builtin.lenOf, Builtin.firstCells, sizeOf, typeInfo, hq, hi, ← hn, hl, hst]

theorem setsL_eq : ∀ (vs : List Value) (s : Nat) (xs : List Value), s + vs.length ≤ xs.length → setsL xs s vs = xs.take s ++ (vs ++ xs.drop (s + vs.length)) := by
  intro vs s xs h
  apply List.ext_getElem?
  intro t
  rw [get_setsL vs s xs t h, List.getElem?_append, List.getElem?_append, List.length_take, Nat.min_eq_left (by omega)]
  by_cases h1 : t < s
  · rw [if_neg (by omega), if_pos h1, List.getElem?_take, if_pos h1]
  · rw [if_neg h1]
    by_cases h2 : t < s + vs.length
    · rw [if_pos (by omega), if_pos (by omega)]
    · rw [if_neg (by omega), if_neg (by omega), List.getElem?_drop]
      congr 1
      omega
theorem cellsF_take {α : Type} {f : α → List Value} {k : Nat} (hf : ∀ x, (f x).length = k) : ∀ (l : List α) (i : Nat), (cellsF f l).take (i * k) = cellsF f (l.take i)
  | [], i => by simp [cellsF]
  | x :: l, 0 => by simp [cellsF]
  | x :: l, i + 1 => by
    have ih := cellsF_take hf l i
    show (f x ++ cellsF f l).take ((i + 1) * k) = f x ++ cellsF f (l.take i)
    rw [← ih, List.take_append, List.take_of_length_le (by rw [hf, Nat.add_mul]; omega), hf, show (i + 1) * k - k = i * k by rw [Nat.add_mul]; omega]

theorem cellsF_drop {α : Type} {f : α → List Value} {k : Nat} (hf : ∀ x, (f x).length = k) : ∀ (l : List α) (i : Nat), (cellsF f l).drop (i * k) = cellsF f (l.drop i)
  | [], i => by simp [cellsF]
  | x :: l, 0 => by simp
  | x :: l, i + 1 => by
    have ih := cellsF_drop hf l i
    show (f x ++ cellsF f l).drop ((i + 1) * k) = cellsF f (l.drop i)
    rw [← ih, List.drop_append, List.drop_of_length_le (by rw [hf, Nat.add_mul]; omega), hf, show (i + 1) * k - k = i * k by rw [Nat.add_mul]; omega, List.nil_append]

/-- copy(s[k+1:], s[k:]) within one row of alarms. -/
theorem rals_shift {w : World} {base g cap : Nat} {R : List Al} {k : Nat} (h : RAls w base (.slice (some ⟨g, 0, none⟩) R.length cap) R) (hk : k + 1 < R.length) (ty : TypeId) (c1 c2 : Nat) :
    ∃ w', (Builtin.copy_ #[22, 22] ty #[.slice (some ⟨g, (k + 1) * 4, none⟩) (R.length - (k + 1)) c1, .slice (some ⟨g, k * 4, none⟩) (R.length - k) c2]).run Try.prog w = .ok (goInt (R.length - (k + 1) : Nat)) w' ∧
      RAls w' base (.slice (some ⟨g, 0, none⟩) R.length cap) (R.take (k + 1) ++ (R.drop k).take (R.length - (k + 1))) ∧ w.grownBy w' (some g) := by
  obtain ⟨M, hM⟩ : ∃ M, (R.drop k).take (R.length - (k + 1)) = M := ⟨_, rfl⟩
  have hMl : M.length = R.length - (k + 1) := by rw [← hM, List.length_take, List.length_drop]; omega
  have hlen : (cellsF cellA M).length = (R.length - (k + 1)) * 4 := by rw [cellsF_len cellA_len, hMl]
  have hR : (cellsF cellA R).length = R.length * 4 := cellsF_len cellA_len R
  obtain ⟨h1, h2⟩ := stored_many (cellsF cellA M) ((k + 1) * 4) w _ h
  have hmin : Nat.min (R.length - k) (R.length - (k + 1)) = R.length - (k + 1) := Nat.min_eq_right (by omega)
  have hcell : ∀ j, j < R.length * 4 → w.cell? ⟨g, j, none⟩ = (cellsF cellA R)[j]? := fun j hj => World.ownsRow.cellAt h _ (by omega)
  have hsrc : ∀ j v, (cellsF cellA M)[j]? = some v → w.cell? ((⟨g, k * 4, none⟩ : Addr).add j) = some v := fun j v hj => by
    have hjl : j < (cellsF cellA M).length := (List.getElem?_eq_some_iff.1 hj).1
    rw [add_addr, hcell _ (by omega), ← hj, ← hM, ← cellsF_take cellA_len, ← cellsF_drop cellA_len, List.getElem?_take, if_pos (by omega), List.getElem?_drop]
  have hrun := run_copy_k (P := Try.prog) w 4 22 22 ty 31 g ((k + 1) * 4) (R.length - (k + 1)) c1 ⟨g, k * 4, none⟩ (R.length - k) c2 (cellsF cellA M) Try.underlying22 (by kernel_rfl) (by rw [hlen, hmin]) hsrc
    (fun j hj => by rw [hcell _ (by omega), List.getElem?_eq_getElem (by omega)]; rfl) (fun j _ => OwnF.free h _)
    (fun v hv => by obtain ⟨x, _, hx⟩ := List.mem_flatMap.1 hv; exact cellA_one x v hx)
  rw [hmin] at hrun
  refine ⟨_, hrun, ?_, h2⟩
  have e : setsL (cellsF cellA R) ((k + 1) * 4) (cellsF cellA M) = cellsF cellA (R.take (k + 1) ++ M) := by
    rw [setsL_eq _ _ _ (by omega), cellsF_take cellA_len, List.drop_of_length_le (by omega), List.append_nil]
    simp [cellsF]
  rw [e] at h1
  unfold RAls OwnF
  rw [hM, show (R.take (k + 1) ++ M).length = R.length by rw [List.length_append, List.length_take, hMl]; omega]
  exact h1

theorem shift_set {O : List Al} {z a : Al} {k : Nat} (hk : k < O.length) : ((O ++ [z]).take (k + 1) ++ ((O ++ [z]).drop k).take ((O ++ [z]).length - (k + 1))).set k a = O.take k ++ a :: O.drop k := by
  rw [List.take_append_of_le_length (by omega), List.drop_append_of_le_length (by omega), List.take_append_of_le_length (by simp), List.take_of_length_le (i := (O ++ [z]).length - (k + 1)) (by simp), List.take_add_one, List.getElem?_eq_getElem hk]
  simp only [Option.toList_some, List.append_assoc, List.singleton_append]
  have e := List.set_append (s := O.take k) (t := O[k] :: O.drop k) (i := k) (x := a)
  rw [e, if_neg (by rw [List.length_take]; omega), show k - (O.take k).length = 0 by rw [List.length_take]; omega]
  rfl
theorem end_set {O : List Al} {z a : Al} : (O ++ [z]).set O.length a = O.take O.length ++ a :: O.drop O.length := by simp

/-- Nothing goes over where one of the two has no element. -/
theorem run_copy_zero {P : Program} (w : World) (k : Nat) (dT sT ty elem : TypeId) (d a : Addr) (dLen dCap sLen sCap : Nat) (hu : P.underlying dT = some (.slice elem)) (hs : (P.info? elem).map (·.size) = some k) (hn : Nat.min sLen dLen = 0) :
    (Builtin.copy_ #[dT, sT] ty #[.slice (some d) dLen dCap, .slice (some a) sLen sCap]).run P w = .ok (goInt 0) w := by
  cases hq : P.info? elem with
  | none => simp [hq] at hs
  | some i =>
    have hi : i.size = k := by simpa [hq] using hs
    simp [Builtin.copy_, run_underlying hu, Builtin.lenOf, Builtin.firstCells, sizeOf, typeInfo, hq, hn, storeCells, loadCells, loadCellsFrom, Result.andThen]

end Go.Proofs.Ytofpmhkjagdmmaa
