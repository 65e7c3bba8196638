/- What the document's tree asks of plain lists: a marking behind a transition, the first node of a marking. -/
import Derived.Test.YtgahlonimaeicaaDoorCoverAllP
import Derived.Test.YtgahlonimaeicaaDoorCoverExact
set_option maxRecDepth 100000
namespace Go.Proofs.YtgahlonimaeicaaDoor

def hasB (l : List Int) (p : Int) : Bool := l.any fun x => x == p
theorem hasB_iff {l : List Int} {p : Int} : hasB l p = true ↔ p ∈ l := by simp [hasB]
theorem hasI_B (l : List Int) (p : Int) : hasI l p = if hasB l p then 1 else 0 := by
  by_cases h : p ∈ l
  · rw [hasI_yes h, hasB_iff.2 h]; rfl
  · rw [hasI_no h, if_neg (fun e => h (hasB_iff.1 e))]

/-- A place behind a transition, by the document. -/
def aftI (t : Tr) (m : List Int) (p : Nat) : Int := if getI m (p : Int) = -1 then -1 else getI m (p : Int) - hasI t.inn p + hasI t.out p
def aftStop (t : Tr) (m : List Int) (p : Nat) : Bool := hasB t.inn p && (getI m (p : Int) == 0)
def aftL (t : Tr) (m : List Int) (k : Nat) : List Int := (List.range k).map (aftI t m)
theorem aftL_len (t : Tr) (m : List Int) (k : Nat) : (aftL t m k).length = k := by simp [aftL]
theorem aftL_succ (t : Tr) (m : List Int) (k : Nat) : aftL t m (k + 1) = aftL t m k ++ [aftI t m k] := by simp [aftL, List.range_succ]
theorem aftL_get {t : Tr} {m : List Int} {k p : Nat} (h : p < k) : getI (aftL t m k) (p : Int) = aftI t m p := by simp [getI, aftL, h]

theorem aftL_wide {t : Tr} {a : List Int} (hi : PlacesOk a.length t.inn) (ho : PlacesOk a.length t.out) (ni : t.inn.Nodup) (no : t.out.Nodup) (hw : ∀ p : Nat, p < a.length → -1 ≤ getI a (p : Int)) (hen : t.enB a = true) : aftL t a a.length = t.wideE a := by
  refine list_ext_getI (by rw [aftL_len, len_wideE]) fun p hp => ?_
  rw [aftL_len] at hp
  rw [aftL_get hp, getI_wideE hi ho ni no hw hen hp]
  rfl
theorem stop_no {t : Tr} {a : List Int} (hen : t.enB a = true) (p : Nat) : aftStop t a p = false := by
  cases h : aftStop t a p with
  | false => rfl
  | true =>
    simp only [aftStop, Bool.and_eq_true, beq_iff_eq] at h
    have hm := hasB_iff.1 h.1
    simp only [Tr.enB, Bool.not_eq_true', List.any_eq_false, zeroAt] at hen
    exact absurd (by simpa using h.2) (hen _ hm)
theorem stop_yes {t : Tr} {a : List Int} (hi : PlacesOk a.length t.inn) (hen : t.enB a = false) : ∃ p : Nat, p < a.length ∧ aftStop t a p = true := by
  simp only [Tr.enB, Bool.not_eq_false', List.any_eq_true, zeroAt] at hen
  obtain ⟨x, hx, h0⟩ := hen
  obtain ⟨h1, h2⟩ := hi x hx
  obtain ⟨q, rfl⟩ := Int.eq_ofNat_of_zero_le h1
  exact ⟨q, by omega, by simp only [aftStop, Bool.and_eq_true]; exact ⟨hasB_iff.2 hx, h0⟩⟩

/-- The first node, from one on, that has a marking. -/
def againFrom (l : List Nd) (m : List Int) : Nat → Nat → Int
  | 0, _ => -1
  | f + 1, k => if (ndAt l k).mark = m then (k : Int) else againFrom l m f (k + 1)
theorem againFrom_eq : ∀ (r l : List Nd) (m : List Int) (k : Nat), l.drop k = r → againFrom l m r.length k = (match r.findIdx? (fun d => d.mark == m) with | some i => ((k + i : Nat) : Int) | none => -1)
  | [], l, m, k, _ => rfl
  | d :: r, l, m, k, h => by
    have hk : k < l.length := by
      by_cases e : k < l.length
      · exact e
      · rw [List.drop_eq_nil_of_le (by omega)] at h; cases h
    rw [List.drop_eq_getElem_cons hk] at h
    injection h with h1 h2
    have ih := againFrom_eq r l m (k + 1) h2
    rw [List.length_cons, againFrom, ndAt_eq hk, h1, ih, List.findIdx?_cons]
    by_cases e : d.mark = m
    · simp [e]
    · rw [if_neg e, if_neg (by simpa using e)]
      cases r.findIdx? (fun d => d.mark == m) with
      | none => rfl
      | some i => show ((k + 1 + i : Nat) : Int) = ((k + (i + 1) : Nat) : Int); congr 1; omega
theorem againFrom_all (l : List Nd) (m : List Int) : againFrom l m l.length 0 = againE l m := by
  have := againFrom_eq l l m 0 rfl
  rw [this]
  unfold againE
  cases l.findIdx? (fun d => d.mark == m) with
  | none => rfl
  | some i => simp
theorem againFrom_step {l : List Nd} {k : Nat} (m : List Int) (h : k < l.length) : againFrom l m (l.length - k) k = if l[k].mark = m then (k : Int) else againFrom l m (l.length - (k + 1)) (k + 1) := by
  rw [show l.length - k = (l.length - (k + 1)) + 1 by omega, againFrom, ndAt_eq h]

end Go.Proofs.YtgahlonimaeicaaDoor
