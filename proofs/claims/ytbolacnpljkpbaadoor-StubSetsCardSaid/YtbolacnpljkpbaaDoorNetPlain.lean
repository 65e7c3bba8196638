/- Firing in a net, as plain functions on lists; no program here. -/
import Derived.Test.YtbolacnpljkpbaaDoorNetFun
set_option maxRecDepth 100000
namespace Go.Proofs.YtbolacnpljkpbaaDoor

def getI (m : List Int) (p : Int) : Int := m.getD p.toNat 0
def addI (m : List Int) (p : Int) (d : Int) : List Int := m.set p.toNat (getI m p + d)
def zeroAt (m : List Int) (p : Int) : Bool := getI m p == 0
/-- Is a transition enabled? -/
def Tr.enB (t : Tr) (m : List Int) : Bool := !t.inn.any (zeroAt m)
/-- A token is taken from each place of a list. -/
def decs : List Int → List Int → List Int
  | m, [] => m
  | m, p :: ps => decs (addI m p (-1)) ps
/-- A token is put on each place of a list; none: a place would have too many. -/
def incs : List Int → List Int → Option (List Int)
  | m, [] => some m
  | m, p :: ps => if 2147483647 < getI m p + 1 then none else incs (addI m p 1) ps
/-- What becomes of a marking when a transition is to fire: an error, and the marking behind it. -/
def Tr.fireE (t : Tr) (m : List Int) : Int × List Int :=
  if t.enB m then (match incs (decs m t.inn) t.out with | none => (91, m) | some m' => (0, m')) else (250, m)

def PlacesOk (many : Nat) (ps : List Int) : Prop := ∀ p ∈ ps, 0 ≤ p ∧ p < (many : Int)
def Tokens (m : List Int) : Prop := ∀ x ∈ m, 0 ≤ x ∧ x ≤ 2147483647

theorem getI_eq {m : List Int} {q : Nat} (h : q < m.length) : getI m (q : Int) = m[q] := by
  simp [getI, h]
theorem addI_eq {m : List Int} {q : Nat} (d : Int) (h : q < m.length) : addI m (q : Int) d = m.set q (m[q] + d) := by
  simp [addI, getI, h]
theorem len_addI (m : List Int) (p d : Int) : (addI m p d).length = m.length := by simp [addI]
theorem len_decs : ∀ (ps m : List Int), (decs m ps).length = m.length
  | [], m => rfl
  | p :: ps, m => by rw [decs, len_decs ps, len_addI]
theorem len_incs : ∀ (ps m m' : List Int), incs m ps = some m' → m'.length = m.length
  | [], m, m', h => by simp [incs] at h; rw [h]
  | p :: ps, m, m', h => by
    simp only [incs] at h
    split at h
    · cases h
    · rw [len_incs ps _ _ h, len_addI]
theorem len_fire (t : Tr) (m : List Int) : (t.fireE m).2.length = m.length := by
  unfold Tr.fireE
  split
  · split
    · rfl
    · next h => rw [len_incs _ _ _ h, len_decs]
  · rfl

theorem decs_drop {m ps : List Int} {k : Nat} (h : k < ps.length) : decs m (ps.drop k) = decs (addI m ps[k] (-1)) (ps.drop (k + 1)) := by
  rw [List.drop_eq_getElem_cons h]; rfl
theorem incs_drop {m ps : List Int} {k : Nat} (h : k < ps.length) : incs m (ps.drop k) = if 2147483647 < getI m ps[k] + 1 then none else incs (addI m ps[k] 1) (ps.drop (k + 1)) := by
  rw [List.drop_eq_getElem_cons h]; rfl

theorem mem_set_cases {l : List Int} {i : Nat} {x y : Int} (h : y ∈ l.set i x) : y = x ∨ y ∈ l := by
  obtain ⟨j, hj, rfl⟩ := List.getElem_of_mem h
  rw [List.getElem_set]
  split
  · exact Or.inl rfl
  · exact Or.inr (List.getElem_mem _)

/-- Numbers within bounds that a walk can bear. -/
def Within (lo : Int) (m : List Int) : Prop := ∀ x ∈ m, lo ≤ x ∧ x ≤ 2147483647
theorem Within.at {lo : Int} {m : List Int} (h : Within lo m) {q : Nat} (hq : q < m.length) : lo ≤ m[q] ∧ m[q] ≤ 2147483647 := h _ (List.getElem_mem hq)
theorem Within.dec {lo : Int} {m : List Int} (h : Within lo m) {q : Nat} (hq : q < m.length) : Within (lo - 1) (m.set q (m[q] + -1)) := by
  intro x hx
  have := h.at hq
  rcases mem_set_cases hx with rfl | hx
  · omega
  · have := h x hx; omega
theorem Within.inc {lo : Int} {m : List Int} (h : Within lo m) {q : Nat} (hq : q < m.length) (hle : ¬ 2147483647 < m[q] + 1) : Within lo (m.set q (m[q] + 1)) := by
  intro x hx
  have := h.at hq
  rcases mem_set_cases hx with rfl | hx
  · omega
  · have := h x hx; omega

theorem fireE_0 {t : Tr} {m m' : List Int} (h1 : t.enB m = true) (h2 : incs (decs m t.inn) t.out = some m') : t.fireE m = (0, m') := by simp [Tr.fireE, h1, h2]
theorem fireE_91 {t : Tr} {m : List Int} (h1 : t.enB m = true) (h2 : incs (decs m t.inn) t.out = none) : t.fireE m = (91, m) := by simp [Tr.fireE, h1, h2]
theorem fireE_250 {t : Tr} {m : List Int} (h1 : t.enB m = false) : t.fireE m = (250, m) := by simp [Tr.fireE, h1]

/-- The transition of a number. -/
def Nt.tr (n : Nt) (t : Int) : Tr := n.trans.getD t.toNat ⟨ByteArray.empty, [], []⟩
def Nt.badT (n : Nt) (t : Int) : Bool := decide (t < 0) || decide ((n.trans.length : Int) ≤ t)

/-- A row of firings: the marking behind it ([]: refused), how many fired, the error. -/
def rowGo (n : Nt) : List Int → List Int → Int → List Int × Int × Int
  | m, [], k => (m, k, 0)
  | m, t :: ts, k => if ((n.tr t).fireE m).1 = 0 then rowGo n ((n.tr t).fireE m).2 ts (k + 1) else ([], k, ((n.tr t).fireE m).1)
def Nt.rowE (n : Nt) (m row : List Int) : List Int × Int × Int :=
  if n.markB m then (if row.any n.badT then ([], 0, 1) else rowGo n m row 0) else ([], 0, 1)

theorem rowGo_drop {n : Nt} {m row : List Int} {k : Nat} (h : k < row.length) : rowGo n m (row.drop k) k =
    if ((n.tr row[k]).fireE m).1 = 0 then rowGo n ((n.tr row[k]).fireE m).2 (row.drop (k + 1)) ((k + 1 : Nat) : Int) else ([], (k : Int), ((n.tr row[k]).fireE m).1) := by
  rw [List.drop_eq_getElem_cons h]; rfl

/-- The transitions that are enabled, from the k-th on. -/
def enGo (m : List Int) : List Tr → Nat → List Int
  | [], _ => []
  | t :: ts, k => if t.enB m then (k : Int) :: enGo m ts (k + 1) else enGo m ts (k + 1)
def Nt.enE (n : Nt) (m : List Int) : List Int := enGo m n.trans 0

end Go.Proofs.YtbolacnpljkpbaaDoor
