/- A net's tree, reckoned on lists; what the map of texts knows of it. -/
import Derived.Test.YtgahlonimaeicaaDoorCoverTreeR
import Derived.Test.YtgahlonimaeicaaDoorKeyText
import Derived.Test.YtgahlonimaeicaaDoorNetOne
import Derived.Maps.Own
import Derived.Maps.OwnSet
set_option maxRecDepth 100000
namespace Go.Proofs.YtgahlonimaeicaaDoor
open Go.RowKit

/-- The node that had a marking first; -1: none. -/
def againE (l : List Nd) (m : List Int) : Int := match l.findIdx? (fun d => d.mark == m) with | some i => (i : Int) | none => -1
/-- The next node. -/
def kidE (l : List Nd) (i k : Nat) (x : Tr) : Nd := ⟨i, k, widenE l i (x.wideE (ndAt l i).mark), againE l (widenE l i (x.wideE (ndAt l i).mark))⟩
def growIn (most i : Nat) : List Tr → Nat → List Nd → Option (List Nd)
  | [], _, l => some l
  | x :: xs, k, l => if x.enB (ndAt l i).mark then (if l.length = most then none else growIn most i xs (k + 1) (l ++ [kidE l i k x])) else growIn most i xs (k + 1) l
def growF (ts : List Tr) (most : Nat) : Nat → Nat → List Nd → Option (List Nd)
  | 0, _, l => some l
  | f + 1, i, l => if i < l.length then (if 0 ≤ (ndAt l i).again then growF ts most f (i + 1) l else (growIn most i ts 0 l).bind (growF ts most f (i + 1))) else some l
def rootE (n : Nt) : List Nd := [⟨-1, -1, oneL n.places.length n.init, -1⟩]
def growE (n : Nt) (most : Nat) : Option (List Nd) := growF n.trans most (most + 1) 0 (rootE n)

theorem growIn_drop {most i : Nat} {ts : List Tr} {l : List Nd} {k : Nat} (h : k < ts.length) : growIn most i (ts.drop k) k l =
    if ts[k].enB (ndAt l i).mark then (if l.length = most then none else growIn most i (ts.drop (k + 1)) (k + 1) (l ++ [kidE l i k ts[k]])) else growIn most i (ts.drop (k + 1)) (k + 1) l := by
  rw [List.drop_eq_getElem_cons h]; rfl

/-- A tree as far as it has grown. -/
structure GOk (n : Nt) (most : Nat) (l : List Nd) : Prop where
  pos : 0 < l.length
  le : l.length ≤ most
  up : Up l
  len : ∀ d ∈ l, d.mark.length = n.places.length
  wide : ∀ i (h : i < l.length), Wide (1 + 8192 * (i : Int)) l[i].mark

theorem rising_ge' : ∀ {l : List Int} {lo : Int}, Rising l → (∀ x ∈ l, lo ≤ x) → ∀ hi : Int, (∀ x ∈ l, x < hi) → lo ≤ hi → (l.length : Int) ≤ hi - lo
  | [], lo, _, _, hi, _, h => by simp; omega
  | x :: l, lo, h, hlo, hi, hhi, _ => by
    have h1 := h.head
    have hx := hlo x (by simp)
    have hxh := hhi x (by simp)
    have := rising_ge' (l := l) (lo := x + 1) h.tail (fun y hy => by have := h1 y hy; omega) hi (fun y hy => hhi y (by simp [hy])) (by omega)
    simp only [List.length_cons]
    omega
theorem rising_le {l : List Int} {many : Nat} (h : Rising l) (hp : PlacesOk many l) : l.length ≤ many := by
  have := rising_ge' h (fun x hx => (hp x hx).1) many (fun x hx => (hp x hx).2) (by omega)
  omega

theorem ndAt_app {l : List Nd} {i : Nat} (h : i < l.length) (d : Nd) : ndAt (l ++ [d]) i = ndAt l i := by
  rw [ndAt_eq h, ndAt_eq (by simp; omega), List.getElem_append_left h]

theorem GOk.in64 {n : Nt} {most : Nat} {l : List Nd} (g : GOk n most l) (hm : most ≤ 4096) {d : Nd} (hd : d ∈ l) : ∀ x ∈ d.mark, In64 x := by
  obtain ⟨i, hi, rfl⟩ := List.getElem_of_mem hd
  intro x hx
  have h := g.wide i hi x hx
  have := g.le
  unfold In64
  omega

theorem wide_step {n : Nt} {most : Nat} {l : List Nd} (g : GOk n most l) (ok : n.Ok) {i : Nat} (hi : i < l.length) {x : Tr} (hx : x ∈ n.trans) : Wide (1 + 8192 * (i : Int) + x.inn.length + x.out.length) (x.wideE (ndAt l i).mark) ∧ x.inn.length ≤ 4096 ∧ x.out.length ≤ 4096 := by
  have h1 := ok.inn x hx
  have h2 := ok.out x hx
  have hl := g.len _ (List.getElem_mem hi)
  have := ok.many
  have l1 := rising_le h1.2 h1.1
  have l2 := rising_le h2.2 h2.1
  refine ⟨?_, by omega, by omega⟩
  rw [ndAt_eq hi]
  exact (g.wide i hi).wideE (by rw [hl]; exact h1.1) (by rw [hl]; exact h2.1)

theorem GOk.step {n : Nt} {most : Nat} {l : List Nd} (g : GOk n most l) (ok : n.Ok) {i : Nat} (hi : i < l.length) (k : Nat) {x : Tr} (hx : x ∈ n.trans) (hlt : l.length < most) : GOk n most (l ++ [kidE l i k x]) := by
  obtain ⟨hw, a1, a2⟩ := wide_step g ok hi hx
  have hl := g.len _ (List.getElem_mem hi)
  have hki : (kidE l i k x).mark = widenE l i (x.wideE (ndAt l i).mark) := rfl
  refine ⟨by simp, by simp; omega, ?_, ?_, ?_⟩
  · intro j hj
    by_cases h : j < l.length
    · rw [List.getElem_append_left h]; exact g.up j h
    · have : j = l.length := by simp at hj; omega
      subst this
      rw [List.getElem_append_right (by omega)]
      simp [kidE]
      omega
  · intro d hd
    rcases List.mem_append.1 hd with hd | hd
    · exact g.len d hd
    · obtain rfl : d = kidE l i k x := by simpa using hd
      rw [hki, len_widenE, len_wideE, ndAt_eq hi, hl]
  · intro j hj
    by_cases h : j < l.length
    · rw [List.getElem_append_left h]; exact g.wide j h
    · have : j = l.length := by simp at hj; omega
      subst this
      rw [List.getElem_append_right (by omega)]
      simp only [Nat.sub_self, List.getElem_cons_zero]
      rw [hki]
      refine (Wide.widenE (by omega) l i _ hw).up (by omega)

/-- What the map of texts says. -/
def MapOk (D : DataW Unit) (l : List Nd) : Prop :=
  Maps.IsMap D ∧ ∀ m : List Int, Maps.has D (.string (keyL m)) = decide (0 ≤ againE l m) ∧ (0 ≤ againE l m → D.atKey (.string (keyL m)) (.lit (.int .i64 0)) = .lit (.int .i64 (againE l m)))

theorem keyLit (m : List Int) : WideAt.IsKeyLit (.string (keyL m)) := trivial
theorem againE_nil (m : List Int) : againE [] m = -1 := rfl
theorem againE_range (l : List Nd) (m : List Int) : -1 ≤ againE l m ∧ againE l m < (l.length : Int) := by
  unfold againE
  cases h : l.findIdx? (fun d => d.mark == m) with
  | none => simp; omega
  | some i =>
    have := (List.findIdx?_eq_some_iff_getElem.1 h).1
    simp only
    omega
theorem againE_app_old {l : List Nd} {m : List Int} (h : 0 ≤ againE l m) (d : Nd) : againE (l ++ [d]) m = againE l m := by
  unfold againE at *
  rw [List.findIdx?_append]
  cases e : l.findIdx? (fun d => d.mark == m) with
  | none => rw [e] at h; simp at h
  | some i => simp
theorem againE_app_new {l : List Nd} {m : List Int} (h : againE l m < 0) (d : Nd) : againE (l ++ [d]) m = if d.mark = m then (l.length : Int) else -1 := by
  unfold againE at *
  rw [List.findIdx?_append]
  cases e : l.findIdx? (fun d => d.mark == m) with
  | some i => rw [e] at h; simp at h; omega
  | none =>
    by_cases hd : d.mark = m
    · simp [hd, List.findIdx?_cons]
    · simp [hd, List.findIdx?_cons]

theorem MapOk.old {D : DataW Unit} {l : List Nd} (h : MapOk D l) {d : Nd} (hd : 0 ≤ againE l d.mark) : MapOk D (l ++ [d]) := by
  refine ⟨h.1, fun m => ?_⟩
  obtain ⟨h1, h2⟩ := h.2 m
  by_cases hm : 0 ≤ againE l m
  · rw [againE_app_old hm]; exact ⟨h1, h2⟩
  · have e : againE (l ++ [d]) m = -1 := by
      rw [againE_app_new (by omega), if_neg]
      intro e
      rw [e] at hd
      omega
    rw [e, h1]
    simp; omega

theorem MapOk.new {D : DataW Unit} {l : List Nd} (h : MapOk D l) {d : Nd} (hd : againE l d.mark < 0) : MapOk (D.put (.string (keyL d.mark)) (.lit (.int .i64 (l.length : Int)))) (l ++ [d]) := by
  refine ⟨h.1.put _ _, fun m => ?_⟩
  obtain ⟨h1, h2⟩ := h.2 m
  by_cases hm : d.mark = m
  · subst hm
    rw [againE_app_new hd, if_pos rfl, Maps.has_put_same h.1 (keyLit _), Maps.atKey_put_same h.1 (keyLit _)]
    simp
  · have hne : Lit.string (keyL m) ≠ Lit.string (keyL d.mark) := by
      intro e
      exact hm (keyL_inj (Lit.string.inj e)).symm
    rw [Maps.has_put_other hne, Maps.atKey_put_other hne]
    by_cases hp : 0 ≤ againE l m
    · rw [againE_app_old hp]; exact ⟨h1, h2⟩
    · rw [againE_app_new (by omega), if_neg hm, h1]
      simp; omega

theorem MapOk.first (n : Nt) : MapOk ((DataW.map [] : DataW Unit).put (.string (keyL (oneL n.places.length n.init))) (.lit (.int .i64 0))) (rootE n) := by
  have h0 : MapOk (.map [] : DataW Unit) [] := ⟨Maps.isMap_empty, fun m => ⟨rfl, fun h => by rw [againE_nil] at h; omega⟩⟩
  exact h0.new (d := ⟨-1, -1, oneL n.places.length n.init, -1⟩) (by rw [againE_nil]; decide)

theorem GOk.first {n : Nt} {most : Nat} (hm : 1 ≤ most) : GOk n most (rootE n) := by
  refine ⟨by simp [rootE], by simpa [rootE] using hm, ?_, ?_, ?_⟩
  · intro i hi
    have : i = 0 := by simp [rootE] at hi; omega
    subst this
    simp [rootE]
  · intro d hd
    obtain rfl : d = _ := by simpa [rootE] using hd
    simp [oneL]
  · intro i hi
    have : i = 0 := by simp [rootE] at hi; omega
    subst this
    intro x hx
    have hx2 : x ∈ oneL n.places.length n.init := by simpa [rootE] using hx
    unfold oneL at hx2
    rcases mem_set_cases hx2 with rfl | h2
    · omega
    · have := List.eq_of_mem_replicate h2; omega

end Go.Proofs.YtgahlonimaeicaaDoor
