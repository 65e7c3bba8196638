/- A tree of wide markings, as it lies in a world; what widen makes of a marking. -/
import Derived.Test.YtgahlonimaeicaaDoorCoverFire
import Derived.Test.YtgahlonimaeicaaDoorCoverCmp
set_option maxRecDepth 100000
namespace Go.Proofs.YtgahlonimaeicaaDoor
open Go.RowKit

structure Nd where
  par : Int
  tr : Int
  mark : List Int
  again : Int

def NdsC (w : World) (B : Nat) (a : Option Addr) (l : List Nd) : Prop :=
  ∀ i (h : i < l.length), ∃ b o v, a = some ⟨b, o, none⟩ ∧ b < B ∧ w.cell? ⟨b, o + i * 4, none⟩ = some (.int .i64 l[i].par) ∧ w.cell? ⟨b, o + i * 4 + 1, none⟩ = some (.int .i64 l[i].tr) ∧
    w.cell? ⟨b, o + i * 4 + 2, none⟩ = some v ∧ w.cell? ⟨b, o + i * 4 + 3, none⟩ = some (.int .i64 l[i].again) ∧ Ints w B v l[i].mark

/-- A tree behind a pointer. -/
def TreeR (w : World) (B p : Nat) (l : List Nd) : Prop :=
  ∃ a cap, p < B ∧ l.length ≤ 4096 ∧ w.cell? ⟨p, 0, none⟩ = some (.slice a l.length cap) ∧ NdsC w B a l

theorem NdsC.mono {w w' : World} {B B' : Nat} {a : Option Addr} {l : List Nd} (h : NdsC w B a l) (hb : Below B w w') (hB : B ≤ B') : NdsC w' B' a l := by
  intro i hi
  obtain ⟨b, o, v, ha, hlt, h0, h1, h2, h3, h4⟩ := h i hi
  exact ⟨b, o, v, ha, by omega, by rw [Below.cellB hb hlt]; exact h0, by rw [Below.cellB hb hlt]; exact h1, by rw [Below.cellB hb hlt]; exact h2, by rw [Below.cellB hb hlt]; exact h3, h4.mono hb hB⟩
theorem TreeR.mono {w w' : World} {B B' p : Nat} {l : List Nd} (h : TreeR w B p l) (hb : Below B w w') (hB : B ≤ B') : TreeR w' B' p l := by
  obtain ⟨a, cap, hp, hl, hc, hn⟩ := h
  exact ⟨a, cap, by omega, hl, by rw [Below.cellB hb hp]; exact hc, hn.mono hb hB⟩

/-- Many where a marking is more than another one. -/
def widen1 : List Int → List Int → List Int
  | [], _ => []
  | x :: m, [] => x :: m
  | x :: m, o :: old => (if moreB x o then -1 else x) :: widen1 m old
theorem len_widen1 : ∀ m old : List Int, (widen1 m old).length = m.length
  | [], _ => rfl
  | _ :: _, [] => rfl
  | x :: m, o :: old => by simp [widen1, len_widen1 m old]
theorem get_widen1 : ∀ (m old : List Int) (p : Nat) (h : p < m.length) (h2 : p < old.length), (widen1 m old)[p]'(by rw [len_widen1]; exact h) = if moreB m[p] old[p] then -1 else m[p]
  | x :: m, o :: old, 0, _, _ => rfl
  | x :: m, o :: old, p + 1, h, h2 => by
    simp only [List.length_cons] at h h2
    exact get_widen1 m old p (by omega) (by omega)

def ndAt (l : List Nd) (i : Nat) : Nd := l.getD i ⟨-1, -1, [], -1⟩
theorem ndAt_eq {l : List Nd} {i : Nat} (h : i < l.length) : ndAt l i = l[i] := by simp [ndAt, h]

/-- A marking on its way to the root. -/
def widenF (l : List Nd) : Nat → Int → List Int → List Int
  | 0, _, m => m
  | f + 1, i, m => if i < 0 then m else widenF l f (ndAt l i.toNat).par (if wcoversB m (ndAt l i.toNat).mark then widen1 m (ndAt l i.toNat).mark else m)
def widenE (l : List Nd) (i : Int) (m : List Int) : List Int := widenF l (i + 1).toNat i m
theorem len_widenF (l : List Nd) : ∀ (f : Nat) (i : Int) (m : List Int), (widenF l f i m).length = m.length
  | 0, _, _ => rfl
  | f + 1, i, m => by
    rw [widenF]
    split
    · rfl
    · rw [len_widenF l f]
      split
      · exact len_widen1 _ _
      · rfl
/-- The parents stand ahead. -/
def Up (l : List Nd) : Prop := ∀ i (h : i < l.length), -1 ≤ l[i].par ∧ l[i].par < (i : Int)
theorem widenF_enough {l : List Nd} (hup : Up l) : ∀ (f g : Nat) (i : Int) (m : List Int), i < (l.length : Int) → i + 1 ≤ f → i + 1 ≤ g → widenF l f i m = widenF l g i m
  | 0, 0, _, _, _, _, _ => rfl
  | 0, g + 1, i, m, _, hf, _ => by rw [widenF, widenF, if_pos (by omega)]
  | f + 1, 0, i, m, _, _, hg => by rw [widenF, widenF, if_pos (by omega)]
  | f + 1, g + 1, i, m, hi, hf, hg => by
    rw [widenF, widenF]
    split
    · rfl
    · obtain ⟨q, rfl⟩ := Int.eq_ofNat_of_zero_le (show 0 ≤ i by omega)
      have hq : q < l.length := by omega
      have hp := hup q hq
      have e : (ndAt l ((q : Int)).toNat).par = l[q].par := by rw [show ((q : Int)).toNat = q by omega, ndAt_eq hq]
      rw [e]
      exact widenF_enough hup f g _ _ (by omega) (by omega) (by omega)
theorem widenE_neg (l : List Nd) {i : Int} (h : i < 0) (m : List Int) : widenE l i m = m := by
  unfold widenE
  rw [show (i + 1).toNat = 0 by omega]; rfl
theorem widenE_step {l : List Nd} (hup : Up l) {q : Nat} (h : q < l.length) (m : List Int) : widenE l q m = widenE l l[q].par (if wcoversB m l[q].mark then widen1 m l[q].mark else m) := by
  have hp := hup q h
  unfold widenE
  rw [show ((q : Int) + 1).toNat = q + 1 by omega, widenF, if_neg (by omega), show ((q : Int)).toNat = q by omega, ndAt_eq h]
  exact widenF_enough hup _ _ _ _ (by omega) (by omega) (by omega)

theorem Wide.widen1 {U : Int} (hU : -1 ≤ U) : ∀ (m old : List Int), Wide U m → Wide U (widen1 m old)
  | [], _, h => h
  | x :: m, [], h => h
  | x :: m, o :: old, h => by
    intro y hy
    rw [Go.Proofs.YtgahlonimaeicaaDoor.widen1] at hy
    rcases List.mem_cons.1 hy with rfl | hy
    · split
      · omega
      · exact h x (by simp)
    · exact Wide.widen1 hU m old (fun z hz => h z (by simp [hz])) y hy
theorem Wide.widenF {U : Int} (hU : -1 ≤ U) (l : List Nd) : ∀ (f : Nat) (i : Int) (m : List Int), Wide U m → Wide U (widenF l f i m)
  | 0, _, _, h => h
  | f + 1, i, m, h => by
    rw [Go.Proofs.YtgahlonimaeicaaDoor.widenF]
    split
    · exact h
    · refine Wide.widenF hU l f _ _ ?_
      split
      · exact Wide.widen1 hU _ _ h
      · exact h
theorem Wide.widenE {U : Int} (hU : -1 ≤ U) (l : List Nd) (i : Int) (m : List Int) (h : Wide U m) : Wide U (widenE l i m) := Wide.widenF hU l _ _ _ h
theorem len_widenE (l : List Nd) (i : Int) (m : List Int) : (widenE l i m).length = m.length := len_widenF l _ _ _

end Go.Proofs.YtgahlonimaeicaaDoor
