/- What CoverGrows asks of plain lists: the greatest of a place, from the last node to the first; tollgateref19.Bounded. -/
import Derived.Test.YtgahlonimaeicaaDoorRefGrow
import Derived.Test.YtgahlonimaeicaaDoorCoverMost
import Derived.Test.YtgahlonimaeicaaDoorCoverCov
set_option maxRecDepth 100000
namespace Go.Proofs.YtgahlonimaeicaaDoor
open Go.RowKit

def mxW (o x : Int) : Int := if moreB x o then x else o
theorem mxW_comm (a b : Int) : mxW a b = mxW b a := by
  unfold mxW moreB
  by_cases h1 : a = -1 <;> by_cases h2 : b = -1 <;> simp [h1, h2]
  split <;> split <;> omega
theorem mxW_assoc (a b c : Int) : mxW (mxW a b) c = mxW a (mxW b c) := by
  unfold mxW moreB
  by_cases h1 : a = -1 <;> by_cases h2 : b = -1 <;> by_cases h3 : c = -1 <;> simp [h1, h2, h3]
  all_goals (repeat' split) <;> first | rfl | omega | (simp_all; done) | (simp_all; omega)
theorem mxW_zero {a : Int} (h : -1 ≤ a) : mxW a 0 = a := by
  unfold mxW moreB
  by_cases h1 : a = -1
  · simp [h1]
  · simp [h1]; omega
theorem mxW_ge {a b : Int} (h1 : -1 ≤ a) (h2 : -1 ≤ b) : -1 ≤ mxW a b := by unfold mxW; split <;> assumption

/-- The greatest, from the last node on. -/
def backF (p : Nat) : List Nd → Int
  | [] => 0
  | d :: l => mxW (backF p l) (getI d.mark (p : Int))
theorem backF_drop {p : Nat} {l : List Nd} {k : Nat} (h : k < l.length) : backF p (l.drop k) = mxW (backF p (l.drop (k + 1))) (getI l[k].mark (p : Int)) := by
  rw [List.drop_eq_getElem_cons h]; rfl
theorem mostF_back {p : Nat} : ∀ (l : List Nd) (o : Int), -1 ≤ o → (∀ d ∈ l, -1 ≤ getI d.mark (p : Int)) → mostF p l o = mxW o (backF p l)
  | [], o, ho, _ => (mxW_zero ho).symm
  | d :: l, o, ho, h => by
    have hd := h d (by simp)
    have ih := mostF_back l (mxW o (getI d.mark (p : Int))) (mxW_ge ho hd) (fun x hx => h x (by simp [hx]))
    show mostF p l (mxW o (getI d.mark (p : Int))) = mxW o (mxW (backF p l) (getI d.mark (p : Int)))
    rw [ih, mxW_assoc, mxW_comm (getI d.mark (p : Int))]
theorem backF_ge {p : Nat} : ∀ (l : List Nd), (∀ d ∈ l, -1 ≤ getI d.mark (p : Int)) → -1 ≤ backF p l
  | [], _ => by simp [backF]
  | d :: l, h => mxW_ge (backF_ge l fun x hx => h x (by simp [hx])) (h d (by simp))
theorem mostF_all {p : Nat} {l : List Nd} (h : ∀ d ∈ l, -1 ≤ getI d.mark (p : Int)) : backF p l = mostF p l 0 := by
  rw [mostF_back l 0 (by omega) h, mxW_comm, mxW_zero (backF_ge l h)]
theorem wcov_one (g x : Int) : wcoversB [g] [x] = !moreB x g := by simp [wcoversB]

/-- The first node that covers a marking, looked for from the last one. -/
theorem idx_back {q : Nd → Bool} {l : List Nd} {k : Nat} (h : k < l.length) : idxN q (l.drop k) k = if q l[k] then (k : Int) else idxN q (l.drop (k + 1)) ((k + 1 : Nat) : Int) := idxN_drop h

theorem hasB_contains (l : List Int) (p : Int) : hasB l p = l.contains p := by rw [Bool.eq_iff_iff]; simp [hasB]
theorem boundedB_iff (l : List Nd) : boundedB l = true ↔ ∀ d ∈ l, hasB d.mark (-1) = false := by
  unfold boundedB
  rw [Bool.not_eq_true', List.any_eq_false]
  constructor
  · intro h d hd
    have := h d hd
    rw [hasB_contains]
    simpa using this
  · intro h d hd
    have := h d hd
    rw [hasB_contains] at this
    simpa using this

set_option maxHeartbeats 400000 in
theorem refbounded_any (w : World) (B : Nat) (a : Option Addr) (cap : Nat) (l : List Nd) (hn : NdsC w B a l) (hl : l.length ≤ 4096) :
    Calls Tryd.prog 26 #[.slice a l.length cap] w fun e w' => e = .returned (.bool (boundedB l)) ∧ w = w' := by
  go_enter Tryd.func26, Tryd.ntmps26
  go_wp2_with fail
  go_loopg [3] l.length (fun g s3 wr => ∃ (k : Nat), k + g = l.length ∧ s3 = .int .i64 (k : Int) ∧ Hid (∀ j (h : j < l.length), j < k → hasB l[j].mark (-1) = false) ∧ wr = w)
  case atStart => exact ⟨0, by omega, rfl, fun j h hj => by omega, rfl⟩
  case round =>
    obtain ⟨k, hkg, rfl, hall, rfl⟩ := hrel
    by_cases hk : k < l.length
    · obtain ⟨b, o, v, rfl, hb, n0, n1, n2, n3, hm⟩ := hn k hk
      have hin : l[k] ∈ l := List.getElem_mem hk
      cases hc : hasB l[k].mark (-1) with
      | true =>
        have Hf : Hid (false = boundedB l) := by
          cases e : boundedB l with
          | false => exact rfl
          | true => have := (boundedB_iff l).1 e _ hin; rw [hc] at this; cases this
        have HC := Lib.hid (refhas_is wr B _ _ _ hm hc)
        clear hc
        go_wp2_with (go_at_call 53; refine HC.out.mono ?_; rintro e w2 ⟨rfl, rfl⟩)
        go_ret
        exact ⟨ret_bool Hf.out, rfl⟩
      | false =>
        have Hn : Hid (∀ j (h : j < l.length), j < k + 1 → hasB l[j].mark (-1) = false) := fun j h hj => by
          by_cases e : j < k
          · exact hall.out j h e
          · obtain rfl : j = k := by omega
            exact hc
        have HC := Lib.hid (refhas_is wr B _ _ _ hm hc)
        clear hc
        go_wp2_with (go_at_call 53; refine HC.out.mono ?_; rintro e w2 ⟨rfl, rfl⟩)
        go_roundg (gk - 1)
        case measure => omega
        case rel => exact ⟨k + 1, by omega, by go_num, Hn, rfl⟩
    · have Hf : Hid (true = boundedB l) := by
        refine ((boundedB_iff l).2 fun d hd => ?_).symm
        obtain ⟨j, hj, rfl⟩ := List.getElem_of_mem hd
        exact hall.out j hj (by omega)
      have hkf : decide ((k : Int) < (l.length : Int)) = false := decide_eq_false (by omega)
      go_wp2_with fail
      go_ret
      exact ⟨ret_bool Hf.out, rfl⟩
theorem refbounded_is {t : Bool} (w : World) (B : Nat) (a : Option Addr) (cap : Nat) (l : List Nd) (hn : NdsC w B a l) (hl : l.length ≤ 4096) (ht : boundedB l = t) :
    Calls Tryd.prog 26 #[.slice a l.length cap] w fun e w' => e = .returned (.bool t) ∧ w = w' := by
  rw [← ht]; exact refbounded_any w B a cap l hn hl

end Go.Proofs.YtgahlonimaeicaaDoor
