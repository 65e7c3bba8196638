/- The statements EvalLaws and EvalParts on plain data. -/
import Derived.Test.YtbephgifbghilaaGreatDoorEvalLawP
set_option maxRecDepth 100000
namespace Go.Proofs.YtbephgifbghilaaGreatDoor

def sameE (p q : Vl × Int) : Bool := (p.2 == q.2) && vlEq p.1 q.1
theorem sameE_of {p q : Vl × Int} (h : p = q) : sameE p q = true := by subst h; simp [sameE, vlEq_refl]

/-- Contraries: the one is the other's not. -/
theorem not_truth (b : Bool) (e : Int) (z : Vl × Int) : combE 3 (truthE (b == true) e) z = truthE (b == false) e := by
  unfold truthE
  by_cases h : e = 0
  · rw [if_pos h, if_pos h]
    cases b <;> rfl
  · rw [if_neg h, if_neg h]
    unfold combE
    rw [if_neg h]
theorem comb_bin {op : Int} (h1 : 7 ≤ op) (h2 : op ≤ 17) (x y : Vl × Int) : combE op x y = if x.2 = 0 then (if y.2 = 0 then bothE op x.1 y.1 else (Vl.zero, y.2)) else (Vl.zero, x.2) := by
  unfold combE
  rw [if_neg (show ¬ op = 4 by omega), if_neg (show ¬ ((op = 3 ∨ op = 5 ∨ op = 6) ∧ ¬ x.1.kind = 2) by omega), if_neg (show ¬ op = 3 by omega), if_neg (show ¬ ((op = 5 ∨ op = 6) ∧ x.1.tr = decide (op = 6)) by rintro ⟨h, _⟩; omega), if_pos (show 7 ≤ op ∧ op ≤ 17 from ⟨h1, h2⟩)]
theorem not_err {e : Int} (h : e ≠ 0) (z : Vl × Int) : combE 3 (Vl.zero, e) z = (Vl.zero, e) := by
  unfold combE
  rw [if_neg h]
theorem contrary {op po : Int} (h1 : 7 ≤ op) (h2 : op ≤ 17) (p1 : 7 ≤ po) (p2 : po ≤ 17) (x y : Vl × Int) (hb : ∀ a b, ∀ z, combE 3 (bothE po a b) z = bothE op a b) (z : Vl × Int) : combE op x y = combE 3 (combE po x y) z := by
  rw [comb_bin h1 h2, comb_bin p1 p2]
  by_cases hx : x.2 = 0
  · rw [if_pos hx, if_pos hx]
    by_cases hy : y.2 = 0
    · rw [if_pos hy, if_pos hy, hb]
    · rw [if_neg hy, if_neg hy, not_err hy]
  · rw [if_neg hx, if_neg hx, not_err hx]
theorem both_eq (a b : Vl) (z : Vl × Int) : combE 3 (bothE 7 a b) z = bothE 8 a b := by
  show combE 3 (equalT a b true) z = equalT a b false
  unfold equalT
  split
  · exact not_truth _ _ _
  · exact not_err (by decide) z
theorem both_lt (a b : Vl) (z : Vl × Int) : combE 3 (bothE 9 a b) z = bothE 12 a b := not_truth _ _ _
theorem both_gt (a b : Vl) (z : Vl × Int) : combE 3 (bothE 11 a b) z = bothE 10 a b := not_truth _ _ _

section
variable {l : List Bd} {a b : Nd}
theorem ev_one {op : Int} (h : op = 3 ∨ op = 4) (n : Nd) (hn : checkN n = true) : evE l (oneN op n) = combE op (evalN l n) (Vl.zero, 0) := by
  unfold evE
  rw [check_one h, if_pos hn, eval_one (by omega)]
theorem ev_two {op : Int} (h1 : 5 ≤ op) (h2 : op ≤ 17) (ha : checkN a = true) (hb : checkN b = true) : evE l (twoN op a b) = combE op (evalN l a) (evalN l b) := by
  unfold evE
  rw [check_two h1 h2, ha, hb, if_pos (by rfl), eval_two (by omega)]
theorem ev_is (ha : checkN a = true) : evE l a = evalN l a := by unfold evE; rw [if_pos ha]
theorem two_ok {op : Int} (h1 : 5 ≤ op) (h2 : op ≤ 17) (ha : checkN a = true) (hb : checkN b = true) : checkN (twoN op a b) = true := by rw [check_two h1 h2, ha, hb]; rfl

/-- The first part: whatever a and b come to. -/
theorem laws_1 (ha : checkN a = true) (hb : checkN b = true) : evE l (twoN 12 a b) = evE l (oneN 3 (twoN 9 a b)) ∧ evE l (twoN 10 a b) = evE l (oneN 3 (twoN 11 a b)) ∧ evE l (twoN 8 a b) = evE l (oneN 3 (twoN 7 a b)) := by
  refine ⟨?_, ?_, ?_⟩
  · rw [ev_one (Or.inl rfl) _ (two_ok (by omega) (by omega) ha hb), ev_two (by omega) (by omega) ha hb, eval_two (by omega)]
    exact contrary (by omega) (by omega) (by omega) (by omega) _ _ both_lt _
  · rw [ev_one (Or.inl rfl) _ (two_ok (by omega) (by omega) ha hb), ev_two (by omega) (by omega) ha hb, eval_two (by omega)]
    exact contrary (by omega) (by omega) (by omega) (by omega) _ _ both_gt _
  · rw [ev_one (Or.inl rfl) _ (two_ok (by omega) (by omega) ha hb), ev_two (by omega) (by omega) ha hb, eval_two (by omega)]
    exact contrary (by omega) (by omega) (by omega) (by omega) _ _ both_eq _
/-- The second: both come to something. -/
theorem laws_2 (ha : checkN a = true) (hb : checkN b = true) (hx : (evalN l a).2 = 0) (hy : (evalN l b).2 = 0) : evE l (twoN 7 a b) = evE l (twoN 7 b a) ∧ evE l (twoN 9 a b) = evE l (twoN 11 b a) := by
  refine ⟨?_, ?_⟩
  · rw [ev_two (by omega) (by omega) ha hb, ev_two (by omega) (by omega) hb ha, comb_bin (by omega) (by omega), comb_bin (by omega) (by omega), if_pos hx, if_pos hy, if_pos hx, if_pos hy]
    show equalT _ _ true = equalT _ _ true
    unfold equalT
    by_cases h : (evalN l a).1.kind = (evalN l b).1.kind
    · rw [if_pos h, if_pos h.symm, vlEq_symm]
    · rw [if_neg h, if_neg (Ne.symm h)]
  · rw [ev_two (by omega) (by omega) ha hb, ev_two (by omega) (by omega) hb ha, comb_bin (by omega) (by omega), comb_bin (by omega) (by omega), if_pos hx, if_pos hy, if_pos hx, if_pos hy]
    rfl
theorem comb_and (p q : Bool) : combE 5 (trV p, 0) (trV q, 0) = (trV (p && q), 0) := by cases p <;> cases q <;> rfl
theorem comb_or (p q : Bool) : combE 6 (trV p, 0) (trV q, 0) = (trV (p || q), 0) := by cases p <;> cases q <;> rfl
theorem comb_not (p : Bool) (z : Vl × Int) : combE 3 (trV p, 0) z = (trV (!p), 0) := by cases p <;> rfl
/-- The third: both are truths. -/
theorem laws_3 (ha : checkN a = true) (hb : checkN b = true) (hx : (evalN l a).2 = 0) (hy : (evalN l b).2 = 0) (kx : (evalN l a).1.kind = 2) (ky : (evalN l b).1.kind = 2) :
    evE l (twoN 5 a b) = evE l (twoN 5 b a) ∧ evE l (twoN 6 a b) = evE l (twoN 6 b a) ∧ evE l (oneN 3 (oneN 3 a)) = evE l a ∧ evE l (oneN 3 (twoN 5 a b)) = evE l (twoN 6 (oneN 3 a) (oneN 3 b)) := by
  obtain ⟨p, hp⟩ : ∃ p, evalN l a = (trV p, 0) := ⟨(evalN l a).1.tr, Prod.ext (checkB_tr (norm_N l a ha hx) kx) hx⟩
  obtain ⟨q, hq⟩ : ∃ q, evalN l b = (trV q, 0) := ⟨(evalN l b).1.tr, Prod.ext (checkB_tr (norm_N l b hb hy) ky) hy⟩
  have na : checkN (oneN 3 a) = true := by rw [check_one (Or.inl rfl)]; exact ha
  have nb : checkN (oneN 3 b) = true := by rw [check_one (Or.inl rfl)]; exact hb
  refine ⟨?_, ?_, ?_, ?_⟩
  · rw [ev_two (by omega) (by omega) ha hb, ev_two (by omega) (by omega) hb ha, hp, hq, comb_and, comb_and, Bool.and_comm]
  · rw [ev_two (by omega) (by omega) ha hb, ev_two (by omega) (by omega) hb ha, hp, hq, comb_or, comb_or, Bool.or_comm]
  · rw [ev_one (Or.inl rfl) _ na, eval_one (by omega), ev_is ha, hp, comb_not, comb_not, Bool.not_not]
  · rw [ev_one (Or.inl rfl) _ (two_ok (by omega) (by omega) ha hb), eval_two (by omega), ev_two (by omega) (by omega) na nb, eval_one (by omega), eval_one (by omega), hp, hq, comb_and, comb_not, comb_not, comb_not, comb_or, Bool.not_and]

/-- Parts: what a part comes to may stand in its place. -/
theorem parts_1 {op : Int} (h1 : 5 ≤ op) (h2 : op ≤ 17) (ha : checkN a = true) (hb : checkN b = true) (hx : (evalN l a).2 ≠ 0) : (evE l (twoN op a b)).2 = (evalN l a).2 := by
  rw [ev_two h1 h2 ha hb]
  unfold combE
  rw [if_neg hx]
def lazyB (op : Int) (x : Vl) : Bool := ((op == 5) || (op == 6)) && ((x.kind == 2) && (x.tr == (op == 6)))
def strictB (op : Int) (x : Vl) : Bool := (!(op == 5) && !(op == 6)) || (x.kind == 2)
theorem comb_lazy {op : Int} {x y : Vl × Int} (hx : x.2 = 0) (hz : lazyB op x.1 = true) : combE op x y = (x.1, 0) := by
  unfold lazyB at hz
  simp only [Bool.and_eq_true, Bool.or_eq_true, beq_iff_eq] at hz
  obtain ⟨h1, h2, h3⟩ := hz
  unfold combE
  rw [if_pos hx, if_neg (by omega), if_neg (by rintro ⟨_, h⟩; exact h h2), if_neg (by omega), if_pos ⟨h1, by rw [h3]; exact decide_eq_decide.2 (by simp)⟩]
theorem comb_loose {op : Int} (h1 : 5 ≤ op) {x y : Vl × Int} (hx : x.2 = 0) (hs : strictB op x.1 = false) : combE op x y = (Vl.zero, 90) := by
  unfold strictB at hs
  simp only [Bool.or_eq_false_iff, Bool.and_eq_false_iff, Bool.not_eq_false', beq_iff_eq, beq_eq_false_iff_ne] at hs
  obtain ⟨h2, h3⟩ := hs
  unfold combE
  rw [if_pos hx, if_neg (by omega), if_pos ⟨by omega, h3⟩]
theorem comb_strict {op : Int} (h1 : 5 ≤ op) {x y : Vl × Int} (hx : x.2 = 0) (hy : y.2 ≠ 0) (hz : lazyB op x.1 = false) (hs : strictB op x.1 = true) : combE op x y = (Vl.zero, y.2) := by
  unfold strictB at hs
  simp only [Bool.or_eq_true, Bool.and_eq_true, Bool.not_eq_true', beq_iff_eq, beq_eq_false_iff_ne] at hs
  unfold lazyB at hz
  simp only [Bool.and_eq_false_iff, Bool.or_eq_false_iff, beq_eq_false_iff_ne] at hz
  unfold combE
  have n1 : ¬ ((op = 3 ∨ op = 5 ∨ op = 6) ∧ ¬ x.1.kind = 2) := by
    rintro ⟨h, h'⟩
    rcases hs with hs | hs
    · omega
    · exact h' hs
  have n2 : ¬ ((op = 5 ∨ op = 6) ∧ x.1.tr = decide (op = 6)) := by
    rintro ⟨h, h'⟩
    have hk : x.1.kind = 2 := by
      rcases hs with hs | hs
      · omega
      · exact hs
    rcases hz with hz | hz
    · omega
    · rcases hz with hz | hz
      · exact hz hk
      · exact hz (by rw [h']; exact decide_eq_decide.2 (by simp))
  rw [if_pos hx, if_neg (by omega), if_neg n1, if_neg (by omega), if_neg n2, if_neg hy]
/-- The names that stand for what the parts come to. -/
def q1 : ByteArray := ⟨#[113, 49]⟩
def q2 : ByteArray := ⟨#[113, 50]⟩
theorem q1_ok : checkN (varN q1) = true := by kernel_rfl
theorem q2_ok : checkN (varN q2) = true := by kernel_rfl
theorem parts_3 {op : Int} (h1 : 5 ≤ op) (h2 : op ≤ 17) (ha : checkN a = true) (hb : checkN b = true) (hx : (evalN l a).2 = 0) (hy : (evalN l b).2 = 0) :
    evE l (twoN op a b) = evE (⟨q1, (evalN l a).1⟩ :: ⟨q2, (evalN l b).1⟩ :: l) (twoN op (varN q1) (varN q2)) := by
  rw [ev_two h1 h2 ha hb, ev_two h1 h2 q1_ok q2_ok]
  have e1 : evalN (⟨q1, (evalN l a).1⟩ :: ⟨q2, (evalN l b).1⟩ :: l) (varN q1) = evalN l a := by
    show varE _ q1 = _
    unfold varE findB
    rw [if_pos (by kernel_rfl)]
    simp only
    rw [if_pos (norm_N l a ha hx)]
    exact Prod.ext rfl hx.symm
  have e2 : evalN (⟨q1, (evalN l a).1⟩ :: ⟨q2, (evalN l b).1⟩ :: l) (varN q2) = evalN l b := by
    show varE _ q2 = _
    unfold varE findB
    rw [if_neg (by rw [show ((q1).toList == q2.toList) = false by kernel_rfl]; exact Bool.false_ne_true)]
    unfold findB
    rw [if_pos (by kernel_rfl)]
    simp only
    rw [if_pos (norm_N l b hb hy)]
    exact Prod.ext rfl hy.symm
  rw [e1, e2]
end
end Go.Proofs.YtbephgifbghilaaGreatDoor
