/- The laws of conditions on plain data. -/
import Derived.Test.YtbephgifbghilaaGreatDoorEvalP
import Derived.Test.YtbephgifbghilaaGreatDoorWordName
set_option maxRecDepth 100000
namespace Go.Proofs.YtbephgifbghilaaGreatDoor

def keyL : List (List UInt8) := [[97, 110, 100], [111, 114], [110, 111, 116], [116, 114, 117, 101], [102, 97, 108, 115, 101]]
def keyWord (s : ByteArray) : Bool := keyL.contains s.data.toList
def headB (op : Int) (v : Vl) (nm : ByteArray) (n : Nat) : Bool :=
  ((n : Int) == kidsN op) && ((op == 1 || vlEq v Vl.zero) && ((op == 2 || nm.toList.isEmpty) && ((!(op == 1) || (checkB v && decide (0 ≤ v.num))) && (!(op == 2) || (nameB nm && !keyWord nm)))))
mutual
def checkN : Nd → Bool
  | .mk op v nm ks => headB op v nm ks.length && checkL ks
def checkL : List Nd → Bool
  | [] => true
  | k :: r => checkN k && checkL r
end
def evE (l : List Bd) (n : Nd) : Vl × Int := if checkN n then evalN l n else (Vl.zero, 1)
def oneN (op : Int) (a : Nd) : Nd := .mk op Vl.zero ⟨#[]⟩ [a]
def twoN (op : Int) (a b : Nd) : Nd := .mk op Vl.zero ⟨#[]⟩ [a, b]
def litN (v : Vl) : Nd := .mk 1 v ⟨#[]⟩ []
def varN (s : ByteArray) : Nd := .mk 2 Vl.zero s []
theorem vz : vlEq Vl.zero Vl.zero = true := vlEq_refl _
theorem ez : (⟨#[]⟩ : ByteArray).toList.isEmpty = true := by kernel_rfl
theorem head_op {op : Int} {n : Nat} (h : 3 ≤ op) : headB op Vl.zero ⟨#[]⟩ n = ((n : Int) == kidsN op) := by
  have e1 : (op == 1) = false := by rw [beq_eq_false_iff_ne]; omega
  have e2 : (op == 2) = false := by rw [beq_eq_false_iff_ne]; omega
  unfold headB
  rw [e1, e2, vz, ez]
  simp
theorem check_one {op : Int} (h : op = 3 ∨ op = 4) (a : Nd) : checkN (oneN op a) = checkN a := by
  have k : kidsN op = 1 := by rcases h with rfl | rfl <;> rfl
  show (headB op Vl.zero ⟨#[]⟩ 1 && (checkN a && true)) = _
  rw [head_op (by omega), k, Bool.and_true]; rfl
theorem check_two {op : Int} (h1 : 5 ≤ op) (h2 : op ≤ 17) (a b : Nd) : checkN (twoN op a b) = (checkN a && checkN b) := by
  have k : kidsN op = 2 := by unfold kidsN; rw [if_neg (by omega), if_neg (by omega), if_neg (by omega)]
  show (headB op Vl.zero ⟨#[]⟩ 2 && (checkN a && (checkN b && true))) = _
  rw [head_op (by omega), k, Bool.and_true]; rfl
theorem eval_one {op : Int} (h : 3 ≤ op) (l : List Bd) (a : Nd) : evalN l (oneN op a) = combE op (evalN l a) (Vl.zero, 0) := by
  show (if op = 1 then _ else if op = 2 then _ else _) = _
  rw [if_neg (by omega), if_neg (by omega)]; rfl
theorem eval_two {op : Int} (h : 3 ≤ op) (l : List Bd) (a b : Nd) : evalN l (twoN op a b) = combE op (evalN l a) (evalN l b) := by
  show (if op = 1 then _ else if op = 2 then _ else _) = _
  rw [if_neg (by omega), if_neg (by omega)]; rfl

/-- A value that may be is of its own form. -/
theorem checkB_kind {v : Vl} (h : checkB v = true) : v = numV v.num ∨ v = trV v.tr ∨ (v = txV v.text) := by
  unfold checkB at h
  split at h
  · exact Or.inl (vlEq_iff.1 h)
  · split at h
    · exact Or.inr (Or.inl (vlEq_iff.1 h))
    · split at h
      · simp only [Bool.and_eq_true] at h
        exact Or.inr (Or.inr (vlEq_iff.1 h.1))
      · cases h
theorem checkB_tr {v : Vl} (h : checkB v = true) (hk : v.kind = 2) : v = trV v.tr := by
  rcases checkB_kind h with e | e | e
  · rw [e] at hk; cases hk
  · exact e
  · rw [e] at hk; cases hk
theorem check_numV (n : Int) : checkB (numV n) = true := by simp [checkB, numV, vlEq]
theorem check_trV (b : Bool) : checkB (trV b) = true := by simp [checkB, trV, vlEq]
def Norm (p : Vl × Int) : Prop := p.2 = 0 → checkB p.1 = true
theorem norm_err {v : Vl} {e : Int} (h : e ≠ 0) : Norm (v, e) := fun h0 => absurd h0 h
theorem norm_ans (n : Int) (ok : Bool) : Norm (ansE n ok) := by
  unfold ansE
  split
  · exact fun _ => check_numV n
  · exact norm_err (by decide)
theorem norm_ite {c : Prop} [Decidable c] {p q : Vl × Int} (hp : Norm p) (hq : Norm q) : Norm (if c then p else q) := by split <;> assumption
theorem norm_truth (b : Bool) (e : Int) : Norm (truthE b e) := by
  unfold truthE
  split
  · exact fun _ => check_trV b
  · rename_i h; exact norm_err h
theorem norm_add (a b : Vl) : Norm (addE a b) := norm_ite (norm_ans _ _) (norm_err (by decide))
theorem norm_sub (a b : Vl) : Norm (subE a b) := norm_ite (norm_ans _ _) (norm_err (by decide))
theorem norm_both (op : Int) (a b : Vl) : Norm (bothE op a b) := by
  have e1 : ∀ w, Norm (equalT a b w) := fun w => norm_ite (norm_truth _ _) (norm_err (by decide))
  have e2 : ∀ a b w, Norm (lessT a b w) := fun a b w => norm_truth _ _
  refine norm_ite (e1 _) (norm_ite (e1 _) (norm_ite (e2 _ _ _) (norm_ite (e2 _ _ _) (norm_ite (e2 _ _ _) (norm_ite (e2 _ _ _) (norm_ite ?_ (norm_ite (norm_sub _ _) (norm_ite (norm_ite (norm_ans _ _) (norm_err (by decide))) (norm_ite (norm_ite (norm_ans _ _) (norm_err (by decide))) (norm_ite (norm_ans _ _) (norm_err (by decide)))))))))))) 
  unfold addT
  split
  · split
    · rename_i h; exact fun _ => h
    · exact norm_err (by decide)
  · exact norm_add a b
theorem norm_comb {op : Int} {x y : Vl × Int} (hx : Norm x) (hy : 5 ≤ op → Norm y) (h3 : 3 ≤ op) : Norm (combE op x y) := by
  unfold combE
  split
  · rename_i hx0
    split
    · exact norm_sub _ _
    · rename_i h4
      split
      · exact norm_err (by decide)
      · split
        · exact fun _ => check_trV _
        · rename_i hn3
          have h5 : 5 ≤ op := by omega
          split
          · exact fun _ => hx hx0
          · split
            · rename_i hy0
              split
              · exact norm_both _ _ _
              · split
                · exact fun _ => hy h5 hy0
                · exact norm_err (by decide)
            · rename_i hy0; exact norm_err hy0
  · rename_i hx0; exact norm_err hx0
theorem norm_var (l : List Bd) (s : ByteArray) : Norm (varE l s) := by
  unfold varE
  split
  · exact norm_err (by decide)
  · split
    · rename_i h; exact fun _ => h
    · exact norm_err (by decide)
theorem head_facts {op : Int} {v : Vl} {nm : ByteArray} {n : Nat} (h : headB op v nm n = true) : (n : Int) = kidsN op ∧ (op = 1 → checkB v = true) := by
  unfold headB at h
  simp only [Bool.and_eq_true, Bool.or_eq_true, beq_iff_eq, Bool.not_eq_true', beq_eq_false_iff_ne] at h
  obtain ⟨h1, _, _, h2, _⟩ := h
  exact ⟨h1, fun e => by rcases h2 with h2 | h2; exact absurd e h2; exact h2.1⟩
mutual
theorem norm_N (l : List Bd) : ∀ n : Nd, checkN n = true → Norm (evalN l n)
  | .mk op v nm ks, h => by
    have h' : (headB op v nm ks.length && checkL ks) = true := h
    rw [Bool.and_eq_true] at h'
    obtain ⟨h1, h2⟩ := h'
    obtain ⟨k1, k2⟩ := head_facts h1
    show Norm (if op = 1 then (v, 0) else if op = 2 then varE l nm else combE op (evalH l ks) (evalT l ks))
    split
    · rename_i e; exact fun _ => k2 e
    · split
      · exact norm_var l nm
      · have h3 : 3 ≤ op ∧ op ≤ 17 := by
          unfold kidsN at k1
          split at k1
          · omega
          · omega
        obtain ⟨f1, f2⟩ := norm_L l ks h2
        refine norm_comb (f1 ?_) (fun h5 => f2 ?_) h3.1
        · unfold kidsN at k1; rw [if_neg (by omega), if_neg (by omega)] at k1; split at k1 <;> omega
        · unfold kidsN at k1; rw [if_neg (by omega), if_neg (by omega), if_neg (by omega)] at k1; omega
theorem norm_L (l : List Bd) : ∀ ks : List Nd, checkL ks = true → (1 ≤ ks.length → Norm (evalH l ks)) ∧ (2 ≤ ks.length → Norm (evalT l ks))
  | [], _ => ⟨fun h => by simp at h, fun h => by simp at h⟩
  | a :: r, h => by
    have h' : (checkN a && checkL r) = true := h
    rw [Bool.and_eq_true] at h'
    exact ⟨fun _ => norm_N l a h'.1, fun h2 => (norm_L l r h'.2).1 (by simp at h2; omega)⟩
end
end Go.Proofs.YtbephgifbghilaaGreatDoor
