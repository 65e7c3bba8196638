/- What a node comes to is a value; the variables that it reads. No program here. -/
import Derived.Test.YtbephgifbghilaaGreatDoorEvalMem
import Derived.Test.YtbephgifbghilaaGreatDoorEvalLawP
set_option maxRecDepth 100000
namespace Go.Proofs.YtbephgifbghilaaGreatDoor

mutual
def deepW : Nd → Prop
  | .mk op v nm ks => HeadW (.mk op v nm ks) ∧ deepWL ks
def deepWL : List Nd → Prop
  | [] => True
  | a :: r => deepW a ∧ deepWL r
end
theorem deepWL_of : ∀ (l : List Nd), (∀ i (h : i < l.length), HeadW l[i] ∧ deepWL l[i].kids) → deepWL l
  | [], _ => True.intro
  | a :: r, h => by
    refine ⟨?_, deepWL_of r (fun i hi => h (i + 1) (by simp; omega))⟩
    obtain ⟨h1, h2⟩ := h 0 (by simp)
    cases a
    exact ⟨h1, h2⟩
theorem KidsR.deep {w : World} {B : Nat} {v : Value} {l : List Nd} (h : KidsR w B v l) : deepWL l := by
  induction h with
  | mk a cap l vk hl hcap hw hc hk ih => exact deepWL_of l (fun i hi => ⟨hw i hi, ih i hi⟩)

theorem checkB_size {v : Vl} (h : checkB v = true) : v.text.size ≤ 1024 := by
  unfold checkB at h
  split at h
  · rw [vlEq_iff.1 h]; exact Nat.zero_le _
  · split at h
    · rw [vlEq_iff.1 h]; exact Nat.zero_le _
    · split at h
      · simp only [Bool.and_eq_true, decide_eq_true_eq] at h
        exact h.2.1
      · cases h
theorem inR_iff {n : Int} (h : inR n = true) : -9223372036854775808 ≤ n ∧ n ≤ 9223372036854775807 := by
  simpa [inR] using h
theorem ansE_w {n : Int} {ok : Bool} (h : ok = true → inR n = true) : VlW (ansE n ok).1 := by
  unfold ansE
  split
  · rename_i h1
    obtain ⟨a, b⟩ := inR_iff (h h1)
    exact VlW.num a b
  · exact VlW.zero
theorem VlW.ite {c : Prop} [Decidable c] {p q : Vl × Int} (hp : VlW p.1) (hq : VlW q.1) : VlW (if c then p else q).1 := by split <;> assumption
theorem truthE_w (b : Bool) (e : Int) : VlW (truthE b e).1 := VlW.ite (VlW.tr b) VlW.zero
theorem add_w (a b : Vl) : VlW (addE a b).1 := VlW.ite (ansE_w id) VlW.zero
theorem sub_w (a b : Vl) : VlW (subE a b).1 := VlW.ite (ansE_w id) VlW.zero
theorem mul_w (a b : Vl) : VlW (mulE a b).1 := VlW.ite (ansE_w id) VlW.zero
theorem tdiv_in {x y : Int} (h0 : -9223372036854775808 ≤ x) (h1 : x ≤ 9223372036854775807) (h : ¬ (y = 0 ∨ (x = -9223372036854775808 ∧ y = -1))) : inR (x.tdiv y) = true := by
  have hn : (x.tdiv y).natAbs = x.natAbs / y.natAbs := Int.natAbs_tdiv x y
  have hy : 0 < y.natAbs := by omega
  have hle : x.natAbs / y.natAbs ≤ x.natAbs := Nat.div_le_self _ _
  have hs : x.tdiv y ≠ 9223372036854775808 := by
    intro e
    rw [e] at hn
    by_cases h1' : y.natAbs = 1
    · rw [h1', Nat.div_one] at hn
      have hx : x = -9223372036854775808 := by omega
      have hy1 : y = 1 := by omega
      rw [hx, hy1] at e
      revert e; decide
    · have : x.natAbs / y.natAbs ≤ x.natAbs / 2 := Nat.div_le_div_left (by omega) (by omega)
      omega
  simp only [inR, Bool.and_eq_true, decide_eq_true_eq]
  omega
theorem div_w {a b : Vl} (ha : VlW a) : VlW (divE a b).1 := by
  refine VlW.ite (ansE_w fun h => tdiv_in ha.n0 ha.n1 ?_) VlW.zero
  simp only [Bool.not_eq_true', Bool.or_eq_false_iff, Bool.and_eq_false_iff, beq_eq_false_iff_ne] at h
  omega
theorem tmod_in {x y : Int} (h0 : -9223372036854775808 ≤ x) (h1 : x ≤ 9223372036854775807) : inR (x.tmod y) = true := by
  have hn : (x.tmod y).natAbs = x.natAbs % y.natAbs := Int.natAbs_tmod x y
  have hle : x.natAbs % y.natAbs ≤ x.natAbs := Nat.mod_le _ _
  have hs : x.tmod y ≠ 9223372036854775808 := by
    intro e
    have h2 := Int.tmod_nonneg y (a := x)
    by_cases hx : 0 ≤ x
    · omega
    · have h3 : x.tmod y ≤ 0 := by
        have := Int.tmod_nonneg y (a := -x) (by omega)
        rw [Int.neg_tmod] at this
        omega
      omega
  simp only [inR, Bool.and_eq_true, decide_eq_true_eq]
  omega
theorem mod_w {a b : Vl} (ha : VlW a) : VlW (modE a b).1 := VlW.ite (ansE_w fun _ => tmod_in ha.n0 ha.n1) VlW.zero
theorem addT_w (a b : Vl) : VlW (addT a b).1 := by
  unfold addT
  split
  · split
    · rename_i h
      have := checkB_size h
      exact ⟨by show (0 : Int) ≤ 3; omega, by show (3 : Int) ≤ 255; omega, by show _ ≤ (0 : Int); omega, by show (0 : Int) ≤ _; omega, by show (txV (a.text ++ b.text)).text.size ≤ _; omega⟩
    · exact VlW.zero
  · exact add_w a b
theorem both_w {a b : Vl} (op : Int) (ha : VlW a) : VlW (bothE op a b).1 := by
  have e1 : ∀ w, VlW (equalT a b w).1 := fun w => VlW.ite (truthE_w _ _) VlW.zero
  have e2 : ∀ a b w, VlW (lessT a b w).1 := fun a b w => truthE_w _ _
  exact VlW.ite (e1 _) (VlW.ite (e1 _) (VlW.ite (e2 _ _ _) (VlW.ite (e2 _ _ _) (VlW.ite (e2 _ _ _) (VlW.ite (e2 _ _ _) (VlW.ite (addT_w _ _) (VlW.ite (sub_w _ _) (VlW.ite (mul_w _ _) (VlW.ite (div_w ha) (mod_w ha))))))))))
theorem comb_w {op : Int} {x y : Vl × Int} (hx : VlW x.1) (hy : VlW y.1) : VlW (combE op x y).1 :=
  VlW.ite (VlW.ite (sub_w _ _) (VlW.ite VlW.zero (VlW.ite (VlW.tr _) (VlW.ite hx (VlW.ite (VlW.ite (both_w _ hx) (VlW.ite hy VlW.zero)) VlW.zero))))) VlW.zero
theorem findB_mem {l : List Bd} {s : ByteArray} {v : Vl} (h : findB l s = some v) : ∃ b ∈ l, b.val = v := by
  induction l with
  | nil => cases h
  | cons b r ih =>
    unfold findB at h
    split at h
    · injection h with h; exact ⟨b, by simp, h⟩
    · obtain ⟨x, hx, e⟩ := ih h
      exact ⟨x, by simp [hx], e⟩
theorem var_w {l : List Bd} (hl : ∀ b ∈ l, VlW b.val) (s : ByteArray) : VlW (varE l s).1 := by
  unfold varE
  split
  · exact VlW.zero
  · rename_i v hv
    obtain ⟨b, hb, rfl⟩ := findB_mem hv
    exact VlW.ite (hl b hb) VlW.zero
mutual
theorem vlw_N {l : List Bd} (hl : ∀ b ∈ l, VlW b.val) : ∀ n : Nd, deepW n → VlW (evalN l n).1
  | .mk op v nm ks, h => by
    obtain ⟨h1, h2⟩ := h
    show VlW (if op = 1 then (v, 0) else if op = 2 then varE l nm else combE op (evalH l ks) (evalT l ks)).1
    obtain ⟨f1, f2⟩ := vlw_L hl ks h2
    exact VlW.ite h1.v (VlW.ite (var_w hl nm) (comb_w f1 f2))
theorem vlw_L {l : List Bd} (hl : ∀ b ∈ l, VlW b.val) : ∀ ks : List Nd, deepWL ks → VlW (evalH l ks).1 ∧ VlW (evalT l ks).1
  | [], _ => ⟨VlW.zero, VlW.zero⟩
  | a :: r, h => by
    obtain ⟨h1, h2⟩ := h
    exact ⟨vlw_N hl a h1, (vlw_L hl r h2).1⟩
end

/-- Whether the second part is reached. -/
def goesOn (op : Int) (x : Vl × Int) : Bool := (x.2 == 0) && (decide (5 ≤ op) && !((op == 5 || op == 6) && ((x.1.kind != 2) || (x.1.tr == decide (op = 6)))))
mutual
/-- What is reported as read. -/
def noteN (l : List Bd) : Nd → List ByteArray
  | .mk op _ nm ks => if op = 1 then [] else if op = 2 then (if (varE l nm).2 = 0 then [nm] else []) else noteH l ks ++ (if goesOn op (evalH l ks) then noteT l ks else [])
def noteH (l : List Bd) : List Nd → List ByteArray
  | [] => []
  | a :: _ => noteN l a
def noteT (l : List Bd) : List Nd → List ByteArray
  | [] => []
  | _ :: r => noteH l r
end
end Go.Proofs.YtbephgifbghilaaGreatDoor
