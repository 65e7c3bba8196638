/- The statement EvalTypes on plain data. -/
import Derived.Test.YtjfiijbmkcfooaaDoorEvalLawP
set_option maxRecDepth 100000
namespace Go.Proofs.YtjfiijbmkcfooaaDoor

def typeC (op : Int) (ks : List Int) : Int × Int := match ks with
  | [] => (0, 90)
  | a :: r => if r.any (fun k => !(k == a)) then (0, 90)
    else if op = 7 ∨ op = 8 then (2, 0)
    else if (op = 3 ∨ op = 5 ∨ op = 6) ∧ a = 2 then (a, 0)
    else if 9 ≤ op ∧ op ≤ 12 ∧ ¬ a = 2 then (2, 0)
    else if ((op = 4 ∨ 13 ≤ op) ∧ a = 1) ∨ (op = 13 ∧ a = 3) then (a, 0)
    else (0, 90)
mutual
def typeN (l : List Bd) : Nd → Int × Int
  | .mk op v nm ks => if op = 1 then (v.kind, 0) else if op = 2 then (match findB l nm with | none => (0, 100) | some v => (v.kind, 0)) else (if (typeL l ks).2 = 0 then typeC op (typeL l ks).1 else (0, (typeL l ks).2))
def typeL (l : List Bd) : List Nd → List Int × Int
  | [] => ([], 0)
  | k :: r => if (typeN l k).2 = 0 then (if (typeL l r).2 = 0 then ((typeN l k).1 :: (typeL l r).1, 0) else ([], (typeL l r).2)) else ([], (typeN l k).2)
end
def FitsT (k : Int) (p : Vl × Int) : Prop := p.2 = 91 ∨ (p.2 = 0 ∧ p.1.kind = k)
theorem fits_ans (n : Int) (ok : Bool) : FitsT 1 (ansE n ok) := by
  unfold ansE
  split
  · exact Or.inr ⟨rfl, rfl⟩
  · exact Or.inl rfl
theorem fits_truth (b : Bool) : FitsT 2 (truthE b 0) := Or.inr ⟨rfl, rfl⟩
theorem numB_of {v : Vl} (h : v.kind = 1) (hc : checkB v = true) : numB v = true := by unfold numB; rw [h, hc]; rfl
theorem findB_memT {l : List Bd} {s : ByteArray} {v : Vl} : findB l s = some v → ∃ b ∈ l, b.val = v := by
  induction l with
  | nil => intro h; cases h
  | cons b r ih =>
    intro h
    unfold findB at h
    split at h
    · exact ⟨b, List.mem_cons_self, by injection h⟩
    · obtain ⟨c, hc, e⟩ := ih h
      exact ⟨c, List.mem_cons_of_mem _ hc, e⟩
theorem fits_bin {op a : Int} {x y : Vl} (h7 : 7 ≤ op) (h17 : op ≤ 17) (hx : checkB x = true) (hy : checkB y = true) (kx : x.kind = a) (ky : y.kind = a) {k : Int} (ht : typeC op [a, a] = (k, 0)) : FitsT k (bothE op x y) := by
  have hany : ([a] : List Int).any (fun k => !(k == a)) = false := by simp
  unfold typeC at ht
  simp only [hany, Bool.false_eq_true, if_false] at ht
  have hkk : x.kind = y.kind := by rw [kx, ky]
  have eqs : ∀ w, FitsT 2 (equalT x y w) := fun w => by unfold equalT; rw [if_pos hkk]; exact fits_truth _
  have lts : ∀ (p q : Vl) w, checkB p = true → checkB q = true → p.kind = q.kind → p.kind ≠ 2 → FitsT 2 (lessT p q w) := fun p q w hp hq e hne => by
    unfold lessT lessE
    have : ((p.kind == q.kind) && (!(p.kind == 2) && (checkB p && checkB q))) = true := by
      rw [hp, hq, e, show (q.kind == 2) = false by rw [beq_eq_false_iff_ne, ← e]; exact hne]; simp
    rw [if_pos this]
    exact fits_truth _
  by_cases e7 : op = 7
  · subst e7; rw [if_pos (Or.inl rfl)] at ht; cases ht; exact eqs _
  by_cases e8 : op = 8
  · subst e8; rw [if_pos (Or.inr rfl)] at ht; cases ht; exact eqs _
  rw [if_neg (by omega), if_neg (by omega)] at ht
  by_cases e12 : op ≤ 12
  · by_cases ha : a = 2
    · rw [if_neg (by omega), if_neg (by omega)] at ht; cases ht
    · rw [if_pos ⟨by omega, e12, ha⟩] at ht
      cases ht
      have hxn : x.kind ≠ 2 := by rw [kx]; exact ha
      have hyn : y.kind ≠ 2 := by rw [ky]; exact ha
      rcases (show op = 9 ∨ op = 10 ∨ op = 11 ∨ op = 12 by omega) with rfl | rfl | rfl | rfl
      · exact lts x y _ hx hy hkk hxn
      · exact lts y x _ hy hx hkk.symm hyn
      · exact lts y x _ hy hx hkk.symm hyn
      · exact lts x y _ hx hy hkk hxn
  · rw [if_neg (by omega)] at ht
    by_cases hc : ((op = 4 ∨ 13 ≤ op) ∧ a = 1) ∨ (op = 13 ∧ a = 3)
    · rw [if_pos hc] at ht
      cases ht
      rcases hc with ⟨_, rfl⟩ | ⟨rfl, rfl⟩
      · have hn : numsB x y = true := by unfold numsB; rw [numB_of kx hx, numB_of ky hy]; rfl
        rcases (show op = 13 ∨ op = 14 ∨ op = 15 ∨ op = 16 ∨ op = 17 by omega) with rfl | rfl | rfl | rfl | rfl
        · show FitsT 1 (addT x y)
          unfold addT
          rw [if_neg (by rw [kx]; simp)]
          unfold addE
          rw [if_pos hn]; exact fits_ans _ _
        · show FitsT 1 (subE x y)
          unfold subE
          rw [if_pos hn]; exact fits_ans _ _
        · show FitsT 1 (mulE x y)
          unfold mulE
          rw [if_pos hn]; exact fits_ans _ _
        · show FitsT 1 (divE x y)
          unfold divE
          rw [if_pos hn]; exact fits_ans _ _
        · show FitsT 1 (modE x y)
          unfold modE
          rw [if_pos hn]; exact fits_ans _ _
      · show FitsT 3 (addT x y)
        unfold addT
        rw [if_pos (by rw [kx, ky]; rfl)]
        split
        · exact Or.inr ⟨rfl, rfl⟩
        · exact Or.inl rfl
    · rw [if_neg hc] at ht; cases ht
theorem fits_fall {op : Int} {x y : Vl × Int} {k : Int} (hx : x.2 = 91) : FitsT k (combE op x y) := by
  unfold combE
  rw [if_neg (by omega)]
  exact Or.inl hx

theorem comb_bin' {op : Int} (h1 : 7 ≤ op) (h2 : op ≤ 17) (x y : Vl × Int) : combE op x y = if x.2 = 0 then (if y.2 = 0 then bothE op x.1 y.1 else (Vl.zero, y.2)) else (Vl.zero, x.2) := by
  unfold combE
  rw [if_neg (show ¬ op = 4 by omega), if_neg (show ¬ ((op = 3 ∨ op = 5 ∨ op = 6) ∧ ¬ x.1.kind = 2) by omega), if_neg (show ¬ op = 3 by omega), if_neg (show ¬ ((op = 5 ∨ op = 6) ∧ x.1.tr = decide (op = 6)) by rintro ⟨h, _⟩; omega), if_pos (show 7 ≤ op ∧ op ≤ 17 from ⟨h1, h2⟩)]
theorem typeL_one {l : List Bd} {a : Nd} (h : (typeL l [a]).2 = 0) : (typeN l a).2 = 0 ∧ (typeL l [a]).1 = [(typeN l a).1] := by
  have e : typeL l [a] = if (typeN l a).2 = 0 then (if (([], 0) : List Int × Int).2 = 0 then ((typeN l a).1 :: [], 0) else ([], (([], 0) : List Int × Int).2)) else ([], (typeN l a).2) := rfl
  rw [e] at h ⊢
  by_cases h1 : (typeN l a).2 = 0
  · rw [if_pos h1]; exact ⟨h1, rfl⟩
  · rw [if_neg h1] at h; exact absurd h h1
theorem typeL_two {l : List Bd} {a b : Nd} (h : (typeL l [a, b]).2 = 0) : (typeN l a).2 = 0 ∧ (typeN l b).2 = 0 ∧ (typeL l [a, b]).1 = [(typeN l a).1, (typeN l b).1] := by
  have e : typeL l [a, b] = if (typeN l a).2 = 0 then (if (typeL l [b]).2 = 0 then ((typeN l a).1 :: (typeL l [b]).1, 0) else ([], (typeL l [b]).2)) else ([], (typeN l a).2) := rfl
  rw [e] at h ⊢
  by_cases h1 : (typeN l a).2 = 0
  · rw [if_pos h1] at h ⊢
    by_cases h2 : (typeL l [b]).2 = 0
    · rw [if_pos h2]
      obtain ⟨h3, h4⟩ := typeL_one h2
      exact ⟨h1, h3, by rw [h4]⟩
    · rw [if_neg h2] at h; exact absurd h h2
  · rw [if_neg h1] at h; exact absurd h h1

/-- A node that has a type comes to a value of it, or out of range. -/
theorem types_ok (l : List Bd) (hl : ∀ b ∈ l, checkB b.val = true) : ∀ (m : Nat) (n : Nd), SizeOf.sizeOf n ≤ m → checkN n = true → (typeN l n).2 = 0 → FitsT (typeN l n).1 (evalN l n) := by
  intro m
  induction m with
  | zero => intro n hn; cases n; simp at hn
  | succ m ih =>
    intro n hn hc ht
    obtain ⟨op, v, nm, ks⟩ := n
    have h' : (headB op v nm ks.length && checkL ks) = true := hc
    rw [Bool.and_eq_true] at h'
    obtain ⟨h1, h2⟩ := h'
    obtain ⟨k1, k2⟩ := head_facts h1
    have et : typeN l (.mk op v nm ks) = if op = 1 then ((v.kind, 0) : Int × Int) else if op = 2 then (match findB l nm with | none => (0, 100) | some v => (v.kind, 0)) else (if (typeL l ks).2 = 0 then typeC op (typeL l ks).1 else (0, (typeL l ks).2)) := rfl
    have ee : evalN l (.mk op v nm ks) = if op = 1 then ((v, 0) : Vl × Int) else if op = 2 then varE l nm else combE op (evalH l ks) (evalT l ks) := rfl
    rw [et] at ht ⊢
    rw [ee]
    by_cases o1 : op = 1
    · rw [if_pos o1, if_pos o1]; exact Or.inr ⟨rfl, rfl⟩
    rw [if_neg o1] at ht ⊢
    rw [if_neg o1]
    by_cases o2 : op = 2
    · rw [if_pos o2] at ht ⊢
      rw [if_pos o2]
      unfold varE
      cases hf : findB l nm with
      | none => rw [hf] at ht; cases ht
      | some u =>
        obtain ⟨b, hb, e⟩ := findB_memT hf
        simp only
        rw [if_pos (by rw [← e]; exact hl b hb)]
        exact Or.inr ⟨rfl, rfl⟩
    rw [if_neg o2] at ht ⊢
    rw [if_neg o2]
    by_cases hL : (typeL l ks).2 = 0
    · rw [if_pos hL] at ht ⊢
      have hr : 3 ≤ op ∧ op ≤ 17 := by
        unfold kidsN at k1
        split at k1
        · omega
        · omega
      by_cases o4 : op ≤ 4
      · have hlen : ks.length = 1 := by unfold kidsN at k1; rw [if_neg (by omega), if_neg (by omega), if_pos o4] at k1; omega
        obtain ⟨a, rfl⟩ := List.length_eq_one_iff.1 hlen
        obtain ⟨ta, tl⟩ := typeL_one hL
        have hca : checkN a = true := by have : (checkN a && true) = true := h2; rwa [Bool.and_true] at this
        have hfa := ih a (by simp at hn; omega) hca ta
        have hna := norm_N l a hca
        rw [tl] at ht ⊢
        show FitsT _ (combE op (evalN l a) (Vl.zero, 0))
        obtain ⟨k, hk⟩ : ∃ k, (typeN l a).1 = k := ⟨_, rfl⟩
        rw [hk] at hfa ht ⊢
        rcases hfa with h91 | ⟨h0, hkk⟩
        · exact fits_fall h91
        · unfold typeC at ht ⊢
          simp only [List.any_nil, Bool.false_eq_true, if_false] at ht ⊢
          rcases (show op = 3 ∨ op = 4 by omega) with rfl | rfl
          · by_cases h2' : k = 2
            · subst h2'
              show FitsT 2 _
              unfold combE
              rw [if_pos h0, if_neg (by omega), if_neg (by rintro ⟨_, h⟩; exact h hkk), if_pos rfl]
              exact Or.inr ⟨rfl, rfl⟩
            · rw [if_neg (by omega), if_neg (by omega), if_neg (by omega), if_neg (by omega)] at ht; cases ht
          · by_cases h2' : k = 1
            · subst h2'
              show FitsT 1 _
              unfold combE
              rw [if_pos h0, if_pos rfl]
              unfold negE subE
              rw [if_pos (by unfold numsB; rw [numB_of hkk (hna h0), numB_of rfl (check_numV 0)]; rfl)]
              exact fits_ans _ _
            · rw [if_neg (by omega), if_neg (by omega), if_neg (by omega), if_neg (by omega)] at ht; cases ht
      · have hlen : ks.length = 2 := by unfold kidsN at k1; rw [if_neg (by omega), if_neg (by omega), if_neg o4] at k1; omega
        obtain ⟨a, b, rfl⟩ : ∃ a b, ks = [a, b] := by
          match ks, hlen with
          | [a, b], _ => exact ⟨a, b, rfl⟩
        obtain ⟨ta, tb, tl⟩ := typeL_two hL
        have hcab : (checkN a && (checkN b && true)) = true := h2
        rw [Bool.and_true, Bool.and_eq_true] at hcab
        have hfa := ih a (by simp at hn; omega) hcab.1 ta
        have hfb := ih b (by simp at hn; omega) hcab.2 tb
        have hna := norm_N l a hcab.1
        have hnb := norm_N l b hcab.2
        rw [tl] at ht ⊢
        show FitsT _ (combE op (evalN l a) (evalN l b))
        obtain ⟨k, hk⟩ : ∃ k, (typeN l a).1 = k := ⟨_, rfl⟩
        obtain ⟨j, hj⟩ : ∃ j, (typeN l b).1 = j := ⟨_, rfl⟩
        rw [hk] at hfa ht ⊢
        rw [hj] at hfb ht ⊢
        by_cases hkj : j = k
        · subst hkj
          rcases hfa with h91 | ⟨h0, hka⟩
          · exact fits_fall h91
          · by_cases o6 : op ≤ 6
            · have hk2 : j = 2 := by
                unfold typeC at ht
                simp only [List.any_cons, beq_self_eq_true, Bool.not_true, List.any_nil, Bool.or_self, Bool.false_eq_true, if_false] at ht
                by_cases h : j = 2
                · exact h
                · rw [if_neg (by omega), if_neg (by omega), if_neg (by omega), if_neg (by omega)] at ht; cases ht
              subst hk2
              have ek : (typeC op [2, 2]).1 = 2 := by
                unfold typeC
                simp only [List.any_cons, beq_self_eq_true, Bool.not_true, List.any_nil, Bool.or_self, Bool.false_eq_true, if_false]
                rw [if_neg (show ¬ (op = 7 ∨ op = 8) by omega), if_pos (show (op = 3 ∨ op = 5 ∨ op = 6) ∧ True from ⟨by omega, trivial⟩)]
              rw [ek]
              unfold combE
              rw [if_pos h0, if_neg (show ¬ op = 4 by omega), if_neg (show ¬ ((op = 3 ∨ op = 5 ∨ op = 6) ∧ ¬ (evalN l a).1.kind = 2) by rintro ⟨_, h⟩; exact h hka), if_neg (show ¬ op = 3 by omega)]
              split
              · exact Or.inr ⟨rfl, hka⟩
              · rcases hfb with g91 | ⟨g0, gk⟩
                · rw [if_neg (show ¬ (evalN l b).2 = 0 by omega)]; exact Or.inl g91
                · rw [if_pos g0, if_neg (show ¬ (7 ≤ op ∧ op ≤ 17) by omega), if_pos gk]; exact Or.inr ⟨rfl, gk⟩
            · rw [comb_bin' (by omega) hr.2, if_pos h0]
              rcases hfb with g91 | ⟨g0, gk⟩
              · rw [if_neg (show ¬ (evalN l b).2 = 0 by omega)]; exact Or.inl g91
              · rw [if_pos g0]
                exact fits_bin (by omega) hr.2 (hna h0) (hnb g0) hka gk (Prod.ext rfl ht)
        · exfalso
          unfold typeC at ht
          have : ([j] : List Int).any (fun q => !(q == k)) = true := by simp [hkj]
          simp only [this, if_true] at ht
          cases ht
    · rw [if_neg hL] at ht; exact absurd ht hL
end Go.Proofs.YtjfiijbmkcfooaaDoor
