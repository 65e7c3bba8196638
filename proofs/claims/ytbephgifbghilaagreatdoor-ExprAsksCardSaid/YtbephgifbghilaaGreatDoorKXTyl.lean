/- Of XTyl: what XFAs uses (shake.py). -/
import Derived.Test.YtbephgifbghilaaGreatDoorKXTyp
import Derived.Test.YtbephgifbghilaaGreatDoorKXNam
import Derived.Test.YtbephgifbghilaaGreatDoorKXBk
import Derived.Test.YtbephgifbghilaaGreatDoorKEvalVal
import Derived.Laws.Cover1
import Derived.Sort.Walk0
/- Texts fused by fuse.py: ExprTypP, ExprOther, LExprTypes. -/
/- Types hang on kinds alone; names that rise (plain; seat expr). -/
set_option maxRecDepth 100000
namespace Go.Proofs.YtbephgifbghilaaGreatDoor
open Go.Lib
theorem typeN_one (l : List Bd) {op : Int} (h : 3 ≤ op) (a : Nd) : typeN l (oneN op a) = if (typeN l a).2 = 0 then typeC op [(typeN l a).1] else (0, (typeN l a).2) := by
  show (if op = 1 then _ else if op = 2 then _ else (if (typeL l [a]).2 = 0 then typeC op (typeL l [a]).1 else (0, (typeL l [a]).2))) = _
  rw [if_neg (by omega), if_neg (by omega)]
  have e : typeL l [a] = if (typeN l a).2 = 0 then ([(typeN l a).1], 0) else ([], (typeN l a).2) := rfl
  by_cases h0 : (typeN l a).2 = 0
  · rw [if_pos h0] at e
    rw [e, if_pos h0]
    rfl
  · rw [if_neg h0] at e
    rw [e]
    exact (if_neg h0).trans (if_neg h0).symm
theorem typeN_two (l : List Bd) {op : Int} (h : 3 ≤ op) (a b : Nd) : typeN l (twoN op a b) = if (typeN l a).2 = 0 then (if (typeN l b).2 = 0 then typeC op [(typeN l a).1, (typeN l b).1] else (0, (typeN l b).2)) else (0, (typeN l a).2) := by
  show (if op = 1 then _ else if op = 2 then _ else (if (typeL l [a, b]).2 = 0 then typeC op (typeL l [a, b]).1 else (0, (typeL l [a, b]).2))) = _
  rw [if_neg (by omega), if_neg (by omega)]
  have e : typeL l [a, b] = if (typeN l a).2 = 0 then (if (typeL l [b]).2 = 0 then ((typeN l a).1 :: (typeL l [b]).1, 0) else ([], (typeL l [b]).2)) else ([], (typeN l a).2) := rfl
  have e2 : typeL l [b] = if (typeN l b).2 = 0 then ([(typeN l b).1], 0) else ([], (typeN l b).2) := rfl
  by_cases h0 : (typeN l a).2 = 0
  · rw [if_pos h0] at e ⊢
    by_cases h1 : (typeN l b).2 = 0
    · rw [if_pos h1] at e2 ⊢
      rw [e2] at e
      have e' : typeL l [a, b] = ([(typeN l a).1, (typeN l b).1], 0) := e
      rw [e']
      rfl
    · rw [if_neg h1] at e2 ⊢
      rw [e2] at e
      have e' : typeL l [a, b] = ([], (typeN l b).2) := e.trans (if_neg h1)
      rw [e']
      exact if_neg h1
  · rw [if_neg h0] at e ⊢
    rw [e]
    exact if_neg h0
/-! ### Sorted, each once -/
theorem compactUpTo_succ (d : Array (List UInt8)) (m : Nat) : compactUpTo d (m + 1) = compactUpTo d m ++ (if keeps d m then [d[m]!] else []) := by
  unfold compactUpTo
  rw [List.range_succ, List.filter_append, List.map_append]
  congr 1
  by_cases h : keeps d m = true
  · rw [if_pos h, List.filter_cons, if_pos h]; rfl
  · rw [if_neg h, List.filter_cons, if_neg h]; rfl
theorem compact_rises {d : Array (List UInt8)} (hs : ∀ i, i + 1 < d.size → d[i]! ≤ d[i + 1]!) : ∀ m, m ≤ d.size → Rises (compactUpTo d m) ∧ ∀ x ∈ compactUpTo d m, 0 < m ∧ x ≤ d[m - 1]! := by
  intro m
  induction m with
  | zero => intro _; refine ⟨?_, ?_⟩ <;> simp [compactUpTo, Rises]
  | succ m ih =>
    intro hm
    obtain ⟨h1, h2⟩ := ih (by omega)
    rw [compactUpTo_succ]
    have hle : ∀ x ∈ compactUpTo d m, x ≤ d[m]! := fun x hx => by
      obtain ⟨h0, h3⟩ := h2 x hx
      have := hs (m - 1) (by omega)
      rw [show m - 1 + 1 = m by omega] at this
      exact List.le_trans h3 this
    by_cases hk : keeps d m = true
    · rw [if_pos hk]
      refine ⟨?_, ?_⟩
      · unfold Rises at h1 ⊢
        rw [List.pairwise_append]
        refine ⟨h1, by simp, fun x hx y hy => ?_⟩
        rw [List.mem_singleton] at hy
        subst hy
        obtain ⟨h0, h3⟩ := h2 x hx
        have h4 := hs (m - 1) (by omega)
        rw [show m - 1 + 1 = m by omega] at h4
        have hne : d[m]! ≠ d[m - 1]! := by
          unfold keeps at hk
          simp at hk
          rcases hk with hk | hk
          · omega
          · exact hk
        by_cases hlt : x < d[m]!
        · exact hlt
        · have h5 : d[m]! ≤ x := List.not_lt.1 hlt
          exact absurd (List.le_antisymm (List.le_trans h5 h3) h4) hne
      · intro x hx
        rw [List.mem_append, List.mem_singleton] at hx
        refine ⟨by omega, ?_⟩
        rcases hx with hx | rfl
        · exact hle x hx
        · exact List.le_refl _
    · rw [if_neg hk, List.append_nil]
      exact ⟨h1, fun x hx => ⟨by omega, hle x hx⟩⟩
theorem namesL_rises (n : Nd) : Rises (namesL n) := by
  unfold namesL Lib.compact
  obtain ⟨M, hM⟩ : ∃ M, ((namN n).map nmB).mergeSort (fun x y => decide (x ≤ y)) = M := ⟨_, rfl⟩
  have tr : ∀ a b c : List UInt8, decide (a ≤ b) = true → decide (b ≤ c) = true → decide (a ≤ c) = true := fun a b c h1 h2 => by simp only [decide_eq_true_eq] at *; exact List.le_trans h1 h2
  have tot : ∀ a b : List UInt8, (decide (a ≤ b) || decide (b ≤ a)) = true := fun a b => by simp only [Bool.or_eq_true, decide_eq_true_eq]; exact List.le_total a b
  have h1 := List.pairwise_mergeSort tr tot ((namN n).map nmB)
  rw [hM] at h1 ⊢
  refine (compact_rises (d := M.toArray) (fun i hi => ?_) M.length (by simp)).1
  have hi' : i + 1 < M.length := by simpa using hi
  have := List.pairwise_iff_getElem.1 h1 i (i + 1) (by omega) hi' (by omega)
  have h2 : i < M.toArray.size := by simp; omega
  rw [getElem!_pos M.toArray i h2, getElem!_pos M.toArray (i + 1) hi]
  simpa using this
theorem of_namesL (n : Nd) {x : List UInt8} (h : x ∈ namesL n) : ∃ s ∈ namN n, nmB s = x := by
  unfold namesL Lib.compact compactUpTo at h
  obtain ⟨j, hj, rfl⟩ := List.mem_map.1 h
  have hj2 := (List.mem_filter.1 hj).1
  rw [List.mem_range] at hj2
  obtain ⟨M, hM⟩ : ∃ M, ((namN n).map nmB).mergeSort (fun x y => decide (x ≤ y)) = M := ⟨_, rfl⟩
  rw [hM] at hj2 ⊢
  have hj3 : j < M.toArray.size := by simpa using hj2
  rw [getElem!_pos M.toArray j hj3]
  have hm : M[j] ∈ M := List.getElem_mem hj2
  have hp : ∀ x, x ∈ M → x ∈ (namN n).map nmB := fun x hx => by rw [← hM] at hx; exact (List.mergeSort_perm ((namN n).map nmB) _).mem_iff.1 hx
  obtain ⟨s, hs, he⟩ := List.mem_map.1 (hp _ hm)
  exact ⟨s, hs, by rw [he]; simp⟩
end Go.Proofs.YtbephgifbghilaaGreatDoor
/- The law's other: a value of the same kind (seat expr). -/
set_option maxRecDepth 100000
namespace Go.Proofs.YtbephgifbghilaaGreatDoor
open Go.RowKit
end Go.Proofs.YtbephgifbghilaaGreatDoor
/- The law ExprTypes: a type hangs on the variables' kinds alone, and each part of a node that has one has one (the walk). -/
set_option maxRecDepth 100000
namespace Go.Proofs.YtbephgifbghilaaGreatDoor
open Go.RowKit
theorem cellBd_one10 (b : Bd) : ∀ u ∈ cellBd b, u.oneCell' = true := by
  intro u hu
  simp only [cellBd, List.mem_cons, List.mem_nil_iff, or_false] at hu
  rcases hu with rfl | rfl | rfl | rfl | rfl <;> rfl
theorem info_bd10 : (Tryz.prog.info? 55).map (fun i => (i.zero, i.size, i.bytes)) = some (some (.agg #[.string ⟨#[]⟩, .int .u8 0, .int .i64 0, .bool false, .string ⟨#[]⟩]), 5, 56) := by kernel_rfl
abbrev RowB (w : World) (base : Nat) (v : Value) (A : List Bd) : Prop := OwnF cellBd 55 5 w base v A
theorem bds_of_own10 {w : World} {base : Nat} {v : Value} {A : List Bd} (h : RowB w base v A) (hl : A.length ≤ 2513169435000) (hw : ∀ b ∈ A, VlW b.val ∧ b.name.size ≤ 140737488355328) : BdsR w w.heap.size v A := by
  obtain ⟨a, cap, rfl⟩ := h.shape
  exact ⟨a, cap, rfl, hl, h.cap, h.col cellBd_len (Nat.le_refl _), hw⟩
/-- Each bind has another's name and kind. -/
def Likes (l l' : List Bd) : Prop := l'.length ≤ l.length ∧ ∀ i (h : i < l'.length) (h2 : i < l.length), l'[i].name = l[i].name ∧ l'[i].val.kind = l[i].val.kind ∧ VlW l'[i].val
theorem Likes.nil (l : List Bd) : Likes l [] := ⟨Nat.zero_le _, fun i h => by simp at h⟩
theorem typ_is (w : World) (hg : Gx w) (n : Nd) (vk vv : Value) (l : List Bd) (hn : NdR w w.heap.size vk n) (hl : BdsR w w.heap.size vv l) {k x : Int} (h : tyE l n = (k, x)) :
    Calls Tryz.prog 28 #[valN n vk, vv] w fun e w' => e = .returned (.tuple #[.int .u8 k, .int .i64 x]) ∧ Below w.heap.size w w' := by
  have := typ_any w n vk vv l hn hl hg.t8
  rw [h] at this
  exact this
end Go.Proofs.YtbephgifbghilaaGreatDoor
