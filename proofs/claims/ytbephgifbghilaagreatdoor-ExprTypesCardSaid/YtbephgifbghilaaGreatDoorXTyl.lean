/- Texts fused by fuse.py: ExprTypP, ExprOther, LExprTypes. -/
import Derived.Test.YtbephgifbghilaaGreatDoorXTyp
import Derived.Test.YtbephgifbghilaaGreatDoorXNam
import Derived.Test.YtbephgifbghilaaGreatDoorXBk
import Derived.Test.YtbephgifbghilaaGreatDoorEvalVal
import Derived.Laws.Cover1
import Derived.Sort.Walk0
/- Types hang on kinds alone; names that rise (plain; seat expr). -/
set_option maxRecDepth 100000
namespace Go.Proofs.YtbephgifbghilaaGreatDoor
open Go.Lib

/-- Two rows of binds with the same names and kinds. -/
def KindsE (l l' : List Bd) : Prop := ∀ s, (findB l s).map Vl.kind = (findB l' s).map Vl.kind
theorem kinds_cons {b b' : Bd} {l l' : List Bd} (h1 : b.name = b'.name) (h2 : b.val.kind = b'.val.kind) (h : KindsE l l') : KindsE (b :: l) (b' :: l') := by
  intro s
  unfold findB
  rw [h1]
  split
  · simp [h2]
  · exact h s
theorem kinds_map {f : Bd → Bd} (h : ∀ b, (f b).name = b.name ∧ (f b).val.kind = b.val.kind) : ∀ l : List Bd, KindsE l (l.map f)
  | [] => fun _s => rfl
  | b :: r => kinds_cons (h b).1.symm (h b).2.symm (kinds_map h r)
mutual
theorem typeN_kinds {l l' : List Bd} (h : KindsE l l') : ∀ n : Nd, typeN l n = typeN l' n
  | .mk op v nm ks => by
    have hk := typeL_kinds h ks
    show (if op = 1 then (v.kind, (0 : Int)) else if op = 2 then (match findB l nm with | none => (0, 100) | some v => (v.kind, 0)) else (if (typeL l ks).2 = 0 then typeC op (typeL l ks).1 else (0, (typeL l ks).2))) = (if op = 1 then (v.kind, (0 : Int)) else if op = 2 then (match findB l' nm with | none => (0, 100) | some v => (v.kind, 0)) else (if (typeL l' ks).2 = 0 then typeC op (typeL l' ks).1 else (0, (typeL l' ks).2)))
    rw [hk]
    have := h nm
    cases h1 : findB l nm with
    | none =>
      rw [h1] at this
      cases h2 : findB l' nm with
      | none => rfl
      | some v2 => rw [h2] at this; cases this
    | some v1 =>
      rw [h1] at this
      cases h2 : findB l' nm with
      | none => rw [h2] at this; cases this
      | some v2 => rw [h2] at this; simp only [Option.map_some, Option.some.injEq] at this; simp only [this]
theorem typeL_kinds {l l' : List Bd} (h : KindsE l l') : ∀ ks : List Nd, typeL l ks = typeL l' ks
  | [] => rfl
  | k :: r => by
    show (if (typeN l k).2 = 0 then (if (typeL l r).2 = 0 then ((typeN l k).1 :: (typeL l r).1, 0) else ([], (typeL l r).2)) else ([], (typeN l k).2)) = (if (typeN l' k).2 = 0 then (if (typeL l' r).2 = 0 then ((typeN l' k).1 :: (typeL l' r).1, 0) else ([], (typeL l' r).2)) else ([], (typeN l' k).2))
    rw [typeN_kinds h k, typeL_kinds h r]
end
theorem tyE_kinds {l l' : List Bd} (h : KindsE l l') (n : Nd) : tyE l n = tyE l' n := by
  unfold tyE
  rw [typeN_kinds h n]
/-- Each error of a type is of unknown names, or of unlike types. -/
def known (l : List Bd) (s : ByteArray) : Bool := (findB l s).isSome
theorem typeN_one (l : List Bd) {op : Int} (h : 3 ≤ op) (a : Nd) : typeN l (oneN op a) = if (typeN l a).2 = 0 then typeC op [(typeN l a).1] else (0, (typeN l a).2) := by
  show (if op = 1 then _ else if op = 2 then _ else (if (typeL l [a]).2 = 0 then typeC op (typeL l [a]).1 else (0, (typeL l [a]).2))) = _
  rw [if_neg (by omega), if_neg (by omega)]
  have e : typeL l [a] = if (typeN l a).2 = 0 then ([(typeN l a).1], 0) else ([], (typeN l a).2) := rfl
  by_cases h0 : (typeN l a).2 = 0
  · rw [if_pos h0] at e
    rw [e, if_pos h0]
    rfl
  · rw [if_neg h0] at e
    rw [e]
    exact (if_neg h0).trans (if_neg h0).symm
theorem typeN_two (l : List Bd) {op : Int} (h : 3 ≤ op) (a b : Nd) : typeN l (twoN op a b) = if (typeN l a).2 = 0 then (if (typeN l b).2 = 0 then typeC op [(typeN l a).1, (typeN l b).1] else (0, (typeN l b).2)) else (0, (typeN l a).2) := by
  show (if op = 1 then _ else if op = 2 then _ else (if (typeL l [a, b]).2 = 0 then typeC op (typeL l [a, b]).1 else (0, (typeL l [a, b]).2))) = _
  rw [if_neg (by omega), if_neg (by omega)]
  have e : typeL l [a, b] = if (typeN l a).2 = 0 then (if (typeL l [b]).2 = 0 then ((typeN l a).1 :: (typeL l [b]).1, 0) else ([], (typeL l [b]).2)) else ([], (typeN l a).2) := rfl
  have e2 : typeL l [b] = if (typeN l b).2 = 0 then ([(typeN l b).1], 0) else ([], (typeN l b).2) := rfl
  by_cases h0 : (typeN l a).2 = 0
  · rw [if_pos h0] at e ⊢
    by_cases h1 : (typeN l b).2 = 0
    · rw [if_pos h1] at e2 ⊢
      rw [e2] at e
      have e' : typeL l [a, b] = ([(typeN l a).1, (typeN l b).1], 0) := e
      rw [e']
      rfl
    · rw [if_neg h1] at e2 ⊢
      rw [e2] at e
      have e' : typeL l [a, b] = ([], (typeN l b).2) := e.trans (if_neg h1)
      rw [e']
      exact if_neg h1
  · rw [if_neg h0] at e ⊢
    rw [e]
    exact if_neg h0
theorem namN_one (op : Int) (h : 3 ≤ op) (a : Nd) : namN (oneN op a) = namN a := by
  show (if op = 2 then _ else []) ++ (namN a ++ []) = _
  rw [if_neg (by omega), List.append_nil]
  rfl
theorem namN_two (op : Int) (h : 3 ≤ op) (a b : Nd) : namN (twoN op a b) = namN a ++ namN b := by
  show (if op = 2 then _ else []) ++ (namN a ++ (namN b ++ [])) = _
  rw [if_neg (by omega), List.append_nil]
  rfl
def TypA (l : List Bd) (n : Nd) : Prop := ((typeN l n).2 = 0 ∨ (typeN l n).2 = 90 ∨ (typeN l n).2 = 100) ∧ ((typeN l n).2 = 0 → ∀ s ∈ namN n, known l s = true) ∧ ((∀ s ∈ namN n, known l s = true) → (typeN l n).2 ≠ 100)
theorem typeN_all (l : List Bd) : ∀ (m : Nat) (n : Nd), SizeOf.sizeOf n ≤ m → checkN n = true → TypA l n := by
  intro m
  induction m with
  | zero => intro n h; cases n; simp at h
  | succ m IH =>
    intro n hz hc
    rcases may_cases10 hc with ⟨v, rfl, _, _⟩ | ⟨nm, rfl, _, _⟩ | ⟨op, a, ho, rfl, ha⟩ | ⟨op, a, b, h5, h17, rfl, ha, hb⟩
    · have e : typeN l (litN v) = (v.kind, 0) := rfl
      have en : namN (litN v) = [] := rfl
      unfold TypA
      rw [e, en]
      exact ⟨.inl rfl, fun _ s hs => by simp at hs, fun _ => by simp⟩
    · have e : typeN l (varN nm) = (match findB l nm with | none => (0, 100) | some v => (v.kind, 0)) := rfl
      have en : namN (varN nm) = [nm] := rfl
      unfold TypA
      rw [e, en]
      cases hf : findB l nm with
      | none => exact ⟨.inr (.inr rfl), fun h => by simp at h, fun h => by have := h nm (by simp); unfold known at this; rw [hf] at this; cases this⟩
      | some v => exact ⟨.inl rfl, fun _ s hs => by rw [List.mem_singleton] at hs; subst hs; unfold known; rw [hf]; rfl, fun _ => by simp⟩
    · have hza : SizeOf.sizeOf a ≤ m := by simp [oneN] at hz; omega
      obtain ⟨k1, k2, k3⟩ := IH a hza ha
      unfold TypA
      rw [typeN_one l (by omega), namN_one op (by omega)]
      by_cases h0 : (typeN l a).2 = 0
      · rw [if_pos h0]
        have := typeC_ne op [(typeN l a).1]
        exact ⟨by omega, fun _ => k2 h0, fun _ => by omega⟩
      · rw [if_neg h0]
        exact ⟨k1, fun h => absurd h h0, k3⟩
    · have hza : SizeOf.sizeOf a ≤ m ∧ SizeOf.sizeOf b ≤ m := by simp [twoN] at hz; omega
      obtain ⟨k1, k2, k3⟩ := IH a hza.1 ha
      obtain ⟨j1, j2, j3⟩ := IH b hza.2 hb
      unfold TypA
      rw [typeN_two l (by omega), namN_two op (by omega)]
      by_cases h0 : (typeN l a).2 = 0
      · rw [if_pos h0]
        by_cases h1 : (typeN l b).2 = 0
        · rw [if_pos h1]
          have := typeC_ne op [(typeN l a).1, (typeN l b).1]
          exact ⟨by omega, fun _ s hs => by rcases List.mem_append.1 hs with hs | hs; exact k2 h0 s hs; exact j2 h1 s hs, fun _ => by omega⟩
        · rw [if_neg h1]
          exact ⟨j1, fun h => absurd h h1, fun h => j3 (fun s hs => h s (List.mem_append.2 (.inr hs)))⟩
      · rw [if_neg h0]
        exact ⟨k1, fun h => absurd h h0, fun h => k3 (fun s hs => h s (List.mem_append.2 (.inl hs)))⟩
theorem typeN_kid {l : List Bd} {n : Nd} (hc : checkN n = true) (h : (typeN l n).2 = 0) : ∀ k ∈ n.kids, checkN k = true ∧ (typeN l k).2 = 0 := by
  intro k hk
  rcases may_cases10 hc with ⟨v, rfl, _, _⟩ | ⟨nm, rfl, _, _⟩ | ⟨op, a, ho, rfl, ha⟩ | ⟨op, a, b, h5, h17, rfl, ha, hb⟩
  · simp [litN, Nd.kids] at hk
  · simp [varN, Nd.kids] at hk
  · have : k = a := by simpa [oneN, Nd.kids] using hk
    subst this
    rw [typeN_one l (by omega)] at h
    refine ⟨ha, ?_⟩
    by_cases h0 : (typeN l k).2 = 0
    · exact h0
    · rw [if_neg h0] at h; exact h
  · have : k = a ∨ k = b := by simpa [twoN, Nd.kids] using hk
    rw [typeN_two l (by omega)] at h
    by_cases h0 : (typeN l a).2 = 0
    · rw [if_pos h0] at h
      by_cases h1 : (typeN l b).2 = 0
      · rcases this with rfl | rfl
        · exact ⟨ha, h0⟩
        · exact ⟨hb, h1⟩
      · rw [if_neg h1] at h; exact absurd h h1
    · rw [if_neg h0] at h; exact absurd h h0
/-- How many names there are. -/
theorem namN_len : ∀ (m : Nat) (n : Nd), SizeOf.sizeOf n ≤ m → checkN n = true → (namN n).length ≤ cntN n := by
  intro m
  induction m with
  | zero => intro n h; cases n; simp at h
  | succ m IH =>
    intro n hz hc
    rcases may_cases10 hc with ⟨v, rfl, _, _⟩ | ⟨nm, rfl, _, _⟩ | ⟨op, a, ho, rfl, ha⟩ | ⟨op, a, b, h5, h17, rfl, ha, hb⟩
    · exact Nat.zero_le _
    · exact Nat.le_refl _
    · have hza : SizeOf.sizeOf a ≤ m := by simp [oneN] at hz; omega
      have h1 := IH a hza ha
      rw [namN_one op (by omega)]
      show _ ≤ 1 + (cntN a + 0)
      omega
    · have hza : SizeOf.sizeOf a ≤ m ∧ SizeOf.sizeOf b ≤ m := by simp [twoN] at hz; omega
      have h1 := IH a hza.1 ha
      have h2 := IH b hza.2 hb
      rw [namN_two op (by omega), List.length_append]
      show _ ≤ 1 + (cntN a + (cntN b + 0))
      omega

/-! ### Sorted, each once -/
theorem compactUpTo_succ (d : Array (List UInt8)) (m : Nat) : compactUpTo d (m + 1) = compactUpTo d m ++ (if keeps d m then [d[m]!] else []) := by
  unfold compactUpTo
  rw [List.range_succ, List.filter_append, List.map_append]
  congr 1
  by_cases h : keeps d m = true
  · rw [if_pos h, List.filter_cons, if_pos h]; rfl
  · rw [if_neg h, List.filter_cons, if_neg h]; rfl
theorem compact_rises {d : Array (List UInt8)} (hs : ∀ i, i + 1 < d.size → d[i]! ≤ d[i + 1]!) : ∀ m, m ≤ d.size → Rises (compactUpTo d m) ∧ ∀ x ∈ compactUpTo d m, 0 < m ∧ x ≤ d[m - 1]! := by
  intro m
  induction m with
  | zero => intro _; refine ⟨?_, ?_⟩ <;> simp [compactUpTo, Rises]
  | succ m ih =>
    intro hm
    obtain ⟨h1, h2⟩ := ih (by omega)
    rw [compactUpTo_succ]
    have hle : ∀ x ∈ compactUpTo d m, x ≤ d[m]! := fun x hx => by
      obtain ⟨h0, h3⟩ := h2 x hx
      have := hs (m - 1) (by omega)
      rw [show m - 1 + 1 = m by omega] at this
      exact List.le_trans h3 this
    by_cases hk : keeps d m = true
    · rw [if_pos hk]
      refine ⟨?_, ?_⟩
      · unfold Rises at h1 ⊢
        rw [List.pairwise_append]
        refine ⟨h1, by simp, fun x hx y hy => ?_⟩
        rw [List.mem_singleton] at hy
        subst hy
        obtain ⟨h0, h3⟩ := h2 x hx
        have h4 := hs (m - 1) (by omega)
        rw [show m - 1 + 1 = m by omega] at h4
        have hne : d[m]! ≠ d[m - 1]! := by
          unfold keeps at hk
          simp at hk
          rcases hk with hk | hk
          · omega
          · exact hk
        by_cases hlt : x < d[m]!
        · exact hlt
        · have h5 : d[m]! ≤ x := List.not_lt.1 hlt
          exact absurd (List.le_antisymm (List.le_trans h5 h3) h4) hne
      · intro x hx
        rw [List.mem_append, List.mem_singleton] at hx
        refine ⟨by omega, ?_⟩
        rcases hx with hx | rfl
        · exact hle x hx
        · exact List.le_refl _
    · rw [if_neg hk, List.append_nil]
      exact ⟨h1, fun x hx => ⟨by omega, hle x hx⟩⟩
theorem namesL_rises (n : Nd) : Rises (namesL n) := by
  unfold namesL Lib.compact
  obtain ⟨M, hM⟩ : ∃ M, ((namN n).map nmB).mergeSort (fun x y => decide (x ≤ y)) = M := ⟨_, rfl⟩
  have tr : ∀ a b c : List UInt8, decide (a ≤ b) = true → decide (b ≤ c) = true → decide (a ≤ c) = true := fun a b c h1 h2 => by simp only [decide_eq_true_eq] at *; exact List.le_trans h1 h2
  have tot : ∀ a b : List UInt8, (decide (a ≤ b) || decide (b ≤ a)) = true := fun a b => by simp only [Bool.or_eq_true, decide_eq_true_eq]; exact List.le_total a b
  have h1 := List.pairwise_mergeSort tr tot ((namN n).map nmB)
  rw [hM] at h1 ⊢
  refine (compact_rises (d := M.toArray) (fun i hi => ?_) M.length (by simp)).1
  have hi' : i + 1 < M.length := by simpa using hi
  have := List.pairwise_iff_getElem.1 h1 i (i + 1) (by omega) hi' (by omega)
  have h2 : i < M.toArray.size := by simp; omega
  rw [getElem!_pos M.toArray i h2, getElem!_pos M.toArray (i + 1) hi]
  simpa using this
theorem of_namesL (n : Nd) {x : List UInt8} (h : x ∈ namesL n) : ∃ s ∈ namN n, nmB s = x := by
  unfold namesL Lib.compact compactUpTo at h
  obtain ⟨j, hj, rfl⟩ := List.mem_map.1 h
  have hj2 := (List.mem_filter.1 hj).1
  rw [List.mem_range] at hj2
  obtain ⟨M, hM⟩ : ∃ M, ((namN n).map nmB).mergeSort (fun x y => decide (x ≤ y)) = M := ⟨_, rfl⟩
  rw [hM] at hj2 ⊢
  have hj3 : j < M.toArray.size := by simpa using hj2
  rw [getElem!_pos M.toArray j hj3]
  have hm : M[j] ∈ M := List.getElem_mem hj2
  have hp : ∀ x, x ∈ M → x ∈ (namN n).map nmB := fun x hx => by rw [← hM] at hx; exact (List.mergeSort_perm ((namN n).map nmB) _).mem_iff.1 hx
  obtain ⟨s, hs, he⟩ := List.mem_map.1 (hp _ hm)
  exact ⟨s, hs, by rw [he]; simp⟩
end Go.Proofs.YtbephgifbghilaaGreatDoor

/- The law's other: a value of the same kind (seat expr). -/
set_option maxRecDepth 100000
namespace Go.Proofs.YtbephgifbghilaaGreatDoor
open Go.RowKit

theorem wrap64_rng (n : Int) : -9223372036854775808 ≤ wrap64 n ∧ wrap64 n ≤ 9223372036854775807 := by unfold wrap64; omega
def OthC (w : World) (v : Vl) (e : Ending) (w' : World) : Prop := ∃ x : Vl, e = .returned (valV x) ∧ VlW x ∧ x.kind = v.kind ∧ Below w.heap.size w w'
set_option maxHeartbeats 2000000 in
theorem other_any (w : World) (v : Vl) (hv : VlW v) : Calls Tryz.prog 27 #[valV v] w (OthC w v) := by
  obtain ⟨w1, p1, hp1, hw1, l1, n1, b1⟩ := box_new w (objV v)
  have hw1' : w.alloc (.cells #[.int .u8 v.kind, .int .i64 v.num, .bool v.tr, .string v.text] 26) = w1 := hw1
  obtain ⟨c0, c1, c2, c3⟩ := v_cells n1
  have HB := Lib.hid (show ∀ o, Below w.heap.size w (w1.alloc o) from fun o => b1.alloc b1.size o)
  have HV := Lib.hid hv
  have k0 := hv.k0
  have k1 := hv.k1
  have n0 := hv.n0
  have n1' := hv.n1
  clear n1 b1 hw1 hv
  by_cases h1 : v.kind = 1
  · have d1 : (v.kind == 1) = true := beq_iff_eq.2 h1
    have H1 := Lib.hid h1
    clear h1
    go_enter Tryz.func27, Tryz.ntmps27
    go_wp2_with fail
    exact bodyPost_ret (v := valV (numV (wrap64 (wrap64 ((wrap64 (-v.num)).tdiv 2) - 7)))) (by simp [results, Tryz.results27, go_sem, numV]) rfl ⟨_, rfl, VlW.num (wrap64_rng _).1 (wrap64_rng _).2, H1.out.symm, HB.out _⟩
  · have d1 : (v.kind == 1) = false := beq_eq_false_iff_ne.2 h1
    by_cases h2 : v.kind = 2
    · have d2 : (v.kind == 2) = true := beq_iff_eq.2 h2
      have H2 := Lib.hid h2
      clear h1 h2
      go_enter Tryz.func27, Tryz.ntmps27
      go_wp2_with fail
      exact bodyPost_ret (v := valV (trV (!v.tr))) (by simp [results, Tryz.results27, go_sem, trV]) rfl ⟨_, rfl, VlW.tr _, H2.out.symm, HB.out _⟩
    · have d2 : (v.kind == 2) = false := beq_eq_false_iff_ne.2 h2
      clear h1 h2
      go_enter Tryz.func27, Tryz.ntmps27
      go_wp2_with fail
      exact bodyPost_ret (v := valV ⟨v.kind, 0, false, ⟨#[120]⟩⟩) (by simp [results, Tryz.results27, go_sem]) rfl ⟨_, rfl, ⟨k0, k1, by show _ ≤ (0 : Int); omega, by show (0 : Int) ≤ _; omega, by show 1 ≤ _; omega⟩, rfl, HB.out _⟩
end Go.Proofs.YtbephgifbghilaaGreatDoor

/- The law ExprTypes: a type hangs on the variables' kinds alone, and each part of a node that has one has one (the walk). -/
set_option maxRecDepth 100000
namespace Go.Proofs.YtbephgifbghilaaGreatDoor
open Go.RowKit

theorem rises_less10 {rd : List (List UInt8)} {R : List ByteArray} (hR : rd.map toB = R) (h : Rises rd) {m : Nat} (hm : m + 1 < R.length) : Op.bytesLess (R[m]'(by omega)).toList (R[m + 1]).toList = true := by
  subst hR
  have hl : m + 1 < rd.length := by simpa using hm
  have h1 := List.pairwise_iff_getElem.1 h m (m + 1) (by omega) hl (by omega)
  rw [bytesLess_eq, decide_eq_true_eq]
  simpa [toB, Lib.toList_data] using h1
theorem cellBd_one10 (b : Bd) : ∀ u ∈ cellBd b, u.oneCell' = true := by
  intro u hu
  simp only [cellBd, List.mem_cons, List.mem_nil_iff, or_false] at hu
  rcases hu with rfl | rfl | rfl | rfl | rfl <;> rfl
theorem info_bd10 : (Tryz.prog.info? 55).map (fun i => (i.zero, i.size, i.bytes)) = some (some (.agg #[.string ⟨#[]⟩, .int .u8 0, .int .i64 0, .bool false, .string ⟨#[]⟩]), 5, 56) := by kernel_rfl
abbrev RowB (w : World) (base : Nat) (v : Value) (A : List Bd) : Prop := OwnF cellBd 55 5 w base v A
theorem bds_of_own10 {w : World} {base : Nat} {v : Value} {A : List Bd} (h : RowB w base v A) (hl : A.length ≤ 2513169435000) (hw : ∀ b ∈ A, VlW b.val ∧ b.name.size ≤ 140737488355328) : BdsR w w.heap.size v A := by
  obtain ⟨a, cap, rfl⟩ := h.shape
  exact ⟨a, cap, rfl, hl, h.cap, h.col cellBd_len (Nat.le_refl _), hw⟩
/-- Each bind has another's name and kind. -/
def Likes (l l' : List Bd) : Prop := l'.length ≤ l.length ∧ ∀ i (h : i < l'.length) (h2 : i < l.length), l'[i].name = l[i].name ∧ l'[i].val.kind = l[i].val.kind ∧ VlW l'[i].val
theorem Likes.nil (l : List Bd) : Likes l [] := ⟨Nat.zero_le _, fun i h => by simp at h⟩
theorem Likes.snoc {l l' : List Bd} (h : Likes l l') (hk : l'.length < l.length) {x : Vl} (hx : VlW x) (hkind : x.kind = l[l'.length].val.kind) : Likes l (l' ++ [⟨l[l'.length].name, x⟩]) := by
  refine ⟨by simp; omega, fun i hi h2 => ?_⟩
  by_cases e : i < l'.length
  · rw [List.getElem_append_left e]
    exact h.2 i e h2
  · have e2 : i = l'.length := by simp at hi; omega
    subst e2
    simp only [List.getElem_append_right (Nat.le_refl _), Nat.sub_self, List.getElem_cons_zero]
    exact ⟨trivial, hkind, hx⟩
theorem kinds_of : ∀ (l l' : List Bd), l.length = l'.length → Likes l l' → KindsE l l'
  | [], [], _, _ => fun s => rfl
  | [], b :: r, h, _ => by simp at h
  | b :: r, [], h, _ => by simp at h
  | b :: r, b' :: r', h, hk => by
    have h0 := hk.2 0 (by simp) (by simp)
    refine kinds_cons h0.1.symm h0.2.1.symm (kinds_of r r' (by simpa using h) ⟨by simp at h; omega, fun i hi h2 => ?_⟩)
    have := hk.2 (i + 1) (by simpa using hi) (by simpa using h2)
    simpa using this
theorem likes_w {l l' : List Bd} (h : Likes l l') (hw : ∀ b ∈ l, VlW b.val ∧ b.name.size ≤ 140737488355328) : ∀ b ∈ l', VlW b.val ∧ b.name.size ≤ 140737488355328 := by
  intro b hb
  obtain ⟨i, hi, rfl⟩ := List.getElem_of_mem hb
  have h2 : i < l.length := Nat.lt_of_lt_of_le hi h.1
  obtain ⟨e1, _, e3⟩ := h.2 i hi h2
  exact ⟨e3, by rw [e1]; exact (hw _ (List.getElem_mem h2)).2⟩
/-- Does a bind of that name stand there? -/
def someB (l : List Bd) (s : ByteArray) : Bool := l.any fun b => b.name.toList == s.toList
theorem known_some (s : ByteArray) : ∀ l : List Bd, known l s = someB l s
  | [] => rfl
  | b :: r => by
    have := known_some s r
    unfold known someB at this ⊢
    rw [List.any_cons, ← this]
    conv => lhs; unfold findB
    cases hq : (b.name.toList == s.toList) with
    | true => rfl
    | false => rfl
theorem someB_take {l : List Bd} {k : Nat} (h : k < l.length) (s : ByteArray) : someB (l.take (k + 1)) s = (someB (l.take k) s || (l[k].name.toList == s.toList)) := by
  unfold someB
  rw [List.take_add_one, List.getElem?_eq_getElem h, List.any_append]
  simp
theorem typ_is (w : World) (hg : Gx w) (n : Nd) (vk vv : Value) (l : List Bd) (hn : NdR w w.heap.size vk n) (hl : BdsR w w.heap.size vv l) {k x : Int} (h : tyE l n = (k, x)) :
    Calls Tryz.prog 28 #[valN n vk, vv] w fun e w' => e = .returned (.tuple #[.int .u8 k, .int .i64 x]) ∧ Below w.heap.size w w' := by
  have := typ_any w n vk vv l hn hl hg.t8
  rw [h] at this
  exact this
set_option maxHeartbeats 8000000 in
theorem exprTypes_walk (w : World) (hg : Gx w) (n : Nd) (vk : Value) (hn : NdR w w.heap.size vk n) (vv : Value) (l : List Bd) (hl : BdsR w w.heap.size vv l) (hll : l.length ≤ 2513169434900) : Calls Tryz.prog 7 #[valN n vk, vv] w fun e w' => e = .returned (.bool true) ∧ Below w.heap.size w w' := by
  obtain ⟨w0, p0, hp0, hw0, l0, b0, hC0⟩ := nd_boxed w n vk 36
  obtain ⟨va, vc, rfl⟩ := hl.val
  have HG := Lib.hid hg
  have HN := Lib.hid hn
  have HL := Lib.hid hl
  have HC0 := Lib.hid hC0
  have HB0 := Lib.hid b0
  have cur : Below w.heap.size w w0 := b0
  obtain ⟨c0, c1, c2, c3, c4, c5, c6⟩ := hC0 w0 (Below.refl _ _)
  have HAW := Lib.hid (fun (W : World) (h : Below w.heap.size w W) => awake10_any W (hg.up h))
  clear hg hn hC0 b0 hl
  cases hf : fewB n with
  | false =>
    have HF := Lib.hid (few_is w0 n vk (HN.out.to HB0.out) hf)
    clear hf
    go_enter Tryz.func7, Tryz.ntmps7
    go_wp2_with (first
      | (go_at_call 11; refine HF.out.mono ?_; rintro e w2 ⟨rfl, hb⟩; have cur := cur.trans (hb.mono cur.size); clear hb)
      | (go_at_call 10; refine (HAW.out _ cur).mono ?_; rintro e w2 ⟨rfl, hb⟩; have cur := cur.trans (hb.mono cur.size); clear hb))
    go_ret
    exact ⟨rfl, cur⟩
  | true =>
    have HF := Lib.hid (few_is w0 n vk (HN.out.to HB0.out) hf)
    have HFT := Lib.hid hf
    clear hf
    by_cases hs : l.length ≤ 100
    · have d1 : decide ((100 : Int) < (l.length : Int)) = false := decide_eq_false (by omega)
      have d1' : decide (100 < l.length) = false := decide_eq_false (by omega)
      go_enter Tryz.func7, Tryz.ntmps7
      go_wp2_with (first
        | (go_at_call 11; refine HF.out.mono ?_; rintro e w1 ⟨rfl, hb⟩; have HB1 := Lib.hid hb; have cur := cur.trans (hb.mono cur.size); clear hb)
        | (go_at_call 10; refine (HAW.out _ cur).mono ?_; rintro e w2 ⟨rfl, hb⟩; have HB2 := Lib.hid (HB1.out.trans (hb.mono HB1.out.size)); have cur := cur.trans (hb.mono cur.size); clear hb; obtain ⟨c0, c1, c2, c3, c4, c5, c6⟩ := HC0.out _ HB2.out)
        | (go_at_call 12; refine Hid.out ?_))
      refine Lib.hid ?_
      refine (given_is w2 n vk (HN.out.to cur) HFT.out).mono ?_
      rintro e w3 ⟨a, c, d, rfl, hK3, hb3⟩
      obtain ⟨w4, p4, hp4, hw4, l4, b4, hC4⟩ := nd_boxed w3 n (.slice a c d) 29
      have HC4 := Lib.hid hC4
      have HK4 := Lib.hid (hK3.to b4)
      have HB4 := Lib.hid (cur.trans ((hb3.trans (b4.mono hb3.size)).mono cur.size))
      have HL4 := Lib.hid (HL.out.to HB4.out)
      obtain ⟨i0, hti, hz0, hz1, hz2⟩ := info_parts info_bd10
      clear hC4 hb3 b4 hK3 cur c0 c1 c2 c3 c4 c5 c6
      go_wp2_with fail
      go_loopg [6, 7] l.length (fun g s6 s7 wr => ∃ (k : Nat) (v : Value) (L : List Bd), k + g = l.length ∧ v = s6 ∧ s7 = .int .i64 (k : Int) ∧ L.length = k ∧ Hid (RowB wr w4.heap.size v L ∧ Likes l L) ∧ Below w4.heap.size w4 wr)
      case atStart => exact ⟨0, _, [], by omega, rfl, rfl, rfl, Lib.hid ⟨OwnF.nil _ _, Likes.nil _⟩, Below.refl _ _⟩
      case round =>
        obtain ⟨k, v, L, hkg, rfl, rfl, hLk, hI, hB⟩ := hrel
        by_cases hk : k < l.length
        · have u1 : decide ((k : Int) < (l.length : Int)) = true := decide_eq_true (by omega)
          have u1' : decide (k < l.length) = true := decide_eq_true hk
          obtain ⟨b, o, rfl, hb, hvw, hnw, e0, e1, e2, e3, e4⟩ := HL4.out.at hk
          obtain ⟨av, cv, rfl⟩ : ∃ a c, v = .slice a L.length c := OwnF.shape hI.out.1
          obtain ⟨x, hx⟩ : ∃ x, l[k] = x := ⟨_, rfl⟩
          have HLS : Hid (∀ y : Vl, VlW y → y.kind = x.val.kind → Likes l (L ++ [⟨x.name, y⟩])) := Lib.hid (fun y hy hyk => by
            subst hLk
            have := hI.out.2.snoc hk hy (by rw [hx]; exact hyk)
            rw [hx] at this
            exact this)
          rw [hx] at hvw hnw e0 e1 e2 e3 e4
          have HBr := Lib.hid hB
          have HVW := Lib.hid hvw
          have HXC : Hid (∀ V, Below w4.heap.size w4 V → V.cell? ⟨b, o + k * 5, none⟩ = some (.string x.name) ∧ V.cell? ⟨b, o + k * 5 + 1, none⟩ = some (.int .u8 x.val.kind) ∧ V.cell? ⟨b, o + k * 5 + 2, none⟩ = some (.int .i64 x.val.num) ∧ V.cell? ⟨b, o + k * 5 + 3, none⟩ = some (.bool x.val.tr) ∧ V.cell? ⟨b, o + k * 5 + 4, none⟩ = some (.string x.val.text)) := Lib.hid (fun V h => ⟨(Below.cellB h hb).trans e0, (Below.cellB h hb).trans e1, (Below.cellB h hb).trans e2, (Below.cellB h hb).trans e3, (Below.cellB h hb).trans e4⟩)
          have k1 : (0 : Int) ≤ (k : Int) := by omega
          have k2 : (k : Int) < (l.length : Int) := by omega
          have hLz : L.length ≤ 100 := by omega
          have HLK := Lib.hid hLk
          have hzr := hB.size
          clear e0 e1 e2 e3 e4 hx hvw hnw hLk hB
          have curB : Below w4.heap.size w4 wr.drew := HBr.out.drew
          have hrow := OwnF.kept hI.out.1 (Below.refl wr.heap.size wr).drew
          obtain ⟨f0, f1, f2, f3, f4⟩ := HXC.out wr.drew curB
          go_wp2_with fail
          go_region_held3 (fun V => V.cell? ⟨b, o + k * 5, none⟩ = some (.string x.name) ∧ V.cell? ⟨b, o + k * 5 + 1, none⟩ = some (.int .u8 x.val.kind) ∧ V.cell? ⟨b, o + k * 5 + 2, none⟩ = some (.int .i64 x.val.num) ∧ V.cell? ⟨b, o + k * 5 + 3, none⟩ = some (.bool x.val.tr) ∧ V.cell? ⟨b, o + k * 5 + 4, none⟩ = some (.string x.val.text))
            (first | go_keep | exact HXC.out _ curB)
            (first
              | (go_at_call 27; refine (other_any _ x.val HVW.out).mono ?_; rintro e w5 ⟨y, rfl, hyw, hyk, hb5⟩; have HYW := Lib.hid hyw; have HYK := Lib.hid hyk; have curB := curB.trans (hb5.mono curB.size); have hrow := OwnF.kept hrow hb5; have hsz5 := hb5.size; clear hyw hyk hb5)
              | (refine step_append_own _ (by rfl) (.tmp 41) (.tmp 54) 51 (by rfl) w4.heap.size 55 i0 _ 5 56 Tryz.underlying51 hti hz0 hz1 hz2 rfl (by decide) (.slice av L.length cv) L.length (cellsF cellBd L) (by rfl) (OwnF.kept hrow ((Below.refl _ _).alloc (Nat.le_refl _) _)) _ 1 1 (cellBd ⟨x.name, y⟩) (by rfl) rfl (cells_new _ _ _) (cellBd_one10 _) (by unfold maxLen; omega) (by omega) (by have := curB.size; simp; omega) ?_; intro v8 w8 hown8 hg8 hob8; have curB := (curB.alloc curB.size (.cells (cellBd ⟨x.name, y⟩).toArray 55)).grown hg8 (by have := curB.size; simp; omega) (fun j hj => (World.ownsRow.lt hrow j hj).1)))
          all_goals
            have hR8 : RowB w8 w4.heap.size v8 (L ++ [⟨x.name, y⟩]) := by
              show w8.ownsRow _ _ 5 v8 (L ++ [(⟨x.name, y⟩ : Bd)]).length (cellsF cellBd (L ++ [⟨x.name, y⟩]))
              rw [cellsF_app, List.length_append, List.length_singleton]
              exact hown8
            have HI := Lib.hid (And.intro hR8 (HLS.out y HYW.out HYK.out))
            have HB8 := Lib.hid curB
            clear hown8 hg8 hob8 hR8 hrow curB
            go_wp2_with fail
            go_roundg (gk - 1)
            case measure => omega
            case rel => exact ⟨k + 1, _, L ++ [⟨x.name, y⟩], by omega, rfl, by go_num, by rw [List.length_append, HLK.out]; rfl, HI, HB8.out⟩
        · have u1 : decide ((k : Int) < (l.length : Int)) = false := decide_eq_false (by omega)
          have u1' : decide (k < l.length) = false := decide_eq_false hk
          have hLen : L.length = l.length := by have := hI.out.2.1; omega
          have HKE := Lib.hid (tyE_kinds (kinds_of l L hLen.symm hI.out.2) n)
          have hwl : ∀ b ∈ l, VlW b.val ∧ b.name.size ≤ 140737488355328 := by obtain ⟨_, _, _, _, _, _, h⟩ := HL.out; exact h
          have HLW := Lib.hid (bds_of_own10 hI.out.1 (by omega) (likes_w hI.out.2 hwl))
          obtain ⟨K, E, hKE⟩ : ∃ K E, tyE l n = (K, E) := ⟨_, _, rfl⟩
          have HT1 := Lib.hid hKE
          have HT2 : Hid (tyE L n = (K, E)) := Lib.hid (by rw [← HKE.out]; exact hKE)
          have HBr := Lib.hid hB
          have kk : (K != K) = false := by simp
          have ee : (E != E) = false := by simp
          obtain ⟨av, cv, rfl⟩ : ∃ a c, v = .slice a L.length c := OwnF.shape hI.out.1
          obtain ⟨bE, hbE⟩ : ∃ bE, (E == 0) = bE := ⟨_, rfl⟩
          obtain ⟨C, hC⟩ : ∃ C, checkN n = C := ⟨_, rfl⟩
          have hEC : Hid (bE = true → C = true) := Lib.hid (fun h => by
            unfold tyE at hKE
            rw [← hbE, beq_iff_eq] at h
            rw [← hC]
            cases hq : checkN n with
            | true => rfl
            | false => rw [hq] at hKE; injection hKE with _ h2; rw [← h2] at h; cases h)
          have HCK := Lib.hid hC
          obtain ⟨Wb, rfl⟩ : ∃ Wb : World, Wb = wr := ⟨_, rfl⟩
          obtain ⟨c0, c1, c2, c3, c4, c5, c6⟩ := HC4.out Wb hB
          have cur : Below w4.heap.size w4 Wb := hB
          have curW : Below Wb.heap.size Wb Wb := Below.refl _ _
          clear hI hB hwl hKE hC hLk hkg hk hLen
          go_upto_region 11 with (first
            | (have _ := mk1; go_at_call 28; refine (typ_is _ (HG.out.up (HB4.out.trans (cur.mono HB4.out.size))) n _ _ L (HK4.out.to cur) (HLW.out.to curW) HT2.out).mono ?_; rintro e w6 ⟨rfl, hb⟩; have cur := cur.trans (hb.mono cur.size); clear hb; obtain ⟨c0, c1, c2, c3, c4, c5, c6⟩ := HC4.out _ cur)
            | (go_at_call 28; refine (typ_is _ (HG.out.up (HB4.out.trans (cur.mono HB4.out.size))) n _ _ l (HK4.out.to cur) (HL4.out.to cur) HT1.out).mono ?_; rintro e w5 ⟨rfl, hb⟩; have cur := cur.trans (hb.mono cur.size); have curW : Below Wb.heap.size Wb w5 := hb; have mk1 := l4; clear hb; obtain ⟨c0, c1, c2, c3, c4, c5, c6⟩ := HC4.out _ cur))
          go_cut [84] (fun s84 wx => s84 = .bool false ∧ ∃ w7, w7 = wx ∧ Hid (Below w4.heap.size w4 w7))
          case first =>
            cases bE with
            | true =>
              obtain rfl : C = true := hEC.out rfl
              go_wp2_with (go_at_call 14; refine (check_is _ (HG.out.up (HB4.out.trans (cur.mono HB4.out.size))) n _ (HK4.out.to cur) HCK.out).mono ?_; rintro e w7 ⟨rfl, hb⟩; have cur := cur.trans (hb.mono cur.size); clear hb)
              go_meet
              case rel => exact ⟨rfl, _, rfl, Lib.hid cur⟩
            | false =>
              go_wp2_with fail
              go_meet
              case rel => exact ⟨rfl, _, rfl, Lib.hid cur⟩
          case rest =>
            obtain ⟨rfl, w7, rfl, hB7⟩ := hcut
            clear cur curW hbE
            have cur := hB7.out
            obtain ⟨c0, c1, c2, c3, c4, c5, c6⟩ := HC4.out _ cur
            cases C with
            | false =>
              have e1 : (E == 1) = true := by
                have h1 := HT1.out
                unfold tyE at h1
                rw [HCK.out] at h1
                injection h1 with _ h2
                rw [← h2]; rfl
              go_wp2_with (go_at_call 14; refine (check_is _ (HG.out.up (HB4.out.trans (cur.mono HB4.out.size))) n _ (HK4.out.to cur) HCK.out).mono ?_; rintro e w8 ⟨rfl, hb⟩; have cur := cur.trans (hb.mono cur.size); clear hb)
              go_ret
              exact ⟨rfl, HB4.out.trans (cur.mono HB4.out.size)⟩
            | true =>
              have hty : typeN l n = (K, E) := by have h1 := HT1.out; unfold tyE at h1; rw [HCK.out] at h1; exact h1
              obtain ⟨t1, t2, t3⟩ := typeN_all l (SizeOf.sizeOf n) n (Nat.le_refl _) HCK.out
              rw [hty] at t1 t2 t3
              have HTA := Lib.hid (And.intro t1 (And.intro t2 t3))
              have HTY := Lib.hid hty
              have hnl : (namN n).length ≤ 1048576 := by
                have h1 := namN_len (SizeOf.sizeOf n) n (Nat.le_refl _) HCK.out
                have h2 := few_cnt HFT.out
                omega
              clear t1 t2 t3 hty
              go_wp2_with (first
                | (go_at_call 14; refine (check_is _ (HG.out.up (HB4.out.trans (cur.mono HB4.out.size))) n _ (HK4.out.to cur) HCK.out).mono ?_; rintro e w8 ⟨rfl, hb⟩; have cur := cur.trans (hb.mono cur.size); clear hb; obtain ⟨c0, c1, c2, c3, c4, c5, c6⟩ := HC4.out _ cur)
                | (go_at_call 29; refine Hid.out ?_))
              refine Lib.hid ?_
              refine (names_full _ n _ (HK4.out.to cur) HCK.out hnl).mono ?_
              rintro e w9 ⟨v, Ls, rfl, hStr, hLs, hb9⟩
              obtain ⟨R, hR⟩ : ∃ R, Ls.map toB = R := ⟨_, rfl⟩
              rw [hR] at hStr
              have HRI := Lib.hid (show Rises Ls from by rw [hLs]; exact namesL_rises n)
              have HRR := Lib.hid hR
              have HLS := Lib.hid hLs
              obtain ⟨ra, rc, rfl⟩ := hStr.val
              have HST := Lib.hid hStr
              have HB9 := Lib.hid (cur.trans (hb9.mono cur.size))
              have hRl := hStr.len
              clear hR hStr hb9 cur hLs hnl c0 c1 c2 c3 c4 c5 c6
              go_wp2_with fail
              go_loopg [13, 14] R.length (fun g s13 s14 wr => ∃ (i : Nat) (A : Bool), i + g = R.length ∧ s13 = .bool A ∧ s14 = .int .i64 (i : Int) ∧ Hid (A = (R.take i).all (someB l)) ∧ Below w9.heap.size w9 wr)
              case atStart => exact ⟨0, true, by omega, rfl, rfl, Lib.hid (by simp), Below.refl _ _⟩
              case round =>
                obtain ⟨i, A, hig, rfl, rfl, hA, hB⟩ := hrel
                by_cases hi : i < R.length
                · have u1 : decide ((i : Int) < (R.length : Int)) = true := decide_eq_true (by omega)
                  have u1' : decide (i < R.length) = true := decide_eq_true hi
                  obtain ⟨br, or_, rfl, hbr, hcr⟩ := HST.out.col i hi
                  have HSk := Lib.hid (show (R.take (i + 1)).all (someB l) = ((R.take i).all (someB l) && someB l R[i]) from by rw [List.take_add_one, List.getElem?_eq_getElem hi, List.all_append]; simp)
                  have HLT : Hid (∀ m, i = m + 1 → ∃ t', ∃ h : m < R.length, R[m] = t' ∧ Op.bytesLess t'.toList (R[i]).toList = true) := Lib.hid (fun m hm => by
                    subst hm
                    exact ⟨_, by omega, rfl, rises_less10 HRR.out HRI.out hi⟩)
                  obtain ⟨t, ht⟩ : ∃ t, R[i] = t := ⟨_, rfl⟩
                  rw [ht] at hcr HSk HLT
                  have HTC : Hid (∀ V, Below w9.heap.size w9 V → V.cell? ⟨br, or_ + i, none⟩ = some (.string t)) := Lib.hid (fun V h => (Below.cellB h hbr).trans hcr)
                  have HLt := Lib.hid ht
                  obtain ⟨Wc, rfl⟩ : ∃ Wc : World, Wc = wr := ⟨_, rfl⟩
                  have k1 : (0 : Int) ≤ (i : Int) := by omega
                  have k2 : (i : Int) < (R.length : Int) := by omega
                  clear ht hcr
                  go_wp2_with fail
                  go_loopg [15, 16] l.length (fun g s15 s16 wr => ∃ (j : Nat) (B : Bool), j + g = l.length ∧ s15 = .bool B ∧ s16 = .int .i64 (j : Int) ∧ Hid (B = someB (l.take j) t) ∧ Below w9.heap.size w9 wr)
                  case atStart => exact ⟨0, false, by omega, rfl, rfl, Lib.hid rfl, hB⟩
                  case round =>
                    obtain ⟨j, B, hjg, rfl, rfl, hBB, hBj⟩ := hrel
                    by_cases hj : j < l.length
                    · have v1 : decide ((j : Int) < (l.length : Int)) = true := decide_eq_true (by omega)
                      have v1' : decide (j < l.length) = true := decide_eq_true hj
                      obtain ⟨bl, ol, rfl, hbl, _, _, e0, _, _, _, _⟩ := HL4.out.at hj
                      have e0' : wr.cell? ⟨bl, ol + j * 5, none⟩ = some (.string l[j].name) := (Below.cellB (HB9.out.trans (hBj.mono HB9.out.size)) hbl).trans e0
                      have f0 := HTC.out wr hBj
                      have HSj := Lib.hid (someB_take hj t)
                      obtain ⟨q, hq⟩ : ∃ q, l[j].name = q := ⟨_, rfl⟩
                      rw [hq] at e0' HSj
                      have j1 : (0 : Int) ≤ (j : Int) := by omega
                      have j2 : (j : Int) < (l.length : Int) := by omega
                      clear hq e0
                      cases B with
                      | true =>
                        have Hf : Hid (true = someB (l.take (j + 1)) t) := Lib.hid (by rw [HSj.out, ← hBB.out]; rfl)
                        go_wp2_with fail
                        go_quiet (fail)
                        go_wp2_with fail
                        go_roundg (gk - 1)
                        case measure => omega
                        case rel => exact ⟨j + 1, true, by omega, rfl, by go_num, Hf, hBj.trans ((below_drewN' _).mono hBj.size)⟩
                      | false =>
                        cases hqt : (q.toList == t.toList) with
                        | true =>
                          have Hf : Hid (true = someB (l.take (j + 1)) t) := Lib.hid (by rw [HSj.out, ← hBB.out, hqt]; rfl)
                          go_wp2_with fail
                          go_quiet (fail)
                          go_wp2_with fail
                          go_roundg (gk - 1)
                          case measure => omega
                          case rel => exact ⟨j + 1, true, by omega, rfl, by go_num, Hf, hBj.trans ((below_drewN' _).mono hBj.size)⟩
                        | false =>
                          have Hf : Hid (false = someB (l.take (j + 1)) t) := Lib.hid (by rw [HSj.out, ← hBB.out, hqt]; rfl)
                          go_wp2_with fail
                          go_quiet (fail)
                          go_wp2_with fail
                          go_roundg (gk - 1)
                          case measure => omega
                          case rel => exact ⟨j + 1, false, by omega, rfl, by go_num, Hf, hBj.trans ((below_drewN' _).mono hBj.size)⟩
                    · have v1 : decide ((j : Int) < (l.length : Int)) = false := decide_eq_false (by omega)
                      have v1' : decide (j < l.length) = false := decide_eq_false hj
                      have hBf : B = someB l t := by rw [hBB.out, List.take_of_length_le (by omega)]
                      have HA2 : Hid ((A && B) = (R.take (i + 1)).all (someB l)) := Lib.hid (by rw [HSk.out, ← hA.out, hBf])
                      have f0 := HTC.out wr hBj
                      clear hBf hBB hjg
                      by_cases hi0 : i = 0
                      · have z1 : decide ((0 : Int) < (i : Int)) = false := decide_eq_false (by omega)
                        have z2 : decide (0 < i) = false := decide_eq_false (by omega)
                        clear hi0
                        cases A <;> cases B
                        all_goals
                          go_wp2_with fail
                          go_quiet (fail)
                          go_wp2_with fail
                          go_roundg (R.length - (i + 1))
                          case measure => omega
                          case rel => exact ⟨i + 1, _, by omega, rfl, by go_num, HA2, hBj.trans ((below_drewN' _).mono hBj.size)⟩
                      · obtain ⟨m, him⟩ : ∃ m, i = m + 1 := ⟨i - 1, by omega⟩
                        obtain ⟨t', hmR, ht', hbl⟩ := HLT.out m him
                        obtain ⟨b', o', hab', hb', cm⟩ := (HST.out.mono hBj (Nat.le_refl _)).col m hmR
                        cases hab'
                        rw [ht'] at cm
                        have hz0 : (0 : Int) < (i : Int) := by omega
                        have hz6 : decide (0 < i) = true := decide_eq_true (by omega)
                        have hz7 : decide ((0 : Int) < (i : Int)) = true := decide_eq_true hz0
                        have hz8 : 0 < i := by omega
                        have hz1 : (0 : Int) ≤ (i : Int) - 1 := by omega
                        have hz2 : (i : Int) - 1 < (R.length : Int) := by omega
                        have hz4 : 1 ≤ (i : Int) := by omega
                        have HZ3 := Lib.hid (show ((i : Int) - 1).toNat = m by omega)
                        have HZ5 := Lib.hid (show IntKind.i64.wrap ((i : Int) - 1) = (i : Int) - 1 from IntWalk.i64_in _ (by omega))
                        clear ht' him hi0
                        cases A <;> cases B
                        all_goals
                          have hz3 := HZ3.out
                          have hz5 := HZ5.out
                          go_wp2_with fail
                          go_quiet (fail)
                          clear hz5 hz3
                          go_wp2_with fail
                          go_roundg (R.length - (i + 1))
                          case measure => omega
                          case rel => exact ⟨i + 1, _, by omega, rfl, by go_num, HA2, hBj.trans ((below_drewN' _).mono hBj.size)⟩
                · have u1 : decide ((i : Int) < (R.length : Int)) = false := decide_eq_false (by omega)
                  have u1' : decide (i < R.length) = false := decide_eq_false hi
                  have hAll : A = R.all (someB l) := by rw [hA.out, List.take_of_length_le (by omega)]
                  have hA1 : A = true → E ≠ 100 := fun h => HTA.out.2.2 (fun s hs => by
                    rw [known_some]
                    rw [hAll, List.all_eq_true] at h
                    refine h s ?_
                    rw [← HRR.out, HLS.out]
                    refine List.mem_map.2 ⟨nmB s, mem_namesL n hs, ?_⟩
                    exact nmB_inj (by simp [toB, nmB]))
                  have hA0 : E = 0 → A = true := fun h => by
                    rw [hAll, List.all_eq_true]
                    intro x hx
                    rw [← HRR.out, HLS.out] at hx
                    obtain ⟨y, hy, rfl⟩ := List.mem_map.1 hx
                    obtain ⟨s, hs, rfl⟩ := of_namesL n hy
                    have e : toB (nmB s) = s := nmB_inj (by simp [toB, nmB])
                    rw [e, ← known_some]
                    exact HTA.out.2.1 h s hs
                  have hE3 := HTA.out.1
                  have HAE := Lib.hid (And.intro hA1 hA0)
                  have HE3 := Lib.hid hE3
                  obtain ⟨Wd, rfl⟩ : ∃ Wd : World, Wd = wr := ⟨_, rfl⟩
                  clear hA1 hA0 hE3 hAll hA
                  go_upto_region 28 with fail
                  go_cut [155] (fun s155 wx => s155 = .bool false ∧ Wd = wx)
                  case first =>
                    obtain ⟨h1, h2⟩ := HAE.out
                    rcases HE3.out with rfl | rfl | rfl
                    · obtain rfl : A = true := h2 rfl
                      clear h1 h2
                      go_wp2_with fail
                      go_meet
                      case rel => exact ⟨rfl, rfl⟩
                    · clear h1 h2
                      cases A <;> (go_wp2_with fail; go_meet; case rel => exact ⟨rfl, rfl⟩)
                    · cases A with
                      | true => exact absurd rfl (h1 rfl)
                      | false =>
                        clear h1 h2
                        go_wp2_with fail
                        go_meet
                        case rel => exact ⟨rfl, rfl⟩
                  case rest =>
                    obtain ⟨rfl, rfl⟩ := hcut
                    have hBd : Below w4.heap.size w4 Wd := HB9.out.trans (hB.mono HB9.out.size)
                    obtain ⟨ka, kc, hke⟩ := HK4.out.2.val
                    injection hke with hka hkc hkd
                    subst hka hkd
                    have HKC := Lib.hid hkc
                    have hcl : c ≤ 1000 := by have h1 := few_cnt HFT.out; have h2 := cnt_len n.kids; have h3 := cntN_is n; omega
                    obtain ⟨c0, c1, c2, c3, c4, c5, c6⟩ := HC4.out Wd hBd
                    clear hkc hB
                    by_cases hE : E = 0
                    · subst hE
                      go_wp2_with fail
                      go_loopg [17] c (fun g s17 wr => ∃ i : Nat, i + g = c ∧ s17 = .int .i64 (i : Int) ∧ Below w4.heap.size w4 wr)
                      case atStart => exact ⟨0, by omega, rfl, hBd⟩
                      case round =>
                        obtain ⟨i, hig, rfl, hB⟩ := hrel
                        obtain ⟨c0, c1, c2, c3, c4, c5, c6⟩ := HC4.out wr hB
                        by_cases hi : i < c
                        · have u1 : decide ((i : Int) < (c : Int)) = true := decide_eq_true (by omega)
                          have u1' : decide (i < c) = true := decide_eq_true hi
                          have hin : i < n.kids.length := by have := HKC.out; omega
                          obtain ⟨bk, ok, vx, rfl, hbk, hwx, hkx, e0, e1, e2, e3, e4, e5, e6⟩ := HK4.out.2.at hin
                          obtain ⟨q1, q2⟩ := typeN_kid HCK.out (by rw [HTY.out]) n.kids[i] (List.getElem_mem hin)
                          obtain ⟨x, hx⟩ : ∃ x, n.kids[i] = x := ⟨_, rfl⟩
                          rw [hx] at hwx hkx e0 e1 e2 e3 e4 e5 q1 q2
                          obtain ⟨tk, htk⟩ : ∃ tk, (typeN l x).1 = tk := ⟨_, rfl⟩
                          have HTK : Hid (tyE l x = (tk, 0)) := Lib.hid (by unfold tyE; rw [q1, if_pos rfl, ← htk, ← q2])
                          have e0 := (Below.cellB hB hbk).trans e0
                          have e1 := (Below.cellB hB hbk).trans e1
                          have e2 := (Below.cellB hB hbk).trans e2
                          have e3 := (Below.cellB hB hbk).trans e3
                          have e4 := (Below.cellB hB hbk).trans e4
                          have e5 := (Below.cellB hB hbk).trans e5
                          have e6 := (Below.cellB hB hbk).trans e6
                          have k1 : (0 : Int) ≤ (i : Int) := by omega
                          have k2 : (i : Int) < (c : Int) := by omega
                          have HBx := Lib.hid hB
                          have HNX := Lib.hid (NdR.to (w := w4) ⟨hwx, hkx⟩ hB)
                          obtain ⟨ax, cx, rfl⟩ := hkx.val
                          clear hx hwx hkx q1 q2 htk hin hB
                          go_wp2_with (go_at_call 28; refine (typ_is _ (HG.out.up (HB4.out.trans (HBx.out.mono HB4.out.size))) x _ _ l HNX.out (HL4.out.to HBx.out) HTK.out).mono ?_; rintro e we ⟨rfl, hb⟩; have HBe := Lib.hid (HBx.out.trans (hb.mono HBx.out.size)); clear hb)
                          go_roundg (gk - 1)
                          case measure => omega
                          case rel => exact ⟨i + 1, by omega, by go_num, HBe.out⟩
                        · have u1 : decide ((i : Int) < (c : Int)) = false := decide_eq_false (by omega)
                          have u1' : decide (i < c) = false := decide_eq_false hi
                          go_wp2_with fail
                          go_ret
                          exact ⟨rfl, HB4.out.trans (hB.mono HB4.out.size)⟩
                    · have e1 : (E == 0) = false := beq_eq_false_iff_ne.2 hE
                      clear hE
                      go_wp2_with fail
                      go_loopg [17] 0 (fun _ s17 wr => s17 = .int .i64 0 ∧ Wd = wr)
                      case atStart => exact ⟨rfl, rfl⟩
                      case round =>
                        obtain ⟨rfl, rfl⟩ := hrel
                        by_cases h0 : 0 < c
                        · have u1 : decide ((0 : Int) < (c : Int)) = true := decide_eq_true (by omega)
                          have u1' : decide (0 < c) = true := decide_eq_true h0
                          go_wp2_with fail
                          go_ret
                          exact ⟨rfl, HB4.out.trans (hBd.mono HB4.out.size)⟩
                        · have u1 : decide ((0 : Int) < (c : Int)) = false := decide_eq_false (by omega)
                          have u1' : decide (0 < c) = false := decide_eq_false h0
                          go_wp2_with fail
                          go_ret
                          exact ⟨rfl, HB4.out.trans (hBd.mono HB4.out.size)⟩
    · have d1 : decide ((100 : Int) < (l.length : Int)) = true := decide_eq_true (by omega)
      have d1' : decide (100 < l.length) = true := decide_eq_true (by omega)
      go_enter Tryz.func7, Tryz.ntmps7
      go_wp2_with (first
        | (go_at_call 11; refine HF.out.mono ?_; rintro e w2 ⟨rfl, hb⟩; have cur := cur.trans (hb.mono cur.size); clear hb)
        | (go_at_call 10; refine (HAW.out _ cur).mono ?_; rintro e w2 ⟨rfl, hb⟩; have cur := cur.trans (hb.mono cur.size); clear hb))
      go_ret
      exact ⟨rfl, cur⟩
end Go.Proofs.YtbephgifbghilaaGreatDoor
