/- Texts fused by fuse.py: KRuleFirst. -/
import Derived.Test.YtjcaaahbfkjipaaGreatDoorKZ09
import Derived.Test.YtjcaaahbfkjipaaGreatDoorKZ10
import Derived.Test.YtjcaaahbfkjipaaGreatDoorKZ04
/- Of RuleFirst: what FRuleNames uses (shake.py). -/
set_option maxRecDepth 100000
/- slices.IndexFunc, slices.ContainsFunc and rule.first over elements, flows, binds and texts (printed by wip/gen_rulefirst.py). -/
namespace Go.Proofs.YtjcaaahbfkjipaaGreatDoor
open Go.RowKit
abbrev StsR := RowsW (fun s : ByteArray => [Value.string s]) 1 10000000000000 (fun s => s.size ≤ 140737488355328)
theorem stsR_at {w : World} {B : Nat} {a : Option Addr} {n cap : Nat} {l : List ByteArray} (h : StsR w B (.slice a n cap) l) {i : Nat} (hi : i < l.length) : ∃ b o, a = some ⟨b, o, none⟩ ∧ b < B ∧ l[i].size ≤ 140737488355328 ∧ w.cell? ⟨b, o + i, none⟩ = some (.string l[i]) := by
  obtain ⟨b, o, e, hlt, h2⟩ := h.col i hi
  have h3 := h2 0 (by omega)
  rw [Nat.mul_one, Nat.add_zero] at h3
  exact ⟨b, o, e, hlt, h.ok _ (List.getElem_mem hi), h3⟩
theorem BdsR.len' {w : World} {B : Nat} {v : Value} {l : List Bd} (h : BdsR w B v l) : l.length ≤ 2513169435000 := by
  obtain ⟨a, cap, _, hl, _⟩ := h
  exact hl
/-- What a slices.IndexFunc answers: the first that is not right. -/
def idxZ (o : Option Nat) : Int := match o with
  | some k => (k : Int)
  | none => -1
theorem idxZ_none {p : Nat → Bool} {n : Nat} (h : ∀ j, j < n → p j = true) : idxZ (fstBad p n) = -1 := by rw [fstBad_none h]; rfl
theorem idxZ_some {p : Nat → Bool} {n k : Nat} (hk : k < n) (h : ∀ j, j < k → p j = true) (hp : p k = false) : idxZ (fstBad p n) = (k : Int) := by rw [fstBad_some hk h hp]; rfl
theorem any_idx {n : Nat} (q : Nat → Bool) : decide (0 ≤ idxZ (fstBad (fun i => !q i) n)) = (List.range n).any q := by
  cases h : (List.range n).any q with
  | false =>
    rw [idxZ_none (fun j hj => by have := (List.any_eq_false.1 h) j (List.mem_range.2 hj); simpa using this)]
    rfl
  | true =>
    obtain ⟨x, hx, hq⟩ := List.any_eq_true.1 h
    cases hf : fstBad (fun i => !q i) n with
    | some k => simp [idxZ]
    | none =>
      exfalso
      unfold fstBad at hf
      have := List.find?_eq_none.1 hf x hx
      simp [hq] at this
theorem any_range {α : Type} [Inhabited α] (q : α → Bool) (l : List α) : (List.range l.length).any (fun i => q (l.getD i default)) = l.any q := by
  cases h : l.any q with
  | false =>
    rw [List.any_eq_false]
    intro x hx
    have hx := List.mem_range.1 hx
    have := List.any_eq_false.1 h l[x] (List.getElem_mem hx)
    simpa [hx] using this
  | true =>
    obtain ⟨x, hx, hq⟩ := List.any_eq_true.1 h
    obtain ⟨i, hi, rfl⟩ := List.getElem_of_mem hx
    exact List.any_eq_true.2 ⟨i, List.mem_range.2 hi, by simpa [hi] using hq⟩
section
variable {base : Nat} {w : World} {row : Option Nat}
/-- What stays behind calls that touch one block of the call's own at most. -/
theorem below_row {W : World} (hrow : ∀ r, row = some r → base ≤ r) (hbw : base ≤ w.heap.size) (hg : w.grownBy W row) : Below base w W := (Below.refl base w).grown hg hbw hrow
set_option maxHeartbeats 2000000 in
theorem idxEl (hbw : base ≤ w.heap.size) (hrow : ∀ r, row = some r → base ≤ r) (v : Value) (l : List El) (h : ElsR w base v l) (fid : Nat) (caps : Array Value) (J : Nat → World → Prop) (p : Nat → Bool)
    (hrun : ∀ (args : Array Value) (W : World), (callFunc fid args).run Tryz.prog W = .ok (.enter fid args) W) (h0 : J 0 w)
    (hf : ∀ i (hi : i < l.length) (W : World), w.grownBy W row → J i W → (∀ j, j < i → p j = true) → Calls Tryz.prog fid (#[valEl l[i]] ++ caps) W fun e w' => e = .returned (.bool (!p i)) ∧ W.grownBy w' row ∧ (p i = true → J (i + 1) w')) :
    Calls Tryz.prog 51 #[v, .func (.func fid) #[] caps] w fun e w' => e = .returned (.int .i64 (idxZ (fstBad p l.length))) ∧ w.grownBy w' row ∧ ((∀ j, j < l.length → p j = true) → J l.length w') := by
  have hll := h.len
  obtain ⟨a, c, rfl⟩ := h.val
  have HA := Lib.hid h
  have HF := Lib.hid hf
  have H0 := Lib.hid h0
  have HR := Lib.hid hrow
  have HW := Lib.hid hbw
  clear hf h h0 hrow hbw
  go_enter Tryz.func51, Tryz.ntmps51
  go_wp2_with fail
  go_loopg [8] l.length (fun g s8 wr => ∃ k : Nat, k + g = l.length ∧ s8 = .int .i64 (k : Int) ∧ Hid (∀ j, j < k → p j = true) ∧ Hid (J k wr) ∧ Hid (w.grownBy wr row))
  case atStart => exact ⟨0, by omega, rfl, Lib.hid (fun j hj => by omega), H0, Lib.hid ⟨rfl, rfl, rfl, Nat.le_refl _, fun _ _ _ => rfl⟩⟩
  case round =>
    obtain ⟨k, hkg, rfl, hI, hJ, hG⟩ := hrel
    by_cases hk : k < l.length
    · have hcall := Lib.hid (HF.out k hk wr hG.out hJ.out hI.out)
      have hB := Lib.hid (below_row HR.out HW.out hG.out)
      obtain ⟨b, o, rfl, hb, hw, h0, h1, h2, h3, h4, h5, h6, h7, h8, h9, h10⟩ := elsR_at (HA.out.mono hB.out (Nat.le_refl _)) hk
      obtain ⟨x, hx⟩ : ∃ x, l[k] = x := ⟨_, rfl⟩
      rw [hx] at hcall
      simp only [hx] at h0 h1 h2 h3 h4 h5 h6 h7 h8 h9 h10
      have dk : decide (k < l.length) = true := decide_eq_true hk
      have k1 : (0 : Int) ≤ (k : Int) := by omega
      have k2 : (k : Int) < (l.length : Int) := by omega
      clear hx hw
      cases hp : p k with
      | false =>
        have Hf : Hid (idxZ (fstBad p l.length) = (k : Int)) := Lib.hid (idxZ_some hk hI.out hp)
        have Hn : Hid (¬ ∀ j, j < l.length → p j = true) := Lib.hid (fun hh => by have := hh k hk; rw [hp] at this; cases this)
        rw [hp] at hcall
        clear hp
        go_wp2_with fail
        refine hcall.out.mono ?_
        rintro e w2 ⟨rfl, hb2, _⟩
        have HB2 := Lib.hid (hG.out.trans hb2)
        clear hb2
        go_wp2_with fail
        go_ret
        exact ⟨ret_int Hf.out.symm, HB2.out, fun hh => absurd hh Hn.out⟩
      | true =>
        have Hp := Lib.hid hp
        rw [hp] at hcall
        clear hp
        go_wp2_with fail
        refine hcall.out.mono ?_
        rintro e w2 ⟨rfl, hb2, hj2⟩
        have HB2 := Lib.hid (hG.out.trans hb2)
        have HJ2 := Lib.hid (hj2 trivial)
        clear hb2 hj2
        go_wp2_with fail
        go_roundg (gk - 1)
        case measure => omega
        case rel => exact ⟨k + 1, by omega, by go_num, Lib.hid (fun j hj => by
            rcases Nat.lt_succ_iff_lt_or_eq.1 hj with h3 | rfl
            · exact hI.out j h3
            · exact Hp.out), HJ2, HB2⟩
    · obtain rfl : k = l.length := by omega
      have Hf : Hid (idxZ (fstBad p l.length) = -1) := Lib.hid (idxZ_none hI.out)
      have dk : decide (l.length < l.length) = false := decide_eq_false hk
      go_wp2_with fail
      go_ret
      exact ⟨ret_int Hf.out.symm, hG.out, fun _ => hJ.out⟩
set_option maxHeartbeats 2000000 in
theorem idxFl (hbw : base ≤ w.heap.size) (hrow : ∀ r, row = some r → base ≤ r) (v : Value) (l : List Fl) (h : FlsR w base v l) (fid : Nat) (caps : Array Value) (J : Nat → World → Prop) (p : Nat → Bool)
    (hrun : ∀ (args : Array Value) (W : World), (callFunc fid args).run Tryz.prog W = .ok (.enter fid args) W) (h0 : J 0 w)
    (hf : ∀ i (hi : i < l.length) (W : World), w.grownBy W row → J i W → (∀ j, j < i → p j = true) → Calls Tryz.prog fid (#[valFl l[i]] ++ caps) W fun e w' => e = .returned (.bool (!p i)) ∧ W.grownBy w' row ∧ (p i = true → J (i + 1) w')) :
    Calls Tryz.prog 110 #[v, .func (.func fid) #[] caps] w fun e w' => e = .returned (.int .i64 (idxZ (fstBad p l.length))) ∧ w.grownBy w' row ∧ ((∀ j, j < l.length → p j = true) → J l.length w') := by
  have hll := h.len
  obtain ⟨a, c, rfl⟩ := h.val
  have HA := Lib.hid h
  have HF := Lib.hid hf
  have H0 := Lib.hid h0
  have HR := Lib.hid hrow
  have HW := Lib.hid hbw
  clear hf h h0 hrow hbw
  go_enter Tryz.func110, Tryz.ntmps110
  go_wp2_with fail
  go_loopg [8] l.length (fun g s8 wr => ∃ k : Nat, k + g = l.length ∧ s8 = .int .i64 (k : Int) ∧ Hid (∀ j, j < k → p j = true) ∧ Hid (J k wr) ∧ Hid (w.grownBy wr row))
  case atStart => exact ⟨0, by omega, rfl, Lib.hid (fun j hj => by omega), H0, Lib.hid ⟨rfl, rfl, rfl, Nat.le_refl _, fun _ _ _ => rfl⟩⟩
  case round =>
    obtain ⟨k, hkg, rfl, hI, hJ, hG⟩ := hrel
    by_cases hk : k < l.length
    · have hcall := Lib.hid (HF.out k hk wr hG.out hJ.out hI.out)
      have hB := Lib.hid (below_row HR.out HW.out hG.out)
      obtain ⟨b, o, rfl, hb, hw, h0, h1, h2, h3⟩ := flsR_at (HA.out.mono hB.out (Nat.le_refl _)) hk
      obtain ⟨x, hx⟩ : ∃ x, l[k] = x := ⟨_, rfl⟩
      rw [hx] at hcall
      simp only [hx] at h0 h1 h2 h3
      have dk : decide (k < l.length) = true := decide_eq_true hk
      have k1 : (0 : Int) ≤ (k : Int) := by omega
      have k2 : (k : Int) < (l.length : Int) := by omega
      clear hx hw
      cases hp : p k with
      | false =>
        have Hf : Hid (idxZ (fstBad p l.length) = (k : Int)) := Lib.hid (idxZ_some hk hI.out hp)
        have Hn : Hid (¬ ∀ j, j < l.length → p j = true) := Lib.hid (fun hh => by have := hh k hk; rw [hp] at this; cases this)
        rw [hp] at hcall
        clear hp
        go_wp2_with fail
        refine hcall.out.mono ?_
        rintro e w2 ⟨rfl, hb2, _⟩
        have HB2 := Lib.hid (hG.out.trans hb2)
        clear hb2
        go_wp2_with fail
        go_ret
        exact ⟨ret_int Hf.out.symm, HB2.out, fun hh => absurd hh Hn.out⟩
      | true =>
        have Hp := Lib.hid hp
        rw [hp] at hcall
        clear hp
        go_wp2_with fail
        refine hcall.out.mono ?_
        rintro e w2 ⟨rfl, hb2, hj2⟩
        have HB2 := Lib.hid (hG.out.trans hb2)
        have HJ2 := Lib.hid (hj2 trivial)
        clear hb2 hj2
        go_wp2_with fail
        go_roundg (gk - 1)
        case measure => omega
        case rel => exact ⟨k + 1, by omega, by go_num, Lib.hid (fun j hj => by
            rcases Nat.lt_succ_iff_lt_or_eq.1 hj with h3 | rfl
            · exact hI.out j h3
            · exact Hp.out), HJ2, HB2⟩
    · obtain rfl : k = l.length := by omega
      have Hf : Hid (idxZ (fstBad p l.length) = -1) := Lib.hid (idxZ_none hI.out)
      have dk : decide (l.length < l.length) = false := decide_eq_false hk
      go_wp2_with fail
      go_ret
      exact ⟨ret_int Hf.out.symm, hG.out, fun _ => hJ.out⟩
set_option maxHeartbeats 2000000 in
theorem idxBd (hbw : base ≤ w.heap.size) (hrow : ∀ r, row = some r → base ≤ r) (v : Value) (l : List Bd) (h : BdsR w base v l) (fid : Nat) (caps : Array Value) (J : Nat → World → Prop) (p : Nat → Bool)
    (hrun : ∀ (args : Array Value) (W : World), (callFunc fid args).run Tryz.prog W = .ok (.enter fid args) W) (h0 : J 0 w)
    (hf : ∀ i (hi : i < l.length) (W : World), w.grownBy W row → J i W → (∀ j, j < i → p j = true) → Calls Tryz.prog fid (#[valBd l[i]] ++ caps) W fun e w' => e = .returned (.bool (!p i)) ∧ W.grownBy w' row ∧ (p i = true → J (i + 1) w')) :
    Calls Tryz.prog 104 #[v, .func (.func fid) #[] caps] w fun e w' => e = .returned (.int .i64 (idxZ (fstBad p l.length))) ∧ w.grownBy w' row ∧ ((∀ j, j < l.length → p j = true) → J l.length w') := by
  have hll := h.len'
  obtain ⟨a, c, rfl⟩ := h.val
  have HA := Lib.hid h
  have HF := Lib.hid hf
  have H0 := Lib.hid h0
  have HR := Lib.hid hrow
  have HW := Lib.hid hbw
  clear hf h h0 hrow hbw
  go_enter Tryz.func104, Tryz.ntmps104
  go_wp2_with fail
  go_loopg [8] l.length (fun g s8 wr => ∃ k : Nat, k + g = l.length ∧ s8 = .int .i64 (k : Int) ∧ Hid (∀ j, j < k → p j = true) ∧ Hid (J k wr) ∧ Hid (w.grownBy wr row))
  case atStart => exact ⟨0, by omega, rfl, Lib.hid (fun j hj => by omega), H0, Lib.hid ⟨rfl, rfl, rfl, Nat.le_refl _, fun _ _ _ => rfl⟩⟩
  case round =>
    obtain ⟨k, hkg, rfl, hI, hJ, hG⟩ := hrel
    by_cases hk : k < l.length
    · have hcall := Lib.hid (HF.out k hk wr hG.out hJ.out hI.out)
      have hB := Lib.hid (below_row HR.out HW.out hG.out)
      obtain ⟨b, o, rfl, hb, hw, hw2, h0, h1, h2, h3, h4⟩ := BdsR.at (HA.out.mono hB.out (Nat.le_refl _)) hk
      obtain ⟨x, hx⟩ : ∃ x, l[k] = x := ⟨_, rfl⟩
      rw [hx] at hcall
      simp only [hx] at h0 h1 h2 h3 h4
      have dk : decide (k < l.length) = true := decide_eq_true hk
      have k1 : (0 : Int) ≤ (k : Int) := by omega
      have k2 : (k : Int) < (l.length : Int) := by omega
      clear hx hw hw2
      cases hp : p k with
      | false =>
        have Hf : Hid (idxZ (fstBad p l.length) = (k : Int)) := Lib.hid (idxZ_some hk hI.out hp)
        have Hn : Hid (¬ ∀ j, j < l.length → p j = true) := Lib.hid (fun hh => by have := hh k hk; rw [hp] at this; cases this)
        rw [hp] at hcall
        clear hp
        go_wp2_with fail
        refine hcall.out.mono ?_
        rintro e w2 ⟨rfl, hb2, _⟩
        have HB2 := Lib.hid (hG.out.trans hb2)
        clear hb2
        go_wp2_with fail
        go_ret
        exact ⟨ret_int Hf.out.symm, HB2.out, fun hh => absurd hh Hn.out⟩
      | true =>
        have Hp := Lib.hid hp
        rw [hp] at hcall
        clear hp
        go_wp2_with fail
        refine hcall.out.mono ?_
        rintro e w2 ⟨rfl, hb2, hj2⟩
        have HB2 := Lib.hid (hG.out.trans hb2)
        have HJ2 := Lib.hid (hj2 trivial)
        clear hb2 hj2
        go_wp2_with fail
        go_roundg (gk - 1)
        case measure => omega
        case rel => exact ⟨k + 1, by omega, by go_num, Lib.hid (fun j hj => by
            rcases Nat.lt_succ_iff_lt_or_eq.1 hj with h3 | rfl
            · exact hI.out j h3
            · exact Hp.out), HJ2, HB2⟩
    · obtain rfl : k = l.length := by omega
      have Hf : Hid (idxZ (fstBad p l.length) = -1) := Lib.hid (idxZ_none hI.out)
      have dk : decide (l.length < l.length) = false := decide_eq_false hk
      go_wp2_with fail
      go_ret
      exact ⟨ret_int Hf.out.symm, hG.out, fun _ => hJ.out⟩
set_option maxHeartbeats 2000000 in
theorem idxSt (hbw : base ≤ w.heap.size) (hrow : ∀ r, row = some r → base ≤ r) (v : Value) (l : List ByteArray) (h : StsR w base v l) (fid : Nat) (caps : Array Value) (J : Nat → World → Prop) (p : Nat → Bool)
    (hrun : ∀ (args : Array Value) (W : World), (callFunc fid args).run Tryz.prog W = .ok (.enter fid args) W) (h0 : J 0 w)
    (hf : ∀ i (hi : i < l.length) (W : World), w.grownBy W row → J i W → (∀ j, j < i → p j = true) → Calls Tryz.prog fid (#[.string l[i]] ++ caps) W fun e w' => e = .returned (.bool (!p i)) ∧ W.grownBy w' row ∧ (p i = true → J (i + 1) w')) :
    Calls Tryz.prog 113 #[v, .func (.func fid) #[] caps] w fun e w' => e = .returned (.int .i64 (idxZ (fstBad p l.length))) ∧ w.grownBy w' row ∧ ((∀ j, j < l.length → p j = true) → J l.length w') := by
  have hll := h.len
  obtain ⟨a, c, rfl⟩ := h.val
  have HA := Lib.hid h
  have HF := Lib.hid hf
  have H0 := Lib.hid h0
  have HR := Lib.hid hrow
  have HW := Lib.hid hbw
  clear hf h h0 hrow hbw
  go_enter Tryz.func113, Tryz.ntmps113
  go_wp2_with fail
  go_loopg [8] l.length (fun g s8 wr => ∃ k : Nat, k + g = l.length ∧ s8 = .int .i64 (k : Int) ∧ Hid (∀ j, j < k → p j = true) ∧ Hid (J k wr) ∧ Hid (w.grownBy wr row))
  case atStart => exact ⟨0, by omega, rfl, Lib.hid (fun j hj => by omega), H0, Lib.hid ⟨rfl, rfl, rfl, Nat.le_refl _, fun _ _ _ => rfl⟩⟩
  case round =>
    obtain ⟨k, hkg, rfl, hI, hJ, hG⟩ := hrel
    by_cases hk : k < l.length
    · have hcall := Lib.hid (HF.out k hk wr hG.out hJ.out hI.out)
      have hB := Lib.hid (below_row HR.out HW.out hG.out)
      obtain ⟨b, o, rfl, hb, hw, h0⟩ := stsR_at (HA.out.mono hB.out (Nat.le_refl _)) hk
      obtain ⟨x, hx⟩ : ∃ x, l[k] = x := ⟨_, rfl⟩
      rw [hx] at hcall
      simp only [hx] at h0
      have dk : decide (k < l.length) = true := decide_eq_true hk
      have k1 : (0 : Int) ≤ (k : Int) := by omega
      have k2 : (k : Int) < (l.length : Int) := by omega
      clear hx hw
      cases hp : p k with
      | false =>
        have Hf : Hid (idxZ (fstBad p l.length) = (k : Int)) := Lib.hid (idxZ_some hk hI.out hp)
        have Hn : Hid (¬ ∀ j, j < l.length → p j = true) := Lib.hid (fun hh => by have := hh k hk; rw [hp] at this; cases this)
        rw [hp] at hcall
        clear hp
        go_wp2_with fail
        refine hcall.out.mono ?_
        rintro e w2 ⟨rfl, hb2, _⟩
        have HB2 := Lib.hid (hG.out.trans hb2)
        clear hb2
        go_wp2_with fail
        go_ret
        exact ⟨ret_int Hf.out.symm, HB2.out, fun hh => absurd hh Hn.out⟩
      | true =>
        have Hp := Lib.hid hp
        rw [hp] at hcall
        clear hp
        go_wp2_with fail
        refine hcall.out.mono ?_
        rintro e w2 ⟨rfl, hb2, hj2⟩
        have HB2 := Lib.hid (hG.out.trans hb2)
        have HJ2 := Lib.hid (hj2 trivial)
        clear hb2 hj2
        go_wp2_with fail
        go_roundg (gk - 1)
        case measure => omega
        case rel => exact ⟨k + 1, by omega, by go_num, Lib.hid (fun j hj => by
            rcases Nat.lt_succ_iff_lt_or_eq.1 hj with h3 | rfl
            · exact hI.out j h3
            · exact Hp.out), HJ2, HB2⟩
    · obtain rfl : k = l.length := by omega
      have Hf : Hid (idxZ (fstBad p l.length) = -1) := Lib.hid (idxZ_none hI.out)
      have dk : decide (l.length < l.length) = false := decide_eq_false hk
      go_wp2_with fail
      go_ret
      exact ⟨ret_int Hf.out.symm, hG.out, fun _ => hJ.out⟩
end
end Go.Proofs.YtjcaaahbfkjipaaGreatDoor
