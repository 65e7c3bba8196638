/- Of EvalFind: what XFAs uses (shake.py). -/
import Derived.Test.YtbephgifbghilaaGreatDoorKEvalNum
/- value.Find. -/
set_option maxRecDepth 100000
namespace Go.Proofs.YtbephgifbghilaaGreatDoor
open Go.RowKit
def idxL {α : Type} (p : α → Bool) : List α → Int → Int
  | [], _ => -1
  | x :: r, k => if p x then k else idxL p r (k + 1)
theorem idxL_drop {α : Type} {p : α → Bool} {l : List α} {k : Nat} (h : k < l.length) : idxL p (l.drop k) (k : Int) = if p l[k] then (k : Int) else idxL p (l.drop (k + 1)) ((k + 1 : Nat) : Int) := by
  rw [List.drop_eq_getElem_cons h]; rfl
theorem idxL_find (s : ByteArray) : ∀ (l : List Bd) (k : Int), (findB l s = none → idxL (fun b => b.name.toList == s.toList) l k = -1) ∧ ∀ v, findB l s = some v → ∃ j : Nat, ∃ hj : j < l.length, idxL (fun b => b.name.toList == s.toList) l k = k + j ∧ l[j].val = v
  | [], _ => ⟨fun _ => rfl, fun v h => by cases h⟩
  | b :: r, k => by
    obtain ⟨i1, i2⟩ := idxL_find s r (k + 1)
    unfold findB idxL
    cases hb : (b.name.toList == s.toList) with
    | true =>
      refine ⟨fun h => ?_, fun v h => ⟨0, by simp, by simp, ?_⟩⟩
      · rw [if_pos rfl] at h; cases h
      · rw [if_pos rfl] at h; injection h
    | false =>
      refine ⟨fun h => ?_, fun v h => ?_⟩
      · rw [if_neg (by simp)] at h
        exact i1 h
      · rw [if_neg (by simp)] at h
        obtain ⟨j, hj, e1, e2⟩ := i2 v h
        refine ⟨j + 1, by simp; omega, ?_, by simpa using e2⟩
        simp only [Bool.false_eq_true, if_false]
        rw [e1]; omega
set_option maxHeartbeats 1000000 in
theorem bindsIdx_any (w : World) (v : Value) (l : List Bd) (h : BdsR w w.heap.size v l) (fid : Nat) (caps : Array Value) (p : Bd → Bool)
    (hrun : ∀ (args : Array Value) (W : World), (callFunc fid args).run Tryz.prog W = .ok (.enter fid args) W)
    (hf : ∀ (x : Bd) (W : World), Below w.heap.size w W → Calls Tryz.prog fid (#[valBd x] ++ caps) W fun e w' => e = .returned (.bool (p x)) ∧ Below W.heap.size W w') :
    Calls Tryz.prog 90 #[v, .func (.func fid) #[] caps] w fun e w' => e = .returned (.int .i64 (idxL p l 0)) ∧ Below w.heap.size w w' := by
  have HR := Lib.hid h
  obtain ⟨a, c, rfl⟩ := h.val
  have HF := Lib.hid hf
  have hll : l.length ≤ 2513169435000 := by obtain ⟨_, _, e, h1, _⟩ := h; exact h1
  clear hf h
  go_enter Tryz.func90, Tryz.ntmps90
  go_wp2_with fail
  go_loopg [8] l.length (fun g s8 wr => ∃ k : Nat, k + g = l.length ∧ s8 = .int .i64 (k : Int) ∧ Hid (idxL p (l.drop k) (k : Int) = idxL p l 0) ∧ Below w.heap.size w wr)
  case atStart => exact ⟨0, by omega, rfl, rfl, Below.refl _ _⟩
  case round =>
    obtain ⟨k, hkg, rfl, hI, hB⟩ := hrel
    by_cases hk : k < l.length
    · obtain ⟨b, o, rfl, hb, -, -, c0, c1, c2, c3, c4⟩ := (HR.out.mono hB (Nat.le_refl _)).at hk
      obtain ⟨x, hx⟩ : ∃ x, l[k] = x := ⟨_, rfl⟩
      rw [hx] at c0 c1 c2 c3 c4
      have hd : Hid (idxL p (l.drop k) (k : Int) = if p x then (k : Int) else idxL p (l.drop (k + 1)) ((k + 1 : Nat) : Int)) := Lib.hid (by rw [idxL_drop hk, hx])
      have hcall := HF.out x wr hB
      have HB := Lib.hid hB
      have dk : decide (k < l.length) = true := decide_eq_true hk
      have k1 : (0 : Int) ≤ (k : Int) := by omega
      have k2 : (k : Int) < (l.length : Int) := by omega
      clear hx hB
      cases hp : p x with
      | true =>
        rw [hp] at hcall
        have Hf : Hid ((k : Int) = idxL p l 0) := by rw [← hI.out, hd.out, hp]; exact rfl
        have HC := Lib.hid hcall
        clear hcall hp
        go_wp2_with fail
        refine HC.out.mono ?_
        rintro e w2 ⟨rfl, hb2⟩
        have HB2 := Lib.hid (HB.out.trans (hb2.mono HB.out.size))
        clear hb2
        go_wp2_with fail
        go_ret
        exact ⟨ret_int Hf.out, HB2.out⟩
      | false =>
        rw [hp] at hcall
        have Hf : Hid (idxL p (l.drop (k + 1)) ((k + 1 : Nat) : Int) = idxL p l 0) := by rw [← hI.out, hd.out, hp]; exact rfl
        have HC := Lib.hid hcall
        clear hcall hp
        go_wp2_with fail
        refine HC.out.mono ?_
        rintro e w2 ⟨rfl, hb2⟩
        have HB2 := Lib.hid (HB.out.trans (hb2.mono HB.out.size))
        clear hb2
        go_wp2_with fail
        go_roundg (gk - 1)
        case measure => omega
        case rel => exact ⟨k + 1, by omega, by go_num, Hf, HB2.out⟩
    · have Hf : Hid (-1 = idxL p l 0) := by rw [← hI.out, List.drop_eq_nil_of_le (by omega)]; exact rfl
      have dk : decide (k < l.length) = false := decide_eq_false hk
      go_wp2_with fail
      go_ret
      exact ⟨ret_int Hf.out, hB⟩
end Go.Proofs.YtbephgifbghilaaGreatDoor
