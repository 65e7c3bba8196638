/- value.Find. -/
import Derived.Test.YtbephgifbghilaaGreatDoorEvalLess
set_option maxRecDepth 100000
namespace Go.Proofs.YtbephgifbghilaaGreatDoor
open Go.RowKit

def idxL {α : Type} (p : α → Bool) : List α → Int → Int
  | [], _ => -1
  | x :: r, k => if p x then k else idxL p r (k + 1)
theorem idxL_drop {α : Type} {p : α → Bool} {l : List α} {k : Nat} (h : k < l.length) : idxL p (l.drop k) (k : Int) = if p l[k] then (k : Int) else idxL p (l.drop (k + 1)) ((k + 1 : Nat) : Int) := by
  rw [List.drop_eq_getElem_cons h]; rfl
theorem idxL_find (s : ByteArray) : ∀ (l : List Bd) (k : Int), (findB l s = none → idxL (fun b => b.name.toList == s.toList) l k = -1) ∧ ∀ v, findB l s = some v → ∃ j : Nat, ∃ hj : j < l.length, idxL (fun b => b.name.toList == s.toList) l k = k + j ∧ l[j].val = v
  | [], _ => ⟨fun _ => rfl, fun v h => by cases h⟩
  | b :: r, k => by
    obtain ⟨i1, i2⟩ := idxL_find s r (k + 1)
    unfold findB idxL
    cases hb : (b.name.toList == s.toList) with
    | true =>
      refine ⟨fun h => ?_, fun v h => ⟨0, by simp, by simp, ?_⟩⟩
      · rw [if_pos rfl] at h; cases h
      · rw [if_pos rfl] at h; injection h
    | false =>
      refine ⟨fun h => ?_, fun v h => ?_⟩
      · rw [if_neg (by simp)] at h
        exact i1 h
      · rw [if_neg (by simp)] at h
        obtain ⟨j, hj, e1, e2⟩ := i2 v h
        refine ⟨j + 1, by simp; omega, ?_, by simpa using e2⟩
        simp only [Bool.false_eq_true, if_false]
        rw [e1]; omega
set_option maxHeartbeats 1000000 in
theorem bindsIdx_any (w : World) (v : Value) (l : List Bd) (h : BdsR w w.heap.size v l) (fid : Nat) (caps : Array Value) (p : Bd → Bool)
    (hrun : ∀ (args : Array Value) (W : World), (callFunc fid args).run Tryz.prog W = .ok (.enter fid args) W)
    (hf : ∀ (x : Bd) (W : World), Below w.heap.size w W → Calls Tryz.prog fid (#[valBd x] ++ caps) W fun e w' => e = .returned (.bool (p x)) ∧ Below W.heap.size W w') :
    Calls Tryz.prog 90 #[v, .func (.func fid) #[] caps] w fun e w' => e = .returned (.int .i64 (idxL p l 0)) ∧ Below w.heap.size w w' := by
  have HR := Lib.hid h
  obtain ⟨a, c, rfl⟩ := h.val
  have HF := Lib.hid hf
  have hll : l.length ≤ 2513169435000 := by obtain ⟨_, _, e, h1, _⟩ := h; exact h1
  clear hf h
  go_enter Tryz.func90, Tryz.ntmps90
  go_wp2_with fail
  go_loopg [8] l.length (fun g s8 wr => ∃ k : Nat, k + g = l.length ∧ s8 = .int .i64 (k : Int) ∧ Hid (idxL p (l.drop k) (k : Int) = idxL p l 0) ∧ Below w.heap.size w wr)
  case atStart => exact ⟨0, by omega, rfl, rfl, Below.refl _ _⟩
  case round =>
    obtain ⟨k, hkg, rfl, hI, hB⟩ := hrel
    by_cases hk : k < l.length
    · obtain ⟨b, o, rfl, hb, -, -, c0, c1, c2, c3, c4⟩ := (HR.out.mono hB (Nat.le_refl _)).at hk
      obtain ⟨x, hx⟩ : ∃ x, l[k] = x := ⟨_, rfl⟩
      rw [hx] at c0 c1 c2 c3 c4
      have hd : Hid (idxL p (l.drop k) (k : Int) = if p x then (k : Int) else idxL p (l.drop (k + 1)) ((k + 1 : Nat) : Int)) := Lib.hid (by rw [idxL_drop hk, hx])
      have hcall := HF.out x wr hB
      have HB := Lib.hid hB
      have dk : decide (k < l.length) = true := decide_eq_true hk
      have k1 : (0 : Int) ≤ (k : Int) := by omega
      have k2 : (k : Int) < (l.length : Int) := by omega
      clear hx hB
      cases hp : p x with
      | true =>
        rw [hp] at hcall
        have Hf : Hid ((k : Int) = idxL p l 0) := by rw [← hI.out, hd.out, hp]; exact rfl
        have HC := Lib.hid hcall
        clear hcall hp
        go_wp2_with fail
        refine HC.out.mono ?_
        rintro e w2 ⟨rfl, hb2⟩
        have HB2 := Lib.hid (HB.out.trans (hb2.mono HB.out.size))
        clear hb2
        go_wp2_with fail
        go_ret
        exact ⟨ret_int Hf.out, HB2.out⟩
      | false =>
        rw [hp] at hcall
        have Hf : Hid (idxL p (l.drop (k + 1)) ((k + 1 : Nat) : Int) = idxL p l 0) := by rw [← hI.out, hd.out, hp]; exact rfl
        have HC := Lib.hid hcall
        clear hcall hp
        go_wp2_with fail
        refine HC.out.mono ?_
        rintro e w2 ⟨rfl, hb2⟩
        have HB2 := Lib.hid (HB.out.trans (hb2.mono HB.out.size))
        clear hb2
        go_wp2_with fail
        go_roundg (gk - 1)
        case measure => omega
        case rel => exact ⟨k + 1, by omega, by go_num, Hf, HB2.out⟩
    · have Hf : Hid (-1 = idxL p l 0) := by rw [← hI.out, List.drop_eq_nil_of_le (by omega)]; exact rfl
      have dk : decide (k < l.length) = false := decide_eq_false hk
      go_wp2_with fail
      go_ret
      exact ⟨ret_int Hf.out, hB⟩

theorem find1_any (w : World) (x : Bd) (pb : Nat) (s : ByteArray) (hb : w.cell? ⟨pb, 0, none⟩ = some (.string s)) (hl : pb < w.heap.size) :
    Calls Tryz.prog 167 #[valBd x, .pointer (some ⟨pb, 0, none⟩)] w fun e w' => e = .returned (.bool (x.name.toList == s.toList)) ∧ Below w.heap.size w w' := by
  obtain ⟨w1, p0, hp0, hw1, l1, n1, b1⟩ := box_new w (.cells #[.string x.name, .int .u8 x.val.kind, .int .i64 x.val.num, .bool x.val.tr, .string x.val.text] 55)
  have c0 : w1.cell? ⟨p0, 0, none⟩ = some (.string x.name) := (cell_of_block n1 0).trans rfl
  have c1 : w1.cell? ⟨pb, 0, none⟩ = some (.string s) := (Below.cellB b1 hl).trans hb
  have HB := Lib.hid b1
  obtain ⟨r, hr⟩ : ∃ r, (x.name.toList == s.toList) = r := ⟨_, rfl⟩
  rw [hr]
  clear n1 b1 hb
  go_enter Tryz.func167, Tryz.ntmps167
  go_wp2_with fail
  go_ret
  exact ⟨rfl, by first | exact HB.out | (rw [hp0]; exact HB.out)⟩

def findR (l : List Bd) (s : ByteArray) : Vl × Bool := match findB l s with | none => (Vl.zero, false) | some v => (v, true)
set_option maxHeartbeats 2000000 in
theorem vfind_any (w : World) (v : Value) (l : List Bd) (s : ByteArray) (hl : BdsR w w.heap.size v l) :
    Calls Tryz.prog 127 #[v, .string s] w fun e w' => e = .returned (.tuple #[valV (findR l s).1, .bool (findR l s).2]) ∧ Below w.heap.size w w' := by
  obtain ⟨w1, p0, hp0, hw1, l1, n1, b1⟩ := box_new w (.cells #[.string s] 9)
  obtain ⟨w2, p1, hp1, hw2, l2, n2, b2⟩ := box_new w1 objZ
  have hw2' : w1.alloc (.cells #[.int .u8 0, .int .i64 0, .bool false, .string ⟨#[]⟩] 26) = w2 := hw2
  have HB := Lib.hid (b1.trans (b2.mono (by omega)))
  have HR := Lib.hid hl
  have HK := Lib.hid (show ∀ W, Below w2.heap.size w2 W → W.cell? ⟨p0, 0, none⟩ = some (.string s) ∧ W.heap[p1]? = some objZ ∧ Below w.heap.size w W from fun W h => ⟨(cell_of_block ((h.block p0 (by omega)).trans ((b2.block p0 (by omega)).trans n1)) 0).trans rfl, (h.block p1 (by omega)).trans n2, HB.out.trans (h.mono HB.out.size)⟩)
  have S1 := Lib.hid (bindsIdx_any w2 v l ((hl.mono HB.out (Nat.le_refl _)).mono (Below.refl _ _) HB.out.size) 167 #[.pointer (some ⟨p0, 0, none⟩)] (fun b => b.name.toList == s.toList) (enters_of Tryz.func167 (by kernel_rfl) rfl) (fun x W h => find1_any W x p0 s (HK.out W h).1 (Nat.lt_of_lt_of_le (by omega) h.size)))
  obtain ⟨i1, i2⟩ := idxL_find s l 0
  have lp : w.heap.size ≤ p1 := by omega
  obtain ⟨a, c, rfl⟩ := hl.val
  clear n1 b1 n2 b2 hw2 hl
  unfold findR
  cases hf : findB l s with
  | none =>
    rw [i1 hf] at S1
    clear hf i1 i2
    go_enter Tryz.func127, Tryz.ntmps127
    go_wp2_with (go_at_call 90; refine S1.out.mono ?_; rintro e w3 ⟨rfl, hb3⟩; refine Hid.out ?_)
    refine Lib.hid ?_
    obtain ⟨⟨m0, m1, m2, m3⟩, f0, f1, f2, f3⟩ := zero_blk (HK.out w3 hb3).2.1
    have HE := Lib.hid (chain_below (HK.out w3 hb3).2.2 lp Vl.zero)
    clear hb3
    go_wp2_with fail
    exact bodyPost_ret (v := .tuple #[valV Vl.zero, .bool false]) (by simp [results, Tryz.results127, go_sem, Vl.zero, m0, m1, m2, m3]) rfl ⟨rfl, HE.out⟩
  | some u =>
    obtain ⟨j, hj, e1, e2⟩ := i2 u hf
    rw [e1, Int.zero_add] at S1
    have E2 := Lib.hid e2
    clear hf i1 i2 e1 e2
    go_enter Tryz.func127, Tryz.ntmps127
    go_wp2_with (go_at_call 90; refine S1.out.mono ?_; rintro e w3 ⟨rfl, hb3⟩; refine Hid.out ?_)
    refine Lib.hid ?_
    obtain ⟨⟨m0, m1, m2, m3⟩, f0, f1, f2, f3⟩ := zero_blk (HK.out w3 hb3).2.1
    have HE := Lib.hid (chain_below (HK.out w3 hb3).2.2 lp u)
    obtain ⟨b, o, rfl, hb, -, -, -, c1, c2, c3, c4⟩ := (HR.out.mono (HK.out w3 hb3).2.2 (Nat.le_refl _)).at hj
    rw [E2.out] at c1 c2 c3 c4
    have k1 : (0 : Int) ≤ (j : Int) := by omega
    have k2 : (j : Int) < (l.length : Int) := by omega
    have dj : decide ((j : Int) < 0) = false := decide_eq_false (by omega)
    clear hb3
    go_wp2_with fail
    exact bodyPost_ret (v := .tuple #[valV u, .bool true]) (by simp [results, Tryz.results127, go_sem, m0, m1, m2, m3]) rfl ⟨rfl, HE.out⟩
end Go.Proofs.YtbephgifbghilaaGreatDoor
