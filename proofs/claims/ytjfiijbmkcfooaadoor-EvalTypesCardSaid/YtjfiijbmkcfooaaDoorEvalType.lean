/- expr.typeOf: the parts. -/
import Derived.Test.YtjfiijbmkcfooaaDoorEvalTop2
import Derived.Test.YtjfiijbmkcfooaaDoorEvalTypeP
set_option maxRecDepth 100000
namespace Go.Proofs.YtjfiijbmkcfooaaDoor
open Go.RowKit

theorem beq_t {x y : Int} (h : x = y) : (x == y) = true := by simpa using h
theorem beq_f {x y : Int} (h : x ≠ y) : (x == y) = false := by simpa using h
theorem bne_t {x y : Int} (h : x ≠ y) : (x != y) = true := by simpa using h
theorem bne_f {x y : Int} (h : x = y) : (x != y) = false := by simpa using h
abbrev U8s (w : World) (B : Nat) (v : Value) (l : List Int) : Prop := ColV (Value.int .u8) 140737488355328 w B v l
set_option maxHeartbeats 1000000 in
theorem u8Idx_any (w : World) (v : Value) (l : List Int) (h : U8s w w.heap.size v l) (fid : Nat) (caps : Array Value) (p : Int → Bool)
    (hrun : ∀ (args : Array Value) (W : World), (callFunc fid args).run Tryd.prog W = .ok (.enter fid args) W)
    (hf : ∀ (x : Int) (W : World), Below w.heap.size w W → Calls Tryd.prog fid (#[.int .u8 x] ++ caps) W fun e w' => e = .returned (.bool (p x)) ∧ Below W.heap.size W w') :
    Calls Tryd.prog 74 #[v, .func (.func fid) #[] caps] w fun e w' => e = .returned (.int .i64 (idxL p l 0)) ∧ Below w.heap.size w w' := by
  have HR := Lib.hid h
  have hll := h.len
  obtain ⟨a, c, rfl⟩ := h.val
  have HF := Lib.hid hf
  clear hf h
  go_enter Tryd.func74, Tryd.ntmps74
  go_wp2_with fail
  go_loopg [8] l.length (fun g s8 wr => ∃ k : Nat, k + g = l.length ∧ s8 = .int .i64 (k : Int) ∧ Hid (idxL p (l.drop k) (k : Int) = idxL p l 0) ∧ Below w.heap.size w wr)
  case atStart => exact ⟨0, by omega, rfl, rfl, Below.refl _ _⟩
  case round =>
    obtain ⟨k, hkg, rfl, hI, hB⟩ := hrel
    by_cases hk : k < l.length
    · obtain ⟨b, o, rfl, hb, c0⟩ := (HR.out.mono hB (Nat.le_refl _)).col k hk
      obtain ⟨x, hx⟩ : ∃ x, l[k] = x := ⟨_, rfl⟩
      rw [hx] at c0
      have hd : Hid (idxL p (l.drop k) (k : Int) = if p x then (k : Int) else idxL p (l.drop (k + 1)) ((k + 1 : Nat) : Int)) := Lib.hid (by rw [idxL_drop hk, hx])
      have hcall := HF.out x wr hB
      have HB := Lib.hid hB
      have dk : decide (k < l.length) = true := decide_eq_true hk
      have k1 : (0 : Int) ≤ (k : Int) := by omega
      have k2 : (k : Int) < (l.length : Int) := by omega
      clear hx hB
      cases hp : p x with
      | true =>
        rw [hp] at hcall
        have Hf : Hid ((k : Int) = idxL p l 0) := by rw [← hI.out, hd.out, hp]; exact rfl
        have HC := Lib.hid hcall
        clear hcall hp
        go_wp2_with fail
        refine HC.out.mono ?_
        rintro e w2 ⟨rfl, hb2⟩
        have HB2 := Lib.hid (HB.out.trans (hb2.mono HB.out.size))
        clear hb2
        go_wp2_with fail
        go_ret
        exact ⟨ret_int Hf.out, HB2.out⟩
      | false =>
        rw [hp] at hcall
        have Hf : Hid (idxL p (l.drop (k + 1)) ((k + 1 : Nat) : Int) = idxL p l 0) := by rw [← hI.out, hd.out, hp]; exact rfl
        have HC := Lib.hid hcall
        clear hcall hp
        go_wp2_with fail
        refine HC.out.mono ?_
        rintro e w2 ⟨rfl, hb2⟩
        have HB2 := Lib.hid (HB.out.trans (hb2.mono HB.out.size))
        clear hb2
        go_wp2_with fail
        go_roundg (gk - 1)
        case measure => omega
        case rel => exact ⟨k + 1, by omega, by go_num, Hf, HB2.out⟩
    · have Hf : Hid (-1 = idxL p l 0) := by rw [← hI.out, List.drop_eq_nil_of_le (by omega)]; exact rfl
      have dk : decide (k < l.length) = false := decide_eq_false hk
      go_wp2_with fail
      go_ret
      exact ⟨ret_int Hf.out, hB⟩
theorem u8Has_any (w : World) (v : Value) (l : List Int) (h : U8s w w.heap.size v l) (fid : Nat) (caps : Array Value) (p : Int → Bool)
    (hrun : ∀ (args : Array Value) (W : World), (callFunc fid args).run Tryd.prog W = .ok (.enter fid args) W)
    (hf : ∀ (x : Int) (W : World), Below w.heap.size w W → Calls Tryd.prog fid (#[.int .u8 x] ++ caps) W fun e w' => e = .returned (.bool (p x)) ∧ Below W.heap.size W w') :
    Calls Tryd.prog 52 #[v, .func (.func fid) #[] caps] w fun e w' => e = .returned (.bool (l.any p)) ∧ Below w.heap.size w w' := by
  have S1 := Lib.hid (u8Idx_any w v l h fid caps p hrun hf)
  have HI := Lib.hid (idxL_any p l 0 (by omega))
  obtain ⟨r, hr⟩ : ∃ r, l.any p = r := ⟨_, rfl⟩
  obtain ⟨j, hj⟩ : ∃ j, idxL p l 0 = j := ⟨_, rfl⟩
  rw [hr, hj] at HI
  rw [hj] at S1
  rw [hr]
  have dj := HI.out
  obtain ⟨a, c, rfl⟩ := h.val
  clear hr hj hf h
  go_enter Tryd.func52, Tryd.ntmps52
  go_wp2_with (go_at_call 74; refine S1.out.mono ?_; rintro e w2 ⟨rfl, hb2⟩; refine Hid.out ?_)
  refine Lib.hid ?_
  have HB := Lib.hid hb2
  clear hb2
  go_wp2_with fail
  go_ret
  exact ⟨rfl, HB.out⟩

theorem type2_any (w : World) (k a : Int) (pb : Nat) (hb : w.cell? ⟨pb, 0, none⟩ = some (.int .u8 a)) :
    Calls Tryd.prog 53 #[.int .u8 k, .pointer (some ⟨pb, 0, none⟩)] w fun e w' => e = .returned (.bool (!(k == a))) ∧ Below w.heap.size w w' := by
  obtain ⟨r, hr⟩ : ∃ r, (k != a) = r := ⟨_, rfl⟩
  rw [show (!(k == a)) = r from hr]
  have HB := Lib.hid (Below.refl w.heap.size w)
  go_enter Tryd.func53, Tryd.ntmps53
  go_wp2_with fail
  go_ret
  exact ⟨rfl, HB.out⟩
theorem type1_any (w : World) (x : Bd) (pb : Nat) (s : ByteArray) (hb : w.cell? ⟨pb, 5, none⟩ = some (.string s)) (hl : pb < w.heap.size) :
    Calls Tryd.prog 51 #[valBd x, .pointer (some ⟨pb, 0, none⟩)] w fun e w' => e = .returned (.bool (x.name.toList == s.toList)) ∧ Below w.heap.size w w' := by
  obtain ⟨w1, p0, hp0, hw1, l1, n1, b1⟩ := box_new w (.cells #[.string x.name, .int .u8 x.val.kind, .int .i64 x.val.num, .bool x.val.tr, .string x.val.text] 39)
  have c0 : w1.cell? ⟨p0, 0, none⟩ = some (.string x.name) := (cell_of_block n1 0).trans rfl
  have c1 : w1.cell? ⟨pb, 5, none⟩ = some (.string s) := (Below.cellB b1 hl).trans hb
  have HB := Lib.hid b1
  obtain ⟨r, hr⟩ : ∃ r, (x.name.toList == s.toList) = r := ⟨_, rfl⟩
  rw [hr]
  clear n1 b1 hb
  go_enter Tryd.func51, Tryd.ntmps51
  go_wp2_with fail
  go_ret
  exact ⟨rfl, by first | exact HB.out | (rw [hp0]; exact HB.out)⟩

theorem nd_box (w : World) (op : Int) (u : Vl) (nm : ByteArray) (vk : Value) : ∃ (w1 : World) (p0 : Nat), w.heap.size = p0 ∧ w.alloc (objN op u nm vk) = w1 ∧ p0 < w1.heap.size ∧ Below w.heap.size w w1 ∧ ∀ V, Below w1.heap.size w1 V → (V.cell? ⟨p0, 0, none⟩ = some (.int .u8 op) ∧ V.cell? ⟨p0, 1, none⟩ = some (.int .u8 u.kind) ∧ V.cell? ⟨p0, 2, none⟩ = some (.int .i64 u.num) ∧ V.cell? ⟨p0, 3, none⟩ = some (.bool u.tr) ∧ V.cell? ⟨p0, 4, none⟩ = some (.string u.text) ∧ V.cell? ⟨p0, 5, none⟩ = some (.string nm) ∧ V.cell? ⟨p0, 6, none⟩ = some vk) := by
  obtain ⟨w1, p0, hp0, hw1, l1, n1, b1⟩ := box_new w (objN op u nm vk)
  refine ⟨w1, p0, hp0, hw1, l1, b1, fun V h => ?_⟩
  have k := (h.block p0 l1).trans n1
  exact ⟨(cell_of_block k 0).trans rfl, (cell_of_block k 1).trans rfl, (cell_of_block k 2).trans rfl, (cell_of_block k 3).trans rfl, (cell_of_block k 4).trans rfl, (cell_of_block k 5).trans rfl, (cell_of_block k 6).trans rfl⟩
theorem type_lit (w : World) (u : Vl) (nm : ByteArray) (vk vv : Value) :
    Calls Tryd.prog 34 #[valO 1 u nm vk, vv] w fun e w' => e = .returned (.tuple #[.int .u8 u.kind, .int .i64 0]) ∧ Below w.heap.size w w' := by
  obtain ⟨w1, p0, hp0, hw1, l1, b1, hc⟩ := nd_box w 1 u nm vk
  obtain ⟨c0, c1, c2, c3, c4, c5, c6⟩ := hc w1 (Below.refl _ _)
  have HB := Lib.hid b1
  clear b1 hc
  go_enter Tryd.func34, Tryd.ntmps34
  go_wp2_with fail
  go_ret2
  exact ⟨rfl, by first | exact HB.out | (rw [hp0]; exact HB.out)⟩
def varT (l : List Bd) (nm : ByteArray) : Int × Int := match findB l nm with | none => (0, 100) | some v => (v.kind, 0)
set_option maxHeartbeats 1000000 in
theorem type_var (w : World) (u : Vl) (nm : ByteArray) (vk vv : Value) (l : List Bd) (hl : BdsR w w.heap.size vv l) :
    Calls Tryd.prog 34 #[valO 2 u nm vk, vv] w fun e w' => e = .returned (.tuple #[.int .u8 (varT l nm).1, .int .i64 (varT l nm).2]) ∧ Below w.heap.size w w' := by
  obtain ⟨w1, p0, hp0, hw1, l1, b1, hc⟩ := nd_box w 2 u nm vk
  obtain ⟨c0, c1, c2, c3, c4, c5, c6⟩ := hc w1 (Below.refl _ _)
  have hR := hl.to b1
  have S1 := Lib.hid (bindsIdx_any w1 vv l hR 51 #[.pointer (some ⟨p0, 0, none⟩)] (fun b => b.name.toList == nm.toList) (enters_of Tryd.func51 (by kernel_rfl) rfl) (fun x W h => type1_any W x p0 nm (hc W h).2.2.2.2.2.1 (Nat.lt_of_lt_of_le l1 h.size)))
  have HR := Lib.hid hR
  have HB := Lib.hid b1
  obtain ⟨i1, i2⟩ := idxL_find nm l 0
  obtain ⟨a, c, rfl⟩ := hl.val
  clear b1 hc hR hl
  unfold varT
  cases hf : findB l nm with
  | none =>
    rw [i1 hf] at S1
    clear hf i1 i2
    go_enter Tryd.func34, Tryd.ntmps34
    go_wp2_with (go_at_call 44; refine S1.out.mono ?_; rintro e w3 ⟨rfl, hb3⟩; refine Hid.out ?_)
    refine Lib.hid ?_
    have HE := Lib.hid (HB.out.trans (hb3.mono HB.out.size))
    clear hb3
    go_wp2_with fail
    go_ret2
    exact ⟨rfl, HE.out⟩
  | some v =>
    obtain ⟨j, hj, e1, e2⟩ := i2 v hf
    rw [e1, Int.zero_add] at S1
    have E2 := Lib.hid e2
    clear hf i1 i2 e1 e2
    go_enter Tryd.func34, Tryd.ntmps34
    go_wp2_with (go_at_call 44; refine S1.out.mono ?_; rintro e w3 ⟨rfl, hb3⟩; refine Hid.out ?_)
    refine Lib.hid ?_
    have HE := Lib.hid (HB.out.trans (hb3.mono HB.out.size))
    obtain ⟨b, o, rfl, hb, -, -, -, c1', c2', c3', c4'⟩ := (HR.out.mono hb3 (Nat.le_refl _)).at hj
    rw [E2.out] at c1'
    have k1 : (0 : Int) ≤ (j : Int) := by omega
    have k2 : (j : Int) < (l.length : Int) := by omega
    have dj : decide ((j : Int) < 0) = false := decide_eq_false (by omega)
    clear hb3
    go_wp2_with fail
    go_ret2
    exact ⟨rfl, HE.out⟩
end Go.Proofs.YtjfiijbmkcfooaaDoor
