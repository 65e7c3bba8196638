/- Of XAs: what XFAs uses (shake.py). -/
import Derived.Test.YtbephgifbghilaaGreatDoorKXAu
import Derived.Test.YtbephgifbghilaaGreatDoorKXPrint
import Derived.Test.YtbephgifbghilaaGreatDoorKXTyl
import Derived.Test.YtbephgifbghilaaGreatDoorKXBk
/- Texts fused by fuse.py: AskTyp, AskShow, AskShow2, AskShow3. -/
/- The document's Type of a node (seat expr; printed by gen_asktyp.py). -/
set_option maxRecDepth 100000
namespace Go.Proofs.YtbephgifbghilaaGreatDoor
open Go.RowKit
theorem typeC_not (k : Int) : typeC 3 [k] = if k = 2 then (k, 0) else (0, 90) := by
  unfold typeC
  by_cases h : k = 2 <;> simp [h]
theorem typeC_neg (k : Int) : typeC 4 [k] = if k = 1 then (k, 0) else (0, 90) := by
  unfold typeC
  by_cases h : k = 1 <;> simp [h]
theorem typeC_un {op a b : Int} (h : a ≠ b) : typeC op [a, b] = (0, 90) := by
  unfold typeC
  have : ([b] : List Int).any (fun k => !(k == a)) = true := by simp; exact fun e => h e.symm
  simp only [this, if_true]
theorem typeC_and {op k : Int} (h : op = 5 ∨ op = 6) : typeC op [k, k] = if k = 2 then (2, 0) else (0, 90) := by
  have e : ([k] : List Int).any (fun x => !(x == k)) = false := by simp
  unfold typeC
  simp only [e, Bool.false_eq_true, if_false]
  by_cases h2 : k = 2
  · rw [if_neg (by omega), if_pos ⟨by omega, h2⟩, if_pos h2, h2]
  · rw [if_neg (by omega), if_neg (by omega), if_neg (by omega), if_neg (by omega), if_neg h2]
theorem typeC_eq {op k : Int} (h : op = 7 ∨ op = 8) : typeC op [k, k] = (2, 0) := by
  have e : ([k] : List Int).any (fun x => !(x == k)) = false := by simp
  unfold typeC
  simp only [e, Bool.false_eq_true, if_false]
  rw [if_pos h]
theorem typeC_lt {op k : Int} (h : 9 ≤ op) (h2 : op ≤ 12) : typeC op [k, k] = if k = 2 then (0, 90) else (2, 0) := by
  have e : ([k] : List Int).any (fun x => !(x == k)) = false := by simp
  unfold typeC
  simp only [e, Bool.false_eq_true, if_false]
  by_cases h3 : k = 2
  · rw [if_neg (by omega), if_neg (by omega), if_neg (by omega), if_neg (by omega), if_pos h3]
  · rw [if_neg (by omega), if_neg (by omega), if_pos ⟨h, h2, h3⟩, if_neg h3]
theorem typeC_add {k : Int} : typeC 13 [k, k] = if k = 1 ∨ k = 3 then (k, 0) else (0, 90) := by
  have e : ([k] : List Int).any (fun x => !(x == k)) = false := by simp
  unfold typeC
  simp only [e, Bool.false_eq_true, if_false]
  by_cases h1 : k = 1
  · subst h1; rfl
  · by_cases h3 : k = 3
    · subst h3; rfl
    · simp [h1, h3]
theorem typeC_ar {op k : Int} (h : 14 ≤ op) : typeC op [k, k] = if k = 1 then (k, 0) else (0, 90) := by
  have e : ([k] : List Int).any (fun x => !(x == k)) = false := by simp
  unfold typeC
  simp only [e, Bool.false_eq_true, if_false]
  rw [if_neg (by omega), if_neg (by omega), if_neg (by omega)]
  by_cases h2 : k = 1
  · rw [if_pos (by omega), if_pos h2]
  · rw [if_neg (by omega), if_neg h2]
theorem findB_drop {l : List Bd} {k : Nat} (h : k < l.length) (s : ByteArray) : findB (l.drop k) s = if l[k].name.toList == s.toList then some l[k].val else findB (l.drop (k + 1)) s := by
  rw [List.drop_eq_getElem_cons h]
  rfl
/-- What typeOf answers. -/
def TypR (l : List Bd) (n : Nd) (w : World) (e : Ending) (w' : World) : Prop := e = .returned (.tuple #[.int .u8 (typeN l n).1, .int .i64 (typeN l n).2]) ∧ Below w.heap.size w w'
def RTyp (l : List Bd) (m : Nat) : Prop := ∀ n : Nd, SizeOf.sizeOf n ≤ m → checkN n = true → ∀ (w : World) (vk vl : Value), NdR w w.heap.size vk n → BdsR w w.heap.size vl l → Calls Tryz.prog 64 #[valN n vk, vl] w (TypR l n w)
theorem TypR.of {l : List Bd} {n : Nd} {w w' : World} {k e : Int} (h : typeN l n = (k, e)) (hb : Below w.heap.size w w') : TypR l n w (.returned (.tuple #[.int .u8 k, .int .i64 e])) w' := by
  unfold TypR
  rw [h]
  exact ⟨rfl, hb⟩
set_option maxHeartbeats 1000000 in
theorem rtyp_lit (l : List Bd) (w : World) (v : Vl) (nm : ByteArray) (a : Option Addr) (c : Nat) (vl : Value) : Calls Tryz.prog 64 #[valO 1 v nm (.slice a 0 c), vl] w (TypR l (litN v) w) := by
  obtain ⟨w0, p0, hp0, hw0, l0, b0, hC0⟩ := nd_boxO w 1 v nm (.slice a 0 c) 36
  obtain ⟨c0, c1, c2, c3, c4, c5, c6⟩ := hC0 w0 (Below.refl _ _)
  have HR := Lib.hid (show typeN l (litN v) = (v.kind, 0) from rfl)
  have HB := Lib.hid b0
  clear hC0 b0
  go_enter Tryz.func64, Tryz.ntmps64
  go_wp2_with fail
  refine bodyPost_ret (v := .tuple #[.int .u8 v.kind, .int .i64 0]) (by simp [results, Tryz.results64, go_sem]; try rfl) rfl ?_
  exact TypR.of HR.out HB.out
set_option maxHeartbeats 2000000 in
theorem rtyp_var (l : List Bd) (w : World) (u : Vl) (s : ByteArray) (a : Option Addr) (c : Nat) (vl : Value) (hl : BdsR w w.heap.size vl l) : Calls Tryz.prog 64 #[valO 2 u s (.slice a 0 c), vl] w (TypR l (varN s) w) := by
  obtain ⟨w0, p0, hp0, hw0, l0, b0, hC0⟩ := nd_boxO w 2 u s (.slice a 0 c) 36
  obtain ⟨c0, c1, c2, c3, c4, c5, c6⟩ := hC0 w0 (Below.refl _ _)
  have HC0 := Lib.hid hC0
  have HB := Lib.hid b0
  have HL := Lib.hid hl
  have hll : l.length ≤ 2513169435000 := by obtain ⟨_, _, _, h, _⟩ := hl; exact h
  obtain ⟨va, vc, rfl⟩ := hl.val
  have HR := Lib.hid (show typeN l (varN s) = (match findB l s with | none => (0, 100) | some v => (v.kind, 0)) from rfl)
  obtain ⟨r, hr⟩ : ∃ r, findB l s = r := ⟨_, rfl⟩
  rw [hr] at HR
  have HT : Hid (findB (l.drop 0) s = r) := Lib.hid hr
  clear hC0 b0 hl hr
  go_enter Tryz.func64, Tryz.ntmps64
  go_wp2_with fail
  go_loopg [6] l.length (fun g s6 wr => ∃ k : Nat, k + g = l.length ∧ s6 = .int .i64 (k : Int) ∧ Hid (findB (l.drop k) s = r) ∧ Hid (Below w0.heap.size w0 wr))
  case atStart => exact ⟨0, by omega, rfl, HT, Lib.hid (Below.refl _ _)⟩
  case round =>
    obtain ⟨k, hkg, rfl, hT, hB⟩ := hrel
    obtain ⟨c0, c1, c2, c3, c4, c5, c6⟩ := HC0.out wr hB.out
    by_cases hi : k < l.length
    · have u1 : decide ((k : Int) < (l.length : Int)) = true := decide_eq_true (by omega)
      have u1' : decide (k < l.length) = true := decide_eq_true hi
      have hBw := HB.out.trans (hB.out.mono HB.out.size)
      obtain ⟨b, o, rfl, hb, hv, hnm, e0, e1, e2, e3, e4⟩ := HL.out.at hi
      have hdr := findB_drop hi s
      obtain ⟨x, hx⟩ : ∃ x, l[k] = x := ⟨_, rfl⟩
      rw [hx] at e0 e1 e2 e3 e4 hv hnm hdr
      rw [← Below.cellB hBw hb] at e0 e1 e2 e3 e4
      have HD := Lib.hid (hdr.symm.trans hT.out)
      have k1 : (0 : Int) ≤ (k : Int) := by omega
      have k2 : (k : Int) < (l.length : Int) := by omega
      clear hx hdr hT hBw hv hnm e2 e3 e4
      by_cases hq : x.name.toList = s.toList
      · have hqb : (x.name.toList == s.toList) = true := beq_iff_eq.2 hq
        have HD2 : Hid (r = some x.val) := Lib.hid (by have := HD.out; rw [hqb] at this; exact this.symm)
        clear HD hq
        go_wp2_with fail
        go_quiet (fail)
        have HE := Lib.hid (hB.out.trans ((below_drewN' nq).mono hB.out.size))
        go_wp2_with fail
        refine bodyPost_ret (v := .tuple #[.int .u8 x.val.kind, .int .i64 0]) (by simp [results, Tryz.results64, go_sem]) rfl ?_
        exact TypR.of (by rw [HR.out, HD2.out]) (HB.out.trans (HE.out.mono HB.out.size))
      · have hqb : (x.name.toList == s.toList) = false := beq_eq_false_iff_ne.2 hq
        have HD2 : Hid (findB (l.drop (k + 1)) s = r) := Lib.hid (by have := HD.out; rw [hqb] at this; exact this)
        clear HD hq
        go_wp2_with fail
        go_quiet (fail)
        have HE := Lib.hid (hB.out.trans ((below_drewN' nq).mono hB.out.size))
        go_wp2_with fail
        go_roundg (gk - 1)
        case measure => omega
        case rel => exact ⟨k + 1, by omega, by go_num, HD2, HE⟩
    · have u1 : decide ((k : Int) < (l.length : Int)) = false := decide_eq_false (by omega)
      have u1' : decide (k < l.length) = false := decide_eq_false hi
      have HD2 : Hid (r = none) := Lib.hid (by have := hT.out; rw [List.drop_eq_nil_of_le (by omega)] at this; exact this.symm)
      clear hT
      go_wp2_with fail
      refine bodyPost_ret (v := .tuple #[.int .u8 0, .int .i64 100]) (by simp [results, Tryz.results64, go_sem]) rfl ?_
      exact TypR.of (by rw [HR.out, HD2.out]) (HB.out.trans (hB.out.mono HB.out.size))
/-- What a call at a kid does, where the kid lies. -/
abbrev CellsK (V : World) (b o : Nat) (k : Nd) (vk : Value) : Prop :=
  V.cell? ⟨b, o, none⟩ = some (.int .u8 k.op) ∧ V.cell? ⟨b, o + 1, none⟩ = some (.int .u8 k.v.kind) ∧ V.cell? ⟨b, o + 2, none⟩ = some (.int .i64 k.v.num) ∧ V.cell? ⟨b, o + 3, none⟩ = some (.bool k.v.tr) ∧ V.cell? ⟨b, o + 4, none⟩ = some (.string k.v.text) ∧ V.cell? ⟨b, o + 5, none⟩ = some (.string k.name) ∧ V.cell? ⟨b, o + 6, none⟩ = some vk
theorem KidS.cells {w : World} {B b o : Nat} {k : Nd} {a : Option Addr} {c d : Nat} (h : KidS w B b o k a c d) : CellsK w b o k (.slice a c d) := ⟨h.q0, h.q1, h.q2, h.q3, h.q4, h.q5, h.q6⟩
set_option maxHeartbeats 2000000 in
theorem rtyp1_3e {l : List Bd} {m : Nat} (IH : RTyp l m) (w : World) (u : Vl) (nm : ByteArray) (x : Nd) (hm : SizeOf.sizeOf x ≤ m) (hc : checkN x = true) (vk vl : Value) (hn : KidsR w w.heap.size vk [x]) (hl : BdsR w w.heap.size vl l) {ka ea : Int} (hk : typeN l x = (ka, ea)) (he : ea ≠ 0) :
    Calls Tryz.prog 64 #[valO 3 u nm vk, vl] w (TypR l (oneN 3 x) w) := by
  have hks := hn
  obtain ⟨a, c, rfl⟩ := hks.val
  obtain ⟨b, o, a', c', d', rfl, hK⟩ := KidS.of hks (i := 0) (by simp)
  have hK' : KidS w w.heap.size b o x a' c' d' := by simpa using hK
  obtain ⟨w0, p0, hp0, hw0, l0, b0, hC0⟩ := nd_boxO w 3 u nm (.slice (some ⟨b, o, none⟩) 1 c) 36
  have HC0 := Lib.hid hC0
  have hR := typeN_one l (show (3 : Int) ≤ 3 by omega) x
  rw [hk] at hR
  have HR := Lib.hid hR
  have hK0 := hK'.up b0
  obtain ⟨c0, c1, c2, c3, c4, c5, c6⟩ := hC0 w0 (Below.refl _ _)
  obtain ⟨x0, x1, x2, x3, x4, x5, x6⟩ := hK0.cells
  have HX := Lib.hid (IH x hm hc w0 (.slice a' c' d') vl ⟨hK'.hw, hK'.hk.mono b0 b0.size⟩ (hl.mono b0 b0.size))
  obtain ⟨va, vc, rfl⟩ := hl.val
  have HB := Lib.hid b0
  have HX2 : Hid (∀ e w', TypR l x w0 e w' → e = .returned (.tuple #[.int .u8 ka, .int .i64 ea]) ∧ Below w0.heap.size w0 w') := Lib.hid (fun e w' h => by unfold TypR at h; rw [hk] at h; exact h)
  clear hn hks hK hK' hK0 hC0 b0 hR hc hm hk hl IH
  have HV : Hid ((if (ka, ea).2 = 0 then typeC 3 [(ka, ea).1] else (0, (ka, ea).2)) = (0, ea)) := Lib.hid (if_neg he)
  have u1 : (ea != 0) = true := bne_iff_ne.2 he
  clear he
  go_enter Tryz.func64, Tryz.ntmps64
  go_wp2_with (go_at_call 64; refine HX.out.mono ?_; intro e w2 h; obtain ⟨rfl, hb2⟩ := HX2.out _ _ h; have HB2 := Lib.hid (HB.out.trans (hb2.mono HB.out.size)); obtain ⟨c0, c1, c2, c3, c4, c5, c6⟩ := HC0.out _ hb2; clear h hb2)
  refine bodyPost_ret (v := .tuple #[.int .u8 0, .int .i64 ea]) (by simp [results, Tryz.results64, go_sem]) rfl ?_
  exact TypR.of (HR.out.trans HV.out) HB2.out
set_option maxHeartbeats 2000000 in
theorem rtyp1_3y {l : List Bd} {m : Nat} (IH : RTyp l m) (w : World) (u : Vl) (nm : ByteArray) (x : Nd) (hm : SizeOf.sizeOf x ≤ m) (hc : checkN x = true) (vk vl : Value) (hn : KidsR w w.heap.size vk [x]) (hl : BdsR w w.heap.size vl l) {ka ea : Int} (hk : typeN l x = (ka, ea)) (he : ea = 0) (hy : ka = 2) :
    Calls Tryz.prog 64 #[valO 3 u nm vk, vl] w (TypR l (oneN 3 x) w) := by
  have hks := hn
  obtain ⟨a, c, rfl⟩ := hks.val
  obtain ⟨b, o, a', c', d', rfl, hK⟩ := KidS.of hks (i := 0) (by simp)
  have hK' : KidS w w.heap.size b o x a' c' d' := by simpa using hK
  obtain ⟨w0, p0, hp0, hw0, l0, b0, hC0⟩ := nd_boxO w 3 u nm (.slice (some ⟨b, o, none⟩) 1 c) 36
  have HC0 := Lib.hid hC0
  have hR := typeN_one l (show (3 : Int) ≤ 3 by omega) x
  rw [hk] at hR
  have HR := Lib.hid hR
  have hK0 := hK'.up b0
  obtain ⟨c0, c1, c2, c3, c4, c5, c6⟩ := hC0 w0 (Below.refl _ _)
  obtain ⟨x0, x1, x2, x3, x4, x5, x6⟩ := hK0.cells
  have HX := Lib.hid (IH x hm hc w0 (.slice a' c' d') vl ⟨hK'.hw, hK'.hk.mono b0 b0.size⟩ (hl.mono b0 b0.size))
  obtain ⟨va, vc, rfl⟩ := hl.val
  have HB := Lib.hid b0
  have HX2 : Hid (∀ e w', TypR l x w0 e w' → e = .returned (.tuple #[.int .u8 ka, .int .i64 ea]) ∧ Below w0.heap.size w0 w') := Lib.hid (fun e w' h => by unfold TypR at h; rw [hk] at h; exact h)
  clear hn hks hK hK' hK0 hC0 b0 hR hc hm hk hl IH
  have HV : Hid ((if (ka, ea).2 = 0 then typeC 3 [(ka, ea).1] else (0, (ka, ea).2)) = (ka, 0)) := Lib.hid (by rw [if_pos he]; exact (typeC_not ka).trans (if_pos hy))
  have u1 : (ea != 0) = false := bne_eq_false_iff_eq.2 he
  have u2 : (ka == 2) = true := beq_iff_eq.2 hy
  clear he hy
  go_enter Tryz.func64, Tryz.ntmps64
  go_wp2_with (go_at_call 64; refine HX.out.mono ?_; intro e w2 h; obtain ⟨rfl, hb2⟩ := HX2.out _ _ h; have HB2 := Lib.hid (HB.out.trans (hb2.mono HB.out.size)); obtain ⟨c0, c1, c2, c3, c4, c5, c6⟩ := HC0.out _ hb2; clear h hb2)
  refine bodyPost_ret (v := .tuple #[.int .u8 ka, .int .i64 0]) (by simp [results, Tryz.results64, go_sem]) rfl ?_
  exact TypR.of (HR.out.trans HV.out) HB2.out
set_option maxHeartbeats 2000000 in
theorem rtyp1_3n {l : List Bd} {m : Nat} (IH : RTyp l m) (w : World) (u : Vl) (nm : ByteArray) (x : Nd) (hm : SizeOf.sizeOf x ≤ m) (hc : checkN x = true) (vk vl : Value) (hn : KidsR w w.heap.size vk [x]) (hl : BdsR w w.heap.size vl l) {ka ea : Int} (hk : typeN l x = (ka, ea)) (he : ea = 0) (hy : ka ≠ 2) :
    Calls Tryz.prog 64 #[valO 3 u nm vk, vl] w (TypR l (oneN 3 x) w) := by
  have hks := hn
  obtain ⟨a, c, rfl⟩ := hks.val
  obtain ⟨b, o, a', c', d', rfl, hK⟩ := KidS.of hks (i := 0) (by simp)
  have hK' : KidS w w.heap.size b o x a' c' d' := by simpa using hK
  obtain ⟨w0, p0, hp0, hw0, l0, b0, hC0⟩ := nd_boxO w 3 u nm (.slice (some ⟨b, o, none⟩) 1 c) 36
  have HC0 := Lib.hid hC0
  have hR := typeN_one l (show (3 : Int) ≤ 3 by omega) x
  rw [hk] at hR
  have HR := Lib.hid hR
  have hK0 := hK'.up b0
  obtain ⟨c0, c1, c2, c3, c4, c5, c6⟩ := hC0 w0 (Below.refl _ _)
  obtain ⟨x0, x1, x2, x3, x4, x5, x6⟩ := hK0.cells
  have HX := Lib.hid (IH x hm hc w0 (.slice a' c' d') vl ⟨hK'.hw, hK'.hk.mono b0 b0.size⟩ (hl.mono b0 b0.size))
  obtain ⟨va, vc, rfl⟩ := hl.val
  have HB := Lib.hid b0
  have HX2 : Hid (∀ e w', TypR l x w0 e w' → e = .returned (.tuple #[.int .u8 ka, .int .i64 ea]) ∧ Below w0.heap.size w0 w') := Lib.hid (fun e w' h => by unfold TypR at h; rw [hk] at h; exact h)
  clear hn hks hK hK' hK0 hC0 b0 hR hc hm hk hl IH
  have HV : Hid ((if (ka, ea).2 = 0 then typeC 3 [(ka, ea).1] else (0, (ka, ea).2)) = (0, 90)) := Lib.hid (by rw [if_pos he]; exact (typeC_not ka).trans (if_neg hy))
  have u1 : (ea != 0) = false := bne_eq_false_iff_eq.2 he
  have u2 : (ka == 2) = false := beq_eq_false_iff_ne.2 hy
  clear he hy
  go_enter Tryz.func64, Tryz.ntmps64
  go_wp2_with (go_at_call 64; refine HX.out.mono ?_; intro e w2 h; obtain ⟨rfl, hb2⟩ := HX2.out _ _ h; have HB2 := Lib.hid (HB.out.trans (hb2.mono HB.out.size)); obtain ⟨c0, c1, c2, c3, c4, c5, c6⟩ := HC0.out _ hb2; clear h hb2)
  refine bodyPost_ret (v := .tuple #[.int .u8 0, .int .i64 90]) (by simp [results, Tryz.results64, go_sem]) rfl ?_
  exact TypR.of (HR.out.trans HV.out) HB2.out
set_option maxHeartbeats 2000000 in
theorem rtyp1_4e {l : List Bd} {m : Nat} (IH : RTyp l m) (w : World) (u : Vl) (nm : ByteArray) (x : Nd) (hm : SizeOf.sizeOf x ≤ m) (hc : checkN x = true) (vk vl : Value) (hn : KidsR w w.heap.size vk [x]) (hl : BdsR w w.heap.size vl l) {ka ea : Int} (hk : typeN l x = (ka, ea)) (he : ea ≠ 0) :
    Calls Tryz.prog 64 #[valO 4 u nm vk, vl] w (TypR l (oneN 4 x) w) := by
  have hks := hn
  obtain ⟨a, c, rfl⟩ := hks.val
  obtain ⟨b, o, a', c', d', rfl, hK⟩ := KidS.of hks (i := 0) (by simp)
  have hK' : KidS w w.heap.size b o x a' c' d' := by simpa using hK
  obtain ⟨w0, p0, hp0, hw0, l0, b0, hC0⟩ := nd_boxO w 4 u nm (.slice (some ⟨b, o, none⟩) 1 c) 36
  have HC0 := Lib.hid hC0
  have hR := typeN_one l (show (3 : Int) ≤ 4 by omega) x
  rw [hk] at hR
  have HR := Lib.hid hR
  have hK0 := hK'.up b0
  obtain ⟨c0, c1, c2, c3, c4, c5, c6⟩ := hC0 w0 (Below.refl _ _)
  obtain ⟨x0, x1, x2, x3, x4, x5, x6⟩ := hK0.cells
  have HX := Lib.hid (IH x hm hc w0 (.slice a' c' d') vl ⟨hK'.hw, hK'.hk.mono b0 b0.size⟩ (hl.mono b0 b0.size))
  obtain ⟨va, vc, rfl⟩ := hl.val
  have HB := Lib.hid b0
  have HX2 : Hid (∀ e w', TypR l x w0 e w' → e = .returned (.tuple #[.int .u8 ka, .int .i64 ea]) ∧ Below w0.heap.size w0 w') := Lib.hid (fun e w' h => by unfold TypR at h; rw [hk] at h; exact h)
  clear hn hks hK hK' hK0 hC0 b0 hR hc hm hk hl IH
  have HV : Hid ((if (ka, ea).2 = 0 then typeC 4 [(ka, ea).1] else (0, (ka, ea).2)) = (0, ea)) := Lib.hid (if_neg he)
  have u1 : (ea != 0) = true := bne_iff_ne.2 he
  clear he
  go_enter Tryz.func64, Tryz.ntmps64
  go_wp2_with (go_at_call 64; refine HX.out.mono ?_; intro e w2 h; obtain ⟨rfl, hb2⟩ := HX2.out _ _ h; have HB2 := Lib.hid (HB.out.trans (hb2.mono HB.out.size)); obtain ⟨c0, c1, c2, c3, c4, c5, c6⟩ := HC0.out _ hb2; clear h hb2)
  refine bodyPost_ret (v := .tuple #[.int .u8 0, .int .i64 ea]) (by simp [results, Tryz.results64, go_sem]) rfl ?_
  exact TypR.of (HR.out.trans HV.out) HB2.out
set_option maxHeartbeats 2000000 in
theorem rtyp1_4y {l : List Bd} {m : Nat} (IH : RTyp l m) (w : World) (u : Vl) (nm : ByteArray) (x : Nd) (hm : SizeOf.sizeOf x ≤ m) (hc : checkN x = true) (vk vl : Value) (hn : KidsR w w.heap.size vk [x]) (hl : BdsR w w.heap.size vl l) {ka ea : Int} (hk : typeN l x = (ka, ea)) (he : ea = 0) (hy : ka = 1) :
    Calls Tryz.prog 64 #[valO 4 u nm vk, vl] w (TypR l (oneN 4 x) w) := by
  have hks := hn
  obtain ⟨a, c, rfl⟩ := hks.val
  obtain ⟨b, o, a', c', d', rfl, hK⟩ := KidS.of hks (i := 0) (by simp)
  have hK' : KidS w w.heap.size b o x a' c' d' := by simpa using hK
  obtain ⟨w0, p0, hp0, hw0, l0, b0, hC0⟩ := nd_boxO w 4 u nm (.slice (some ⟨b, o, none⟩) 1 c) 36
  have HC0 := Lib.hid hC0
  have hR := typeN_one l (show (3 : Int) ≤ 4 by omega) x
  rw [hk] at hR
  have HR := Lib.hid hR
  have hK0 := hK'.up b0
  obtain ⟨c0, c1, c2, c3, c4, c5, c6⟩ := hC0 w0 (Below.refl _ _)
  obtain ⟨x0, x1, x2, x3, x4, x5, x6⟩ := hK0.cells
  have HX := Lib.hid (IH x hm hc w0 (.slice a' c' d') vl ⟨hK'.hw, hK'.hk.mono b0 b0.size⟩ (hl.mono b0 b0.size))
  obtain ⟨va, vc, rfl⟩ := hl.val
  have HB := Lib.hid b0
  have HX2 : Hid (∀ e w', TypR l x w0 e w' → e = .returned (.tuple #[.int .u8 ka, .int .i64 ea]) ∧ Below w0.heap.size w0 w') := Lib.hid (fun e w' h => by unfold TypR at h; rw [hk] at h; exact h)
  clear hn hks hK hK' hK0 hC0 b0 hR hc hm hk hl IH
  have HV : Hid ((if (ka, ea).2 = 0 then typeC 4 [(ka, ea).1] else (0, (ka, ea).2)) = (ka, 0)) := Lib.hid (by rw [if_pos he]; exact (typeC_neg ka).trans (if_pos hy))
  have u1 : (ea != 0) = false := bne_eq_false_iff_eq.2 he
  have u2 : (ka == 1) = true := beq_iff_eq.2 hy
  clear he hy
  go_enter Tryz.func64, Tryz.ntmps64
  go_wp2_with (go_at_call 64; refine HX.out.mono ?_; intro e w2 h; obtain ⟨rfl, hb2⟩ := HX2.out _ _ h; have HB2 := Lib.hid (HB.out.trans (hb2.mono HB.out.size)); obtain ⟨c0, c1, c2, c3, c4, c5, c6⟩ := HC0.out _ hb2; clear h hb2)
  refine bodyPost_ret (v := .tuple #[.int .u8 ka, .int .i64 0]) (by simp [results, Tryz.results64, go_sem]) rfl ?_
  exact TypR.of (HR.out.trans HV.out) HB2.out
set_option maxHeartbeats 2000000 in
theorem rtyp1_4n {l : List Bd} {m : Nat} (IH : RTyp l m) (w : World) (u : Vl) (nm : ByteArray) (x : Nd) (hm : SizeOf.sizeOf x ≤ m) (hc : checkN x = true) (vk vl : Value) (hn : KidsR w w.heap.size vk [x]) (hl : BdsR w w.heap.size vl l) {ka ea : Int} (hk : typeN l x = (ka, ea)) (he : ea = 0) (hy : ka ≠ 1) :
    Calls Tryz.prog 64 #[valO 4 u nm vk, vl] w (TypR l (oneN 4 x) w) := by
  have hks := hn
  obtain ⟨a, c, rfl⟩ := hks.val
  obtain ⟨b, o, a', c', d', rfl, hK⟩ := KidS.of hks (i := 0) (by simp)
  have hK' : KidS w w.heap.size b o x a' c' d' := by simpa using hK
  obtain ⟨w0, p0, hp0, hw0, l0, b0, hC0⟩ := nd_boxO w 4 u nm (.slice (some ⟨b, o, none⟩) 1 c) 36
  have HC0 := Lib.hid hC0
  have hR := typeN_one l (show (3 : Int) ≤ 4 by omega) x
  rw [hk] at hR
  have HR := Lib.hid hR
  have hK0 := hK'.up b0
  obtain ⟨c0, c1, c2, c3, c4, c5, c6⟩ := hC0 w0 (Below.refl _ _)
  obtain ⟨x0, x1, x2, x3, x4, x5, x6⟩ := hK0.cells
  have HX := Lib.hid (IH x hm hc w0 (.slice a' c' d') vl ⟨hK'.hw, hK'.hk.mono b0 b0.size⟩ (hl.mono b0 b0.size))
  obtain ⟨va, vc, rfl⟩ := hl.val
  have HB := Lib.hid b0
  have HX2 : Hid (∀ e w', TypR l x w0 e w' → e = .returned (.tuple #[.int .u8 ka, .int .i64 ea]) ∧ Below w0.heap.size w0 w') := Lib.hid (fun e w' h => by unfold TypR at h; rw [hk] at h; exact h)
  clear hn hks hK hK' hK0 hC0 b0 hR hc hm hk hl IH
  have HV : Hid ((if (ka, ea).2 = 0 then typeC 4 [(ka, ea).1] else (0, (ka, ea).2)) = (0, 90)) := Lib.hid (by rw [if_pos he]; exact (typeC_neg ka).trans (if_neg hy))
  have u1 : (ea != 0) = false := bne_eq_false_iff_eq.2 he
  have u2 : (ka == 1) = false := beq_eq_false_iff_ne.2 hy
  clear he hy
  go_enter Tryz.func64, Tryz.ntmps64
  go_wp2_with (go_at_call 64; refine HX.out.mono ?_; intro e w2 h; obtain ⟨rfl, hb2⟩ := HX2.out _ _ h; have HB2 := Lib.hid (HB.out.trans (hb2.mono HB.out.size)); obtain ⟨c0, c1, c2, c3, c4, c5, c6⟩ := HC0.out _ hb2; clear h hb2)
  refine bodyPost_ret (v := .tuple #[.int .u8 0, .int .i64 90]) (by simp [results, Tryz.results64, go_sem]) rfl ?_
  exact TypR.of (HR.out.trans HV.out) HB2.out
set_option maxHeartbeats 4000000 in
theorem rtyp2_a {l : List Bd} {m : Nat} (IH : RTyp l m) (w : World) (op : Int) (h5 : 5 ≤ op) (h17 : op ≤ 17) (u : Vl) (nm : ByteArray) (x y : Nd) (hm : SizeOf.sizeOf x ≤ m ∧ SizeOf.sizeOf y ≤ m) (hc : checkN x = true ∧ checkN y = true) (vk vl : Value) (hn : KidsR w w.heap.size vk [x, y]) (hl : BdsR w w.heap.size vl l) {ka ea kb eb : Int} (hk : typeN l x = (ka, ea)) (hk2 : typeN l y = (kb, eb)) (he : ea ≠ 0) :
    Calls Tryz.prog 64 #[valO op u nm vk, vl] w (TypR l (twoN op x y) w) := by
  have hks := hn
  obtain ⟨a, c, rfl⟩ := hks.val
  obtain ⟨b, o, a', c', d', rfl, hK⟩ := KidS.of hks (i := 0) (by simp)
  obtain ⟨b2, o2, a2, c2, d2, hab, hY⟩ := KidS.of hks (i := 1) (by simp)
  injection hab with hab
  injection hab with hab1 hab2 hab3
  subst hab1 hab2
  have hK' : KidS w w.heap.size b o x a' c' d' := by simpa using hK
  have hY' : KidS w w.heap.size b (o + 7) y a2 c2 d2 := by simpa using hY
  obtain ⟨w0, p0, hp0, hw0, l0, b0, hC0⟩ := nd_boxO w op u nm (.slice (some ⟨b, o, none⟩) 2 c) 36
  have HC0 := Lib.hid hC0
  have hR := typeN_two l (show (3 : Int) ≤ op by omega) x y
  rw [hk, hk2] at hR
  have HR := Lib.hid hR
  have hK0 := hK'.up b0
  obtain ⟨g0, g1, g2, g3, g4, g5, g6⟩ := hC0 w0 (Below.refl _ _)
  obtain ⟨x0, x1, x2, x3, x4, x5, x6⟩ := hK0.cells
  have HX := Lib.hid (IH x hm.1 hc.1 w0 (.slice a' c' d') vl ⟨hK'.hw, hK'.hk.mono b0 b0.size⟩ (hl.mono b0 b0.size))
  have HY := Lib.hid (fun (W : World) (hW : Below w.heap.size w W) => IH y hm.2 hc.2 W (.slice a2 c2 d2) vl ⟨hY'.hw, hY'.hk.mono hW hW.size⟩ (hl.mono hW hW.size))
  have HYC := Lib.hid (fun (W : World) (hW : Below w.heap.size w W) => (hY'.up hW).cells)
  obtain ⟨va, vc, rfl⟩ := hl.val
  have HB := Lib.hid b0
  have HX2 : Hid (∀ e w', TypR l x w0 e w' → e = .returned (.tuple #[.int .u8 ka, .int .i64 ea]) ∧ Below w0.heap.size w0 w') := Lib.hid (fun e w' h => by unfold TypR at h; rw [hk] at h; exact h)
  have HY2 : Hid (∀ W e w', TypR l y W e w' → e = .returned (.tuple #[.int .u8 kb, .int .i64 eb]) ∧ Below W.heap.size W w') := Lib.hid (fun W e w' h => by unfold TypR at h; rw [hk2] at h; exact h)
  have e1 : (op == 1) = false := by rw [beq_eq_false_iff_ne]; omega
  have e2 : (op == 2) = false := by rw [beq_eq_false_iff_ne]; omega
  have e3 : (op == 3) = false := by rw [beq_eq_false_iff_ne]; omega
  have e4 : (op == 4) = false := by rw [beq_eq_false_iff_ne]; omega
  have HV : Hid ((if (ka, ea).2 = 0 then (if (kb, eb).2 = 0 then typeC op [(ka, ea).1, (kb, eb).1] else (0, (kb, eb).2)) else (0, (ka, ea).2)) = (0, ea)) := Lib.hid (if_neg he)
  have u1 : (ea != 0) = true := bne_iff_ne.2 he
  clear hn hks hK hK' hY hY' hK0 hC0 b0 hR hc hm hk hk2 hl IH hab3 he
  go_enter Tryz.func64, Tryz.ntmps64
  go_wp2_with (first
    | (have _ := mk; go_at_call 64; refine (HY.out _ HB2.out).mono ?_; intro e w3 h; obtain ⟨rfl, hb3⟩ := HY2.out _ _ _ h; have HB3 := Lib.hid (HB2.out.trans (hb3.mono HB2.out.size)); obtain ⟨g0, g1, g2, g3, g4, g5, g6⟩ := HC0.out _ (HBC.out.trans (hb3.mono HBC.out.size)); clear h hb3)
    | (go_at_call 64; refine HX.out.mono ?_; intro e w2 h; obtain ⟨rfl, hb2⟩ := HX2.out _ _ h; have HB2 := Lib.hid (HB.out.trans (hb2.mono HB.out.size)); have HBC := Lib.hid hb2; obtain ⟨g0, g1, g2, g3, g4, g5, g6⟩ := HC0.out _ hb2; obtain ⟨y0, y1, y2, y3, y4, y5, y6⟩ := HYC.out _ HB2.out; have mk := HB2; clear h hb2))
  refine bodyPost_ret (v := .tuple #[.int .u8 0, .int .i64 ea]) (by simp [results, Tryz.results64, go_sem]) rfl ?_
  exact TypR.of (HR.out.trans HV.out) HB2.out
set_option maxHeartbeats 4000000 in
theorem rtyp2_b {l : List Bd} {m : Nat} (IH : RTyp l m) (w : World) (op : Int) (h5 : 5 ≤ op) (h17 : op ≤ 17) (u : Vl) (nm : ByteArray) (x y : Nd) (hm : SizeOf.sizeOf x ≤ m ∧ SizeOf.sizeOf y ≤ m) (hc : checkN x = true ∧ checkN y = true) (vk vl : Value) (hn : KidsR w w.heap.size vk [x, y]) (hl : BdsR w w.heap.size vl l) {ka ea kb eb : Int} (hk : typeN l x = (ka, ea)) (hk2 : typeN l y = (kb, eb)) (he : ea = 0) (hf : eb ≠ 0) :
    Calls Tryz.prog 64 #[valO op u nm vk, vl] w (TypR l (twoN op x y) w) := by
  have hks := hn
  obtain ⟨a, c, rfl⟩ := hks.val
  obtain ⟨b, o, a', c', d', rfl, hK⟩ := KidS.of hks (i := 0) (by simp)
  obtain ⟨b2, o2, a2, c2, d2, hab, hY⟩ := KidS.of hks (i := 1) (by simp)
  injection hab with hab
  injection hab with hab1 hab2 hab3
  subst hab1 hab2
  have hK' : KidS w w.heap.size b o x a' c' d' := by simpa using hK
  have hY' : KidS w w.heap.size b (o + 7) y a2 c2 d2 := by simpa using hY
  obtain ⟨w0, p0, hp0, hw0, l0, b0, hC0⟩ := nd_boxO w op u nm (.slice (some ⟨b, o, none⟩) 2 c) 36
  have HC0 := Lib.hid hC0
  have hR := typeN_two l (show (3 : Int) ≤ op by omega) x y
  rw [hk, hk2] at hR
  have HR := Lib.hid hR
  have hK0 := hK'.up b0
  obtain ⟨g0, g1, g2, g3, g4, g5, g6⟩ := hC0 w0 (Below.refl _ _)
  obtain ⟨x0, x1, x2, x3, x4, x5, x6⟩ := hK0.cells
  have HX := Lib.hid (IH x hm.1 hc.1 w0 (.slice a' c' d') vl ⟨hK'.hw, hK'.hk.mono b0 b0.size⟩ (hl.mono b0 b0.size))
  have HY := Lib.hid (fun (W : World) (hW : Below w.heap.size w W) => IH y hm.2 hc.2 W (.slice a2 c2 d2) vl ⟨hY'.hw, hY'.hk.mono hW hW.size⟩ (hl.mono hW hW.size))
  have HYC := Lib.hid (fun (W : World) (hW : Below w.heap.size w W) => (hY'.up hW).cells)
  obtain ⟨va, vc, rfl⟩ := hl.val
  have HB := Lib.hid b0
  have HX2 : Hid (∀ e w', TypR l x w0 e w' → e = .returned (.tuple #[.int .u8 ka, .int .i64 ea]) ∧ Below w0.heap.size w0 w') := Lib.hid (fun e w' h => by unfold TypR at h; rw [hk] at h; exact h)
  have HY2 : Hid (∀ W e w', TypR l y W e w' → e = .returned (.tuple #[.int .u8 kb, .int .i64 eb]) ∧ Below W.heap.size W w') := Lib.hid (fun W e w' h => by unfold TypR at h; rw [hk2] at h; exact h)
  have e1 : (op == 1) = false := by rw [beq_eq_false_iff_ne]; omega
  have e2 : (op == 2) = false := by rw [beq_eq_false_iff_ne]; omega
  have e3 : (op == 3) = false := by rw [beq_eq_false_iff_ne]; omega
  have e4 : (op == 4) = false := by rw [beq_eq_false_iff_ne]; omega
  have HV : Hid ((if (ka, ea).2 = 0 then (if (kb, eb).2 = 0 then typeC op [(ka, ea).1, (kb, eb).1] else (0, (kb, eb).2)) else (0, (ka, ea).2)) = (0, eb)) := Lib.hid ((if_pos he).trans (if_neg hf))
  have v1 : (ea != 0) = false := bne_eq_false_iff_eq.2 he
  have v2 : (eb != 0) = true := bne_iff_ne.2 hf
  clear hn hks hK hK' hY hY' hK0 hC0 b0 hR hc hm hk hk2 hl IH hab3 he hf
  go_enter Tryz.func64, Tryz.ntmps64
  go_wp2_with (first
    | (have _ := mk; go_at_call 64; refine (HY.out _ HB2.out).mono ?_; intro e w3 h; obtain ⟨rfl, hb3⟩ := HY2.out _ _ _ h; have HB3 := Lib.hid (HB2.out.trans (hb3.mono HB2.out.size)); obtain ⟨g0, g1, g2, g3, g4, g5, g6⟩ := HC0.out _ (HBC.out.trans (hb3.mono HBC.out.size)); clear h hb3)
    | (go_at_call 64; refine HX.out.mono ?_; intro e w2 h; obtain ⟨rfl, hb2⟩ := HX2.out _ _ h; have HB2 := Lib.hid (HB.out.trans (hb2.mono HB.out.size)); have HBC := Lib.hid hb2; obtain ⟨g0, g1, g2, g3, g4, g5, g6⟩ := HC0.out _ hb2; obtain ⟨y0, y1, y2, y3, y4, y5, y6⟩ := HYC.out _ HB2.out; have mk := HB2; clear h hb2))
  refine bodyPost_ret (v := .tuple #[.int .u8 0, .int .i64 eb]) (by simp [results, Tryz.results64, go_sem]) rfl ?_
  exact TypR.of (HR.out.trans HV.out) HB3.out
set_option maxHeartbeats 4000000 in
theorem rtyp2_u {l : List Bd} {m : Nat} (IH : RTyp l m) (w : World) (op : Int) (h5 : 5 ≤ op) (h17 : op ≤ 17) (u : Vl) (nm : ByteArray) (x y : Nd) (hm : SizeOf.sizeOf x ≤ m ∧ SizeOf.sizeOf y ≤ m) (hc : checkN x = true ∧ checkN y = true) (vk vl : Value) (hn : KidsR w w.heap.size vk [x, y]) (hl : BdsR w w.heap.size vl l) {ka ea kb eb : Int} (hk : typeN l x = (ka, ea)) (hk2 : typeN l y = (kb, eb)) (he : ea = 0) (hf : eb = 0) (hu : ka ≠ kb) :
    Calls Tryz.prog 64 #[valO op u nm vk, vl] w (TypR l (twoN op x y) w) := by
  have hks := hn
  obtain ⟨a, c, rfl⟩ := hks.val
  obtain ⟨b, o, a', c', d', rfl, hK⟩ := KidS.of hks (i := 0) (by simp)
  obtain ⟨b2, o2, a2, c2, d2, hab, hY⟩ := KidS.of hks (i := 1) (by simp)
  injection hab with hab
  injection hab with hab1 hab2 hab3
  subst hab1 hab2
  have hK' : KidS w w.heap.size b o x a' c' d' := by simpa using hK
  have hY' : KidS w w.heap.size b (o + 7) y a2 c2 d2 := by simpa using hY
  obtain ⟨w0, p0, hp0, hw0, l0, b0, hC0⟩ := nd_boxO w op u nm (.slice (some ⟨b, o, none⟩) 2 c) 36
  have HC0 := Lib.hid hC0
  have hR := typeN_two l (show (3 : Int) ≤ op by omega) x y
  rw [hk, hk2] at hR
  have HR := Lib.hid hR
  have hK0 := hK'.up b0
  obtain ⟨g0, g1, g2, g3, g4, g5, g6⟩ := hC0 w0 (Below.refl _ _)
  obtain ⟨x0, x1, x2, x3, x4, x5, x6⟩ := hK0.cells
  have HX := Lib.hid (IH x hm.1 hc.1 w0 (.slice a' c' d') vl ⟨hK'.hw, hK'.hk.mono b0 b0.size⟩ (hl.mono b0 b0.size))
  have HY := Lib.hid (fun (W : World) (hW : Below w.heap.size w W) => IH y hm.2 hc.2 W (.slice a2 c2 d2) vl ⟨hY'.hw, hY'.hk.mono hW hW.size⟩ (hl.mono hW hW.size))
  have HYC := Lib.hid (fun (W : World) (hW : Below w.heap.size w W) => (hY'.up hW).cells)
  obtain ⟨va, vc, rfl⟩ := hl.val
  have HB := Lib.hid b0
  have HX2 : Hid (∀ e w', TypR l x w0 e w' → e = .returned (.tuple #[.int .u8 ka, .int .i64 ea]) ∧ Below w0.heap.size w0 w') := Lib.hid (fun e w' h => by unfold TypR at h; rw [hk] at h; exact h)
  have HY2 : Hid (∀ W e w', TypR l y W e w' → e = .returned (.tuple #[.int .u8 kb, .int .i64 eb]) ∧ Below W.heap.size W w') := Lib.hid (fun W e w' h => by unfold TypR at h; rw [hk2] at h; exact h)
  have e1 : (op == 1) = false := by rw [beq_eq_false_iff_ne]; omega
  have e2 : (op == 2) = false := by rw [beq_eq_false_iff_ne]; omega
  have e3 : (op == 3) = false := by rw [beq_eq_false_iff_ne]; omega
  have e4 : (op == 4) = false := by rw [beq_eq_false_iff_ne]; omega
  have HV : Hid ((if (ka, ea).2 = 0 then (if (kb, eb).2 = 0 then typeC op [(ka, ea).1, (kb, eb).1] else (0, (kb, eb).2)) else (0, (ka, ea).2)) = (0, 90)) := Lib.hid ((if_pos he).trans ((if_pos hf).trans (typeC_un hu)))
  have v1 : (ea != 0) = false := bne_eq_false_iff_eq.2 he
  have v2 : (eb != 0) = false := bne_eq_false_iff_eq.2 hf
  have v3 : (ka != kb) = true := bne_iff_ne.2 hu
  clear hn hks hK hK' hY hY' hK0 hC0 b0 hR hc hm hk hk2 hl IH hab3 he hf hu
  go_enter Tryz.func64, Tryz.ntmps64
  go_wp2_with (first
    | (have _ := mk; go_at_call 64; refine (HY.out _ HB2.out).mono ?_; intro e w3 h; obtain ⟨rfl, hb3⟩ := HY2.out _ _ _ h; have HB3 := Lib.hid (HB2.out.trans (hb3.mono HB2.out.size)); obtain ⟨g0, g1, g2, g3, g4, g5, g6⟩ := HC0.out _ (HBC.out.trans (hb3.mono HBC.out.size)); clear h hb3)
    | (go_at_call 64; refine HX.out.mono ?_; intro e w2 h; obtain ⟨rfl, hb2⟩ := HX2.out _ _ h; have HB2 := Lib.hid (HB.out.trans (hb2.mono HB.out.size)); have HBC := Lib.hid hb2; obtain ⟨g0, g1, g2, g3, g4, g5, g6⟩ := HC0.out _ hb2; obtain ⟨y0, y1, y2, y3, y4, y5, y6⟩ := HYC.out _ HB2.out; have mk := HB2; clear h hb2))
  refine bodyPost_ret (v := .tuple #[.int .u8 0, .int .i64 90]) (by simp [results, Tryz.results64, go_sem]) rfl ?_
  exact TypR.of (HR.out.trans HV.out) HB3.out
set_option maxHeartbeats 4000000 in
theorem rtyp2_5y {l : List Bd} {m : Nat} (IH : RTyp l m) (w : World) (op : Int) (_h5 : 5 ≤ op) (_h17 : op ≤ 17) (u : Vl) (nm : ByteArray) (x y : Nd) (hm : SizeOf.sizeOf x ≤ m ∧ SizeOf.sizeOf y ≤ m) (hc : checkN x = true ∧ checkN y = true) (vk vl : Value) (hn : KidsR w w.heap.size vk [x, y]) (hl : BdsR w w.heap.size vl l) {ka ea kb eb : Int} (hk : typeN l x = (ka, ea)) (hk2 : typeN l y = (kb, eb)) (he : ea = 0) (hf : eb = 0) (hu : ka = kb) (ho : op = 5) (hk0 : ka = 2) :
    Calls Tryz.prog 64 #[valO op u nm vk, vl] w (TypR l (twoN op x y) w) := by
  have hks := hn
  obtain ⟨a, c, rfl⟩ := hks.val
  obtain ⟨b, o, a', c', d', rfl, hK⟩ := KidS.of hks (i := 0) (by simp)
  obtain ⟨b2, o2, a2, c2, d2, hab, hY⟩ := KidS.of hks (i := 1) (by simp)
  injection hab with hab
  injection hab with hab1 hab2 hab3
  subst hab1 hab2
  have hK' : KidS w w.heap.size b o x a' c' d' := by simpa using hK
  have hY' : KidS w w.heap.size b (o + 7) y a2 c2 d2 := by simpa using hY
  obtain ⟨w0, p0, hp0, hw0, l0, b0, hC0⟩ := nd_boxO w op u nm (.slice (some ⟨b, o, none⟩) 2 c) 36
  have HC0 := Lib.hid hC0
  have hR := typeN_two l (show (3 : Int) ≤ op by omega) x y
  rw [hk, hk2] at hR
  have HR := Lib.hid hR
  have hK0 := hK'.up b0
  obtain ⟨g0, g1, g2, g3, g4, g5, g6⟩ := hC0 w0 (Below.refl _ _)
  obtain ⟨x0, x1, x2, x3, x4, x5, x6⟩ := hK0.cells
  have HX := Lib.hid (IH x hm.1 hc.1 w0 (.slice a' c' d') vl ⟨hK'.hw, hK'.hk.mono b0 b0.size⟩ (hl.mono b0 b0.size))
  have HY := Lib.hid (fun (W : World) (hW : Below w.heap.size w W) => IH y hm.2 hc.2 W (.slice a2 c2 d2) vl ⟨hY'.hw, hY'.hk.mono hW hW.size⟩ (hl.mono hW hW.size))
  have HYC := Lib.hid (fun (W : World) (hW : Below w.heap.size w W) => (hY'.up hW).cells)
  obtain ⟨va, vc, rfl⟩ := hl.val
  have HB := Lib.hid b0
  have HX2 : Hid (∀ e w', TypR l x w0 e w' → e = .returned (.tuple #[.int .u8 ka, .int .i64 ea]) ∧ Below w0.heap.size w0 w') := Lib.hid (fun e w' h => by unfold TypR at h; rw [hk] at h; exact h)
  have HY2 : Hid (∀ W e w', TypR l y W e w' → e = .returned (.tuple #[.int .u8 kb, .int .i64 eb]) ∧ Below W.heap.size W w') := Lib.hid (fun W e w' h => by unfold TypR at h; rw [hk2] at h; exact h)
  have e1 : (op == 1) = false := by rw [beq_eq_false_iff_ne]; omega
  have e2 : (op == 2) = false := by rw [beq_eq_false_iff_ne]; omega
  have e3 : (op == 3) = false := by rw [beq_eq_false_iff_ne]; omega
  have e4 : (op == 4) = false := by rw [beq_eq_false_iff_ne]; omega
  have HV : Hid ((if (ka, ea).2 = 0 then (if (kb, eb).2 = 0 then typeC op [(ka, ea).1, (kb, eb).1] else (0, (kb, eb).2)) else (0, (ka, ea).2)) = (2, 0)) := Lib.hid ((if_pos he).trans ((if_pos hf).trans (by subst hu; exact (typeC_and (by omega)).trans (if_pos hk0))))
  have v1 : (ea != 0) = false := bne_eq_false_iff_eq.2 he
  have v2 : (eb != 0) = false := bne_eq_false_iff_eq.2 hf
  have v3 : (ka != kb) = false := bne_eq_false_iff_eq.2 hu
  have f5 : (op == 5) = true := by rw [ho]; rfl
  have v4 : (ka == 2) = true := beq_iff_eq.2 hk0
  clear hn hks hK hK' hY hY' hK0 hC0 b0 hR hc hm hk hk2 hl IH hab3 he hf hu ho hk0
  go_enter Tryz.func64, Tryz.ntmps64
  go_wp2_with (first
    | (have _ := mk; go_at_call 64; refine (HY.out _ HB2.out).mono ?_; intro e w3 h; obtain ⟨rfl, hb3⟩ := HY2.out _ _ _ h; have HB3 := Lib.hid (HB2.out.trans (hb3.mono HB2.out.size)); obtain ⟨g0, g1, g2, g3, g4, g5, g6⟩ := HC0.out _ (HBC.out.trans (hb3.mono HBC.out.size)); clear h hb3)
    | (go_at_call 64; refine HX.out.mono ?_; intro e w2 h; obtain ⟨rfl, hb2⟩ := HX2.out _ _ h; have HB2 := Lib.hid (HB.out.trans (hb2.mono HB.out.size)); have HBC := Lib.hid hb2; obtain ⟨g0, g1, g2, g3, g4, g5, g6⟩ := HC0.out _ hb2; obtain ⟨y0, y1, y2, y3, y4, y5, y6⟩ := HYC.out _ HB2.out; have mk := HB2; clear h hb2))
  refine bodyPost_ret (v := .tuple #[.int .u8 2, .int .i64 0]) (by simp [results, Tryz.results64, go_sem]) rfl ?_
  exact TypR.of (HR.out.trans HV.out) HB3.out
set_option maxHeartbeats 4000000 in
theorem rtyp2_5n {l : List Bd} {m : Nat} (IH : RTyp l m) (w : World) (op : Int) (_h5 : 5 ≤ op) (_h17 : op ≤ 17) (u : Vl) (nm : ByteArray) (x y : Nd) (hm : SizeOf.sizeOf x ≤ m ∧ SizeOf.sizeOf y ≤ m) (hc : checkN x = true ∧ checkN y = true) (vk vl : Value) (hn : KidsR w w.heap.size vk [x, y]) (hl : BdsR w w.heap.size vl l) {ka ea kb eb : Int} (hk : typeN l x = (ka, ea)) (hk2 : typeN l y = (kb, eb)) (he : ea = 0) (hf : eb = 0) (hu : ka = kb) (ho : op = 5) (hk0 : ka ≠ 2) :
    Calls Tryz.prog 64 #[valO op u nm vk, vl] w (TypR l (twoN op x y) w) := by
  have hks := hn
  obtain ⟨a, c, rfl⟩ := hks.val
  obtain ⟨b, o, a', c', d', rfl, hK⟩ := KidS.of hks (i := 0) (by simp)
  obtain ⟨b2, o2, a2, c2, d2, hab, hY⟩ := KidS.of hks (i := 1) (by simp)
  injection hab with hab
  injection hab with hab1 hab2 hab3
  subst hab1 hab2
  have hK' : KidS w w.heap.size b o x a' c' d' := by simpa using hK
  have hY' : KidS w w.heap.size b (o + 7) y a2 c2 d2 := by simpa using hY
  obtain ⟨w0, p0, hp0, hw0, l0, b0, hC0⟩ := nd_boxO w op u nm (.slice (some ⟨b, o, none⟩) 2 c) 36
  have HC0 := Lib.hid hC0
  have hR := typeN_two l (show (3 : Int) ≤ op by omega) x y
  rw [hk, hk2] at hR
  have HR := Lib.hid hR
  have hK0 := hK'.up b0
  obtain ⟨g0, g1, g2, g3, g4, g5, g6⟩ := hC0 w0 (Below.refl _ _)
  obtain ⟨x0, x1, x2, x3, x4, x5, x6⟩ := hK0.cells
  have HX := Lib.hid (IH x hm.1 hc.1 w0 (.slice a' c' d') vl ⟨hK'.hw, hK'.hk.mono b0 b0.size⟩ (hl.mono b0 b0.size))
  have HY := Lib.hid (fun (W : World) (hW : Below w.heap.size w W) => IH y hm.2 hc.2 W (.slice a2 c2 d2) vl ⟨hY'.hw, hY'.hk.mono hW hW.size⟩ (hl.mono hW hW.size))
  have HYC := Lib.hid (fun (W : World) (hW : Below w.heap.size w W) => (hY'.up hW).cells)
  obtain ⟨va, vc, rfl⟩ := hl.val
  have HB := Lib.hid b0
  have HX2 : Hid (∀ e w', TypR l x w0 e w' → e = .returned (.tuple #[.int .u8 ka, .int .i64 ea]) ∧ Below w0.heap.size w0 w') := Lib.hid (fun e w' h => by unfold TypR at h; rw [hk] at h; exact h)
  have HY2 : Hid (∀ W e w', TypR l y W e w' → e = .returned (.tuple #[.int .u8 kb, .int .i64 eb]) ∧ Below W.heap.size W w') := Lib.hid (fun W e w' h => by unfold TypR at h; rw [hk2] at h; exact h)
  have e1 : (op == 1) = false := by rw [beq_eq_false_iff_ne]; omega
  have e2 : (op == 2) = false := by rw [beq_eq_false_iff_ne]; omega
  have e3 : (op == 3) = false := by rw [beq_eq_false_iff_ne]; omega
  have e4 : (op == 4) = false := by rw [beq_eq_false_iff_ne]; omega
  have HV : Hid ((if (ka, ea).2 = 0 then (if (kb, eb).2 = 0 then typeC op [(ka, ea).1, (kb, eb).1] else (0, (kb, eb).2)) else (0, (ka, ea).2)) = (0, 90)) := Lib.hid ((if_pos he).trans ((if_pos hf).trans (by subst hu; exact (typeC_and (by omega)).trans (if_neg hk0))))
  have v1 : (ea != 0) = false := bne_eq_false_iff_eq.2 he
  have v2 : (eb != 0) = false := bne_eq_false_iff_eq.2 hf
  have v3 : (ka != kb) = false := bne_eq_false_iff_eq.2 hu
  have f5 : (op == 5) = true := by rw [ho]; rfl
  have v4 : (ka == 2) = false := by rw [beq_eq_false_iff_ne]; omega
  clear hn hks hK hK' hY hY' hK0 hC0 b0 hR hc hm hk hk2 hl IH hab3 he hf hu ho hk0
  go_enter Tryz.func64, Tryz.ntmps64
  go_wp2_with (first
    | (have _ := mk; go_at_call 64; refine (HY.out _ HB2.out).mono ?_; intro e w3 h; obtain ⟨rfl, hb3⟩ := HY2.out _ _ _ h; have HB3 := Lib.hid (HB2.out.trans (hb3.mono HB2.out.size)); obtain ⟨g0, g1, g2, g3, g4, g5, g6⟩ := HC0.out _ (HBC.out.trans (hb3.mono HBC.out.size)); clear h hb3)
    | (go_at_call 64; refine HX.out.mono ?_; intro e w2 h; obtain ⟨rfl, hb2⟩ := HX2.out _ _ h; have HB2 := Lib.hid (HB.out.trans (hb2.mono HB.out.size)); have HBC := Lib.hid hb2; obtain ⟨g0, g1, g2, g3, g4, g5, g6⟩ := HC0.out _ hb2; obtain ⟨y0, y1, y2, y3, y4, y5, y6⟩ := HYC.out _ HB2.out; have mk := HB2; clear h hb2))
  refine bodyPost_ret (v := .tuple #[.int .u8 0, .int .i64 90]) (by simp [results, Tryz.results64, go_sem]) rfl ?_
  exact TypR.of (HR.out.trans HV.out) HB3.out
set_option maxHeartbeats 4000000 in
theorem rtyp2_6y {l : List Bd} {m : Nat} (IH : RTyp l m) (w : World) (op : Int) (_h5 : 5 ≤ op) (_h17 : op ≤ 17) (u : Vl) (nm : ByteArray) (x y : Nd) (hm : SizeOf.sizeOf x ≤ m ∧ SizeOf.sizeOf y ≤ m) (hc : checkN x = true ∧ checkN y = true) (vk vl : Value) (hn : KidsR w w.heap.size vk [x, y]) (hl : BdsR w w.heap.size vl l) {ka ea kb eb : Int} (hk : typeN l x = (ka, ea)) (hk2 : typeN l y = (kb, eb)) (he : ea = 0) (hf : eb = 0) (hu : ka = kb) (ho : op = 6) (hk0 : ka = 2) :
    Calls Tryz.prog 64 #[valO op u nm vk, vl] w (TypR l (twoN op x y) w) := by
  have hks := hn
  obtain ⟨a, c, rfl⟩ := hks.val
  obtain ⟨b, o, a', c', d', rfl, hK⟩ := KidS.of hks (i := 0) (by simp)
  obtain ⟨b2, o2, a2, c2, d2, hab, hY⟩ := KidS.of hks (i := 1) (by simp)
  injection hab with hab
  injection hab with hab1 hab2 hab3
  subst hab1 hab2
  have hK' : KidS w w.heap.size b o x a' c' d' := by simpa using hK
  have hY' : KidS w w.heap.size b (o + 7) y a2 c2 d2 := by simpa using hY
  obtain ⟨w0, p0, hp0, hw0, l0, b0, hC0⟩ := nd_boxO w op u nm (.slice (some ⟨b, o, none⟩) 2 c) 36
  have HC0 := Lib.hid hC0
  have hR := typeN_two l (show (3 : Int) ≤ op by omega) x y
  rw [hk, hk2] at hR
  have HR := Lib.hid hR
  have hK0 := hK'.up b0
  obtain ⟨g0, g1, g2, g3, g4, g5, g6⟩ := hC0 w0 (Below.refl _ _)
  obtain ⟨x0, x1, x2, x3, x4, x5, x6⟩ := hK0.cells
  have HX := Lib.hid (IH x hm.1 hc.1 w0 (.slice a' c' d') vl ⟨hK'.hw, hK'.hk.mono b0 b0.size⟩ (hl.mono b0 b0.size))
  have HY := Lib.hid (fun (W : World) (hW : Below w.heap.size w W) => IH y hm.2 hc.2 W (.slice a2 c2 d2) vl ⟨hY'.hw, hY'.hk.mono hW hW.size⟩ (hl.mono hW hW.size))
  have HYC := Lib.hid (fun (W : World) (hW : Below w.heap.size w W) => (hY'.up hW).cells)
  obtain ⟨va, vc, rfl⟩ := hl.val
  have HB := Lib.hid b0
  have HX2 : Hid (∀ e w', TypR l x w0 e w' → e = .returned (.tuple #[.int .u8 ka, .int .i64 ea]) ∧ Below w0.heap.size w0 w') := Lib.hid (fun e w' h => by unfold TypR at h; rw [hk] at h; exact h)
  have HY2 : Hid (∀ W e w', TypR l y W e w' → e = .returned (.tuple #[.int .u8 kb, .int .i64 eb]) ∧ Below W.heap.size W w') := Lib.hid (fun W e w' h => by unfold TypR at h; rw [hk2] at h; exact h)
  have e1 : (op == 1) = false := by rw [beq_eq_false_iff_ne]; omega
  have e2 : (op == 2) = false := by rw [beq_eq_false_iff_ne]; omega
  have e3 : (op == 3) = false := by rw [beq_eq_false_iff_ne]; omega
  have e4 : (op == 4) = false := by rw [beq_eq_false_iff_ne]; omega
  have HV : Hid ((if (ka, ea).2 = 0 then (if (kb, eb).2 = 0 then typeC op [(ka, ea).1, (kb, eb).1] else (0, (kb, eb).2)) else (0, (ka, ea).2)) = (2, 0)) := Lib.hid ((if_pos he).trans ((if_pos hf).trans (by subst hu; exact (typeC_and (by omega)).trans (if_pos hk0))))
  have v1 : (ea != 0) = false := bne_eq_false_iff_eq.2 he
  have v2 : (eb != 0) = false := bne_eq_false_iff_eq.2 hf
  have v3 : (ka != kb) = false := bne_eq_false_iff_eq.2 hu
  have f5 : (op == 5) = false := by rw [ho]; rfl
  have f6 : (op == 6) = true := by rw [ho]; rfl
  have v4 : (ka == 2) = true := beq_iff_eq.2 hk0
  clear hn hks hK hK' hY hY' hK0 hC0 b0 hR hc hm hk hk2 hl IH hab3 he hf hu ho hk0
  go_enter Tryz.func64, Tryz.ntmps64
  go_wp2_with (first
    | (have _ := mk; go_at_call 64; refine (HY.out _ HB2.out).mono ?_; intro e w3 h; obtain ⟨rfl, hb3⟩ := HY2.out _ _ _ h; have HB3 := Lib.hid (HB2.out.trans (hb3.mono HB2.out.size)); obtain ⟨g0, g1, g2, g3, g4, g5, g6⟩ := HC0.out _ (HBC.out.trans (hb3.mono HBC.out.size)); clear h hb3)
    | (go_at_call 64; refine HX.out.mono ?_; intro e w2 h; obtain ⟨rfl, hb2⟩ := HX2.out _ _ h; have HB2 := Lib.hid (HB.out.trans (hb2.mono HB.out.size)); have HBC := Lib.hid hb2; obtain ⟨g0, g1, g2, g3, g4, g5, g6⟩ := HC0.out _ hb2; obtain ⟨y0, y1, y2, y3, y4, y5, y6⟩ := HYC.out _ HB2.out; have mk := HB2; clear h hb2))
  refine bodyPost_ret (v := .tuple #[.int .u8 2, .int .i64 0]) (by simp [results, Tryz.results64, go_sem]) rfl ?_
  exact TypR.of (HR.out.trans HV.out) HB3.out
set_option maxHeartbeats 4000000 in
theorem rtyp2_6n {l : List Bd} {m : Nat} (IH : RTyp l m) (w : World) (op : Int) (_h5 : 5 ≤ op) (_h17 : op ≤ 17) (u : Vl) (nm : ByteArray) (x y : Nd) (hm : SizeOf.sizeOf x ≤ m ∧ SizeOf.sizeOf y ≤ m) (hc : checkN x = true ∧ checkN y = true) (vk vl : Value) (hn : KidsR w w.heap.size vk [x, y]) (hl : BdsR w w.heap.size vl l) {ka ea kb eb : Int} (hk : typeN l x = (ka, ea)) (hk2 : typeN l y = (kb, eb)) (he : ea = 0) (hf : eb = 0) (hu : ka = kb) (ho : op = 6) (hk0 : ka ≠ 2) :
    Calls Tryz.prog 64 #[valO op u nm vk, vl] w (TypR l (twoN op x y) w) := by
  have hks := hn
  obtain ⟨a, c, rfl⟩ := hks.val
  obtain ⟨b, o, a', c', d', rfl, hK⟩ := KidS.of hks (i := 0) (by simp)
  obtain ⟨b2, o2, a2, c2, d2, hab, hY⟩ := KidS.of hks (i := 1) (by simp)
  injection hab with hab
  injection hab with hab1 hab2 hab3
  subst hab1 hab2
  have hK' : KidS w w.heap.size b o x a' c' d' := by simpa using hK
  have hY' : KidS w w.heap.size b (o + 7) y a2 c2 d2 := by simpa using hY
  obtain ⟨w0, p0, hp0, hw0, l0, b0, hC0⟩ := nd_boxO w op u nm (.slice (some ⟨b, o, none⟩) 2 c) 36
  have HC0 := Lib.hid hC0
  have hR := typeN_two l (show (3 : Int) ≤ op by omega) x y
  rw [hk, hk2] at hR
  have HR := Lib.hid hR
  have hK0 := hK'.up b0
  obtain ⟨g0, g1, g2, g3, g4, g5, g6⟩ := hC0 w0 (Below.refl _ _)
  obtain ⟨x0, x1, x2, x3, x4, x5, x6⟩ := hK0.cells
  have HX := Lib.hid (IH x hm.1 hc.1 w0 (.slice a' c' d') vl ⟨hK'.hw, hK'.hk.mono b0 b0.size⟩ (hl.mono b0 b0.size))
  have HY := Lib.hid (fun (W : World) (hW : Below w.heap.size w W) => IH y hm.2 hc.2 W (.slice a2 c2 d2) vl ⟨hY'.hw, hY'.hk.mono hW hW.size⟩ (hl.mono hW hW.size))
  have HYC := Lib.hid (fun (W : World) (hW : Below w.heap.size w W) => (hY'.up hW).cells)
  obtain ⟨va, vc, rfl⟩ := hl.val
  have HB := Lib.hid b0
  have HX2 : Hid (∀ e w', TypR l x w0 e w' → e = .returned (.tuple #[.int .u8 ka, .int .i64 ea]) ∧ Below w0.heap.size w0 w') := Lib.hid (fun e w' h => by unfold TypR at h; rw [hk] at h; exact h)
  have HY2 : Hid (∀ W e w', TypR l y W e w' → e = .returned (.tuple #[.int .u8 kb, .int .i64 eb]) ∧ Below W.heap.size W w') := Lib.hid (fun W e w' h => by unfold TypR at h; rw [hk2] at h; exact h)
  have e1 : (op == 1) = false := by rw [beq_eq_false_iff_ne]; omega
  have e2 : (op == 2) = false := by rw [beq_eq_false_iff_ne]; omega
  have e3 : (op == 3) = false := by rw [beq_eq_false_iff_ne]; omega
  have e4 : (op == 4) = false := by rw [beq_eq_false_iff_ne]; omega
  have HV : Hid ((if (ka, ea).2 = 0 then (if (kb, eb).2 = 0 then typeC op [(ka, ea).1, (kb, eb).1] else (0, (kb, eb).2)) else (0, (ka, ea).2)) = (0, 90)) := Lib.hid ((if_pos he).trans ((if_pos hf).trans (by subst hu; exact (typeC_and (by omega)).trans (if_neg hk0))))
  have v1 : (ea != 0) = false := bne_eq_false_iff_eq.2 he
  have v2 : (eb != 0) = false := bne_eq_false_iff_eq.2 hf
  have v3 : (ka != kb) = false := bne_eq_false_iff_eq.2 hu
  have f5 : (op == 5) = false := by rw [ho]; rfl
  have f6 : (op == 6) = true := by rw [ho]; rfl
  have v4 : (ka == 2) = false := by rw [beq_eq_false_iff_ne]; omega
  clear hn hks hK hK' hY hY' hK0 hC0 b0 hR hc hm hk hk2 hl IH hab3 he hf hu ho hk0
  go_enter Tryz.func64, Tryz.ntmps64
  go_wp2_with (first
    | (have _ := mk; go_at_call 64; refine (HY.out _ HB2.out).mono ?_; intro e w3 h; obtain ⟨rfl, hb3⟩ := HY2.out _ _ _ h; have HB3 := Lib.hid (HB2.out.trans (hb3.mono HB2.out.size)); obtain ⟨g0, g1, g2, g3, g4, g5, g6⟩ := HC0.out _ (HBC.out.trans (hb3.mono HBC.out.size)); clear h hb3)
    | (go_at_call 64; refine HX.out.mono ?_; intro e w2 h; obtain ⟨rfl, hb2⟩ := HX2.out _ _ h; have HB2 := Lib.hid (HB.out.trans (hb2.mono HB.out.size)); have HBC := Lib.hid hb2; obtain ⟨g0, g1, g2, g3, g4, g5, g6⟩ := HC0.out _ hb2; obtain ⟨y0, y1, y2, y3, y4, y5, y6⟩ := HYC.out _ HB2.out; have mk := HB2; clear h hb2))
  refine bodyPost_ret (v := .tuple #[.int .u8 0, .int .i64 90]) (by simp [results, Tryz.results64, go_sem]) rfl ?_
  exact TypR.of (HR.out.trans HV.out) HB3.out
set_option maxHeartbeats 4000000 in
theorem rtyp2_7 {l : List Bd} {m : Nat} (IH : RTyp l m) (w : World) (op : Int) (_h5 : 5 ≤ op) (_h17 : op ≤ 17) (u : Vl) (nm : ByteArray) (x y : Nd) (hm : SizeOf.sizeOf x ≤ m ∧ SizeOf.sizeOf y ≤ m) (hc : checkN x = true ∧ checkN y = true) (vk vl : Value) (hn : KidsR w w.heap.size vk [x, y]) (hl : BdsR w w.heap.size vl l) {ka ea kb eb : Int} (hk : typeN l x = (ka, ea)) (hk2 : typeN l y = (kb, eb)) (he : ea = 0) (hf : eb = 0) (hu : ka = kb) (ho : op = 7) :
    Calls Tryz.prog 64 #[valO op u nm vk, vl] w (TypR l (twoN op x y) w) := by
  have hks := hn
  obtain ⟨a, c, rfl⟩ := hks.val
  obtain ⟨b, o, a', c', d', rfl, hK⟩ := KidS.of hks (i := 0) (by simp)
  obtain ⟨b2, o2, a2, c2, d2, hab, hY⟩ := KidS.of hks (i := 1) (by simp)
  injection hab with hab
  injection hab with hab1 hab2 hab3
  subst hab1 hab2
  have hK' : KidS w w.heap.size b o x a' c' d' := by simpa using hK
  have hY' : KidS w w.heap.size b (o + 7) y a2 c2 d2 := by simpa using hY
  obtain ⟨w0, p0, hp0, hw0, l0, b0, hC0⟩ := nd_boxO w op u nm (.slice (some ⟨b, o, none⟩) 2 c) 36
  have HC0 := Lib.hid hC0
  have hR := typeN_two l (show (3 : Int) ≤ op by omega) x y
  rw [hk, hk2] at hR
  have HR := Lib.hid hR
  have hK0 := hK'.up b0
  obtain ⟨g0, g1, g2, g3, g4, g5, g6⟩ := hC0 w0 (Below.refl _ _)
  obtain ⟨x0, x1, x2, x3, x4, x5, x6⟩ := hK0.cells
  have HX := Lib.hid (IH x hm.1 hc.1 w0 (.slice a' c' d') vl ⟨hK'.hw, hK'.hk.mono b0 b0.size⟩ (hl.mono b0 b0.size))
  have HY := Lib.hid (fun (W : World) (hW : Below w.heap.size w W) => IH y hm.2 hc.2 W (.slice a2 c2 d2) vl ⟨hY'.hw, hY'.hk.mono hW hW.size⟩ (hl.mono hW hW.size))
  have HYC := Lib.hid (fun (W : World) (hW : Below w.heap.size w W) => (hY'.up hW).cells)
  obtain ⟨va, vc, rfl⟩ := hl.val
  have HB := Lib.hid b0
  have HX2 : Hid (∀ e w', TypR l x w0 e w' → e = .returned (.tuple #[.int .u8 ka, .int .i64 ea]) ∧ Below w0.heap.size w0 w') := Lib.hid (fun e w' h => by unfold TypR at h; rw [hk] at h; exact h)
  have HY2 : Hid (∀ W e w', TypR l y W e w' → e = .returned (.tuple #[.int .u8 kb, .int .i64 eb]) ∧ Below W.heap.size W w') := Lib.hid (fun W e w' h => by unfold TypR at h; rw [hk2] at h; exact h)
  have e1 : (op == 1) = false := by rw [beq_eq_false_iff_ne]; omega
  have e2 : (op == 2) = false := by rw [beq_eq_false_iff_ne]; omega
  have e3 : (op == 3) = false := by rw [beq_eq_false_iff_ne]; omega
  have e4 : (op == 4) = false := by rw [beq_eq_false_iff_ne]; omega
  have HV : Hid ((if (ka, ea).2 = 0 then (if (kb, eb).2 = 0 then typeC op [(ka, ea).1, (kb, eb).1] else (0, (kb, eb).2)) else (0, (ka, ea).2)) = (2, 0)) := Lib.hid ((if_pos he).trans ((if_pos hf).trans (by subst hu; exact typeC_eq (by omega))))
  have v1 : (ea != 0) = false := bne_eq_false_iff_eq.2 he
  have v2 : (eb != 0) = false := bne_eq_false_iff_eq.2 hf
  have v3 : (ka != kb) = false := bne_eq_false_iff_eq.2 hu
  have f5 : (op == 5) = false := by rw [beq_eq_false_iff_ne]; omega
  have f6 : (op == 6) = false := by rw [beq_eq_false_iff_ne]; omega
  have f7 : (op == 7) = true := by rw [ho]; rfl
  clear hn hks hK hK' hY hY' hK0 hC0 b0 hR hc hm hk hk2 hl IH hab3 he hf hu ho
  go_enter Tryz.func64, Tryz.ntmps64
  go_wp2_with (first
    | (have _ := mk; go_at_call 64; refine (HY.out _ HB2.out).mono ?_; intro e w3 h; obtain ⟨rfl, hb3⟩ := HY2.out _ _ _ h; have HB3 := Lib.hid (HB2.out.trans (hb3.mono HB2.out.size)); obtain ⟨g0, g1, g2, g3, g4, g5, g6⟩ := HC0.out _ (HBC.out.trans (hb3.mono HBC.out.size)); clear h hb3)
    | (go_at_call 64; refine HX.out.mono ?_; intro e w2 h; obtain ⟨rfl, hb2⟩ := HX2.out _ _ h; have HB2 := Lib.hid (HB.out.trans (hb2.mono HB.out.size)); have HBC := Lib.hid hb2; obtain ⟨g0, g1, g2, g3, g4, g5, g6⟩ := HC0.out _ hb2; obtain ⟨y0, y1, y2, y3, y4, y5, y6⟩ := HYC.out _ HB2.out; have mk := HB2; clear h hb2))
  refine bodyPost_ret (v := .tuple #[.int .u8 2, .int .i64 0]) (by simp [results, Tryz.results64, go_sem]) rfl ?_
  exact TypR.of (HR.out.trans HV.out) HB3.out
set_option maxHeartbeats 4000000 in
theorem rtyp2_8 {l : List Bd} {m : Nat} (IH : RTyp l m) (w : World) (op : Int) (_h5 : 5 ≤ op) (_h17 : op ≤ 17) (u : Vl) (nm : ByteArray) (x y : Nd) (hm : SizeOf.sizeOf x ≤ m ∧ SizeOf.sizeOf y ≤ m) (hc : checkN x = true ∧ checkN y = true) (vk vl : Value) (hn : KidsR w w.heap.size vk [x, y]) (hl : BdsR w w.heap.size vl l) {ka ea kb eb : Int} (hk : typeN l x = (ka, ea)) (hk2 : typeN l y = (kb, eb)) (he : ea = 0) (hf : eb = 0) (hu : ka = kb) (ho : op = 8) :
    Calls Tryz.prog 64 #[valO op u nm vk, vl] w (TypR l (twoN op x y) w) := by
  have hks := hn
  obtain ⟨a, c, rfl⟩ := hks.val
  obtain ⟨b, o, a', c', d', rfl, hK⟩ := KidS.of hks (i := 0) (by simp)
  obtain ⟨b2, o2, a2, c2, d2, hab, hY⟩ := KidS.of hks (i := 1) (by simp)
  injection hab with hab
  injection hab with hab1 hab2 hab3
  subst hab1 hab2
  have hK' : KidS w w.heap.size b o x a' c' d' := by simpa using hK
  have hY' : KidS w w.heap.size b (o + 7) y a2 c2 d2 := by simpa using hY
  obtain ⟨w0, p0, hp0, hw0, l0, b0, hC0⟩ := nd_boxO w op u nm (.slice (some ⟨b, o, none⟩) 2 c) 36
  have HC0 := Lib.hid hC0
  have hR := typeN_two l (show (3 : Int) ≤ op by omega) x y
  rw [hk, hk2] at hR
  have HR := Lib.hid hR
  have hK0 := hK'.up b0
  obtain ⟨g0, g1, g2, g3, g4, g5, g6⟩ := hC0 w0 (Below.refl _ _)
  obtain ⟨x0, x1, x2, x3, x4, x5, x6⟩ := hK0.cells
  have HX := Lib.hid (IH x hm.1 hc.1 w0 (.slice a' c' d') vl ⟨hK'.hw, hK'.hk.mono b0 b0.size⟩ (hl.mono b0 b0.size))
  have HY := Lib.hid (fun (W : World) (hW : Below w.heap.size w W) => IH y hm.2 hc.2 W (.slice a2 c2 d2) vl ⟨hY'.hw, hY'.hk.mono hW hW.size⟩ (hl.mono hW hW.size))
  have HYC := Lib.hid (fun (W : World) (hW : Below w.heap.size w W) => (hY'.up hW).cells)
  obtain ⟨va, vc, rfl⟩ := hl.val
  have HB := Lib.hid b0
  have HX2 : Hid (∀ e w', TypR l x w0 e w' → e = .returned (.tuple #[.int .u8 ka, .int .i64 ea]) ∧ Below w0.heap.size w0 w') := Lib.hid (fun e w' h => by unfold TypR at h; rw [hk] at h; exact h)
  have HY2 : Hid (∀ W e w', TypR l y W e w' → e = .returned (.tuple #[.int .u8 kb, .int .i64 eb]) ∧ Below W.heap.size W w') := Lib.hid (fun W e w' h => by unfold TypR at h; rw [hk2] at h; exact h)
  have e1 : (op == 1) = false := by rw [beq_eq_false_iff_ne]; omega
  have e2 : (op == 2) = false := by rw [beq_eq_false_iff_ne]; omega
  have e3 : (op == 3) = false := by rw [beq_eq_false_iff_ne]; omega
  have e4 : (op == 4) = false := by rw [beq_eq_false_iff_ne]; omega
  have HV : Hid ((if (ka, ea).2 = 0 then (if (kb, eb).2 = 0 then typeC op [(ka, ea).1, (kb, eb).1] else (0, (kb, eb).2)) else (0, (ka, ea).2)) = (2, 0)) := Lib.hid ((if_pos he).trans ((if_pos hf).trans (by subst hu; exact typeC_eq (by omega))))
  have v1 : (ea != 0) = false := bne_eq_false_iff_eq.2 he
  have v2 : (eb != 0) = false := bne_eq_false_iff_eq.2 hf
  have v3 : (ka != kb) = false := bne_eq_false_iff_eq.2 hu
  have f5 : (op == 5) = false := by rw [beq_eq_false_iff_ne]; omega
  have f6 : (op == 6) = false := by rw [beq_eq_false_iff_ne]; omega
  have f7 : (op == 7) = false := by rw [ho]; rfl
  have f8 : (op == 8) = true := by rw [ho]; rfl
  clear hn hks hK hK' hY hY' hK0 hC0 b0 hR hc hm hk hk2 hl IH hab3 he hf hu ho
  go_enter Tryz.func64, Tryz.ntmps64
  go_wp2_with (first
    | (have _ := mk; go_at_call 64; refine (HY.out _ HB2.out).mono ?_; intro e w3 h; obtain ⟨rfl, hb3⟩ := HY2.out _ _ _ h; have HB3 := Lib.hid (HB2.out.trans (hb3.mono HB2.out.size)); obtain ⟨g0, g1, g2, g3, g4, g5, g6⟩ := HC0.out _ (HBC.out.trans (hb3.mono HBC.out.size)); clear h hb3)
    | (go_at_call 64; refine HX.out.mono ?_; intro e w2 h; obtain ⟨rfl, hb2⟩ := HX2.out _ _ h; have HB2 := Lib.hid (HB.out.trans (hb2.mono HB.out.size)); have HBC := Lib.hid hb2; obtain ⟨g0, g1, g2, g3, g4, g5, g6⟩ := HC0.out _ hb2; obtain ⟨y0, y1, y2, y3, y4, y5, y6⟩ := HYC.out _ HB2.out; have mk := HB2; clear h hb2))
  refine bodyPost_ret (v := .tuple #[.int .u8 2, .int .i64 0]) (by simp [results, Tryz.results64, go_sem]) rfl ?_
  exact TypR.of (HR.out.trans HV.out) HB3.out
set_option maxHeartbeats 4000000 in
theorem rtyp2_9y {l : List Bd} {m : Nat} (IH : RTyp l m) (w : World) (op : Int) (h5 : 5 ≤ op) (h17 : op ≤ 17) (u : Vl) (nm : ByteArray) (x y : Nd) (hm : SizeOf.sizeOf x ≤ m ∧ SizeOf.sizeOf y ≤ m) (hc : checkN x = true ∧ checkN y = true) (vk vl : Value) (hn : KidsR w w.heap.size vk [x, y]) (hl : BdsR w w.heap.size vl l) {ka ea kb eb : Int} (hk : typeN l x = (ka, ea)) (hk2 : typeN l y = (kb, eb)) (he : ea = 0) (hf : eb = 0) (hu : ka = kb) (ho : 9 ≤ op ∧ op ≤ 12) (hk0 : ka = 2) :
    Calls Tryz.prog 64 #[valO op u nm vk, vl] w (TypR l (twoN op x y) w) := by
  have hks := hn
  obtain ⟨a, c, rfl⟩ := hks.val
  obtain ⟨b, o, a', c', d', rfl, hK⟩ := KidS.of hks (i := 0) (by simp)
  obtain ⟨b2, o2, a2, c2, d2, hab, hY⟩ := KidS.of hks (i := 1) (by simp)
  injection hab with hab
  injection hab with hab1 hab2 hab3
  subst hab1 hab2
  have hK' : KidS w w.heap.size b o x a' c' d' := by simpa using hK
  have hY' : KidS w w.heap.size b (o + 7) y a2 c2 d2 := by simpa using hY
  obtain ⟨w0, p0, hp0, hw0, l0, b0, hC0⟩ := nd_boxO w op u nm (.slice (some ⟨b, o, none⟩) 2 c) 36
  have HC0 := Lib.hid hC0
  have hR := typeN_two l (show (3 : Int) ≤ op by omega) x y
  rw [hk, hk2] at hR
  have HR := Lib.hid hR
  have hK0 := hK'.up b0
  obtain ⟨g0, g1, g2, g3, g4, g5, g6⟩ := hC0 w0 (Below.refl _ _)
  obtain ⟨x0, x1, x2, x3, x4, x5, x6⟩ := hK0.cells
  have HX := Lib.hid (IH x hm.1 hc.1 w0 (.slice a' c' d') vl ⟨hK'.hw, hK'.hk.mono b0 b0.size⟩ (hl.mono b0 b0.size))
  have HY := Lib.hid (fun (W : World) (hW : Below w.heap.size w W) => IH y hm.2 hc.2 W (.slice a2 c2 d2) vl ⟨hY'.hw, hY'.hk.mono hW hW.size⟩ (hl.mono hW hW.size))
  have HYC := Lib.hid (fun (W : World) (hW : Below w.heap.size w W) => (hY'.up hW).cells)
  obtain ⟨va, vc, rfl⟩ := hl.val
  have HB := Lib.hid b0
  have HX2 : Hid (∀ e w', TypR l x w0 e w' → e = .returned (.tuple #[.int .u8 ka, .int .i64 ea]) ∧ Below w0.heap.size w0 w') := Lib.hid (fun e w' h => by unfold TypR at h; rw [hk] at h; exact h)
  have HY2 : Hid (∀ W e w', TypR l y W e w' → e = .returned (.tuple #[.int .u8 kb, .int .i64 eb]) ∧ Below W.heap.size W w') := Lib.hid (fun W e w' h => by unfold TypR at h; rw [hk2] at h; exact h)
  have e1 : (op == 1) = false := by rw [beq_eq_false_iff_ne]; omega
  have e2 : (op == 2) = false := by rw [beq_eq_false_iff_ne]; omega
  have e3 : (op == 3) = false := by rw [beq_eq_false_iff_ne]; omega
  have e4 : (op == 4) = false := by rw [beq_eq_false_iff_ne]; omega
  have HV : Hid ((if (ka, ea).2 = 0 then (if (kb, eb).2 = 0 then typeC op [(ka, ea).1, (kb, eb).1] else (0, (kb, eb).2)) else (0, (ka, ea).2)) = (0, 90)) := Lib.hid ((if_pos he).trans ((if_pos hf).trans (by subst hu; exact (typeC_lt (by omega) (by omega)).trans (if_pos hk0))))
  have v1 : (ea != 0) = false := bne_eq_false_iff_eq.2 he
  have v2 : (eb != 0) = false := bne_eq_false_iff_eq.2 hf
  have v3 : (ka != kb) = false := bne_eq_false_iff_eq.2 hu
  have f5 : (op == 5) = false := by rw [beq_eq_false_iff_ne]; omega
  have f6 : (op == 6) = false := by rw [beq_eq_false_iff_ne]; omega
  have f7 : (op == 7) = false := by rw [beq_eq_false_iff_ne]; omega
  have f8 : (op == 8) = false := by rw [beq_eq_false_iff_ne]; omega
  have f0 : decide (op ≤ 12) = true := decide_eq_true (by omega)
  have v4 : (ka != 2) = false := bne_eq_false_iff_eq.2 hk0
  clear hn hks hK hK' hY hY' hK0 hC0 b0 hR hc hm hk hk2 hl IH hab3 he hf hu ho hk0
  go_enter Tryz.func64, Tryz.ntmps64
  go_wp2_with (first
    | (have _ := mk; go_at_call 64; refine (HY.out _ HB2.out).mono ?_; intro e w3 h; obtain ⟨rfl, hb3⟩ := HY2.out _ _ _ h; have HB3 := Lib.hid (HB2.out.trans (hb3.mono HB2.out.size)); obtain ⟨g0, g1, g2, g3, g4, g5, g6⟩ := HC0.out _ (HBC.out.trans (hb3.mono HBC.out.size)); clear h hb3)
    | (go_at_call 64; refine HX.out.mono ?_; intro e w2 h; obtain ⟨rfl, hb2⟩ := HX2.out _ _ h; have HB2 := Lib.hid (HB.out.trans (hb2.mono HB.out.size)); have HBC := Lib.hid hb2; obtain ⟨g0, g1, g2, g3, g4, g5, g6⟩ := HC0.out _ hb2; obtain ⟨y0, y1, y2, y3, y4, y5, y6⟩ := HYC.out _ HB2.out; have mk := HB2; clear h hb2))
  refine bodyPost_ret (v := .tuple #[.int .u8 0, .int .i64 90]) (by simp [results, Tryz.results64, go_sem]) rfl ?_
  exact TypR.of (HR.out.trans HV.out) HB3.out
set_option maxHeartbeats 4000000 in
theorem rtyp2_9n {l : List Bd} {m : Nat} (IH : RTyp l m) (w : World) (op : Int) (h5 : 5 ≤ op) (h17 : op ≤ 17) (u : Vl) (nm : ByteArray) (x y : Nd) (hm : SizeOf.sizeOf x ≤ m ∧ SizeOf.sizeOf y ≤ m) (hc : checkN x = true ∧ checkN y = true) (vk vl : Value) (hn : KidsR w w.heap.size vk [x, y]) (hl : BdsR w w.heap.size vl l) {ka ea kb eb : Int} (hk : typeN l x = (ka, ea)) (hk2 : typeN l y = (kb, eb)) (he : ea = 0) (hf : eb = 0) (hu : ka = kb) (ho : 9 ≤ op ∧ op ≤ 12) (hk0 : ka ≠ 2) :
    Calls Tryz.prog 64 #[valO op u nm vk, vl] w (TypR l (twoN op x y) w) := by
  have hks := hn
  obtain ⟨a, c, rfl⟩ := hks.val
  obtain ⟨b, o, a', c', d', rfl, hK⟩ := KidS.of hks (i := 0) (by simp)
  obtain ⟨b2, o2, a2, c2, d2, hab, hY⟩ := KidS.of hks (i := 1) (by simp)
  injection hab with hab
  injection hab with hab1 hab2 hab3
  subst hab1 hab2
  have hK' : KidS w w.heap.size b o x a' c' d' := by simpa using hK
  have hY' : KidS w w.heap.size b (o + 7) y a2 c2 d2 := by simpa using hY
  obtain ⟨w0, p0, hp0, hw0, l0, b0, hC0⟩ := nd_boxO w op u nm (.slice (some ⟨b, o, none⟩) 2 c) 36
  have HC0 := Lib.hid hC0
  have hR := typeN_two l (show (3 : Int) ≤ op by omega) x y
  rw [hk, hk2] at hR
  have HR := Lib.hid hR
  have hK0 := hK'.up b0
  obtain ⟨g0, g1, g2, g3, g4, g5, g6⟩ := hC0 w0 (Below.refl _ _)
  obtain ⟨x0, x1, x2, x3, x4, x5, x6⟩ := hK0.cells
  have HX := Lib.hid (IH x hm.1 hc.1 w0 (.slice a' c' d') vl ⟨hK'.hw, hK'.hk.mono b0 b0.size⟩ (hl.mono b0 b0.size))
  have HY := Lib.hid (fun (W : World) (hW : Below w.heap.size w W) => IH y hm.2 hc.2 W (.slice a2 c2 d2) vl ⟨hY'.hw, hY'.hk.mono hW hW.size⟩ (hl.mono hW hW.size))
  have HYC := Lib.hid (fun (W : World) (hW : Below w.heap.size w W) => (hY'.up hW).cells)
  obtain ⟨va, vc, rfl⟩ := hl.val
  have HB := Lib.hid b0
  have HX2 : Hid (∀ e w', TypR l x w0 e w' → e = .returned (.tuple #[.int .u8 ka, .int .i64 ea]) ∧ Below w0.heap.size w0 w') := Lib.hid (fun e w' h => by unfold TypR at h; rw [hk] at h; exact h)
  have HY2 : Hid (∀ W e w', TypR l y W e w' → e = .returned (.tuple #[.int .u8 kb, .int .i64 eb]) ∧ Below W.heap.size W w') := Lib.hid (fun W e w' h => by unfold TypR at h; rw [hk2] at h; exact h)
  have e1 : (op == 1) = false := by rw [beq_eq_false_iff_ne]; omega
  have e2 : (op == 2) = false := by rw [beq_eq_false_iff_ne]; omega
  have e3 : (op == 3) = false := by rw [beq_eq_false_iff_ne]; omega
  have e4 : (op == 4) = false := by rw [beq_eq_false_iff_ne]; omega
  have HV : Hid ((if (ka, ea).2 = 0 then (if (kb, eb).2 = 0 then typeC op [(ka, ea).1, (kb, eb).1] else (0, (kb, eb).2)) else (0, (ka, ea).2)) = (2, 0)) := Lib.hid ((if_pos he).trans ((if_pos hf).trans (by subst hu; exact (typeC_lt (by omega) (by omega)).trans (if_neg hk0))))
  have v1 : (ea != 0) = false := bne_eq_false_iff_eq.2 he
  have v2 : (eb != 0) = false := bne_eq_false_iff_eq.2 hf
  have v3 : (ka != kb) = false := bne_eq_false_iff_eq.2 hu
  have f5 : (op == 5) = false := by rw [beq_eq_false_iff_ne]; omega
  have f6 : (op == 6) = false := by rw [beq_eq_false_iff_ne]; omega
  have f7 : (op == 7) = false := by rw [beq_eq_false_iff_ne]; omega
  have f8 : (op == 8) = false := by rw [beq_eq_false_iff_ne]; omega
  have f0 : decide (op ≤ 12) = true := decide_eq_true (by omega)
  have v4 : (ka != 2) = true := bne_iff_ne.2 hk0
  clear hn hks hK hK' hY hY' hK0 hC0 b0 hR hc hm hk hk2 hl IH hab3 he hf hu ho hk0
  go_enter Tryz.func64, Tryz.ntmps64
  go_wp2_with (first
    | (have _ := mk; go_at_call 64; refine (HY.out _ HB2.out).mono ?_; intro e w3 h; obtain ⟨rfl, hb3⟩ := HY2.out _ _ _ h; have HB3 := Lib.hid (HB2.out.trans (hb3.mono HB2.out.size)); obtain ⟨g0, g1, g2, g3, g4, g5, g6⟩ := HC0.out _ (HBC.out.trans (hb3.mono HBC.out.size)); clear h hb3)
    | (go_at_call 64; refine HX.out.mono ?_; intro e w2 h; obtain ⟨rfl, hb2⟩ := HX2.out _ _ h; have HB2 := Lib.hid (HB.out.trans (hb2.mono HB.out.size)); have HBC := Lib.hid hb2; obtain ⟨g0, g1, g2, g3, g4, g5, g6⟩ := HC0.out _ hb2; obtain ⟨y0, y1, y2, y3, y4, y5, y6⟩ := HYC.out _ HB2.out; have mk := HB2; clear h hb2))
  refine bodyPost_ret (v := .tuple #[.int .u8 2, .int .i64 0]) (by simp [results, Tryz.results64, go_sem]) rfl ?_
  exact TypR.of (HR.out.trans HV.out) HB3.out
set_option maxHeartbeats 4000000 in
theorem rtyp2_13a {l : List Bd} {m : Nat} (IH : RTyp l m) (w : World) (op : Int) (_h5 : 5 ≤ op) (_h17 : op ≤ 17) (u : Vl) (nm : ByteArray) (x y : Nd) (hm : SizeOf.sizeOf x ≤ m ∧ SizeOf.sizeOf y ≤ m) (hc : checkN x = true ∧ checkN y = true) (vk vl : Value) (hn : KidsR w w.heap.size vk [x, y]) (hl : BdsR w w.heap.size vl l) {ka ea kb eb : Int} (hk : typeN l x = (ka, ea)) (hk2 : typeN l y = (kb, eb)) (he : ea = 0) (hf : eb = 0) (hu : ka = kb) (ho : op = 13) (hk0 : ka = 1) :
    Calls Tryz.prog 64 #[valO op u nm vk, vl] w (TypR l (twoN op x y) w) := by
  have hks := hn
  obtain ⟨a, c, rfl⟩ := hks.val
  obtain ⟨b, o, a', c', d', rfl, hK⟩ := KidS.of hks (i := 0) (by simp)
  obtain ⟨b2, o2, a2, c2, d2, hab, hY⟩ := KidS.of hks (i := 1) (by simp)
  injection hab with hab
  injection hab with hab1 hab2 hab3
  subst hab1 hab2
  have hK' : KidS w w.heap.size b o x a' c' d' := by simpa using hK
  have hY' : KidS w w.heap.size b (o + 7) y a2 c2 d2 := by simpa using hY
  obtain ⟨w0, p0, hp0, hw0, l0, b0, hC0⟩ := nd_boxO w op u nm (.slice (some ⟨b, o, none⟩) 2 c) 36
  have HC0 := Lib.hid hC0
  have hR := typeN_two l (show (3 : Int) ≤ op by omega) x y
  rw [hk, hk2] at hR
  have HR := Lib.hid hR
  have hK0 := hK'.up b0
  obtain ⟨g0, g1, g2, g3, g4, g5, g6⟩ := hC0 w0 (Below.refl _ _)
  obtain ⟨x0, x1, x2, x3, x4, x5, x6⟩ := hK0.cells
  have HX := Lib.hid (IH x hm.1 hc.1 w0 (.slice a' c' d') vl ⟨hK'.hw, hK'.hk.mono b0 b0.size⟩ (hl.mono b0 b0.size))
  have HY := Lib.hid (fun (W : World) (hW : Below w.heap.size w W) => IH y hm.2 hc.2 W (.slice a2 c2 d2) vl ⟨hY'.hw, hY'.hk.mono hW hW.size⟩ (hl.mono hW hW.size))
  have HYC := Lib.hid (fun (W : World) (hW : Below w.heap.size w W) => (hY'.up hW).cells)
  obtain ⟨va, vc, rfl⟩ := hl.val
  have HB := Lib.hid b0
  have HX2 : Hid (∀ e w', TypR l x w0 e w' → e = .returned (.tuple #[.int .u8 ka, .int .i64 ea]) ∧ Below w0.heap.size w0 w') := Lib.hid (fun e w' h => by unfold TypR at h; rw [hk] at h; exact h)
  have HY2 : Hid (∀ W e w', TypR l y W e w' → e = .returned (.tuple #[.int .u8 kb, .int .i64 eb]) ∧ Below W.heap.size W w') := Lib.hid (fun W e w' h => by unfold TypR at h; rw [hk2] at h; exact h)
  have e1 : (op == 1) = false := by rw [beq_eq_false_iff_ne]; omega
  have e2 : (op == 2) = false := by rw [beq_eq_false_iff_ne]; omega
  have e3 : (op == 3) = false := by rw [beq_eq_false_iff_ne]; omega
  have e4 : (op == 4) = false := by rw [beq_eq_false_iff_ne]; omega
  have HV : Hid ((if (ka, ea).2 = 0 then (if (kb, eb).2 = 0 then typeC op [(ka, ea).1, (kb, eb).1] else (0, (kb, eb).2)) else (0, (ka, ea).2)) = (ka, 0)) := Lib.hid ((if_pos he).trans ((if_pos hf).trans (by subst hu; exact (show typeC op [ka, ka] = _ from by rw [ho]; exact typeC_add.trans (if_pos (.inl hk0))))))
  have v1 : (ea != 0) = false := bne_eq_false_iff_eq.2 he
  have v2 : (eb != 0) = false := bne_eq_false_iff_eq.2 hf
  have v3 : (ka != kb) = false := bne_eq_false_iff_eq.2 hu
  have f5 : (op == 5) = false := by rw [beq_eq_false_iff_ne]; omega
  have f6 : (op == 6) = false := by rw [beq_eq_false_iff_ne]; omega
  have f7 : (op == 7) = false := by rw [beq_eq_false_iff_ne]; omega
  have f8 : (op == 8) = false := by rw [beq_eq_false_iff_ne]; omega
  have f0 : decide (op ≤ 12) = false := decide_eq_false (by omega)
  have f13 : (op == 13) = true := by rw [ho]; rfl
  have v4 : (ka == 1) = true := beq_iff_eq.2 hk0
  clear hn hks hK hK' hY hY' hK0 hC0 b0 hR hc hm hk hk2 hl IH hab3 he hf hu ho hk0
  go_enter Tryz.func64, Tryz.ntmps64
  go_wp2_with (first
    | (have _ := mk; go_at_call 64; refine (HY.out _ HB2.out).mono ?_; intro e w3 h; obtain ⟨rfl, hb3⟩ := HY2.out _ _ _ h; have HB3 := Lib.hid (HB2.out.trans (hb3.mono HB2.out.size)); obtain ⟨g0, g1, g2, g3, g4, g5, g6⟩ := HC0.out _ (HBC.out.trans (hb3.mono HBC.out.size)); clear h hb3)
    | (go_at_call 64; refine HX.out.mono ?_; intro e w2 h; obtain ⟨rfl, hb2⟩ := HX2.out _ _ h; have HB2 := Lib.hid (HB.out.trans (hb2.mono HB.out.size)); have HBC := Lib.hid hb2; obtain ⟨g0, g1, g2, g3, g4, g5, g6⟩ := HC0.out _ hb2; obtain ⟨y0, y1, y2, y3, y4, y5, y6⟩ := HYC.out _ HB2.out; have mk := HB2; clear h hb2))
  refine bodyPost_ret (v := .tuple #[.int .u8 ka, .int .i64 0]) (by simp [results, Tryz.results64, go_sem]) rfl ?_
  exact TypR.of (HR.out.trans HV.out) HB3.out
set_option maxHeartbeats 4000000 in
theorem rtyp2_13b {l : List Bd} {m : Nat} (IH : RTyp l m) (w : World) (op : Int) (_h5 : 5 ≤ op) (_h17 : op ≤ 17) (u : Vl) (nm : ByteArray) (x y : Nd) (hm : SizeOf.sizeOf x ≤ m ∧ SizeOf.sizeOf y ≤ m) (hc : checkN x = true ∧ checkN y = true) (vk vl : Value) (hn : KidsR w w.heap.size vk [x, y]) (hl : BdsR w w.heap.size vl l) {ka ea kb eb : Int} (hk : typeN l x = (ka, ea)) (hk2 : typeN l y = (kb, eb)) (he : ea = 0) (hf : eb = 0) (hu : ka = kb) (ho : op = 13) (hk0 : ka = 3) :
    Calls Tryz.prog 64 #[valO op u nm vk, vl] w (TypR l (twoN op x y) w) := by
  have hks := hn
  obtain ⟨a, c, rfl⟩ := hks.val
  obtain ⟨b, o, a', c', d', rfl, hK⟩ := KidS.of hks (i := 0) (by simp)
  obtain ⟨b2, o2, a2, c2, d2, hab, hY⟩ := KidS.of hks (i := 1) (by simp)
  injection hab with hab
  injection hab with hab1 hab2 hab3
  subst hab1 hab2
  have hK' : KidS w w.heap.size b o x a' c' d' := by simpa using hK
  have hY' : KidS w w.heap.size b (o + 7) y a2 c2 d2 := by simpa using hY
  obtain ⟨w0, p0, hp0, hw0, l0, b0, hC0⟩ := nd_boxO w op u nm (.slice (some ⟨b, o, none⟩) 2 c) 36
  have HC0 := Lib.hid hC0
  have hR := typeN_two l (show (3 : Int) ≤ op by omega) x y
  rw [hk, hk2] at hR
  have HR := Lib.hid hR
  have hK0 := hK'.up b0
  obtain ⟨g0, g1, g2, g3, g4, g5, g6⟩ := hC0 w0 (Below.refl _ _)
  obtain ⟨x0, x1, x2, x3, x4, x5, x6⟩ := hK0.cells
  have HX := Lib.hid (IH x hm.1 hc.1 w0 (.slice a' c' d') vl ⟨hK'.hw, hK'.hk.mono b0 b0.size⟩ (hl.mono b0 b0.size))
  have HY := Lib.hid (fun (W : World) (hW : Below w.heap.size w W) => IH y hm.2 hc.2 W (.slice a2 c2 d2) vl ⟨hY'.hw, hY'.hk.mono hW hW.size⟩ (hl.mono hW hW.size))
  have HYC := Lib.hid (fun (W : World) (hW : Below w.heap.size w W) => (hY'.up hW).cells)
  obtain ⟨va, vc, rfl⟩ := hl.val
  have HB := Lib.hid b0
  have HX2 : Hid (∀ e w', TypR l x w0 e w' → e = .returned (.tuple #[.int .u8 ka, .int .i64 ea]) ∧ Below w0.heap.size w0 w') := Lib.hid (fun e w' h => by unfold TypR at h; rw [hk] at h; exact h)
  have HY2 : Hid (∀ W e w', TypR l y W e w' → e = .returned (.tuple #[.int .u8 kb, .int .i64 eb]) ∧ Below W.heap.size W w') := Lib.hid (fun W e w' h => by unfold TypR at h; rw [hk2] at h; exact h)
  have e1 : (op == 1) = false := by rw [beq_eq_false_iff_ne]; omega
  have e2 : (op == 2) = false := by rw [beq_eq_false_iff_ne]; omega
  have e3 : (op == 3) = false := by rw [beq_eq_false_iff_ne]; omega
  have e4 : (op == 4) = false := by rw [beq_eq_false_iff_ne]; omega
  have HV : Hid ((if (ka, ea).2 = 0 then (if (kb, eb).2 = 0 then typeC op [(ka, ea).1, (kb, eb).1] else (0, (kb, eb).2)) else (0, (ka, ea).2)) = (ka, 0)) := Lib.hid ((if_pos he).trans ((if_pos hf).trans (by subst hu; exact (show typeC op [ka, ka] = _ from by rw [ho]; exact typeC_add.trans (if_pos (.inr hk0))))))
  have v1 : (ea != 0) = false := bne_eq_false_iff_eq.2 he
  have v2 : (eb != 0) = false := bne_eq_false_iff_eq.2 hf
  have v3 : (ka != kb) = false := bne_eq_false_iff_eq.2 hu
  have f5 : (op == 5) = false := by rw [beq_eq_false_iff_ne]; omega
  have f6 : (op == 6) = false := by rw [beq_eq_false_iff_ne]; omega
  have f7 : (op == 7) = false := by rw [beq_eq_false_iff_ne]; omega
  have f8 : (op == 8) = false := by rw [beq_eq_false_iff_ne]; omega
  have f0 : decide (op ≤ 12) = false := decide_eq_false (by omega)
  have f13 : (op == 13) = true := by rw [ho]; rfl
  have v4 : (ka == 1) = false := by rw [beq_eq_false_iff_ne]; omega
  have v5 : (ka == 3) = true := beq_iff_eq.2 hk0
  clear hn hks hK hK' hY hY' hK0 hC0 b0 hR hc hm hk hk2 hl IH hab3 he hf hu ho hk0
  go_enter Tryz.func64, Tryz.ntmps64
  go_wp2_with (first
    | (have _ := mk; go_at_call 64; refine (HY.out _ HB2.out).mono ?_; intro e w3 h; obtain ⟨rfl, hb3⟩ := HY2.out _ _ _ h; have HB3 := Lib.hid (HB2.out.trans (hb3.mono HB2.out.size)); obtain ⟨g0, g1, g2, g3, g4, g5, g6⟩ := HC0.out _ (HBC.out.trans (hb3.mono HBC.out.size)); clear h hb3)
    | (go_at_call 64; refine HX.out.mono ?_; intro e w2 h; obtain ⟨rfl, hb2⟩ := HX2.out _ _ h; have HB2 := Lib.hid (HB.out.trans (hb2.mono HB.out.size)); have HBC := Lib.hid hb2; obtain ⟨g0, g1, g2, g3, g4, g5, g6⟩ := HC0.out _ hb2; obtain ⟨y0, y1, y2, y3, y4, y5, y6⟩ := HYC.out _ HB2.out; have mk := HB2; clear h hb2))
  refine bodyPost_ret (v := .tuple #[.int .u8 ka, .int .i64 0]) (by simp [results, Tryz.results64, go_sem]) rfl ?_
  exact TypR.of (HR.out.trans HV.out) HB3.out
set_option maxHeartbeats 4000000 in
theorem rtyp2_13n {l : List Bd} {m : Nat} (IH : RTyp l m) (w : World) (op : Int) (_h5 : 5 ≤ op) (_h17 : op ≤ 17) (u : Vl) (nm : ByteArray) (x y : Nd) (hm : SizeOf.sizeOf x ≤ m ∧ SizeOf.sizeOf y ≤ m) (hc : checkN x = true ∧ checkN y = true) (vk vl : Value) (hn : KidsR w w.heap.size vk [x, y]) (hl : BdsR w w.heap.size vl l) {ka ea kb eb : Int} (hk : typeN l x = (ka, ea)) (hk2 : typeN l y = (kb, eb)) (he : ea = 0) (hf : eb = 0) (hu : ka = kb) (ho : op = 13) (hk0 : ka ≠ 1 ∧ ka ≠ 3) :
    Calls Tryz.prog 64 #[valO op u nm vk, vl] w (TypR l (twoN op x y) w) := by
  have hks := hn
  obtain ⟨a, c, rfl⟩ := hks.val
  obtain ⟨b, o, a', c', d', rfl, hK⟩ := KidS.of hks (i := 0) (by simp)
  obtain ⟨b2, o2, a2, c2, d2, hab, hY⟩ := KidS.of hks (i := 1) (by simp)
  injection hab with hab
  injection hab with hab1 hab2 hab3
  subst hab1 hab2
  have hK' : KidS w w.heap.size b o x a' c' d' := by simpa using hK
  have hY' : KidS w w.heap.size b (o + 7) y a2 c2 d2 := by simpa using hY
  obtain ⟨w0, p0, hp0, hw0, l0, b0, hC0⟩ := nd_boxO w op u nm (.slice (some ⟨b, o, none⟩) 2 c) 36
  have HC0 := Lib.hid hC0
  have hR := typeN_two l (show (3 : Int) ≤ op by omega) x y
  rw [hk, hk2] at hR
  have HR := Lib.hid hR
  have hK0 := hK'.up b0
  obtain ⟨g0, g1, g2, g3, g4, g5, g6⟩ := hC0 w0 (Below.refl _ _)
  obtain ⟨x0, x1, x2, x3, x4, x5, x6⟩ := hK0.cells
  have HX := Lib.hid (IH x hm.1 hc.1 w0 (.slice a' c' d') vl ⟨hK'.hw, hK'.hk.mono b0 b0.size⟩ (hl.mono b0 b0.size))
  have HY := Lib.hid (fun (W : World) (hW : Below w.heap.size w W) => IH y hm.2 hc.2 W (.slice a2 c2 d2) vl ⟨hY'.hw, hY'.hk.mono hW hW.size⟩ (hl.mono hW hW.size))
  have HYC := Lib.hid (fun (W : World) (hW : Below w.heap.size w W) => (hY'.up hW).cells)
  obtain ⟨va, vc, rfl⟩ := hl.val
  have HB := Lib.hid b0
  have HX2 : Hid (∀ e w', TypR l x w0 e w' → e = .returned (.tuple #[.int .u8 ka, .int .i64 ea]) ∧ Below w0.heap.size w0 w') := Lib.hid (fun e w' h => by unfold TypR at h; rw [hk] at h; exact h)
  have HY2 : Hid (∀ W e w', TypR l y W e w' → e = .returned (.tuple #[.int .u8 kb, .int .i64 eb]) ∧ Below W.heap.size W w') := Lib.hid (fun W e w' h => by unfold TypR at h; rw [hk2] at h; exact h)
  have e1 : (op == 1) = false := by rw [beq_eq_false_iff_ne]; omega
  have e2 : (op == 2) = false := by rw [beq_eq_false_iff_ne]; omega
  have e3 : (op == 3) = false := by rw [beq_eq_false_iff_ne]; omega
  have e4 : (op == 4) = false := by rw [beq_eq_false_iff_ne]; omega
  have HV : Hid ((if (ka, ea).2 = 0 then (if (kb, eb).2 = 0 then typeC op [(ka, ea).1, (kb, eb).1] else (0, (kb, eb).2)) else (0, (ka, ea).2)) = (0, 90)) := Lib.hid ((if_pos he).trans ((if_pos hf).trans (by subst hu; exact (show typeC op [ka, ka] = _ from by rw [ho]; exact typeC_add.trans (if_neg (by omega))))))
  have v1 : (ea != 0) = false := bne_eq_false_iff_eq.2 he
  have v2 : (eb != 0) = false := bne_eq_false_iff_eq.2 hf
  have v3 : (ka != kb) = false := bne_eq_false_iff_eq.2 hu
  have f5 : (op == 5) = false := by rw [beq_eq_false_iff_ne]; omega
  have f6 : (op == 6) = false := by rw [beq_eq_false_iff_ne]; omega
  have f7 : (op == 7) = false := by rw [beq_eq_false_iff_ne]; omega
  have f8 : (op == 8) = false := by rw [beq_eq_false_iff_ne]; omega
  have f0 : decide (op ≤ 12) = false := decide_eq_false (by omega)
  have f13 : (op == 13) = true := by rw [ho]; rfl
  have v4 : (ka == 1) = false := by rw [beq_eq_false_iff_ne]; omega
  have v5 : (ka == 3) = false := by rw [beq_eq_false_iff_ne]; omega
  clear hn hks hK hK' hY hY' hK0 hC0 b0 hR hc hm hk hk2 hl IH hab3 he hf hu ho hk0
  go_enter Tryz.func64, Tryz.ntmps64
  go_wp2_with (first
    | (have _ := mk; go_at_call 64; refine (HY.out _ HB2.out).mono ?_; intro e w3 h; obtain ⟨rfl, hb3⟩ := HY2.out _ _ _ h; have HB3 := Lib.hid (HB2.out.trans (hb3.mono HB2.out.size)); obtain ⟨g0, g1, g2, g3, g4, g5, g6⟩ := HC0.out _ (HBC.out.trans (hb3.mono HBC.out.size)); clear h hb3)
    | (go_at_call 64; refine HX.out.mono ?_; intro e w2 h; obtain ⟨rfl, hb2⟩ := HX2.out _ _ h; have HB2 := Lib.hid (HB.out.trans (hb2.mono HB.out.size)); have HBC := Lib.hid hb2; obtain ⟨g0, g1, g2, g3, g4, g5, g6⟩ := HC0.out _ hb2; obtain ⟨y0, y1, y2, y3, y4, y5, y6⟩ := HYC.out _ HB2.out; have mk := HB2; clear h hb2))
  refine bodyPost_ret (v := .tuple #[.int .u8 0, .int .i64 90]) (by simp [results, Tryz.results64, go_sem]) rfl ?_
  exact TypR.of (HR.out.trans HV.out) HB3.out
set_option maxHeartbeats 4000000 in
theorem rtyp2_14y {l : List Bd} {m : Nat} (IH : RTyp l m) (w : World) (op : Int) (h5 : 5 ≤ op) (h17 : op ≤ 17) (u : Vl) (nm : ByteArray) (x y : Nd) (hm : SizeOf.sizeOf x ≤ m ∧ SizeOf.sizeOf y ≤ m) (hc : checkN x = true ∧ checkN y = true) (vk vl : Value) (hn : KidsR w w.heap.size vk [x, y]) (hl : BdsR w w.heap.size vl l) {ka ea kb eb : Int} (hk : typeN l x = (ka, ea)) (hk2 : typeN l y = (kb, eb)) (he : ea = 0) (hf : eb = 0) (hu : ka = kb) (ho : 14 ≤ op) (hk0 : ka = 1) :
    Calls Tryz.prog 64 #[valO op u nm vk, vl] w (TypR l (twoN op x y) w) := by
  have hks := hn
  obtain ⟨a, c, rfl⟩ := hks.val
  obtain ⟨b, o, a', c', d', rfl, hK⟩ := KidS.of hks (i := 0) (by simp)
  obtain ⟨b2, o2, a2, c2, d2, hab, hY⟩ := KidS.of hks (i := 1) (by simp)
  injection hab with hab
  injection hab with hab1 hab2 hab3
  subst hab1 hab2
  have hK' : KidS w w.heap.size b o x a' c' d' := by simpa using hK
  have hY' : KidS w w.heap.size b (o + 7) y a2 c2 d2 := by simpa using hY
  obtain ⟨w0, p0, hp0, hw0, l0, b0, hC0⟩ := nd_boxO w op u nm (.slice (some ⟨b, o, none⟩) 2 c) 36
  have HC0 := Lib.hid hC0
  have hR := typeN_two l (show (3 : Int) ≤ op by omega) x y
  rw [hk, hk2] at hR
  have HR := Lib.hid hR
  have hK0 := hK'.up b0
  obtain ⟨g0, g1, g2, g3, g4, g5, g6⟩ := hC0 w0 (Below.refl _ _)
  obtain ⟨x0, x1, x2, x3, x4, x5, x6⟩ := hK0.cells
  have HX := Lib.hid (IH x hm.1 hc.1 w0 (.slice a' c' d') vl ⟨hK'.hw, hK'.hk.mono b0 b0.size⟩ (hl.mono b0 b0.size))
  have HY := Lib.hid (fun (W : World) (hW : Below w.heap.size w W) => IH y hm.2 hc.2 W (.slice a2 c2 d2) vl ⟨hY'.hw, hY'.hk.mono hW hW.size⟩ (hl.mono hW hW.size))
  have HYC := Lib.hid (fun (W : World) (hW : Below w.heap.size w W) => (hY'.up hW).cells)
  obtain ⟨va, vc, rfl⟩ := hl.val
  have HB := Lib.hid b0
  have HX2 : Hid (∀ e w', TypR l x w0 e w' → e = .returned (.tuple #[.int .u8 ka, .int .i64 ea]) ∧ Below w0.heap.size w0 w') := Lib.hid (fun e w' h => by unfold TypR at h; rw [hk] at h; exact h)
  have HY2 : Hid (∀ W e w', TypR l y W e w' → e = .returned (.tuple #[.int .u8 kb, .int .i64 eb]) ∧ Below W.heap.size W w') := Lib.hid (fun W e w' h => by unfold TypR at h; rw [hk2] at h; exact h)
  have e1 : (op == 1) = false := by rw [beq_eq_false_iff_ne]; omega
  have e2 : (op == 2) = false := by rw [beq_eq_false_iff_ne]; omega
  have e3 : (op == 3) = false := by rw [beq_eq_false_iff_ne]; omega
  have e4 : (op == 4) = false := by rw [beq_eq_false_iff_ne]; omega
  have HV : Hid ((if (ka, ea).2 = 0 then (if (kb, eb).2 = 0 then typeC op [(ka, ea).1, (kb, eb).1] else (0, (kb, eb).2)) else (0, (ka, ea).2)) = (ka, 0)) := Lib.hid ((if_pos he).trans ((if_pos hf).trans (by subst hu; exact (typeC_ar ho).trans (if_pos hk0))))
  have v1 : (ea != 0) = false := bne_eq_false_iff_eq.2 he
  have v2 : (eb != 0) = false := bne_eq_false_iff_eq.2 hf
  have v3 : (ka != kb) = false := bne_eq_false_iff_eq.2 hu
  have f5 : (op == 5) = false := by rw [beq_eq_false_iff_ne]; omega
  have f6 : (op == 6) = false := by rw [beq_eq_false_iff_ne]; omega
  have f7 : (op == 7) = false := by rw [beq_eq_false_iff_ne]; omega
  have f8 : (op == 8) = false := by rw [beq_eq_false_iff_ne]; omega
  have f13 : (op == 13) = false := by rw [beq_eq_false_iff_ne]; omega
  have f0 : decide (op ≤ 12) = false := decide_eq_false (by omega)
  have v4 : (ka == 1) = true := beq_iff_eq.2 hk0
  clear hn hks hK hK' hY hY' hK0 hC0 b0 hR hc hm hk hk2 hl IH hab3 he hf hu ho hk0
  go_enter Tryz.func64, Tryz.ntmps64
  go_wp2_with (first
    | (have _ := mk; go_at_call 64; refine (HY.out _ HB2.out).mono ?_; intro e w3 h; obtain ⟨rfl, hb3⟩ := HY2.out _ _ _ h; have HB3 := Lib.hid (HB2.out.trans (hb3.mono HB2.out.size)); obtain ⟨g0, g1, g2, g3, g4, g5, g6⟩ := HC0.out _ (HBC.out.trans (hb3.mono HBC.out.size)); clear h hb3)
    | (go_at_call 64; refine HX.out.mono ?_; intro e w2 h; obtain ⟨rfl, hb2⟩ := HX2.out _ _ h; have HB2 := Lib.hid (HB.out.trans (hb2.mono HB.out.size)); have HBC := Lib.hid hb2; obtain ⟨g0, g1, g2, g3, g4, g5, g6⟩ := HC0.out _ hb2; obtain ⟨y0, y1, y2, y3, y4, y5, y6⟩ := HYC.out _ HB2.out; have mk := HB2; clear h hb2))
  refine bodyPost_ret (v := .tuple #[.int .u8 ka, .int .i64 0]) (by simp [results, Tryz.results64, go_sem]) rfl ?_
  exact TypR.of (HR.out.trans HV.out) HB3.out
set_option maxHeartbeats 4000000 in
theorem rtyp2_14n {l : List Bd} {m : Nat} (IH : RTyp l m) (w : World) (op : Int) (h5 : 5 ≤ op) (h17 : op ≤ 17) (u : Vl) (nm : ByteArray) (x y : Nd) (hm : SizeOf.sizeOf x ≤ m ∧ SizeOf.sizeOf y ≤ m) (hc : checkN x = true ∧ checkN y = true) (vk vl : Value) (hn : KidsR w w.heap.size vk [x, y]) (hl : BdsR w w.heap.size vl l) {ka ea kb eb : Int} (hk : typeN l x = (ka, ea)) (hk2 : typeN l y = (kb, eb)) (he : ea = 0) (hf : eb = 0) (hu : ka = kb) (ho : 14 ≤ op) (hk0 : ka ≠ 1) :
    Calls Tryz.prog 64 #[valO op u nm vk, vl] w (TypR l (twoN op x y) w) := by
  have hks := hn
  obtain ⟨a, c, rfl⟩ := hks.val
  obtain ⟨b, o, a', c', d', rfl, hK⟩ := KidS.of hks (i := 0) (by simp)
  obtain ⟨b2, o2, a2, c2, d2, hab, hY⟩ := KidS.of hks (i := 1) (by simp)
  injection hab with hab
  injection hab with hab1 hab2 hab3
  subst hab1 hab2
  have hK' : KidS w w.heap.size b o x a' c' d' := by simpa using hK
  have hY' : KidS w w.heap.size b (o + 7) y a2 c2 d2 := by simpa using hY
  obtain ⟨w0, p0, hp0, hw0, l0, b0, hC0⟩ := nd_boxO w op u nm (.slice (some ⟨b, o, none⟩) 2 c) 36
  have HC0 := Lib.hid hC0
  have hR := typeN_two l (show (3 : Int) ≤ op by omega) x y
  rw [hk, hk2] at hR
  have HR := Lib.hid hR
  have hK0 := hK'.up b0
  obtain ⟨g0, g1, g2, g3, g4, g5, g6⟩ := hC0 w0 (Below.refl _ _)
  obtain ⟨x0, x1, x2, x3, x4, x5, x6⟩ := hK0.cells
  have HX := Lib.hid (IH x hm.1 hc.1 w0 (.slice a' c' d') vl ⟨hK'.hw, hK'.hk.mono b0 b0.size⟩ (hl.mono b0 b0.size))
  have HY := Lib.hid (fun (W : World) (hW : Below w.heap.size w W) => IH y hm.2 hc.2 W (.slice a2 c2 d2) vl ⟨hY'.hw, hY'.hk.mono hW hW.size⟩ (hl.mono hW hW.size))
  have HYC := Lib.hid (fun (W : World) (hW : Below w.heap.size w W) => (hY'.up hW).cells)
  obtain ⟨va, vc, rfl⟩ := hl.val
  have HB := Lib.hid b0
  have HX2 : Hid (∀ e w', TypR l x w0 e w' → e = .returned (.tuple #[.int .u8 ka, .int .i64 ea]) ∧ Below w0.heap.size w0 w') := Lib.hid (fun e w' h => by unfold TypR at h; rw [hk] at h; exact h)
  have HY2 : Hid (∀ W e w', TypR l y W e w' → e = .returned (.tuple #[.int .u8 kb, .int .i64 eb]) ∧ Below W.heap.size W w') := Lib.hid (fun W e w' h => by unfold TypR at h; rw [hk2] at h; exact h)
  have e1 : (op == 1) = false := by rw [beq_eq_false_iff_ne]; omega
  have e2 : (op == 2) = false := by rw [beq_eq_false_iff_ne]; omega
  have e3 : (op == 3) = false := by rw [beq_eq_false_iff_ne]; omega
  have e4 : (op == 4) = false := by rw [beq_eq_false_iff_ne]; omega
  have HV : Hid ((if (ka, ea).2 = 0 then (if (kb, eb).2 = 0 then typeC op [(ka, ea).1, (kb, eb).1] else (0, (kb, eb).2)) else (0, (ka, ea).2)) = (0, 90)) := Lib.hid ((if_pos he).trans ((if_pos hf).trans (by subst hu; exact (typeC_ar ho).trans (if_neg hk0))))
  have v1 : (ea != 0) = false := bne_eq_false_iff_eq.2 he
  have v2 : (eb != 0) = false := bne_eq_false_iff_eq.2 hf
  have v3 : (ka != kb) = false := bne_eq_false_iff_eq.2 hu
  have f5 : (op == 5) = false := by rw [beq_eq_false_iff_ne]; omega
  have f6 : (op == 6) = false := by rw [beq_eq_false_iff_ne]; omega
  have f7 : (op == 7) = false := by rw [beq_eq_false_iff_ne]; omega
  have f8 : (op == 8) = false := by rw [beq_eq_false_iff_ne]; omega
  have f13 : (op == 13) = false := by rw [beq_eq_false_iff_ne]; omega
  have f0 : decide (op ≤ 12) = false := decide_eq_false (by omega)
  have v4 : (ka == 1) = false := by rw [beq_eq_false_iff_ne]; omega
  clear hn hks hK hK' hY hY' hK0 hC0 b0 hR hc hm hk hk2 hl IH hab3 he hf hu ho hk0
  go_enter Tryz.func64, Tryz.ntmps64
  go_wp2_with (first
    | (have _ := mk; go_at_call 64; refine (HY.out _ HB2.out).mono ?_; intro e w3 h; obtain ⟨rfl, hb3⟩ := HY2.out _ _ _ h; have HB3 := Lib.hid (HB2.out.trans (hb3.mono HB2.out.size)); obtain ⟨g0, g1, g2, g3, g4, g5, g6⟩ := HC0.out _ (HBC.out.trans (hb3.mono HBC.out.size)); clear h hb3)
    | (go_at_call 64; refine HX.out.mono ?_; intro e w2 h; obtain ⟨rfl, hb2⟩ := HX2.out _ _ h; have HB2 := Lib.hid (HB.out.trans (hb2.mono HB.out.size)); have HBC := Lib.hid hb2; obtain ⟨g0, g1, g2, g3, g4, g5, g6⟩ := HC0.out _ hb2; obtain ⟨y0, y1, y2, y3, y4, y5, y6⟩ := HYC.out _ HB2.out; have mk := HB2; clear h hb2))
  refine bodyPost_ret (v := .tuple #[.int .u8 0, .int .i64 90]) (by simp [results, Tryz.results64, go_sem]) rfl ?_
  exact TypR.of (HR.out.trans HV.out) HB3.out
theorem rtyp_two {l : List Bd} {m : Nat} (IH : RTyp l m) (w : World) (op : Int) (h5 : 5 ≤ op) (h17 : op ≤ 17) (u : Vl) (nm : ByteArray) (x y : Nd) (hm : SizeOf.sizeOf x ≤ m ∧ SizeOf.sizeOf y ≤ m) (hc : checkN x = true ∧ checkN y = true) (vk vl : Value) (hn : KidsR w w.heap.size vk [x, y]) (hl : BdsR w w.heap.size vl l) :
    Calls Tryz.prog 64 #[valO op u nm vk, vl] w (TypR l (twoN op x y) w) := by
  obtain ⟨ka, ea, hk⟩ : ∃ ka ea, typeN l x = (ka, ea) := ⟨_, _, rfl⟩
  obtain ⟨kb, eb, hk2⟩ : ∃ kb eb, typeN l y = (kb, eb) := ⟨_, _, rfl⟩
  by_cases he : ea = 0
  · by_cases hf : eb = 0
    · by_cases hu : ka = kb
      · have hop : op = 5 ∨ op = 6 ∨ op = 7 ∨ op = 8 ∨ (9 ≤ op ∧ op ≤ 12) ∨ op = 13 ∨ 14 ≤ op := by omega
        rcases hop with ho | ho | ho | ho | ho | ho | ho
        · by_cases h : ka = 2
          · exact rtyp2_5y IH w op h5 h17 u nm x y hm hc vk vl hn hl hk hk2 he hf hu ho h
          · exact rtyp2_5n IH w op h5 h17 u nm x y hm hc vk vl hn hl hk hk2 he hf hu ho h
        · by_cases h : ka = 2
          · exact rtyp2_6y IH w op h5 h17 u nm x y hm hc vk vl hn hl hk hk2 he hf hu ho h
          · exact rtyp2_6n IH w op h5 h17 u nm x y hm hc vk vl hn hl hk hk2 he hf hu ho h
        · exact rtyp2_7 IH w op h5 h17 u nm x y hm hc vk vl hn hl hk hk2 he hf hu ho
        · exact rtyp2_8 IH w op h5 h17 u nm x y hm hc vk vl hn hl hk hk2 he hf hu ho
        · by_cases h : ka = 2
          · exact rtyp2_9y IH w op h5 h17 u nm x y hm hc vk vl hn hl hk hk2 he hf hu ho h
          · exact rtyp2_9n IH w op h5 h17 u nm x y hm hc vk vl hn hl hk hk2 he hf hu ho h
        · by_cases h : ka = 1
          · exact rtyp2_13a IH w op h5 h17 u nm x y hm hc vk vl hn hl hk hk2 he hf hu ho h
          · by_cases h3 : ka = 3
            · exact rtyp2_13b IH w op h5 h17 u nm x y hm hc vk vl hn hl hk hk2 he hf hu ho h3
            · exact rtyp2_13n IH w op h5 h17 u nm x y hm hc vk vl hn hl hk hk2 he hf hu ho ⟨h, h3⟩
        · by_cases h : ka = 1
          · exact rtyp2_14y IH w op h5 h17 u nm x y hm hc vk vl hn hl hk hk2 he hf hu ho h
          · exact rtyp2_14n IH w op h5 h17 u nm x y hm hc vk vl hn hl hk hk2 he hf hu ho h
      · exact rtyp2_u IH w op h5 h17 u nm x y hm hc vk vl hn hl hk hk2 he hf hu
    · exact rtyp2_b IH w op h5 h17 u nm x y hm hc vk vl hn hl hk hk2 he hf
  · exact rtyp2_a IH w op h5 h17 u nm x y hm hc vk vl hn hl hk hk2 he
theorem rtyp_step {l : List Bd} {m : Nat} (IH : RTyp l m) : RTyp l (m + 1) := by
  intro n hz hc w vk vl hn hl
  rcases may_cases10 hc with ⟨v, rfl, _, _⟩ | ⟨s, rfl, _, _⟩ | ⟨op, x, ho, rfl, hx⟩ | ⟨op, x, y, h5, h17, rfl, hx, hy⟩
  · have hks : KidsR w w.heap.size vk [] := hn.2
    obtain ⟨a, c, rfl⟩ := hks.val
    exact rtyp_lit l w v ⟨#[]⟩ a c vl
  · have hks : KidsR w w.heap.size vk [] := hn.2
    obtain ⟨a, c, rfl⟩ := hks.val
    exact rtyp_var l w Vl.zero s a c vl hl
  · have hza : SizeOf.sizeOf x ≤ m := by simp [oneN] at hz; omega
    obtain ⟨ka, ea, hk⟩ : ∃ ka ea, typeN l x = (ka, ea) := ⟨_, _, rfl⟩
    rcases ho with rfl | rfl
    · by_cases he : ea = 0
      · by_cases h : ka = 2
        · exact rtyp1_3y IH w Vl.zero ⟨#[]⟩ x hza hx vk vl hn.2 hl hk he h
        · exact rtyp1_3n IH w Vl.zero ⟨#[]⟩ x hza hx vk vl hn.2 hl hk he h
      · exact rtyp1_3e IH w Vl.zero ⟨#[]⟩ x hza hx vk vl hn.2 hl hk he
    · by_cases he : ea = 0
      · by_cases h : ka = 1
        · exact rtyp1_4y IH w Vl.zero ⟨#[]⟩ x hza hx vk vl hn.2 hl hk he h
        · exact rtyp1_4n IH w Vl.zero ⟨#[]⟩ x hza hx vk vl hn.2 hl hk he h
      · exact rtyp1_4e IH w Vl.zero ⟨#[]⟩ x hza hx vk vl hn.2 hl hk he
  · have hza : SizeOf.sizeOf x ≤ m ∧ SizeOf.sizeOf y ≤ m := by simp [twoN] at hz; omega
    exact rtyp_two IH w op h5 h17 Vl.zero ⟨#[]⟩ x y hza ⟨hx, hy⟩ vk vl hn.2 hl
theorem rtypeOf_any (l : List Bd) (w : World) (n : Nd) (vk vl : Value) (hn : NdR w w.heap.size vk n) (hc : checkN n = true) (hl : BdsR w w.heap.size vl l) : Calls Tryz.prog 64 #[valN n vk, vl] w (TypR l n w) := by
  have : ∀ m, RTyp l m := by
    intro m
    induction m with
    | zero => intro n h; cases n; simp at h
    | succ m ih => exact rtyp_step ih
  exact this (SizeOf.sizeOf n) n (Nat.le_refl _) hc w vk vl hn hl
end Go.Proofs.YtbephgifbghilaaGreatDoor
/- The document's binds, within, show: leaves and one kid (seat expr). -/
set_option maxRecDepth 100000
namespace Go.Proofs.YtbephgifbghilaaGreatDoor
open Go.RowKit
set_option maxHeartbeats 4000000 in
theorem rbinds_any (w : World) (op : Int) (u : Vl) (nm : ByteArray) (vk : Value) (h1 : 1 ≤ op) (h17 : op ≤ 17) : Calls Tryz.prog 96 #[valO op u nm vk] w fun e w' => e = .returned (.int .i64 ((shownE op).2 : Int)) ∧ Below w.heap.size w w' := by
  obtain ⟨w0, p0, hp0, hw0, l0, b0, hC0⟩ := nd_boxO w op u nm vk 36
  obtain ⟨c0, c1, c2, c3, c4, c5, c6⟩ := hC0 w0 (Below.refl _ _)
  have HB := Lib.hid b0
  clear hC0 b0
  have hop : op = 1 ∨ op = 2 ∨ op = 3 ∨ op = 4 ∨ op = 5 ∨ op = 6 ∨ op = 7 ∨ op = 8 ∨ op = 9 ∨ op = 10 ∨ op = 11 ∨ op = 12 ∨ op = 13 ∨ op = 14 ∨ op = 15 ∨ op = 16 ∨ op = 17 := by omega
  rcases hop with rfl | rfl | rfl | rfl | rfl | rfl | rfl | rfl | rfl | rfl | rfl | rfl | rfl | rfl | rfl | rfl | rfl
  all_goals
    go_enter Tryz.func96, Tryz.ntmps96
    go_wp2_with fail
    go_ret
    exact ⟨rfl, HB.out⟩
/-- What show answers at a node that may be. -/
def ShowC (n : Nd) : Prop := checkN n = true → (showN n).length ≤ 1000000000 → ∀ (w : World) (vk : Value), NdR w w.heap.size vk n → Calls Tryz.prog 65 #[valN n vk] w fun e w' => e = .returned (.string ⟨(showN n).toArray⟩) ∧ Below w.heap.size w w'
theorem may_op {n : Nd} (h : checkN n = true) : 1 ≤ n.op ∧ n.op ≤ 17 := by
  obtain ⟨op, v, nm, ks⟩ := n
  have h1 := (may_head10 h).1
  show 1 ≤ op ∧ op ≤ 17
  unfold kidsN at h1
  split at h1 <;> omega
set_option maxHeartbeats 4000000 in
theorem rwithin_any (n : Nd) (hS : ShowC n) (hc : checkN n = true) (w : World) (vk : Value) (hn : NdR w w.heap.size vk n) (line : Nat) (_hline : line ≤ 100) (hl : (spellE n line).length ≤ 1000000000) :
    Calls Tryz.prog 98 #[valN n vk, .int .i64 (line : Int)] w fun e w' => e = .returned (.string ⟨(spellE n line).toArray⟩) ∧ Below w.heap.size w w' := by
  obtain ⟨o1, o2⟩ := may_op hc
  obtain ⟨w0, p0, hp0, hw0, l0, b0, hC0⟩ := nd_boxO w n.op n.v n.name vk 36
  have HC0 := Lib.hid hC0
  obtain ⟨c0, c1, c2, c3, c4, c5, c6⟩ := hC0 w0 (Below.refl _ _)
  have HB := Lib.hid b0
  have HBi := Lib.hid (rbinds_any w0 n.op n.v n.name vk o1 o2)
  obtain ⟨own, hown⟩ : ∃ own, (shownE n.op).2 = own := ⟨_, rfl⟩
  have hsp : spellE n line = wrapT own line (showN n) := by unfold spellE; rw [hown]
  have hsl : (showN n).length ≤ 1000000000 := by
    rw [hsp] at hl
    unfold wrapT at hl
    split at hl
    · simp at hl; omega
    · exact hl
  have HSh := Lib.hid (fun (W : World) (hW : Below w.heap.size w W) => hS hc hsl W vk ⟨hn.1, hn.2.mono hW hW.size⟩)
  rw [hown] at HBi
  rw [hsp]
  rw [hsp] at hl
  obtain ⟨T, hT⟩ : ∃ T : ByteArray, (⟨(showN n).toArray⟩ : ByteArray) = T := ⟨_, rfl⟩
  have hTz : T.size = (showN n).length := by rw [← hT]; exact size_mk _
  rw [hT] at HSh
  obtain ⟨ax, cx, hvk⟩ := hn.2.val
  subst hvk
  clear hS hc hn hC0 b0 o1 o2 hown hsp
  by_cases hlt : own < line
  · have d1 : decide ((own : Int) < (line : Int)) = true := decide_eq_true (by omega)
    have d1' : decide (own < line) = true := decide_eq_true hlt
    obtain ⟨y1, hy1, hz1, hr1⟩ := scat ⟨#[40]⟩ T (by have : (ByteArray.mk #[40]).size = 1 := rfl; omega)
    obtain ⟨y2, hy2, hz2, hr2⟩ := scat y1 ⟨#[41]⟩ (by have h1 : (ByteArray.mk #[40]).size = 1 := rfl; have h2 : (ByteArray.mk #[41]).size = 1 := rfl; omega)
    have hy : Hid (y2 = ⟨(wrapT own line (showN n)).toArray⟩) := Lib.hid (by
      rw [← hy2.out, ← hy1.out, ← hT]
      unfold wrapT
      rw [if_pos hlt]
      apply ByteArray.ext
      apply Array.ext'
      simp [ByteArray.data_append])
    clear hT hTz hz1 hz2 hlt hl hsl
    go_enter Tryz.func98, Tryz.ntmps98
    go_wp2_with (first
      | (go_at_call 96; refine HBi.out.mono ?_; rintro e w2 ⟨rfl, hb2⟩; have HB2 := Lib.hid (HB.out.trans (hb2.mono HB.out.size)); obtain ⟨c0, c1, c2, c3, c4, c5, c6⟩ := HC0.out _ hb2; clear hb2)
      | (go_at_call 65; refine (HSh.out _ HB2.out).mono ?_; rintro e w3 ⟨rfl, hb3⟩; have HB3 := Lib.hid (HB2.out.trans (hb3.mono HB2.out.size)); clear hb3))
    go_ret
    exact ⟨by rw [hy.out]; rfl, HB3.out⟩
  · have d1 : decide ((own : Int) < (line : Int)) = false := decide_eq_false (by omega)
    have d1' : decide (own < line) = false := decide_eq_false hlt
    have hy : Hid (T = ⟨(wrapT own line (showN n)).toArray⟩) := Lib.hid (by unfold wrapT; rw [if_neg hlt]; exact hT.symm)
    clear hT hTz hlt hl hsl
    go_enter Tryz.func98, Tryz.ntmps98
    go_wp2_with (first
      | (go_at_call 96; refine HBi.out.mono ?_; rintro e w2 ⟨rfl, hb2⟩; have HB2 := Lib.hid (HB.out.trans (hb2.mono HB.out.size)); obtain ⟨c0, c1, c2, c3, c4, c5, c6⟩ := HC0.out _ hb2; clear hb2)
      | (go_at_call 65; refine (HSh.out _ HB2.out).mono ?_; rintro e w3 ⟨rfl, hb3⟩; have HB3 := Lib.hid (HB2.out.trans (hb3.mono HB2.out.size)); clear hb3))
    go_ret
    exact ⟨by rw [hy.out]; rfl, HB3.out⟩
end Go.Proofs.YtbephgifbghilaaGreatDoor
/- The document's show and Print (seat expr; printed by gen_askshow2.py). -/
set_option maxRecDepth 100000
namespace Go.Proofs.YtbephgifbghilaaGreatDoor
open Go.RowKit
/-- The document's row of signs. -/
theorem sign_row {W : World} {p : Nat} {t : TypeId} {fr : Nat × Nat} (h : W.heap[p]? = some (.cells #[.string ⟨#[]⟩, .string ⟨#[]⟩, .string ⟨#[]⟩, .string ⟨#[]⟩, .string ⟨#[]⟩, .string ⟨#[32, 97, 110, 100, 32]⟩, .string ⟨#[32, 111, 114, 32]⟩, .string ⟨#[32, 61, 32]⟩, .string ⟨#[32, 33, 61, 32]⟩, .string ⟨#[32, 60, 32]⟩, .string ⟨#[32, 60, 61, 32]⟩, .string ⟨#[32, 62, 32]⟩, .string ⟨#[32, 62, 61, 32]⟩, .string ⟨#[32, 43, 32]⟩, .string ⟨#[32, 45, 32]⟩, .string ⟨#[32, 42, 32]⟩, .string ⟨#[32, 47, 32]⟩, .string ⟨#[32, 37, 32]⟩] t fr)) {k : Nat} (h5 : 5 ≤ k) (h17 : k ≤ 17) : W.cell? ⟨p, k, none⟩ = some (.string ⟨(shownE (k : Int)).1.toArray⟩) := by
  refine (cell_of_block h k).trans ?_
  have hk : k = 5 ∨ k = 6 ∨ k = 7 ∨ k = 8 ∨ k = 9 ∨ k = 10 ∨ k = 11 ∨ k = 12 ∨ k = 13 ∨ k = 14 ∨ k = 15 ∨ k = 16 ∨ k = 17 := by omega
  rcases hk with rfl | rfl | rfl | rfl | rfl | rfl | rfl | rfl | rfl | rfl | rfl | rfl | rfl <;> rfl
theorem quoL_app : ∀ a b : List UInt8, quoL (a ++ b) = quoL a ++ quoL b
  | [], _ => rfl
  | c :: r, b => by
    show (if c = 39 then 39 :: 39 :: quoL (r ++ b) else c :: quoL (r ++ b)) = (if c = 39 then 39 :: 39 :: quoL r else c :: quoL r) ++ quoL b
    rw [quoL_app r b]
    split <;> rfl
theorem quoL_take {l : List UInt8} {i : Nat} (h : i < l.length) : quoL (l.take (i + 1)) = quoL (l.take i) ++ (if l[i] = 39 then [39, 39] else [l[i]]) := by
  rw [List.take_add_one, List.getElem?_eq_getElem h, quoL_app]
  rfl
theorem lit_one {v : Vl} (h : v.kind = 1) : showN (litN v) = Lib.itoa v.num := by
  show litT v = _
  unfold litT
  rw [if_neg (by omega), if_neg (by omega)]
theorem lit_two {v : Vl} (h : v.kind = 2) : showN (litN v) = Lib.formatBool v.tr := by
  show litT v = _
  unfold litT
  rw [if_neg (by omega), if_pos h]
theorem lit_three {v : Vl} (h : v.kind = 3) : showN (litN v) = 39 :: quoL v.text.data.toList ++ [39] := by
  show litT v = _
  unfold litT
  rw [if_pos h, quo_all]
set_option maxHeartbeats 4000000 in
theorem rshow_num (w : World) (v : Vl) (nm : ByteArray) (a : Option Addr) (c : Nat) (hk : v.kind = 1) (h0 : 0 ≤ v.num) (h1 : v.num ≤ 9223372036854775807) : Calls Tryz.prog 65 #[valO 1 v nm (.slice a 0 c)] w fun e w' => e = .returned (.string ⟨(showN (litN v)).toArray⟩) ∧ Below w.heap.size w w' := by
  obtain ⟨w0, p0, hp0, hw0, l0, b0, hC0⟩ := nd_boxO w 1 v nm (.slice a 0 c) 36
  obtain ⟨w1, ps, hps, hw1, l1, n1, b1⟩ := box_new w0 (.cells #[.string ⟨#[]⟩, .string ⟨#[]⟩, .string ⟨#[]⟩, .string ⟨#[]⟩, .string ⟨#[]⟩, .string ⟨#[32, 97, 110, 100, 32]⟩, .string ⟨#[32, 111, 114, 32]⟩, .string ⟨#[32, 61, 32]⟩, .string ⟨#[32, 33, 61, 32]⟩, .string ⟨#[32, 60, 32]⟩, .string ⟨#[32, 60, 61, 32]⟩, .string ⟨#[32, 62, 32]⟩, .string ⟨#[32, 62, 61, 32]⟩, .string ⟨#[32, 43, 32]⟩, .string ⟨#[32, 45, 32]⟩, .string ⟨#[32, 42, 32]⟩, .string ⟨#[32, 47, 32]⟩, .string ⟨#[32, 37, 32]⟩] 9)
  have HC0 := Lib.hid (fun (V : World) (hV : Below w1.heap.size w1 V) => hC0 V (b1.trans (hV.mono b1.size)))
  obtain ⟨c0, c1, c2, c3, c4, c5, c6⟩ := HC0.out w1 (Below.refl _ _)
  have HB := Lib.hid (b0.trans (b1.mono b0.size))
  have HBi := Lib.hid (rbinds_any w1 1 v nm (.slice a 0 c) (by omega) (by omega))
  have HN := Lib.hid (fun (W : World) => rnum_any W v.num h0 h1)
  have hf : Hid (numT v.num = ⟨(showN (litN v)).toArray⟩) := Lib.hid (by rw [lit_one hk]; rfl)
  have d1 : (v.kind == 1) = true := beq_iff_eq.2 hk
  clear hC0 b0 b1 n1 hk h0 h1
  go_enter Tryz.func65, Tryz.ntmps65
  go_wp2_with (first
    | (go_at_call 96; refine HBi.out.mono ?_; rintro e w2 ⟨rfl, hb2⟩; have HB2 := Lib.hid (HB.out.trans (hb2.mono HB.out.size)); obtain ⟨c0, c1, c2, c3, c4, c5, c6⟩ := HC0.out _ hb2; clear hb2)
    | (go_at_call 97; refine (HN.out _).mono ?_; rintro e w3 ⟨rfl, hb3⟩; have HB3 := Lib.hid (HB2.out.trans (hb3.mono HB2.out.size)); clear hb3))
  go_ret
  exact ⟨by rw [hf.out]; rfl, HB3.out⟩
set_option maxHeartbeats 4000000 in
theorem rshow_true (w : World) (v : Vl) (nm : ByteArray) (a : Option Addr) (c : Nat) (hk : v.kind = 2) (ht : v.tr = true) : Calls Tryz.prog 65 #[valO 1 v nm (.slice a 0 c)] w fun e w' => e = .returned (.string ⟨(showN (litN v)).toArray⟩) ∧ Below w.heap.size w w' := by
  obtain ⟨w0, p0, hp0, hw0, l0, b0, hC0⟩ := nd_boxO w 1 v nm (.slice a 0 c) 36
  obtain ⟨w1, ps, hps, hw1, l1, n1, b1⟩ := box_new w0 (.cells #[.string ⟨#[]⟩, .string ⟨#[]⟩, .string ⟨#[]⟩, .string ⟨#[]⟩, .string ⟨#[]⟩, .string ⟨#[32, 97, 110, 100, 32]⟩, .string ⟨#[32, 111, 114, 32]⟩, .string ⟨#[32, 61, 32]⟩, .string ⟨#[32, 33, 61, 32]⟩, .string ⟨#[32, 60, 32]⟩, .string ⟨#[32, 60, 61, 32]⟩, .string ⟨#[32, 62, 32]⟩, .string ⟨#[32, 62, 61, 32]⟩, .string ⟨#[32, 43, 32]⟩, .string ⟨#[32, 45, 32]⟩, .string ⟨#[32, 42, 32]⟩, .string ⟨#[32, 47, 32]⟩, .string ⟨#[32, 37, 32]⟩] 9)
  have HC0 := Lib.hid (fun (V : World) (hV : Below w1.heap.size w1 V) => hC0 V (b1.trans (hV.mono b1.size)))
  obtain ⟨c0, c1, c2, c3, c4, c5, c6⟩ := HC0.out w1 (Below.refl _ _)
  have HB := Lib.hid (b0.trans (b1.mono b0.size))
  have HBi := Lib.hid (rbinds_any w1 1 v nm (.slice a 0 c) (by omega) (by omega))
  have hf : Hid (ByteArray.mk #[116, 114, 117, 101] = ⟨(showN (litN v)).toArray⟩) := Lib.hid (by rw [lit_two hk, ht]; kernel_rfl)
  have d1 : (v.kind == 1) = false := by rw [hk]; rfl
  have d2 : (v.kind == 2) = true := by rw [hk]; rfl
  have HT := Lib.hid ht
  clear hC0 b0 b1 n1 hk ht
  go_enter Tryz.func65, Tryz.ntmps65
  go_wp2_with (go_at_call 96; refine HBi.out.mono ?_; rintro e w2 ⟨rfl, hb2⟩; have HB2 := Lib.hid (HB.out.trans (hb2.mono HB.out.size)); obtain ⟨c0, c1, c2, c3, c4, c5, c6⟩ := HC0.out _ hb2; rw [HT.out] at c3; clear hb2)
  go_ret
  exact ⟨by rw [hf.out]; rfl, HB2.out⟩
set_option maxHeartbeats 4000000 in
theorem rshow_false (w : World) (v : Vl) (nm : ByteArray) (a : Option Addr) (c : Nat) (hk : v.kind = 2) (ht : v.tr = false) : Calls Tryz.prog 65 #[valO 1 v nm (.slice a 0 c)] w fun e w' => e = .returned (.string ⟨(showN (litN v)).toArray⟩) ∧ Below w.heap.size w w' := by
  obtain ⟨w0, p0, hp0, hw0, l0, b0, hC0⟩ := nd_boxO w 1 v nm (.slice a 0 c) 36
  obtain ⟨w1, ps, hps, hw1, l1, n1, b1⟩ := box_new w0 (.cells #[.string ⟨#[]⟩, .string ⟨#[]⟩, .string ⟨#[]⟩, .string ⟨#[]⟩, .string ⟨#[]⟩, .string ⟨#[32, 97, 110, 100, 32]⟩, .string ⟨#[32, 111, 114, 32]⟩, .string ⟨#[32, 61, 32]⟩, .string ⟨#[32, 33, 61, 32]⟩, .string ⟨#[32, 60, 32]⟩, .string ⟨#[32, 60, 61, 32]⟩, .string ⟨#[32, 62, 32]⟩, .string ⟨#[32, 62, 61, 32]⟩, .string ⟨#[32, 43, 32]⟩, .string ⟨#[32, 45, 32]⟩, .string ⟨#[32, 42, 32]⟩, .string ⟨#[32, 47, 32]⟩, .string ⟨#[32, 37, 32]⟩] 9)
  have HC0 := Lib.hid (fun (V : World) (hV : Below w1.heap.size w1 V) => hC0 V (b1.trans (hV.mono b1.size)))
  obtain ⟨c0, c1, c2, c3, c4, c5, c6⟩ := HC0.out w1 (Below.refl _ _)
  have HB := Lib.hid (b0.trans (b1.mono b0.size))
  have HBi := Lib.hid (rbinds_any w1 1 v nm (.slice a 0 c) (by omega) (by omega))
  have hf : Hid (ByteArray.mk #[102, 97, 108, 115, 101] = ⟨(showN (litN v)).toArray⟩) := Lib.hid (by rw [lit_two hk, ht]; kernel_rfl)
  have d1 : (v.kind == 1) = false := by rw [hk]; rfl
  have d2 : (v.kind == 2) = true := by rw [hk]; rfl
  have HT := Lib.hid ht
  clear hC0 b0 b1 n1 hk ht
  go_enter Tryz.func65, Tryz.ntmps65
  go_wp2_with (go_at_call 96; refine HBi.out.mono ?_; rintro e w2 ⟨rfl, hb2⟩; have HB2 := Lib.hid (HB.out.trans (hb2.mono HB.out.size)); obtain ⟨c0, c1, c2, c3, c4, c5, c6⟩ := HC0.out _ hb2; rw [HT.out] at c3; clear hb2)
  go_ret
  exact ⟨by rw [hf.out]; rfl, HB2.out⟩
set_option maxHeartbeats 4000000 in
theorem rshow_text (w : World) (v : Vl) (nm : ByteArray) (a : Option Addr) (c : Nat) (hk : v.kind = 3) (hz : v.text.size ≤ 1024) : Calls Tryz.prog 65 #[valO 1 v nm (.slice a 0 c)] w fun e w' => e = .returned (.string ⟨(showN (litN v)).toArray⟩) ∧ Below w.heap.size w w' := by
  obtain ⟨w0, p0, hp0, hw0, l0, b0, hC0⟩ := nd_boxO w 1 v nm (.slice a 0 c) 36
  obtain ⟨w1, ps, hps, hw1, l1, n1, b1⟩ := box_new w0 (.cells #[.string ⟨#[]⟩, .string ⟨#[]⟩, .string ⟨#[]⟩, .string ⟨#[]⟩, .string ⟨#[]⟩, .string ⟨#[32, 97, 110, 100, 32]⟩, .string ⟨#[32, 111, 114, 32]⟩, .string ⟨#[32, 61, 32]⟩, .string ⟨#[32, 33, 61, 32]⟩, .string ⟨#[32, 60, 32]⟩, .string ⟨#[32, 60, 61, 32]⟩, .string ⟨#[32, 62, 32]⟩, .string ⟨#[32, 62, 61, 32]⟩, .string ⟨#[32, 43, 32]⟩, .string ⟨#[32, 45, 32]⟩, .string ⟨#[32, 42, 32]⟩, .string ⟨#[32, 47, 32]⟩, .string ⟨#[32, 37, 32]⟩] 9)
  have HC0 := Lib.hid (fun (V : World) (hV : Below w1.heap.size w1 V) => hC0 V (b1.trans (hV.mono b1.size)))
  obtain ⟨c0, c1, c2, c3, c4, c5, c6⟩ := HC0.out w1 (Below.refl _ _)
  have HB := Lib.hid (b0.trans (b1.mono b0.size))
  have HBi := Lib.hid (rbinds_any w1 1 v nm (.slice a 0 c) (by omega) (by omega))
  have hf : Hid (∀ y : ByteArray, y.data.toList = 39 :: quoL v.text.data.toList ++ [39] → y = ⟨(showN (litN v)).toArray⟩) := Lib.hid (fun y hy => by
    rw [lit_three hk, ← hy])
  have d1 : (v.kind == 1) = false := by rw [hk]; rfl
  have d2 : (v.kind == 2) = false := by rw [hk]; rfl
  have hlen : v.text.data.toList.length = v.text.size := rfl
  have HLen := Lib.hid hlen
  clear hC0 b0 b1 n1 hk hlen
  go_enter Tryz.func65, Tryz.ntmps65
  go_wp2_with (go_at_call 96; refine HBi.out.mono ?_; rintro e w2 ⟨rfl, hb2⟩; have HB2 := Lib.hid (HB.out.trans (hb2.mono HB.out.size)); obtain ⟨c0, c1, c2, c3, c4, c5, c6⟩ := HC0.out _ hb2; clear hb2)
  go_loopg [5, 6] v.text.size (fun g s5 s6 wr => ∃ (i : Nat) (acc : ByteArray), i + g = v.text.size ∧ s5 = .string acc ∧ s6 = .int .i64 (i : Int) ∧ Hid (acc.data.toList = 39 :: quoL (v.text.data.toList.take i)) ∧ acc.size ≤ 1 + 2 * i ∧ w2 = wr)
  case atStart => exact ⟨0, ⟨#[39]⟩, by omega, rfl, rfl, Lib.hid rfl, by show 1 ≤ _; omega, rfl⟩
  case round =>
    obtain ⟨i, acc, hig, rfl, rfl, hA, hacc, rfl⟩ := hrel
    by_cases hi : i < v.text.size
    · have e1 : decide ((i : Int) < (v.text.size : Int)) = true := decide_eq_true (by omega)
      have e1' : decide (i < v.text.size) = true := decide_eq_true hi
      obtain ⟨x, hx⟩ : ∃ x, v.text[i].toNat = x := ⟨_, rfl⟩
      obtain ⟨q, hq⟩ : ∃ q, v.text.extract i (i + 1) = q := ⟨_, rfl⟩
      have hql : q.data.toList = [v.text[i]] := by
        rw [← hq, ByteArray.data_extract, Array.toList_extract, List.extract_eq_take_drop, show i + 1 - i = 1 by omega, List.drop_eq_getElem_cons (by rw [HLen.out]; exact hi)]
        rfl
      have hqz : q.size = 1 := by have h1 : q.data.toList.length = q.size := rfl; rw [← h1, hql]; rfl
      obtain ⟨y1, hy1, hz1, hr1⟩ := scat acc q (by omega)
      have hqt := quoL_take (l := v.text.data.toList) (i := i) (by rw [HLen.out]; exact hi)
      have hgi : v.text.data.toList[i]'(by rw [HLen.out]; exact hi) = v.text[i] := rfl
      rw [hgi] at hqt
      have hy1l : y1.data.toList = acc.data.toList ++ [v.text[i]] := by rw [← hy1.out, ← hql]; simp [ByteArray.data_append]
      by_cases h39 : x = 39
      · have e2 : ((x : Int) == 39) = true := by rw [beq_iff_eq]; omega
        have e2' : (x == 39) = true := beq_iff_eq.2 h39
        obtain ⟨y2, hy2, hz2, hr2⟩ := scat y1 ⟨#[39]⟩ (by have : (ByteArray.mk #[39]).size = 1 := rfl; omega)
        have hv39 : v.text[i] = 39 := UInt8.toNat_inj.1 (by rw [hx, h39]; rfl)
        have HA2 : Hid (y2.data.toList = 39 :: quoL (v.text.data.toList.take (i + 1))) := Lib.hid (by
          rw [hqt, hv39, if_pos rfl, ← hy2.out]
          have : (y1 ++ ByteArray.mk #[39]).data.toList = y1.data.toList ++ [39] := by simp [ByteArray.data_append]
          rw [this, hy1l, hA.out, hv39]
          simp)
        have hsz2 : y2.size ≤ 1 + 2 * (i + 1) := by have : (ByteArray.mk #[39]).size = 1 := rfl; omega
        clear hql hqt hgi hy1l hA hz1 hz2 hqz h39 hv39
        go_wp2_with fail
        go_roundg (gk - 1)
        case measure => omega
        case rel => exact ⟨i + 1, y2, by omega, rfl, by go_num, HA2, hsz2, rfl⟩
      · have e2 : ((x : Int) == 39) = false := by rw [beq_eq_false_iff_ne]; omega
        have e2' : (x == 39) = false := beq_eq_false_iff_ne.2 h39
        have hv39 : v.text[i] ≠ 39 := fun h => h39 (by rw [← hx, h]; rfl)
        have HA2 : Hid (y1.data.toList = 39 :: quoL (v.text.data.toList.take (i + 1))) := Lib.hid (by
          rw [hqt, if_neg hv39, hy1l, hA.out]
          simp)
        have hsz2 : y1.size ≤ 1 + 2 * (i + 1) := by omega
        clear hql hqt hgi hy1l hA hz1 hqz h39 hv39
        go_wp2_with fail
        go_roundg (gk - 1)
        case measure => omega
        case rel => exact ⟨i + 1, y1, by omega, rfl, by go_num, HA2, hsz2, rfl⟩
    · have e1 : decide ((i : Int) < (v.text.size : Int)) = false := decide_eq_false (by omega)
      have e1' : decide (i < v.text.size) = false := decide_eq_false hi
      obtain ⟨y1, hy1, hz1, hr1⟩ := scat acc ⟨#[39]⟩ (by have : (ByteArray.mk #[39]).size = 1 := rfl; omega)
      have HF : Hid (y1 = ⟨(showN (litN v)).toArray⟩) := Lib.hid (hf.out y1 (by
        rw [← hy1.out]
        have : (acc ++ ByteArray.mk #[39]).data.toList = acc.data.toList ++ [39] := by simp [ByteArray.data_append]
        rw [this, hA.out, List.take_of_length_le (by rw [HLen.out]; omega)]))
      clear hA hz1
      go_wp2_with fail
      go_ret
      exact ⟨by rw [HF.out]; rfl, HB2.out⟩
set_option maxHeartbeats 4000000 in
theorem rshow_var (w : World) (u : Vl) (s : ByteArray) (a : Option Addr) (c : Nat) : Calls Tryz.prog 65 #[valO 2 u s (.slice a 0 c)] w fun e w' => e = .returned (.string ⟨(showN (varN s)).toArray⟩) ∧ Below w.heap.size w w' := by
  obtain ⟨w0, p0, hp0, hw0, l0, b0, hC0⟩ := nd_boxO w 2 u s (.slice a 0 c) 36
  obtain ⟨w1, ps, hps, hw1, l1, n1, b1⟩ := box_new w0 (.cells #[.string ⟨#[]⟩, .string ⟨#[]⟩, .string ⟨#[]⟩, .string ⟨#[]⟩, .string ⟨#[]⟩, .string ⟨#[32, 97, 110, 100, 32]⟩, .string ⟨#[32, 111, 114, 32]⟩, .string ⟨#[32, 61, 32]⟩, .string ⟨#[32, 33, 61, 32]⟩, .string ⟨#[32, 60, 32]⟩, .string ⟨#[32, 60, 61, 32]⟩, .string ⟨#[32, 62, 32]⟩, .string ⟨#[32, 62, 61, 32]⟩, .string ⟨#[32, 43, 32]⟩, .string ⟨#[32, 45, 32]⟩, .string ⟨#[32, 42, 32]⟩, .string ⟨#[32, 47, 32]⟩, .string ⟨#[32, 37, 32]⟩] 9)
  have HC0 := Lib.hid (fun (V : World) (hV : Below w1.heap.size w1 V) => hC0 V (b1.trans (hV.mono b1.size)))
  obtain ⟨c0, c1, c2, c3, c4, c5, c6⟩ := HC0.out w1 (Below.refl _ _)
  have HB := Lib.hid (b0.trans (b1.mono b0.size))
  have HBi := Lib.hid (rbinds_any w1 2 u s (.slice a 0 c) (by omega) (by omega))
  have hf : Hid (s = ⟨(showN (varN s)).toArray⟩) := Lib.hid rfl
  clear hC0 b0 b1 n1
  go_enter Tryz.func65, Tryz.ntmps65
  go_wp2_with (go_at_call 96; refine HBi.out.mono ?_; rintro e w2 ⟨rfl, hb2⟩; have HB2 := Lib.hid (HB.out.trans (hb2.mono HB.out.size)); obtain ⟨c0, c1, c2, c3, c4, c5, c6⟩ := HC0.out _ hb2; clear hb2)
  go_ret
  exact ⟨congrArg (fun x => Ending.returned (Value.string x)) hf.out, HB2.out⟩
set_option maxHeartbeats 4000000 in
theorem rshow_one3 (w : World) (u : Vl) (nm : ByteArray) (x : Nd) (hS : ShowC x) (hc : checkN x = true) (vk : Value) (hks : KidsR w w.heap.size vk [x]) (hl : (showN (oneN 3 x)).length ≤ 1000000000) : Calls Tryz.prog 65 #[valO 3 u nm vk] w fun e w' => e = .returned (.string ⟨(showN (oneN 3 x)).toArray⟩) ∧ Below w.heap.size w w' := by
  obtain ⟨a, c, rfl⟩ := hks.val
  obtain ⟨b, o, a', c', d', rfl, hK⟩ := KidS.of hks (i := 0) (by simp)
  have hK' : KidS w w.heap.size b o x a' c' d' := by simpa using hK
  obtain ⟨w0, p0, hp0, hw0, l0, b0, hC0⟩ := nd_boxO w 3 u nm (.slice (some ⟨b, o, none⟩) 1 c) 36
  obtain ⟨w1, ps, hps, hw1, l1, n1, b1⟩ := box_new w0 (.cells #[.string ⟨#[]⟩, .string ⟨#[]⟩, .string ⟨#[]⟩, .string ⟨#[]⟩, .string ⟨#[]⟩, .string ⟨#[32, 97, 110, 100, 32]⟩, .string ⟨#[32, 111, 114, 32]⟩, .string ⟨#[32, 61, 32]⟩, .string ⟨#[32, 33, 61, 32]⟩, .string ⟨#[32, 60, 32]⟩, .string ⟨#[32, 60, 61, 32]⟩, .string ⟨#[32, 62, 32]⟩, .string ⟨#[32, 62, 61, 32]⟩, .string ⟨#[32, 43, 32]⟩, .string ⟨#[32, 45, 32]⟩, .string ⟨#[32, 42, 32]⟩, .string ⟨#[32, 47, 32]⟩, .string ⟨#[32, 37, 32]⟩] 9)
  have HC0 := Lib.hid (fun (V : World) (hV : Below w1.heap.size w1 V) => hC0 V (b1.trans (hV.mono b1.size)))
  obtain ⟨c0, c1, c2, c3, c4, c5, c6⟩ := HC0.out w1 (Below.refl _ _)
  have HB := Lib.hid (b0.trans (b1.mono b0.size))
  have HBi := Lib.hid (rbinds_any w1 3 u nm (.slice (some ⟨b, o, none⟩) 1 c) (by omega) (by omega))
  have e : showN (oneN 3 x) = (shownE 3).1 ++ spellE x (shownE 3).2 := spell_one 3 (by omega) Vl.zero ⟨#[]⟩ x
  have e2 : (shownE 3).1 = [110, 111, 116, 32] ∧ (shownE 3).2 = 3 := ⟨rfl, rfl⟩
  rw [e2.1, e2.2] at e
  rw [e] at hl ⊢
  have hl2 : (spellE x 3).length ≤ 1000000000 := by rw [List.length_append] at hl; omega
  have HW := Lib.hid (fun (W : World) (hW : Below w.heap.size w W) => rwithin_any x hS hc W (.slice a' c' d') ⟨hK'.hw, hK'.hk.mono hW hW.size⟩ 3 (by omega) hl2)
  have HK := Lib.hid (fun (W : World) (hW : Below w.heap.size w W) => hK'.up hW)
  obtain ⟨T, hT⟩ : ∃ T : ByteArray, (⟨(spellE x 3).toArray⟩ : ByteArray) = T := ⟨_, rfl⟩
  have hTz : T.size = (spellE x 3).length := by rw [← hT]; exact size_mk _
  rw [hT] at HW
  obtain ⟨y1, hy1, hz1, hr1⟩ := scat ⟨#[110, 111, 116, 32]⟩ T (by have h9 : (ByteArray.mk #[110, 111, 116, 32]).size ≤ 4 := (by decide); omega)
  have hy : Hid (y1 = ⟨([110, 111, 116, 32] ++ spellE x 3).toArray⟩) := Lib.hid (by
    rw [← hy1.out, ← hT]
    apply ByteArray.ext
    apply Array.ext'
    simp [ByteArray.data_append])
  clear hC0 b0 b1 n1 hK hK' hks hS hc e e2 hl hl2 hT hTz hz1
  go_enter Tryz.func65, Tryz.ntmps65
  go_wp2_with (first
    | (go_at_call 96; refine HBi.out.mono ?_; rintro e w2 ⟨rfl, hb2⟩; have HB2 := Lib.hid (HB.out.trans (hb2.mono HB.out.size)); obtain ⟨c0, c1, c2, c3, c4, c5, c6⟩ := HC0.out _ hb2; have hKw := HK.out _ HB2.out; have z0 := hKw.q0; have z1 := hKw.q1; have z2 := hKw.q2; have z3 := hKw.q3; have z4 := hKw.q4; have z5 := hKw.q5; have z6 := hKw.q6; clear hb2 hKw)
    | (go_at_call 98; refine (HW.out _ HB2.out).mono ?_; rintro e w3 ⟨rfl, hb3⟩; have HB3 := Lib.hid (HB2.out.trans (hb3.mono HB2.out.size)); clear hb3))
  go_ret
  exact ⟨by rw [hy.out]; rfl, HB3.out⟩
set_option maxHeartbeats 4000000 in
theorem rshow_one4 (w : World) (u : Vl) (nm : ByteArray) (x : Nd) (hS : ShowC x) (hc : checkN x = true) (vk : Value) (hks : KidsR w w.heap.size vk [x]) (hl : (showN (oneN 4 x)).length ≤ 1000000000) : Calls Tryz.prog 65 #[valO 4 u nm vk] w fun e w' => e = .returned (.string ⟨(showN (oneN 4 x)).toArray⟩) ∧ Below w.heap.size w w' := by
  obtain ⟨a, c, rfl⟩ := hks.val
  obtain ⟨b, o, a', c', d', rfl, hK⟩ := KidS.of hks (i := 0) (by simp)
  have hK' : KidS w w.heap.size b o x a' c' d' := by simpa using hK
  obtain ⟨w0, p0, hp0, hw0, l0, b0, hC0⟩ := nd_boxO w 4 u nm (.slice (some ⟨b, o, none⟩) 1 c) 36
  obtain ⟨w1, ps, hps, hw1, l1, n1, b1⟩ := box_new w0 (.cells #[.string ⟨#[]⟩, .string ⟨#[]⟩, .string ⟨#[]⟩, .string ⟨#[]⟩, .string ⟨#[]⟩, .string ⟨#[32, 97, 110, 100, 32]⟩, .string ⟨#[32, 111, 114, 32]⟩, .string ⟨#[32, 61, 32]⟩, .string ⟨#[32, 33, 61, 32]⟩, .string ⟨#[32, 60, 32]⟩, .string ⟨#[32, 60, 61, 32]⟩, .string ⟨#[32, 62, 32]⟩, .string ⟨#[32, 62, 61, 32]⟩, .string ⟨#[32, 43, 32]⟩, .string ⟨#[32, 45, 32]⟩, .string ⟨#[32, 42, 32]⟩, .string ⟨#[32, 47, 32]⟩, .string ⟨#[32, 37, 32]⟩] 9)
  have HC0 := Lib.hid (fun (V : World) (hV : Below w1.heap.size w1 V) => hC0 V (b1.trans (hV.mono b1.size)))
  obtain ⟨c0, c1, c2, c3, c4, c5, c6⟩ := HC0.out w1 (Below.refl _ _)
  have HB := Lib.hid (b0.trans (b1.mono b0.size))
  have HBi := Lib.hid (rbinds_any w1 4 u nm (.slice (some ⟨b, o, none⟩) 1 c) (by omega) (by omega))
  have e : showN (oneN 4 x) = (shownE 4).1 ++ spellE x (shownE 4).2 := spell_one 4 (by omega) Vl.zero ⟨#[]⟩ x
  have e2 : (shownE 4).1 = [45] ∧ (shownE 4).2 = 7 := ⟨rfl, rfl⟩
  rw [e2.1, e2.2] at e
  rw [e] at hl ⊢
  have hl2 : (spellE x 7).length ≤ 1000000000 := by rw [List.length_append] at hl; omega
  have HW := Lib.hid (fun (W : World) (hW : Below w.heap.size w W) => rwithin_any x hS hc W (.slice a' c' d') ⟨hK'.hw, hK'.hk.mono hW hW.size⟩ 7 (by omega) hl2)
  have HK := Lib.hid (fun (W : World) (hW : Below w.heap.size w W) => hK'.up hW)
  obtain ⟨T, hT⟩ : ∃ T : ByteArray, (⟨(spellE x 7).toArray⟩ : ByteArray) = T := ⟨_, rfl⟩
  have hTz : T.size = (spellE x 7).length := by rw [← hT]; exact size_mk _
  rw [hT] at HW
  obtain ⟨y1, hy1, hz1, hr1⟩ := scat ⟨#[45]⟩ T (by have h9 : (ByteArray.mk #[45]).size ≤ 4 := (by decide); omega)
  have hy : Hid (y1 = ⟨([45] ++ spellE x 7).toArray⟩) := Lib.hid (by
    rw [← hy1.out, ← hT]
    apply ByteArray.ext
    apply Array.ext'
    simp [ByteArray.data_append])
  clear hC0 b0 b1 n1 hK hK' hks hS hc e e2 hl hl2 hT hTz hz1
  go_enter Tryz.func65, Tryz.ntmps65
  go_wp2_with (first
    | (go_at_call 96; refine HBi.out.mono ?_; rintro e w2 ⟨rfl, hb2⟩; have HB2 := Lib.hid (HB.out.trans (hb2.mono HB.out.size)); obtain ⟨c0, c1, c2, c3, c4, c5, c6⟩ := HC0.out _ hb2; have hKw := HK.out _ HB2.out; have z0 := hKw.q0; have z1 := hKw.q1; have z2 := hKw.q2; have z3 := hKw.q3; have z4 := hKw.q4; have z5 := hKw.q5; have z6 := hKw.q6; clear hb2 hKw)
    | (go_at_call 98; refine (HW.out _ HB2.out).mono ?_; rintro e w3 ⟨rfl, hb3⟩; have HB3 := Lib.hid (HB2.out.trans (hb3.mono HB2.out.size)); clear hb3))
  go_ret
  exact ⟨by rw [hy.out]; rfl, HB3.out⟩
set_option maxHeartbeats 8000000 in
theorem rshow_twoa (w : World) (k : Nat) (h5 : 5 ≤ k) (h17 : k ≤ 17) (u : Vl) (nm : ByteArray) (x y : Nd) (hS : ShowC x ∧ ShowC y) (hc : checkN x = true ∧ checkN y = true) (vk : Value) (hks : KidsR w w.heap.size vk [x, y]) (h4 : (shownE (k : Int)).2 = 4) (hl : (showN (twoN (k : Int) x y)).length ≤ 1000000000) : Calls Tryz.prog 65 #[valO (k : Int) u nm vk] w fun e w' => e = .returned (.string ⟨(showN (twoN (k : Int) x y)).toArray⟩) ∧ Below w.heap.size w w' := by
  obtain ⟨a, d, rfl⟩ := hks.val
  obtain ⟨-, b, o, a1, m1, d1, a2, m2, d2, rfl, hK1, hK2⟩ := two_of hks
  obtain ⟨w0, p0, hp0, hw0, l0, b0, hC0⟩ := nd_boxO w (k : Int) u nm (.slice (some ⟨b, o, none⟩) 2 d) 36
  obtain ⟨w1, ps, hps, hw1, l1, n1, b1⟩ := box_new w0 (.cells #[.string ⟨#[]⟩, .string ⟨#[]⟩, .string ⟨#[]⟩, .string ⟨#[]⟩, .string ⟨#[]⟩, .string ⟨#[32, 97, 110, 100, 32]⟩, .string ⟨#[32, 111, 114, 32]⟩, .string ⟨#[32, 61, 32]⟩, .string ⟨#[32, 33, 61, 32]⟩, .string ⟨#[32, 60, 32]⟩, .string ⟨#[32, 60, 61, 32]⟩, .string ⟨#[32, 62, 32]⟩, .string ⟨#[32, 62, 61, 32]⟩, .string ⟨#[32, 43, 32]⟩, .string ⟨#[32, 45, 32]⟩, .string ⟨#[32, 42, 32]⟩, .string ⟨#[32, 47, 32]⟩, .string ⟨#[32, 37, 32]⟩] 9)
  have HC0 := Lib.hid (fun (V : World) (hV : Below w1.heap.size w1 V) => hC0 V (b1.trans (hV.mono b1.size)))
  obtain ⟨c0, c1, c2, c3, c4, c5, c6⟩ := HC0.out w1 (Below.refl _ _)
  have HB := Lib.hid (b0.trans (b1.mono b0.size))
  have HBi := Lib.hid (rbinds_any w1 (k : Int) u nm (.slice (some ⟨b, o, none⟩) 2 d) (by omega) (by omega))
  have e : showN (twoN (k : Int) x y) = spellE x 5 ++ (shownE (k : Int)).1 ++ spellE y 5 := (spell_two (k : Int) (by omega) Vl.zero ⟨#[]⟩ x y).trans (if_pos h4)
  have hsb := shown_bound (k : Int)
  have HSg := Lib.hid (fun (V : World) (hV : Below w1.heap.size w1 V) => sign_row ((hV.block ps l1).trans n1) h5 h17)
  obtain ⟨sT, hsT⟩ : ∃ t, (shownE (k : Int)).1 = t := ⟨_, rfl⟩
  obtain ⟨own, hown⟩ : ∃ t, (shownE (k : Int)).2 = t := ⟨_, rfl⟩
  rw [e] at hl ⊢
  rw [hsT] at hl HSg hsb ⊢
  rw [hown] at HBi h4 hsb
  simp only [List.length_append] at hl
  subst h4
  have f1 : ((k : Int) == 1) = false := by rw [beq_eq_false_iff_ne]; omega
  have f2 : ((k : Int) == 2) = false := by rw [beq_eq_false_iff_ne]; omega
  have f3 : ((k : Int) == 3) = false := by rw [beq_eq_false_iff_ne]; omega
  have f4 : ((k : Int) == 4) = false := by rw [beq_eq_false_iff_ne]; omega
  have hwr : IntKind.i64.wrap 5 = 5 := IntWalk.i64_in _ (by omega)
  have HS1 : Hid (∀ W, Below w.heap.size w W → Calls Tryz.prog 98 #[valN x (.slice a1 m1 d1), .int .i64 5] W fun e w' => e = .returned (.string ⟨(spellE x 5).toArray⟩) ∧ Below W.heap.size W w') := Lib.hid (fun W hW => rwithin_any x hS.1 hc.1 W (.slice a1 m1 d1) ⟨hK1.hw, hK1.hk.mono hW hW.size⟩ 5 (by omega) (by omega))
  have HS2 : Hid (∀ W, Below w.heap.size w W → Calls Tryz.prog 98 #[valN y (.slice a2 m2 d2), .int .i64 5] W fun e w' => e = .returned (.string ⟨(spellE y 5).toArray⟩) ∧ Below W.heap.size W w') := Lib.hid (fun W hW => by
    have := rwithin_any y hS.2 hc.2 W (.slice a2 m2 d2) ⟨hK2.hw, hK2.hk.mono hW hW.size⟩ 5 (by omega) (by omega)
    exact this)
  obtain ⟨S, hS0⟩ : ∃ S : ByteArray, (⟨sT.toArray⟩ : ByteArray) = S := ⟨_, rfl⟩
  obtain ⟨T1, hT1⟩ : ∃ T : ByteArray, (⟨(spellE x 5).toArray⟩ : ByteArray) = T := ⟨_, rfl⟩
  obtain ⟨T2, hT2⟩ : ∃ T : ByteArray, (⟨(spellE y 5).toArray⟩ : ByteArray) = T := ⟨_, rfl⟩
  have hSz : S.size = sT.length := by rw [← hS0]; exact size_mk _
  have hTz1 : T1.size = (spellE x 5).length := by rw [← hT1]; exact size_mk _
  have hTz2 : T2.size = (spellE y 5).length := by rw [← hT2]; exact size_mk _
  rw [hT1] at HS1
  rw [hT2] at HS2
  rw [hS0] at HSg
  obtain ⟨y1, hy1, hz1, hr1⟩ := scat T1 S (by omega)
  obtain ⟨y2, hy2, hz2, hr2⟩ := scat y1 T2 (by omega)
  have hy : Hid (y2 = ⟨(spellE x 5 ++ sT ++ spellE y 5).toArray⟩) := Lib.hid (by
    rw [← hy2.out, ← hy1.out, ← hS0, ← hT1, ← hT2]
    apply ByteArray.ext
    apply Array.ext'
    simp [ByteArray.data_append])
  have HKS := Lib.hid (show ∀ V, Below w1.heap.size w1 V → KidsS p0 b o d x y a1 m1 d1 a2 m2 d2 V ∧ V.cell? ⟨p0, 0, none⟩ = some (.int .u8 (k : Int)) ∧ V.cell? ⟨ps, k, none⟩ = some (.string S) from fun V hV => by
    have h0 := HB.out.trans (hV.mono HB.out.size)
    have h1 := hK1.up h0
    have h2 := hK2.up h0
    obtain ⟨q0, q1, q2, q3, q4, q5, q6⟩ := HC0.out V hV
    exact ⟨⟨q6, ⟨h1.q0, h1.q1, h1.q2, h1.q3, h1.q4, h1.q5, h1.q6⟩, h2.q0, h2.q1, h2.q2, h2.q3, h2.q4, h2.q5, h2.q6⟩, q0, HSg.out V hV⟩)
  have k1 : (0 : Int) ≤ (k : Int) := by omega
  have k2 : (k : Int) < 18 := by omega
  have k3 : (k : Int) ≤ 255 := by omega
  clear hC0 b0 b1 n1 hK1 hK2 hks hS hc e hl hS0 hT1 hT2 hSz hTz1 hTz2 hz1 hz2 hsT hown hsb
  go_enter Tryz.func65, Tryz.ntmps65
  go_upto_region 25 with (go_at_call 96; refine HBi.out.mono ?_; rintro e w2 ⟨rfl, hb2⟩; have HB2 := Lib.hid hb2; obtain ⟨c0, c1, c2, c3, c4, c5, c6⟩ := HC0.out _ hb2; clear hb2)
  have curB : Hid (Below w1.heap.size w1 w2.drew) := Lib.hid HB2.out.drew
  go_region_held3 (fun w' => KidsS p0 b o d x y a1 m1 d1 a2 m2 d2 w' ∧ w'.cell? ⟨p0, 0, none⟩ = some (.int .u8 (k : Int)) ∧ w'.cell? ⟨ps, k, none⟩ = some (.string S)) (exact HKS.out _ curB.out)
    (first
      | (go_at_call 98; (with_reducible refine (HS1.out _ (HB.out.trans (curB.out.mono HB.out.size))).mono ?_); rintro e w3 ⟨rfl, hb3⟩; have curB := Lib.hid (curB.out.trans (hb3.mono curB.out.size)); clear hb3)
      | (go_at_call 98; (with_reducible refine (HS2.out _ (HB.out.trans (curB.out.mono HB.out.size))).mono ?_); rintro e w3 ⟨rfl, hb3⟩; have curB := Lib.hid (curB.out.trans (hb3.mono curB.out.size)); clear hb3))
  all_goals
    go_wp2_with fail
    go_ret
    exact ⟨by rw [hy.out]; rfl, HB.out.trans (curB.out.mono HB.out.size)⟩
set_option maxHeartbeats 8000000 in
theorem rshow_twob (w : World) (k : Nat) (h5 : 5 ≤ k) (h17 : k ≤ 17) (u : Vl) (nm : ByteArray) (x y : Nd) (hS : ShowC x ∧ ShowC y) (hc : checkN x = true ∧ checkN y = true) (vk : Value) (hks : KidsR w w.heap.size vk [x, y]) (h4 : (shownE (k : Int)).2 ≠ 4) (hl : (showN (twoN (k : Int) x y)).length ≤ 1000000000) : Calls Tryz.prog 65 #[valO (k : Int) u nm vk] w fun e w' => e = .returned (.string ⟨(showN (twoN (k : Int) x y)).toArray⟩) ∧ Below w.heap.size w w' := by
  obtain ⟨a, d, rfl⟩ := hks.val
  obtain ⟨-, b, o, a1, m1, d1, a2, m2, d2, rfl, hK1, hK2⟩ := two_of hks
  obtain ⟨w0, p0, hp0, hw0, l0, b0, hC0⟩ := nd_boxO w (k : Int) u nm (.slice (some ⟨b, o, none⟩) 2 d) 36
  obtain ⟨w1, ps, hps, hw1, l1, n1, b1⟩ := box_new w0 (.cells #[.string ⟨#[]⟩, .string ⟨#[]⟩, .string ⟨#[]⟩, .string ⟨#[]⟩, .string ⟨#[]⟩, .string ⟨#[32, 97, 110, 100, 32]⟩, .string ⟨#[32, 111, 114, 32]⟩, .string ⟨#[32, 61, 32]⟩, .string ⟨#[32, 33, 61, 32]⟩, .string ⟨#[32, 60, 32]⟩, .string ⟨#[32, 60, 61, 32]⟩, .string ⟨#[32, 62, 32]⟩, .string ⟨#[32, 62, 61, 32]⟩, .string ⟨#[32, 43, 32]⟩, .string ⟨#[32, 45, 32]⟩, .string ⟨#[32, 42, 32]⟩, .string ⟨#[32, 47, 32]⟩, .string ⟨#[32, 37, 32]⟩] 9)
  have HC0 := Lib.hid (fun (V : World) (hV : Below w1.heap.size w1 V) => hC0 V (b1.trans (hV.mono b1.size)))
  obtain ⟨c0, c1, c2, c3, c4, c5, c6⟩ := HC0.out w1 (Below.refl _ _)
  have HB := Lib.hid (b0.trans (b1.mono b0.size))
  have HBi := Lib.hid (rbinds_any w1 (k : Int) u nm (.slice (some ⟨b, o, none⟩) 2 d) (by omega) (by omega))
  have e : showN (twoN (k : Int) x y) = spellE x (shownE (k : Int)).2 ++ (shownE (k : Int)).1 ++ spellE y ((shownE (k : Int)).2 + 1) := (spell_two (k : Int) (by omega) Vl.zero ⟨#[]⟩ x y).trans (if_neg h4)
  have hsb := shown_bound (k : Int)
  have HSg := Lib.hid (fun (V : World) (hV : Below w1.heap.size w1 V) => sign_row ((hV.block ps l1).trans n1) h5 h17)
  obtain ⟨sT, hsT⟩ : ∃ t, (shownE (k : Int)).1 = t := ⟨_, rfl⟩
  obtain ⟨own, hown⟩ : ∃ t, (shownE (k : Int)).2 = t := ⟨_, rfl⟩
  rw [e] at hl ⊢
  rw [hsT] at hl HSg hsb ⊢
  rw [hown] at HBi h4 hsb hl ⊢
  simp only [List.length_append] at hl
  have f1 : ((k : Int) == 1) = false := by rw [beq_eq_false_iff_ne]; omega
  have f2 : ((k : Int) == 2) = false := by rw [beq_eq_false_iff_ne]; omega
  have f3 : ((k : Int) == 3) = false := by rw [beq_eq_false_iff_ne]; omega
  have f4 : ((k : Int) == 4) = false := by rw [beq_eq_false_iff_ne]; omega
  have e4 : ((own : Int) == 4) = false := beq_eq_false_iff_ne.2 (by omega)
  have e4' : (own == 4) = false := beq_eq_false_iff_ne.2 h4
  have hwr : IntKind.i64.wrap ((own : Int) + 1) = (own : Int) + 1 := IntWalk.i64_in _ (by omega)
  have HS1 : Hid (∀ W, Below w.heap.size w W → Calls Tryz.prog 98 #[valN x (.slice a1 m1 d1), .int .i64 (own : Int)] W fun e w' => e = .returned (.string ⟨(spellE x own).toArray⟩) ∧ Below W.heap.size W w') := Lib.hid (fun W hW => rwithin_any x hS.1 hc.1 W (.slice a1 m1 d1) ⟨hK1.hw, hK1.hk.mono hW hW.size⟩ own (by omega) (by omega))
  have HS2 : Hid (∀ W, Below w.heap.size w W → Calls Tryz.prog 98 #[valN y (.slice a2 m2 d2), .int .i64 ((own : Int) + 1)] W fun e w' => e = .returned (.string ⟨(spellE y (own + 1)).toArray⟩) ∧ Below W.heap.size W w') := Lib.hid (fun W hW => by
    have := rwithin_any y hS.2 hc.2 W (.slice a2 m2 d2) ⟨hK2.hw, hK2.hk.mono hW hW.size⟩ (own + 1) (by omega) (by omega)
    rw [show ((own + 1 : Nat) : Int) = (own : Int) + 1 from by omega] at this
    exact this)
  obtain ⟨S, hS0⟩ : ∃ S : ByteArray, (⟨sT.toArray⟩ : ByteArray) = S := ⟨_, rfl⟩
  obtain ⟨T1, hT1⟩ : ∃ T : ByteArray, (⟨(spellE x own).toArray⟩ : ByteArray) = T := ⟨_, rfl⟩
  obtain ⟨T2, hT2⟩ : ∃ T : ByteArray, (⟨(spellE y (own + 1)).toArray⟩ : ByteArray) = T := ⟨_, rfl⟩
  have hSz : S.size = sT.length := by rw [← hS0]; exact size_mk _
  have hTz1 : T1.size = (spellE x own).length := by rw [← hT1]; exact size_mk _
  have hTz2 : T2.size = (spellE y (own + 1)).length := by rw [← hT2]; exact size_mk _
  rw [hT1] at HS1
  rw [hT2] at HS2
  rw [hS0] at HSg
  obtain ⟨y1, hy1, hz1, hr1⟩ := scat T1 S (by omega)
  obtain ⟨y2, hy2, hz2, hr2⟩ := scat y1 T2 (by omega)
  have hy : Hid (y2 = ⟨(spellE x own ++ sT ++ spellE y (own + 1)).toArray⟩) := Lib.hid (by
    rw [← hy2.out, ← hy1.out, ← hS0, ← hT1, ← hT2]
    apply ByteArray.ext
    apply Array.ext'
    simp [ByteArray.data_append])
  have HKS := Lib.hid (show ∀ V, Below w1.heap.size w1 V → KidsS p0 b o d x y a1 m1 d1 a2 m2 d2 V ∧ V.cell? ⟨p0, 0, none⟩ = some (.int .u8 (k : Int)) ∧ V.cell? ⟨ps, k, none⟩ = some (.string S) from fun V hV => by
    have h0 := HB.out.trans (hV.mono HB.out.size)
    have h1 := hK1.up h0
    have h2 := hK2.up h0
    obtain ⟨q0, q1, q2, q3, q4, q5, q6⟩ := HC0.out V hV
    exact ⟨⟨q6, ⟨h1.q0, h1.q1, h1.q2, h1.q3, h1.q4, h1.q5, h1.q6⟩, h2.q0, h2.q1, h2.q2, h2.q3, h2.q4, h2.q5, h2.q6⟩, q0, HSg.out V hV⟩)
  have k1 : (0 : Int) ≤ (k : Int) := by omega
  have k2 : (k : Int) < 18 := by omega
  have k3 : (k : Int) ≤ 255 := by omega
  clear hC0 b0 b1 n1 hK1 hK2 hks hS hc e hl hS0 hT1 hT2 hSz hTz1 hTz2 hz1 hz2 hsT hown hsb h4
  go_enter Tryz.func65, Tryz.ntmps65
  go_upto_region 26 with (go_at_call 96; refine HBi.out.mono ?_; rintro e w2 ⟨rfl, hb2⟩; have HB2 := Lib.hid hb2; obtain ⟨c0, c1, c2, c3, c4, c5, c6⟩ := HC0.out _ hb2; clear hb2)
  have curB : Hid (Below w1.heap.size w1 w2.drew) := Lib.hid HB2.out.drew
  go_region_held3 (fun w' => KidsS p0 b o d x y a1 m1 d1 a2 m2 d2 w' ∧ w'.cell? ⟨p0, 0, none⟩ = some (.int .u8 (k : Int)) ∧ w'.cell? ⟨ps, k, none⟩ = some (.string S)) (exact HKS.out _ curB.out)
    (first
      | (go_at_call 98; (with_reducible refine (HS1.out _ (HB.out.trans (curB.out.mono HB.out.size))).mono ?_); rintro e w3 ⟨rfl, hb3⟩; have curB := Lib.hid (curB.out.trans (hb3.mono curB.out.size)); clear hb3)
      | (go_at_call 98; (with_reducible refine (HS2.out _ (HB.out.trans (curB.out.mono HB.out.size))).mono ?_); rintro e w3 ⟨rfl, hb3⟩; have curB := Lib.hid (curB.out.trans (hb3.mono curB.out.size)); clear hb3))
  all_goals
    go_wp2_with fail
    go_ret
    exact ⟨by rw [hy.out]; rfl, HB.out.trans (curB.out.mono HB.out.size)⟩
end Go.Proofs.YtbephgifbghilaaGreatDoor
/- The document's Print and Type (seat expr). -/
set_option maxRecDepth 100000
namespace Go.Proofs.YtbephgifbghilaaGreatDoor
open Go.RowKit
theorem rshow_step {m : Nat} (IH : ∀ n : Nd, SizeOf.sizeOf n ≤ m → ShowC n) (n : Nd) (hz : SizeOf.sizeOf n ≤ m + 1) : ShowC n := by
  intro hc hl w vk hn
  rcases may_cases10 hc with ⟨v, rfl, hb, h0⟩ | ⟨s, rfl, _, _⟩ | ⟨op, x, ho, rfl, hx⟩ | ⟨op, x, y, h5, h17, rfl, hx, hy⟩
  · have hks : KidsR w w.heap.size vk [] := hn.2
    have hv : VlW v := hn.1.v
    obtain ⟨a, c, rfl⟩ := hks.val
    rcases checkB_kind hb with e | e | e
    · exact rshow_num w v ⟨#[]⟩ a c (by rw [e]; rfl) h0 hv.n1
    · have hk : v.kind = 2 := by rw [e]; rfl
      cases ht : v.tr with
      | true => exact rshow_true w v ⟨#[]⟩ a c hk ht
      | false => exact rshow_false w v ⟨#[]⟩ a c hk ht
    · have hk : v.kind = 3 := by rw [e]; rfl
      refine rshow_text w v ⟨#[]⟩ a c hk ?_
      unfold checkB at hb
      rw [if_neg (by omega), if_neg (by omega), if_pos hk] at hb
      simp only [Bool.and_eq_true, decide_eq_true_eq] at hb
      exact hb.2.1
  · have hks : KidsR w w.heap.size vk [] := hn.2
    obtain ⟨a, c, rfl⟩ := hks.val
    exact rshow_var w Vl.zero s a c
  · have hza : SizeOf.sizeOf x ≤ m := by simp [oneN] at hz; omega
    rcases ho with rfl | rfl
    · exact rshow_one3 w Vl.zero ⟨#[]⟩ x (IH x hza) hx vk hn.2 hl
    · exact rshow_one4 w Vl.zero ⟨#[]⟩ x (IH x hza) hx vk hn.2 hl
  · have hza : SizeOf.sizeOf x ≤ m ∧ SizeOf.sizeOf y ≤ m := by simp [twoN] at hz; omega
    obtain ⟨k, rfl⟩ : ∃ k : Nat, op = k := ⟨op.toNat, by omega⟩
    by_cases h4 : (shownE (k : Int)).2 = 4
    · exact rshow_twoa w k (by omega) (by omega) Vl.zero ⟨#[]⟩ x y ⟨IH x hza.1, IH y hza.2⟩ ⟨hx, hy⟩ vk hn.2 h4 hl
    · exact rshow_twob w k (by omega) (by omega) Vl.zero ⟨#[]⟩ x y ⟨IH x hza.1, IH y hza.2⟩ ⟨hx, hy⟩ vk hn.2 h4 hl
theorem rshow_any (n : Nd) : ShowC n := by
  have : ∀ m, ∀ n : Nd, SizeOf.sizeOf n ≤ m → ShowC n := by
    intro m
    induction m with
    | zero => intro n h; cases n; simp at h
    | succ m ih => exact fun n hz => rshow_step ih n hz
  exact this (SizeOf.sizeOf n) n (Nat.le_refl _)
theorem spell_one1 {n : Nd} (h : checkN n = true) : spellE n 1 = showN n := by
  obtain ⟨o1, o2⟩ := may_op h
  unfold spellE wrapT
  refine if_neg ?_
  obtain ⟨op, hop⟩ : ∃ op, n.op = op := ⟨_, rfl⟩
  rw [hop] at o1 o2 ⊢
  have hc : op = 1 ∨ op = 2 ∨ op = 3 ∨ op = 4 ∨ op = 5 ∨ op = 6 ∨ op = 7 ∨ op = 8 ∨ op = 9 ∨ op = 10 ∨ op = 11 ∨ op = 12 ∨ op = 13 ∨ op = 14 ∨ op = 15 ∨ op = 16 ∨ op = 17 := by omega
  rcases hc with rfl | rfl | rfl | rfl | rfl | rfl | rfl | rfl | rfl | rfl | rfl | rfl | rfl | rfl | rfl | rfl | rfl <;> decide
theorem printE_no {n : Nd} (h : checkN n = false) : printE n = ([], 1) := by unfold printE; rw [h]; rfl
theorem printE_yes {n : Nd} (h : checkN n = true) : printE n = if (showN n).length ≤ 256 then (showN n, 0) else ([], 3) := by
  unfold printE
  rw [h, if_pos rfl, spell_one1 h]
/-- What Print answers. -/
def PrtA (n : Nd) (w : World) (e : Ending) (w' : World) : Prop := e = .returned (.tuple #[.string ⟨(printE n).1.toArray⟩, .int .i64 (printE n).2]) ∧ Below w.heap.size w w'
theorem PrtA.of {n : Nd} {w w' : World} {t : List UInt8} {x : Int} (h : printE n = (t, x)) (hb : Below w.heap.size w w') : PrtA n w (.returned (.tuple #[.string ⟨t.toArray⟩, .int .i64 x])) w' := by
  unfold PrtA
  rw [h]
  exact ⟨rfl, hb⟩
set_option maxHeartbeats 4000000 in
theorem rprint_any (w : World) (n : Nd) (vk : Value) (hn : NdR w w.heap.size vk n) (hl : checkN n = true → (showN n).length ≤ 1000000000) : Calls Tryz.prog 31 #[valN n vk] w (PrtA n w) := by
  obtain ⟨w0, p0, hp0, hw0, l0, b0, hC0⟩ := nd_boxO w n.op n.v n.name vk 36
  have HC0 := Lib.hid hC0
  obtain ⟨c0, c1, c2, c3, c4, c5, c6⟩ := hC0 w0 (Below.refl _ _)
  have HB := Lib.hid b0
  have HCk := Lib.hid (rcheck_any w0 n vk ⟨hn.1, hn.2.mono b0 b0.size⟩)
  obtain ⟨ax, cx, hvk⟩ := hn.2.val
  subst hvk
  cases hc : checkN n with
  | false =>
    rw [hc] at HCk
    have HP := Lib.hid (printE_no hc)
    clear hC0 b0 hn hl hc
    go_enter Tryz.func31, Tryz.ntmps31
    go_wp2_with (go_at_call 32; refine HCk.out.mono ?_; rintro e w2 ⟨rfl, hb2⟩; have HB2 := Lib.hid (HB.out.trans (hb2.mono HB.out.size)); clear hb2)
    go_ret2
    exact PrtA.of HP.out HB2.out
  | true =>
    rw [hc] at HCk
    have hlen := hl hc
    have HSh := Lib.hid (fun (W : World) (hW : Below w.heap.size w W) => rshow_any n hc hlen W _ ⟨hn.1, hn.2.mono hW hW.size⟩)
    have hp := printE_yes hc
    obtain ⟨T, hT⟩ : ∃ T : ByteArray, (⟨(showN n).toArray⟩ : ByteArray) = T := ⟨_, rfl⟩
    have hTz : T.size = (showN n).length := by rw [← hT]; exact size_mk _
    rw [hT] at HSh
    have HT := Lib.hid hT
    by_cases hle : (showN n).length ≤ 256
    · have HP : Hid (printE n = (showN n, 0)) := Lib.hid (hp.trans (if_pos hle))
      have d1 : decide ((256 : Int) < (T.size : Int)) = false := decide_eq_false (by omega)
      have d1' : decide (256 < T.size) = false := decide_eq_false (by omega)
      clear hC0 b0 hn hl hc hlen hp hT hTz hle
      go_enter Tryz.func31, Tryz.ntmps31
      go_wp2_with (first
        | (go_at_call 32; refine HCk.out.mono ?_; rintro e w2 ⟨rfl, hb2⟩; have HB2 := Lib.hid (HB.out.trans (hb2.mono HB.out.size)); obtain ⟨c0, c1, c2, c3, c4, c5, c6⟩ := HC0.out _ hb2; clear hb2)
        | (go_at_call 65; refine (HSh.out _ HB2.out).mono ?_; rintro e w3 ⟨rfl, hb3⟩; have HB3 := Lib.hid (HB2.out.trans (hb3.mono HB2.out.size)); clear hb3))
      refine bodyPost_ret (v := .tuple #[.string T, .int .i64 0]) (by simp [results, Tryz.results31, go_sem]) rfl ?_
      rw [← HT.out]
      exact PrtA.of HP.out HB3.out
    · have HP : Hid (printE n = ([], 3)) := Lib.hid (hp.trans (if_neg hle))
      have d1 : decide ((256 : Int) < (T.size : Int)) = true := decide_eq_true (by omega)
      have d1' : decide (256 < T.size) = true := decide_eq_true (by omega)
      clear hC0 b0 hn hl hc hlen hp hT hTz hle
      go_enter Tryz.func31, Tryz.ntmps31
      go_wp2_with (first
        | (go_at_call 32; refine HCk.out.mono ?_; rintro e w2 ⟨rfl, hb2⟩; have HB2 := Lib.hid (HB.out.trans (hb2.mono HB.out.size)); obtain ⟨c0, c1, c2, c3, c4, c5, c6⟩ := HC0.out _ hb2; clear hb2)
        | (go_at_call 65; refine (HSh.out _ HB2.out).mono ?_; rintro e w3 ⟨rfl, hb3⟩; have HB3 := Lib.hid (HB2.out.trans (hb3.mono HB2.out.size)); clear hb3))
      go_ret2
      exact PrtA.of HP.out HB3.out
/-- What Type answers. -/
def TyA (l : List Bd) (n : Nd) (w : World) (e : Ending) (w' : World) : Prop := e = .returned (.tuple #[.int .u8 (tyE l n).1, .int .i64 (tyE l n).2]) ∧ Below w.heap.size w w'
set_option maxHeartbeats 4000000 in
theorem rtype_any (l : List Bd) (w : World) (n : Nd) (vk vl : Value) (hn : NdR w w.heap.size vk n) (hl : BdsR w w.heap.size vl l) : Calls Tryz.prog 30 #[valN n vk, vl] w (TyA l n w) := by
  obtain ⟨w0, p0, hp0, hw0, l0, b0, hC0⟩ := nd_boxO w n.op n.v n.name vk 36
  have HC0 := Lib.hid hC0
  obtain ⟨c0, c1, c2, c3, c4, c5, c6⟩ := hC0 w0 (Below.refl _ _)
  have HB := Lib.hid b0
  have HCk := Lib.hid (rcheck_any w0 n vk ⟨hn.1, hn.2.mono b0 b0.size⟩)
  have HN := Lib.hid hn
  have HL := Lib.hid hl
  have hty : tyE l n = if checkN n then typeN l n else (0, 1) := rfl
  obtain ⟨ax, cx, hvk⟩ := hn.2.val
  subst hvk
  cases hc : checkN n with
  | false =>
    rw [hc] at HCk hty
    have HF : Hid (∀ w', Below w.heap.size w w' → TyA l n w (.returned (.tuple #[.int .u8 0, .int .i64 1])) w') := Lib.hid (fun w' h => by unfold TyA; rw [hty]; exact ⟨rfl, h⟩)
    obtain ⟨va, vc, rfl⟩ := hl.val
    clear hC0 b0 hn hl hc hty
    go_enter Tryz.func30, Tryz.ntmps30
    go_wp2_with (go_at_call 32; refine HCk.out.mono ?_; rintro e w2 ⟨rfl, hb2⟩; have HB2 := Lib.hid (HB.out.trans (hb2.mono HB.out.size)); clear hb2)
    go_ret2
    exact HF.out _ HB2.out
  | true =>
    rw [hc] at HCk hty
    have HTy := Lib.hid (fun (W : World) (hW : Below w.heap.size w W) => rtypeOf_any l W n _ vl ⟨HN.out.1, HN.out.2.mono hW hW.size⟩ hc (HL.out.mono hW hW.size))
    obtain ⟨k, x, hkx⟩ : ∃ k x, typeN l n = (k, x) := ⟨_, _, rfl⟩
    have HT2 : Hid (∀ W e w', TypR l n W e w' → e = .returned (.tuple #[.int .u8 k, .int .i64 x]) ∧ Below W.heap.size W w') := Lib.hid (fun W e w' h => by unfold TypR at h; rw [hkx] at h; exact h)
    have HF : Hid (∀ w', Below w.heap.size w w' → TyA l n w (.returned (.tuple #[.int .u8 k, .int .i64 x])) w') := Lib.hid (fun w' h => by unfold TyA; rw [hty, if_pos rfl, hkx]; exact ⟨rfl, h⟩)
    obtain ⟨va, vc, rfl⟩ := hl.val
    clear hC0 b0 hn hl hc hty hkx
    go_enter Tryz.func30, Tryz.ntmps30
    go_wp2_with (first
      | (go_at_call 32; refine HCk.out.mono ?_; rintro e w2 ⟨rfl, hb2⟩; have HB2 := Lib.hid (HB.out.trans (hb2.mono HB.out.size)); obtain ⟨c0, c1, c2, c3, c4, c5, c6⟩ := HC0.out _ hb2; clear hb2)
      | (go_at_call 64; refine (HTy.out _ HB2.out).mono ?_; intro e w3 h; obtain ⟨rfl, hb3⟩ := HT2.out _ _ _ h; have HB3 := Lib.hid (HB2.out.trans (hb3.mono HB2.out.size)); clear h hb3))
    refine bodyPost_ret (v := .tuple #[.int .u8 k, .int .i64 x]) (by simp [results, Tryz.results30, go_sem]) rfl ?_
    exact HF.out _ HB3.out
end Go.Proofs.YtbephgifbghilaaGreatDoor
