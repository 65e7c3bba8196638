/- Texts fused by fuse.py: KExprLex1, KExprSpan, KExprSigns. -/
import Derived.Test.YtjcaaahbfkjipaaGreatDoorKZ01
import Derived.Test.YtjcaaahbfkjipaaGreatDoorKZ00
import Derived.Test.YtjcaaahbfkjipaaGreatDoorKZ24
import Derived.Test.YtjcaaahbfkjipaaGreatDoorKZ02
import Derived.Shelf.Abstract
import Derived.Maps.OwnOps
import Derived.Maps.OwnSet
import Derived.StringKeys
/- Of ExprLex1: what FRuleNames uses (shake.py). -/
set_option maxRecDepth 100000
/- expr.digit, letter, inName (seat expr). -/
namespace Go.Proofs.YtjcaaahbfkjipaaGreatDoor
open Go.RowKit
theorem edigit_any (w : World) (x : Nat) (hx : x < 256) : Calls Tryz.prog 145 #[.int .u8 (x : Int)] w fun e w' => e = .returned (.bool (digE x)) ∧ w = w' := by
  by_cases h1 : 48 ≤ x
  · have e1 : decide ((48 : Int) ≤ (x : Int)) = true := decide_eq_true (by omega)
    have e1' : decide (48 ≤ x) = true := decide_eq_true h1
    have hf : Hid (decide (x ≤ 57) = digE x) := by refine Lib.hid ?_; unfold digE; rw [decide_eq_true h1]; rfl
    have hf2 : Hid (decide ((x : Int) ≤ 57) = digE x) := by refine Lib.hid ?_; rw [← hf.out]; exact decide_eq_decide.2 (by omega)
    clear h1
    go_enter Tryz.func145, Tryz.ntmps145
    go_wp2_with fail
    go_ret
    exact ⟨ret_bool (by first | exact hf.out | exact hf2.out), rfl⟩
  · have e1 : decide ((48 : Int) ≤ (x : Int)) = false := decide_eq_false (by omega)
    have e1' : decide (48 ≤ x) = false := decide_eq_false h1
    have hf : Hid (false = digE x) := by refine Lib.hid ?_; unfold digE; rw [decide_eq_false h1]; rfl
    clear h1
    go_enter Tryz.func145, Tryz.ntmps145
    go_wp2_with fail
    go_ret
    exact ⟨ret_bool hf.out, rfl⟩
theorem let_fin : ∀ x : Fin 256, (decide ((97 : Int) ≤ bits BinOp.or .u8 (x.val : Int) 32) && decide (bits BinOp.or .u8 (x.val : Int) 32 ≤ 122)) = letE x.val := by decide +kernel
theorem eletter_any (w : World) (x : Nat) (hx : x < 256) : Calls Tryz.prog 148 #[.int .u8 (x : Int)] w fun e w' => e = .returned (.bool (letE x)) ∧ w = w' := by
  have hf := let_fin ⟨x, hx⟩
  simp only at hf
  have HF := Lib.hid hf
  clear hf
  by_cases h1 : (97 : Int) ≤ bits BinOp.or .u8 (x : Int) 32
  · have e1 : decide ((97 : Int) ≤ bits BinOp.or .u8 (x : Int) 32) = true := decide_eq_true h1
    go_enter Tryz.func148, Tryz.ntmps148
    go_wp2_with fail
    go_ret
    refine ⟨ret_bool ?_, rfl⟩
    rw [← HF.out, e1]
    rfl
  · have e1 : decide ((97 : Int) ≤ bits BinOp.or .u8 (x : Int) 32) = false := decide_eq_false h1
    go_enter Tryz.func148, Tryz.ntmps148
    go_wp2_with fail
    go_ret
    refine ⟨ret_bool ?_, rfl⟩
    rw [← HF.out, e1]
    rfl
theorem einName_any (w : World) (x : Nat) (hx : x < 256) : Calls Tryz.prog 149 #[.int .u8 (x : Int)] w fun e w' => e = .returned (.bool (inNm x)) ∧ w = w' := by
  have HL := Lib.hid (eletter_any w x hx)
  have HD := Lib.hid (edigit_any w x hx)
  have hf : Hid (inNm x = (letE x || digE x || x == 45 || x == 95 || x == 46)) := Lib.hid rfl
  have i1 : ((x : Int) == 45) = (x == 45) := Bool.eq_iff_iff.2 ⟨fun h => beq_iff_eq.2 (by have := beq_iff_eq.1 h; omega), fun h => beq_iff_eq.2 (by have := beq_iff_eq.1 h; omega)⟩
  have i2 : ((x : Int) == 95) = (x == 95) := Bool.eq_iff_iff.2 ⟨fun h => beq_iff_eq.2 (by have := beq_iff_eq.1 h; omega), fun h => beq_iff_eq.2 (by have := beq_iff_eq.1 h; omega)⟩
  have i3 : ((x : Int) == 46) = (x == 46) := Bool.eq_iff_iff.2 ⟨fun h => beq_iff_eq.2 (by have := beq_iff_eq.1 h; omega), fun h => beq_iff_eq.2 (by have := beq_iff_eq.1 h; omega)⟩
  obtain ⟨b1, h1⟩ : ∃ b, letE x = b := ⟨_, rfl⟩
  obtain ⟨b2, h2⟩ : ∃ b, digE x = b := ⟨_, rfl⟩
  obtain ⟨b3, h3⟩ : ∃ b, (x == 45) = b := ⟨_, rfl⟩
  obtain ⟨b4, h4⟩ : ∃ b, (x == 95) = b := ⟨_, rfl⟩
  obtain ⟨b5, h5⟩ : ∃ b, (x == 46) = b := ⟨_, rfl⟩
  rw [h1] at HL
  rw [h2] at HD
  rw [h1, h2, h3, h4, h5] at hf
  rw [h3] at i1
  rw [h4] at i2
  rw [h5] at i3
  clear h1 h2
  have hor : b1 = true ∨ (b1 = false ∧ b2 = true) ∨ (b1 = false ∧ b2 = false ∧ b3 = true) ∨ (b1 = false ∧ b2 = false ∧ b3 = false ∧ b4 = true) ∨ (b1 = false ∧ b2 = false ∧ b3 = false ∧ b4 = false ∧ b5 = true) ∨ (b1 = false ∧ b2 = false ∧ b3 = false ∧ b4 = false ∧ b5 = false) := by
    cases b1 <;> cases b2 <;> cases b3 <;> cases b4 <;> cases b5 <;> simp
  rcases hor with rfl | ⟨rfl, rfl⟩ | ⟨rfl, rfl, rfl⟩ | ⟨rfl, rfl, rfl, rfl⟩ | ⟨rfl, rfl, rfl, rfl, rfl⟩ | ⟨rfl, rfl, rfl, rfl, rfl⟩
  all_goals
    go_enter Tryz.func149, Tryz.ntmps149
    go_wp2_with (first
      | (go_at_call 148; refine HL.out.mono ?_; rintro e w2 ⟨rfl, rfl⟩)
      | (go_at_call 145; refine HD.out.mono ?_; rintro e w2 ⟨rfl, rfl⟩))
    go_ret
    refine ⟨ret_bool ?_, rfl⟩
    rw [hf.out]
    simp
end Go.Proofs.YtjcaaahbfkjipaaGreatDoor

/- Of ExprSpan: what FRuleNames uses (shake.py). -/
set_option maxRecDepth 100000
/- expr.span (seat expr). -/
namespace Go.Proofs.YtjcaaahbfkjipaaGreatDoor
open Go.RowKit
set_option maxHeartbeats 1000000 in
theorem span1_any (W : World) (b g : Nat) (p : Nat → Bool) (hc : W.cell? ⟨b, 0, none⟩ = some (.func (.func g) #[] #[])) (eg : ∀ args w, (callFunc g args).run Tryz.prog w = .ok (.enter g args) w) (hq : ∀ (W : World) (x : Nat), x < 256 → Calls Tryz.prog g (#[.int .u8 (x : Int)] ++ #[]) W fun e w' => e = .returned (.bool (p x)) ∧ W = w') (x : Nat) :
    Calls Tryz.prog 166 #[.int .i32 (x : Int), .pointer (some ⟨b, 0, none⟩)] W fun e w' => e = .returned (.bool (spanP p x)) ∧ W = w' := by
  by_cases h : 127 < x
  · have e1 : decide ((127 : Int) < (x : Int)) = true := decide_eq_true (by omega)
    have e1' : decide (127 < x) = true := decide_eq_true h
    have hf : Hid (spanP p x = true) := by refine Lib.hid ?_; unfold spanP; rw [decide_eq_true h]; rfl
    clear h
    go_enter Tryz.func166, Tryz.ntmps166
    go_wp2_with fail
    go_ret
    exact ⟨ret_bool hf.out.symm, rfl⟩
  · have e1 : decide ((127 : Int) < (x : Int)) = false := decide_eq_false (by omega)
    have e1' : decide (127 < x) = false := decide_eq_false h
    have hf : Hid (spanP p x = !p x) := by refine Lib.hid ?_; unfold spanP; rw [decide_eq_false h]; rfl
    have HQ := Lib.hid (hq W x (by omega))
    have q1 : IntKind.u8.wrap (x : Int) = (x : Int) := by rw [IntKind.wrap_u8]; omega
    have hx : x ≤ 127 := by omega
    clear h hq
    go_enter Tryz.func166, Tryz.ntmps166
    go_wp2_with (go_at_fn g; refine HQ.out.mono ?_; rintro e w2 ⟨rfl, rfl⟩)
    go_ret
    exact ⟨ret_bool (by rw [hf.out]), rfl⟩
theorem eg_span1 : ∀ args (w : World), (callFunc 166 args).run Tryz.prog w = .ok (.enter 166 args) w := enters_of Tryz.func166 (by kernel_rfl) rfl
theorem ixfunc_of (w : World) (s : ByteArray) (fv : Value) (r : Int) (h : Calls Tryz.prog 176 #[.string s, fv, .bool true] w fun e w' => e = .returned (.int .i64 r) ∧ Below w.heap.size w w') :
    Calls Tryz.prog 165 #[.string s, fv] w fun e w' => e = .returned (.int .i64 r) ∧ Below w.heap.size w w' := by
  have H := Lib.hid h
  clear h
  go_enter Tryz.func165, Tryz.ntmps165
  go_wp2_with (go_at_call 176; refine H.out.mono ?_; rintro e w2 ⟨rfl, hb2⟩)
  go_ret
  exact ⟨rfl, hb2⟩
set_option maxHeartbeats 1000000 in
theorem span_any (w : World) (s : ByteArray) (hs : s.size ≤ 140737488355328) (g : Nat) (p : Nat → Bool) (hp : ∀ x, 127 < x → p x = false) (eg : ∀ args w, (callFunc g args).run Tryz.prog w = .ok (.enter g args) w) (hq : ∀ (W : World) (x : Nat), x < 256 → Calls Tryz.prog g (#[.int .u8 (x : Int)] ++ #[]) W fun e w' => e = .returned (.bool (p x)) ∧ W = w') :
    Calls Tryz.prog 146 #[.string s, .func (.func g) #[] #[]] w fun e w' => e = .returned (.int .i64 (spanE p s.data.toList : Int)) ∧ Below w.heap.size w w' := by
  obtain ⟨W1, hW1⟩ : ∃ W1, w.alloc (.cells #[.func (.func g) #[] #[]] 137) = W1 := ⟨_, rfl⟩
  have BW : Hid (Below w.heap.size w W1) := by refine Lib.hid ?_; rw [← hW1]; exact (Below.refl _ _).alloc (Nat.le_refl _) _
  have hblk : W1.heap[w.heap.size]? = some (.cells #[.func (.func g) #[] #[]] 137) := by rw [← hW1]; exact (MapKept.heap_alloc w _).1
  have hlt := lt_of_block hblk
  have hc : W1.cell? ⟨w.heap.size, 0, none⟩ = some (.func (.func g) #[] #[]) := cell_of_block hblk 0
  have HP : PredAt Tryz.prog 166 #[.pointer (some ⟨w.heap.size, 0, none⟩)] encR (spanP p) W1 := fun W x hb => (span1_any W w.heap.size g p ((Below.cellB hb hlt).trans hc) eg hq x).mono (by rintro e w' ⟨rfl, rfl⟩; exact ⟨rfl, 0, rfl⟩)
  have HI := Lib.hid (Tryz.strings_indexFunc 166 #[.pointer (some ⟨w.heap.size, 0, none⟩)] eg_span1 (spanP p) true s W1 HP)
  have hv := spanE_idx p hp s s.size 0 (by omega) (by omega)
  have hle := spanE_le p s.data.toList
  rw [List.drop_zero, Nat.zero_add] at hv
  have hl : s.data.toList.length = s.size := by rw [Array.length_toList]; rfl
  obtain ⟨n, hn⟩ : ∃ n, spanE p s.data.toList = n := ⟨_, rfl⟩
  rw [hn] at hv hle
  rw [show Lib.idxFunc (spanP p) true s = Lib.idxFuncFrom (spanP p) true s s.size 0 from rfl, hv] at HI
  have HN := Lib.hid hn
  clear hblk hc HP hv hn hq eg hp
  by_cases h : n < s.size
  · rw [if_pos h] at HI
    have e1 : decide ((n : Int) < 0) = false := decide_eq_false (by omega)
    go_enter Tryz.func146, Tryz.ntmps146
    go_wp2_with (go_at_call 165; refine (ixfunc_of _ _ _ _ HI.out).mono ?_; rintro e w2 ⟨rfl, hb2⟩)
    go_ret
    rw [HN.out]
    exact ⟨rfl, BW.out.trans (hb2.mono BW.out.size)⟩
  · rw [if_neg h] at HI
    have hns : n = s.size := by omega
    have HNS := Lib.hid hns
    clear hns h hle
    go_enter Tryz.func146, Tryz.ntmps146
    go_wp2_with (go_at_call 165; refine (ixfunc_of _ _ _ _ HI.out).mono ?_; rintro e w2 ⟨rfl, hb2⟩)
    go_ret
    rw [HN.out, HNS.out]
    exact ⟨rfl, BW.out.trans (hb2.mono BW.out.size)⟩
end Go.Proofs.YtjcaaahbfkjipaaGreatDoor

/- Of ExprSigns: what FRuleNames uses (shake.py). -/
set_option maxRecDepth 100000
/- expr.signs: a map of what stands between two nodes (printed by gen_exprsigns.py; seat expr). -/
namespace Go.Proofs.YtjcaaahbfkjipaaGreatDoor
open Go.RowKit Go.Maps
/-- A sign's node and line, as data. -/
def signC (l : List Value) : Option (DataW Unit × List MemPlace) :=
  match l with
  | [.int .u8 a, .int .i64 b] => some (.agg [.lit (.int .u8 a), .lit (.int .i64 b)], [])
  | _ => none
def signR (v : Value) : Option (DataW Unit × List MemPlace) :=
  match v with
  | .agg cs => signC cs.toList
  | _ => none
theorem signR_mk (a b : Int) : signR (.agg #[.int .u8 a, .int .i64 b]) = some (.agg [.lit (.int .u8 a), .lit (.int .i64 b)], []) := rfl
theorem signR_inv {v : Value} {a b : Int} {ps : List MemPlace} (h : signR v = some (.agg [.lit (.int .u8 a), .lit (.int .i64 b)], ps)) : v = .agg #[.int .u8 a, .int .i64 b] := by
  unfold signR at h
  split at h
  · next cs =>
    unfold signC at h
    split at h
    · next a' b' hc =>
      injection h with h
      injection h with h _
      injection h with h
      injection h with h1 h2
      injection h1 with h1
      injection h1 with _ h1
      injection h2 with h2 _
      injection h2 with h2
      injection h2 with _ h2
      have e : cs = #[.int .u8 a', .int .i64 b'] := Array.ext' hc
      rw [e, h1, h2]
    · cases h
  · cases h
def sgA (o : Option (Int × Nat)) : Int := match o with | some p => p.1 | none => 0
def sgB (o : Option (Int × Nat)) : Int := match o with | some p => (p.2 : Int) | none => 0
/-- The map at block b, of at most N entries, says h. -/
def SgM (w : World) (b N : Nat) (h : List UInt8 → Option (Int × Nat)) : Prop :=
  ∃ (n : Nat) (D : DataW Unit), n ≤ N ∧ w.ownsMap Tryz.prog 9 signR b n D ∧ IsMap D ∧ ∀ x : List UInt8, D.atKey (.string x) (.agg [.lit (.int .u8 0), .lit (.int .i64 0)]) = .agg [.lit (.int .u8 (sgA (h x))), .lit (.int .i64 (sgB (h x)))] ∧ Maps.has D (.string x) = (h x).isSome
theorem SgM.made (w : World) : SgM (w.alloc (.map #[] 0)) w.heap.size 0 (fun _ => none) :=
  ⟨0, .map [], Nat.le_refl _, World.ownsMap_made _ _ _ _, ⟨[], rfl⟩, fun _ => ⟨rfl, rfl⟩⟩
theorem SgM.kept {w w' : World} {b N : Nat} {h : List UInt8 → Option (Int × Nat)} (H : SgM w b N h) (hb : Below w.heap.size w w') : SgM w' b N h := by
  obtain ⟨n, D, h1, h2, h3⟩ := H
  exact ⟨n, D, h1, h2.kept (row := none) ⟨hb.os, hb.tape, hb.output, hb.size, fun k hk _ => hb.block k hk⟩ (by simp), h3⟩
theorem sign_zero (w : World) : (zeroValue 130).run Tryz.prog w = .ok (.agg #[.int .u8 0, .int .i64 0]) w := by kernel_rfl
theorem SgM.look {w : World} {b N : Nat} {h : List UInt8 → Option (Int × Nat)} (H : SgM w b N h) (x : ByteArray) (hx : x.size ≤ maxLen) :
    (Instr.lookup 132 (.map (some b)) (.string x) false).run Tryz.prog w = .ok (.agg #[.int .u8 (sgA (h x.data.toList)), .int .i64 (sgB (h x.data.toList))]) w := by
  obtain ⟨n, D, _, h1, h2, h3⟩ := H
  obtain ⟨v, ps, hrun, hv⟩ := h1.lookup (string_keyed Tryz.underlying9) Tryz.underlying132 (sign_zero w) (signR_mk 0 0) (WideMaps.keyOf_string_mk Tryz.underlying9 hx)
  rw [(h3 _).1] at hv
  rw [hrun, signR_inv hv]
theorem SgM.look_ok {w : World} {b N : Nat} {h : List UInt8 → Option (Int × Nat)} (H : SgM w b N h) (x : ByteArray) (hx : x.size ≤ maxLen) :
    (Instr.lookup 132 (.map (some b)) (.string x) true).run Tryz.prog w = .ok (.tuple #[.agg #[.int .u8 (sgA (h x.data.toList)), .int .i64 (sgB (h x.data.toList))], .bool (h x.data.toList).isSome]) w := by
  obtain ⟨n, D, _, h1, h2, h3⟩ := H
  obtain ⟨v, ps, hrun, hv⟩ := h1.look_ok (string_keyed Tryz.underlying9) Tryz.underlying132 (sign_zero w) (signR_mk 0 0) (WideMaps.keyOf_string_mk Tryz.underlying9 hx)
  rw [(h3 _).1] at hv
  rw [hrun, signR_inv hv, (h3 _).2]
def updS (h : List UInt8 → Option (Int × Nat)) (x : List UInt8) (p : Int × Nat) : List UInt8 → Option (Int × Nat) := fun y => if y = x then some p else h y
theorem SgM.put {w : World} {b N : Nat} {h : List UInt8 → Option (Int × Nat)} (H : SgM w b N h) (x : ByteArray) (hx : x.size ≤ maxLen) (o : Int) (l : Nat) (hN : N < maxLen) :
    ∃ w', (Instr.mapUpdate 132 (.map (some b)) (.string x) (.agg #[.int .u8 o, .int .i64 (l : Int)])).run Tryz.prog w = .ok () w' ∧ SgM w' b (N + 1) (updS h x.data.toList (o, l)) ∧ w.grownBy w' (some b) := by
  obtain ⟨n, D, h0, h1, h2, h3⟩ := H
  obtain ⟨w', hrun, h4, h5⟩ := h1.update (string_keyed Tryz.underlying9) Tryz.underlying132 (by omega) (WideMaps.keyOf_string_mk Tryz.underlying9 hx) (signR_mk o l)
  refine ⟨w', hrun, ⟨n + 1, _, by omega, h4, h2.put _ _, fun y => ?_⟩, h5⟩
  unfold updS
  by_cases e : y = x.data.toList
  · subst e
    rw [if_pos rfl]
    exact ⟨atKey_put_same h2 (by trivial) _ _, has_put_same h2 (by trivial) _⟩
  · rw [if_neg e, atKey_put_other (by intro h; injection h with h; exact e h), has_put_other (by intro h; injection h with h; exact e h)]
    exact h3 y
/-- An entry of a map literal. -/
theorem wpList_insert_sg (w : World) {ops : Array Oper} {rest : List Oper} {o : Oper} {a : Act} {Q : Exit → Act → World → Prop} (hg : o.guard = none) (m x v : Operand) (hop : o.op = Op.insert 132 m x v)
    (b N : Nat) (h : List UInt8 → Option (Int × Nat)) (hm : a.eval m = .map (some b)) (H : SgM w b N h) (k : ByteArray) (p : Int) (l : Nat) (hx : a.eval x = .string k) (hv : a.eval v = .agg #[.int .u8 p, .int .i64 (l : Int)]) (hk : k.size ≤ maxLen) (hN : N < maxLen)
    (hK : ∀ w', SgM w' b (N + 1) (updS h k.data.toList (p, l)) → w.grownBy w' (some b) → wpList Tryz.prog ops Q rest (a.put o.dst undef) w') : wpList Tryz.prog ops Q (o :: rest) a w := by
  refine wpList_plain hg fun K' hK' => ?_
  obtain ⟨w', hrun, r1, r2⟩ := H.put k hk p l hN
  unfold Oper.wp
  simp [execOp, hop, hm, hx, hv, hrun, Result.andThen]
  exact hK' _ _ (hK w' r1 r2)
set_option maxHeartbeats 2000000 in
theorem signs_any (w : World) : Calls Tryz.prog 132 #[] w fun e w' => ∃ b, e = .returned (.map (some b)) ∧ SgM w' b 13 signL ∧ w.heap.size ≤ b ∧ Below w.heap.size w w' := by
  have hfin : Hid (∀ h : List UInt8 → Option (Int × Nat), h = updS (updS (updS (updS (updS (updS (updS (updS (updS (updS (updS (updS (updS ((fun _ => none)) [111, 114] (6, 1)) [97, 110, 100] (5, 2)) [61] (7, 4)) [33, 61] (8, 4)) [60] (9, 4)) [60, 61] (10, 4)) [62] (11, 4)) [62, 61] (12, 4)) [43] (13, 5)) [45] (14, 5)) [42] (15, 6)) [47] (16, 6)) [37] (17, 6) → h = signL) := by
    refine Lib.hid (fun h e => ?_)
    subst e
    funext x
    by_cases h0 : x = [111, 114]
    · subst h0; rfl
    by_cases h1 : x = [97, 110, 100]
    · subst h1; rfl
    by_cases h2 : x = [61]
    · subst h2; rfl
    by_cases h3 : x = [33, 61]
    · subst h3; rfl
    by_cases h4 : x = [60]
    · subst h4; rfl
    by_cases h5 : x = [60, 61]
    · subst h5; rfl
    by_cases h6 : x = [62]
    · subst h6; rfl
    by_cases h7 : x = [62, 61]
    · subst h7; rfl
    by_cases h8 : x = [43]
    · subst h8; rfl
    by_cases h9 : x = [45]
    · subst h9; rfl
    by_cases h10 : x = [42]
    · subst h10; rfl
    by_cases h11 : x = [47]
    · subst h11; rfl
    by_cases h12 : x = [37]
    · subst h12; rfl
    unfold updS signL
    simp only [h0, h1, h2, h3, h4, h5, h6, h7, h8, h9, h10, h11, h12, if_false]
  have hmm := @run_makeMap Tryz.prog
  have HM : Hid (SgM (w.alloc (.map #[] 0)) w.heap.size 0 (fun _ => none) ∧ Below w.heap.size w (w.alloc (.map #[] 0))) := Lib.hid ⟨SgM.made w, (Below.refl _ _).alloc (Nat.le_refl _) _⟩
  go_enter Tryz.func132, Tryz.ntmps132
  go_wp2_with (refine wpList_insert_sg _ rfl _ _ _ rfl w.heap.size _ _ rfl HM.out.1 _ _ _ rfl rfl (by decide) (by decide) ?_; intro w9 hM hG; have HM := Lib.hid (And.intro hM (HM.out.2.grown hG HM.out.2.size (fun k hk => by injection hk with hk; omega))); clear hM hG)
  go_ret
  have e := hfin.out _ rfl
  refine ⟨_, rfl, ?_, Nat.le_refl _, HM.out.2⟩
  rw [← e]
  exact HM.out.1
end Go.Proofs.YtjcaaahbfkjipaaGreatDoor
