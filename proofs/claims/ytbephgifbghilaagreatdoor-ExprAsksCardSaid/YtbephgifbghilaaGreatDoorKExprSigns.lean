/- Of ExprSigns: what XFAs uses (shake.py). -/
import Derived.Test.YtbephgifbghilaaGreatDoorKExprParseP
import Derived.Test.YtbephgifbghilaaGreatDoorKBase
import Derived.Maps.OwnOps
import Derived.Maps.OwnSet
import Derived.StringKeys
/- expr.signs: a map of what stands between two nodes (printed by gen_exprsigns.py; seat expr). -/
set_option maxRecDepth 100000
namespace Go.Proofs.YtbephgifbghilaaGreatDoor
open Go.RowKit Go.Maps
/-- A sign's node and line, as data. -/
def signC (l : List Value) : Option (DataW Unit × List MemPlace) :=
  match l with
  | [.int .u8 a, .int .i64 b] => some (.agg [.lit (.int .u8 a), .lit (.int .i64 b)], [])
  | _ => none
def signR (v : Value) : Option (DataW Unit × List MemPlace) :=
  match v with
  | .agg cs => signC cs.toList
  | _ => none
theorem signR_mk (a b : Int) : signR (.agg #[.int .u8 a, .int .i64 b]) = some (.agg [.lit (.int .u8 a), .lit (.int .i64 b)], []) := rfl
theorem signR_inv {v : Value} {a b : Int} {ps : List MemPlace} (h : signR v = some (.agg [.lit (.int .u8 a), .lit (.int .i64 b)], ps)) : v = .agg #[.int .u8 a, .int .i64 b] := by
  unfold signR at h
  split at h
  · next cs =>
    unfold signC at h
    split at h
    · next a' b' hc =>
      injection h with h
      injection h with h _
      injection h with h
      injection h with h1 h2
      injection h1 with h1
      injection h1 with _ h1
      injection h2 with h2 _
      injection h2 with h2
      injection h2 with _ h2
      have e : cs = #[.int .u8 a', .int .i64 b'] := Array.ext' hc
      rw [e, h1, h2]
    · cases h
  · cases h
def sgA (o : Option (Int × Nat)) : Int := match o with | some p => p.1 | none => 0
def sgB (o : Option (Int × Nat)) : Int := match o with | some p => (p.2 : Int) | none => 0
/-- The map at block b, of at most N entries, says h. -/
def SgM (w : World) (b N : Nat) (h : List UInt8 → Option (Int × Nat)) : Prop :=
  ∃ (n : Nat) (D : DataW Unit), n ≤ N ∧ w.ownsMap Tryz.prog 9 signR b n D ∧ IsMap D ∧ ∀ x : List UInt8, D.atKey (.string x) (.agg [.lit (.int .u8 0), .lit (.int .i64 0)]) = .agg [.lit (.int .u8 (sgA (h x))), .lit (.int .i64 (sgB (h x)))] ∧ Maps.has D (.string x) = (h x).isSome
theorem SgM.made (w : World) : SgM (w.alloc (.map #[] 0)) w.heap.size 0 (fun _ => none) :=
  ⟨0, .map [], Nat.le_refl _, World.ownsMap_made _ _ _ _, ⟨[], rfl⟩, fun _ => ⟨rfl, rfl⟩⟩
theorem SgM.kept {w w' : World} {b N : Nat} {h : List UInt8 → Option (Int × Nat)} (H : SgM w b N h) (hb : Below w.heap.size w w') : SgM w' b N h := by
  obtain ⟨n, D, h1, h2, h3⟩ := H
  exact ⟨n, D, h1, h2.kept (row := none) ⟨hb.os, hb.tape, hb.output, hb.size, fun k hk _ => hb.block k hk⟩ (by simp), h3⟩
theorem sign_zero (w : World) : (zeroValue 85).run Tryz.prog w = .ok (.agg #[.int .u8 0, .int .i64 0]) w := by kernel_rfl
theorem SgM.look {w : World} {b N : Nat} {h : List UInt8 → Option (Int × Nat)} (H : SgM w b N h) (x : ByteArray) (hx : x.size ≤ maxLen) :
    (Instr.lookup 87 (.map (some b)) (.string x) false).run Tryz.prog w = .ok (.agg #[.int .u8 (sgA (h x.data.toList)), .int .i64 (sgB (h x.data.toList))]) w := by
  obtain ⟨n, D, _, h1, h2, h3⟩ := H
  obtain ⟨v, ps, hrun, hv⟩ := h1.lookup (string_keyed Tryz.underlying9) Tryz.underlying87 (sign_zero w) (signR_mk 0 0) (WideMaps.keyOf_string_mk Tryz.underlying9 hx)
  rw [(h3 _).1] at hv
  rw [hrun, signR_inv hv]
theorem SgM.look_ok {w : World} {b N : Nat} {h : List UInt8 → Option (Int × Nat)} (H : SgM w b N h) (x : ByteArray) (hx : x.size ≤ maxLen) :
    (Instr.lookup 87 (.map (some b)) (.string x) true).run Tryz.prog w = .ok (.tuple #[.agg #[.int .u8 (sgA (h x.data.toList)), .int .i64 (sgB (h x.data.toList))], .bool (h x.data.toList).isSome]) w := by
  obtain ⟨n, D, _, h1, h2, h3⟩ := H
  obtain ⟨v, ps, hrun, hv⟩ := h1.look_ok (string_keyed Tryz.underlying9) Tryz.underlying87 (sign_zero w) (signR_mk 0 0) (WideMaps.keyOf_string_mk Tryz.underlying9 hx)
  rw [(h3 _).1] at hv
  rw [hrun, signR_inv hv, (h3 _).2]
def updS (h : List UInt8 → Option (Int × Nat)) (x : List UInt8) (p : Int × Nat) : List UInt8 → Option (Int × Nat) := fun y => if y = x then some p else h y
theorem SgM.put {w : World} {b N : Nat} {h : List UInt8 → Option (Int × Nat)} (H : SgM w b N h) (x : ByteArray) (hx : x.size ≤ maxLen) (o : Int) (l : Nat) (hN : N < maxLen) :
    ∃ w', (Instr.mapUpdate 87 (.map (some b)) (.string x) (.agg #[.int .u8 o, .int .i64 (l : Int)])).run Tryz.prog w = .ok () w' ∧ SgM w' b (N + 1) (updS h x.data.toList (o, l)) ∧ w.grownBy w' (some b) := by
  obtain ⟨n, D, h0, h1, h2, h3⟩ := H
  obtain ⟨w', hrun, h4, h5⟩ := h1.update (string_keyed Tryz.underlying9) Tryz.underlying87 (by omega) (WideMaps.keyOf_string_mk Tryz.underlying9 hx) (signR_mk o l)
  refine ⟨w', hrun, ⟨n + 1, _, by omega, h4, h2.put _ _, fun y => ?_⟩, h5⟩
  unfold updS
  by_cases e : y = x.data.toList
  · subst e
    rw [if_pos rfl]
    exact ⟨atKey_put_same h2 (by trivial) _ _, has_put_same h2 (by trivial) _⟩
  · rw [if_neg e, atKey_put_other (by intro h; injection h with h; exact e h), has_put_other (by intro h; injection h with h; exact e h)]
    exact h3 y
/-- An entry of a map literal. -/
theorem wpList_insert_sg (w : World) {ops : Array Oper} {rest : List Oper} {o : Oper} {a : Act} {Q : Exit → Act → World → Prop} (hg : o.guard = none) (m x v : Operand) (hop : o.op = Op.insert 87 m x v)
    (b N : Nat) (h : List UInt8 → Option (Int × Nat)) (hm : a.eval m = .map (some b)) (H : SgM w b N h) (k : ByteArray) (p : Int) (l : Nat) (hx : a.eval x = .string k) (hv : a.eval v = .agg #[.int .u8 p, .int .i64 (l : Int)]) (hk : k.size ≤ maxLen) (hN : N < maxLen)
    (hK : ∀ w', SgM w' b (N + 1) (updS h k.data.toList (p, l)) → w.grownBy w' (some b) → wpList Tryz.prog ops Q rest (a.put o.dst undef) w') : wpList Tryz.prog ops Q (o :: rest) a w := by
  refine wpList_plain hg fun K' hK' => ?_
  obtain ⟨w', hrun, r1, r2⟩ := H.put k hk p l hN
  unfold Oper.wp
  simp [execOp, hop, hm, hx, hv, hrun, Result.andThen]
  exact hK' _ _ (hK w' r1 r2)
set_option maxHeartbeats 2000000 in
theorem signs_any (w : World) : Calls Tryz.prog 43 #[] w fun e w' => ∃ b, e = .returned (.map (some b)) ∧ SgM w' b 13 signL ∧ w.heap.size ≤ b ∧ Below w.heap.size w w' := by
  have hfin : Hid (∀ h : List UInt8 → Option (Int × Nat), h = updS (updS (updS (updS (updS (updS (updS (updS (updS (updS (updS (updS (updS ((fun _ => none)) [111, 114] (6, 1)) [97, 110, 100] (5, 2)) [61] (7, 4)) [33, 61] (8, 4)) [60] (9, 4)) [60, 61] (10, 4)) [62] (11, 4)) [62, 61] (12, 4)) [43] (13, 5)) [45] (14, 5)) [42] (15, 6)) [47] (16, 6)) [37] (17, 6) → h = signL) := by
    refine Lib.hid (fun h e => ?_)
    subst e
    funext x
    by_cases h0 : x = [111, 114]
    · subst h0; rfl
    by_cases h1 : x = [97, 110, 100]
    · subst h1; rfl
    by_cases h2 : x = [61]
    · subst h2; rfl
    by_cases h3 : x = [33, 61]
    · subst h3; rfl
    by_cases h4 : x = [60]
    · subst h4; rfl
    by_cases h5 : x = [60, 61]
    · subst h5; rfl
    by_cases h6 : x = [62]
    · subst h6; rfl
    by_cases h7 : x = [62, 61]
    · subst h7; rfl
    by_cases h8 : x = [43]
    · subst h8; rfl
    by_cases h9 : x = [45]
    · subst h9; rfl
    by_cases h10 : x = [42]
    · subst h10; rfl
    by_cases h11 : x = [47]
    · subst h11; rfl
    by_cases h12 : x = [37]
    · subst h12; rfl
    unfold updS signL
    simp only [h0, h1, h2, h3, h4, h5, h6, h7, h8, h9, h10, h11, h12, if_false]
  have hmm := @run_makeMap Tryz.prog
  have HM : Hid (SgM (w.alloc (.map #[] 0)) w.heap.size 0 (fun _ => none) ∧ Below w.heap.size w (w.alloc (.map #[] 0))) := Lib.hid ⟨SgM.made w, (Below.refl _ _).alloc (Nat.le_refl _) _⟩
  go_enter Tryz.func43, Tryz.ntmps43
  go_wp2_with (refine wpList_insert_sg _ rfl _ _ _ rfl w.heap.size _ _ rfl HM.out.1 _ _ _ rfl rfl (by decide) (by decide) ?_; intro w9 hM hG; have HM := Lib.hid (And.intro hM (HM.out.2.grown hG HM.out.2.size (fun k hk => by injection hk with hk; omega))); clear hM hG)
  go_ret
  have e := hfin.out _ rfl
  refine ⟨_, rfl, ?_, Nat.le_refl _, HM.out.2⟩
  rw [← e]
  exact HM.out.1
end Go.Proofs.YtbephgifbghilaaGreatDoor
