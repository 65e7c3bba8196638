/- Of XPrint: what XFAs uses (shake.py). -/
import Derived.Test.YtbephgifbghilaaGreatDoorKExprSigns
import Derived.Test.YtbephgifbghilaaGreatDoorKXPar
import Derived.Test.YtbephgifbghilaaGreatDoorKXNodes
import Derived.Test.YtbephgifbghilaaGreatDoorKEvalDeepP
import Derived.Maps.RangeWalk
import Derived.Sort.MapsRangeIn
import Derived.Lib.Replace
import Derived.Lib.ItoaNum
import Derived.Lib.Small
import Derived.IntWalk
import Derived.Lib.AppendIntMem
import Derived.Lib.SplitLaws
/- Texts fused by fuse.py: ExprRange, ExprSpellP, ExprShown, ExprSpell, ExprSpell2, ExprSpell3, ExprSpell4, ExprPrint. -/
/- The range over expr.signs in whatever order (seat expr). -/
set_option maxRecDepth 100000
namespace Go.Proofs.YtbephgifbghilaaGreatDoor
open Go.RowKit Go.Maps
def SgD (D : DataW Unit) : Prop := IsMap D ∧ ∀ x : List UInt8, D.atKey (.string x) (.agg [.lit (.int .u8 0), .lit (.int .i64 0)]) = .agg [.lit (.int .u8 (sgA (signL x))), .lit (.int .i64 (sgB (signL x)))] ∧ Maps.has D (.string x) = (signL x).isSome
/-- A range over the signs under way: acc is what came. -/
def IterG (w : World) (b r : Nat) (acc : List (List UInt8)) (cnt : Nat) : Prop :=
  ∃ (n : Nat) (D : DataW Unit) (left : Lit → Bool), w.ranges Tryz.prog 9 signR b r n D left cnt ∧ SgD D ∧ ∀ x : List UInt8, left (.string x) = true ↔ (signL x).isSome = true ∧ x ∉ acc
theorem signR_some {v : Value} {y : DataW Unit × List MemPlace} (h : signR v = some y) : ∃ c : Int × Int, v = .agg #[.int .u8 c.1, .int .i64 c.2] ∧ y = (.agg [.lit (.int .u8 c.1), .lit (.int .i64 c.2)], []) := by
  unfold signR at h
  split at h
  · next cs =>
    unfold signC at h
    split at h
    · next a' b' hc =>
      injection h with h
      have e : cs = #[.int .u8 a', .int .i64 b'] := Array.ext' hc
      exact ⟨(a', b'), by rw [e], h.symm⟩
    · cases h
  · cases h
theorem wpList_range_sg (w : World) {ops : Array Oper} {rest : List Oper} {o : Oper} {a : Act} {Q : Exit → Act → World → Prop} (hg : o.guard = none) (m : Operand) (hop : o.op = Op.range 87 m)
    (b : Nat) (hm : a.eval m = .map (some b)) (h : SgM w b 13 signL)
    (hK : ∀ w' cnt, IterG w' b w.heap.size [] cnt → w.grownBy w' none → w'.heap.size = w.heap.size + 1 → wpList Tryz.prog ops Q rest (a.put o.dst (.pointer (some ⟨w.heap.size, 0, none⟩))) w') :
    wpList Tryz.prog ops Q (o :: rest) a w := by
  obtain ⟨n, D, _, h1, h2, h3⟩ := h
  refine wpList_range_own w hg m 87 hop 9 85 (string_keyed Tryz.underlying9) Tryz.underlying87 _ b n D hm h1 fun w' r1 r2 r3 => hK w' _ ⟨n, D, _, r1, ⟨h2, h3⟩, fun x => ?_⟩ r2 r3
  rw [(h3 x).2]
  simp
theorem wpList_next_sg (w : World) {ops : Array Oper} {rest : List Oper} {o : Oper} {a : Act} {Q : Exit → Act → World → Prop} (hg : o.guard = none) (it : Operand) (hop : o.op = Op.next it false)
    (b r : Nat) (acc : List (List UInt8)) (cnt : Nat) (hit : a.eval it = .pointer (some ⟨r, 0, none⟩)) (h : IterG w b r acc cnt)
    (hDone : (∀ x : List UInt8, (signL x).isSome = true → x ∈ acc) → wpList Tryz.prog ops Q rest (a.put o.dst (.tuple #[.bool false])) w)
    (hMore : ∀ (x : ByteArray) (w' : World) (cnt' : Nat), x.size ≤ maxLen → (signL x.data.toList).isSome = true → x.data.toList ∉ acc → IterG w' b r (acc ++ [x.data.toList]) cnt' → cnt' < cnt → w.grownBy w' (some r) → w'.heap.size = w.heap.size →
      (Instr.entry (.pointer (some ⟨r, 0, none⟩))).run Tryz.prog w' = .ok (.tuple #[.string x, .agg #[.int .u8 (sgA (signL x.data.toList)), .int .i64 (sgB (signL x.data.toList))]]) w' → wpList Tryz.prog ops Q rest (a.put o.dst (.tuple #[.bool true, .string x, .agg #[.int .u8 (sgA (signL x.data.toList)), .int .i64 (sgB (signL x.data.toList))]])) w') :
    wpList Tryz.prog ops Q (o :: rest) a w := by
  obtain ⟨n, D, left, h1, ⟨h2, h3⟩, h5⟩ := h
  refine wpList_next_ranges w hg it hop 9 (string_keyed Tryz.underlying9) signR Value.string (fun c : Int × Int => .agg #[.int .u8 c.1, .int .i64 c.2]) (fun key kl hkey => Maps.keyOf_string_inv Tryz.underlying9 hkey)
    (fun v y hv => by obtain ⟨c, e, _⟩ := signR_some hv; exact ⟨c, e⟩) b r n D left cnt hit h1 (fun _ hl => hDone fun x hx => ?_) ?_
  · by_cases hxa : x ∈ acc
    · exact hxa
    · have := (h5 x).2 ⟨hx, hxa⟩
      rw [hl] at this; cases this
  · intro x c kl y w' cnt' hkey hlk hv hat hrg hlt hgr hsz hen
    have hxs : x.size ≤ maxLen ∧ kl = .string x.data.toList := by
      obtain ⟨s', e1, e2, e3⟩ := WideMaps.string_of_keyOf Tryz.underlying9 hkey
      injection e1 with e1
      subst e1
      exact ⟨e3, e2⟩
    obtain ⟨hxz, rfl⟩ := hxs
    obtain ⟨hxS, hxa⟩ := (h5 _).1 hlk
    obtain ⟨c', e1, e2⟩ := signR_some hv
    have hc := hat (.agg [.lit (.int .u8 0), .lit (.int .i64 0)])
    rw [(h3 _).1, e2] at hc
    have e3 : c = c' := by
      injection e1 with e1
      have e4 := congrArg Array.toList e1
      simp at e4
      exact Prod.ext e4.1 e4.2
    subst e3
    have hc1 : c.1 = sgA (signL x.data.toList) ∧ c.2 = sgB (signL x.data.toList) := by
      injection hc with hc
      injection hc with q1 q2
      injection q2 with q2 _
      injection q1 with q1
      injection q1 with _ q1
      injection q2 with q2
      injection q2 with _ q2
      exact ⟨q1.symm, q2.symm⟩
    rw [hc1.1, hc1.2] at hen ⊢
    refine hMore x w' cnt' hxz hxS hxa ⟨n, D, _, hrg, ⟨h2, h3⟩, fun z => ?_⟩ hlt hgr hsz hen
    rw [Bool.and_eq_true, h5 z]
    by_cases e : z = x.data.toList
    · subst e
      simp [Lit.sameKey]
    · have : Lit.sameKey (.string z) (.string x.data.toList) = false := by
        cases hs : Lit.sameKey (.string z) (.string x.data.toList)
        · rfl
        · exact absurd (WideAt.sameKey_eq hs) (by intro h; injection h with h; exact e h)
      rw [this]
      simp [e]
end Go.Proofs.YtbephgifbghilaaGreatDoor
/- A node's text, on lists of bytes (expr.shown, spell; plain). -/
set_option maxRecDepth 100000
namespace Go.Proofs.YtbephgifbghilaaGreatDoor
open Go.Lib
/-- A sign's text and line, by the node that it makes. -/
def signX (op : Int) : Option (List UInt8 × Nat) :=
  if op = 6 then some ([111, 114], 1) else if op = 5 then some ([97, 110, 100], 2) else
  if op = 7 then some ([61], 4) else if op = 8 then some ([33, 61], 4) else if op = 9 then some ([60], 4) else if op = 10 then some ([60, 61], 4) else if op = 11 then some ([62], 4) else if op = 12 then some ([62, 61], 4) else
  if op = 13 then some ([43], 5) else if op = 14 then some ([45], 5) else if op = 15 then some ([42], 6) else if op = 16 then some ([47], 6) else if op = 17 then some ([37], 6) else none
theorem signX_of {x : List UInt8} {op : Int} {ln : Nat} (h : signL x = some (op, ln)) : signX op = some (x, ln) := by
  unfold signL at h
  by_cases e0 : x = [111, 114]
  · rw [if_pos e0] at h; injection h with h; injection h with h1 h2; subst h1 h2 e0; rfl
  rw [if_neg e0] at h
  by_cases e1 : x = [97, 110, 100]
  · rw [if_pos e1] at h; injection h with h; injection h with h1 h2; subst h1 h2 e1; rfl
  rw [if_neg e1] at h
  by_cases e2 : x = [61]
  · rw [if_pos e2] at h; injection h with h; injection h with h1 h2; subst h1 h2 e2; rfl
  rw [if_neg e2] at h
  by_cases e3 : x = [33, 61]
  · rw [if_pos e3] at h; injection h with h; injection h with h1 h2; subst h1 h2 e3; rfl
  rw [if_neg e3] at h
  by_cases e4 : x = [60]
  · rw [if_pos e4] at h; injection h with h; injection h with h1 h2; subst h1 h2 e4; rfl
  rw [if_neg e4] at h
  by_cases e5 : x = [60, 61]
  · rw [if_pos e5] at h; injection h with h; injection h with h1 h2; subst h1 h2 e5; rfl
  rw [if_neg e5] at h
  by_cases e6 : x = [62]
  · rw [if_pos e6] at h; injection h with h; injection h with h1 h2; subst h1 h2 e6; rfl
  rw [if_neg e6] at h
  by_cases e7 : x = [62, 61]
  · rw [if_pos e7] at h; injection h with h; injection h with h1 h2; subst h1 h2 e7; rfl
  rw [if_neg e7] at h
  by_cases e8 : x = [43]
  · rw [if_pos e8] at h; injection h with h; injection h with h1 h2; subst h1 h2 e8; rfl
  rw [if_neg e8] at h
  by_cases e9 : x = [45]
  · rw [if_pos e9] at h; injection h with h; injection h with h1 h2; subst h1 h2 e9; rfl
  rw [if_neg e9] at h
  by_cases e10 : x = [42]
  · rw [if_pos e10] at h; injection h with h; injection h with h1 h2; subst h1 h2 e10; rfl
  rw [if_neg e10] at h
  by_cases e11 : x = [47]
  · rw [if_pos e11] at h; injection h with h; injection h with h1 h2; subst h1 h2 e11; rfl
  rw [if_neg e11] at h
  by_cases e12 : x = [37]
  · rw [if_pos e12] at h; injection h with h; injection h with h1 h2; subst h1 h2 e12; rfl
  rw [if_neg e12] at h
  cases h
theorem signL_of {x : List UInt8} {op : Int} {ln : Nat} (h : signX op = some (x, ln)) : signL x = some (op, ln) := by
  unfold signX at h
  by_cases e0 : op = 6
  · rw [if_pos e0] at h; injection h with h; injection h with h1 h2; subst h1 h2 e0; rfl
  rw [if_neg e0] at h
  by_cases e1 : op = 5
  · rw [if_pos e1] at h; injection h with h; injection h with h1 h2; subst h1 h2 e1; rfl
  rw [if_neg e1] at h
  by_cases e2 : op = 7
  · rw [if_pos e2] at h; injection h with h; injection h with h1 h2; subst h1 h2 e2; rfl
  rw [if_neg e2] at h
  by_cases e3 : op = 8
  · rw [if_pos e3] at h; injection h with h; injection h with h1 h2; subst h1 h2 e3; rfl
  rw [if_neg e3] at h
  by_cases e4 : op = 9
  · rw [if_pos e4] at h; injection h with h; injection h with h1 h2; subst h1 h2 e4; rfl
  rw [if_neg e4] at h
  by_cases e5 : op = 10
  · rw [if_pos e5] at h; injection h with h; injection h with h1 h2; subst h1 h2 e5; rfl
  rw [if_neg e5] at h
  by_cases e6 : op = 11
  · rw [if_pos e6] at h; injection h with h; injection h with h1 h2; subst h1 h2 e6; rfl
  rw [if_neg e6] at h
  by_cases e7 : op = 12
  · rw [if_pos e7] at h; injection h with h; injection h with h1 h2; subst h1 h2 e7; rfl
  rw [if_neg e7] at h
  by_cases e8 : op = 13
  · rw [if_pos e8] at h; injection h with h; injection h with h1 h2; subst h1 h2 e8; rfl
  rw [if_neg e8] at h
  by_cases e9 : op = 14
  · rw [if_pos e9] at h; injection h with h; injection h with h1 h2; subst h1 h2 e9; rfl
  rw [if_neg e9] at h
  by_cases e10 : op = 15
  · rw [if_pos e10] at h; injection h with h; injection h with h1 h2; subst h1 h2 e10; rfl
  rw [if_neg e10] at h
  by_cases e11 : op = 16
  · rw [if_pos e11] at h; injection h with h; injection h with h1 h2; subst h1 h2 e11; rfl
  rw [if_neg e11] at h
  by_cases e12 : op = 17
  · rw [if_pos e12] at h; injection h with h; injection h with h1 h2; subst h1 h2 e12; rfl
  rw [if_neg e12] at h
  cases h
def shownE (op : Int) : List UInt8 × Nat :=
  if op ≤ 2 then ([], 8) else if op = 3 then ([110, 111, 116, 32], 3) else if op = 4 then ([45], 7) else match signX op with
    | some (x, ln) => (32 :: x ++ [32], ln)
    | none => ([], 0)
/-- A text in brackets where it binds weaker than a line. -/
def wrapT (own line : Nat) (t : List UInt8) : List UInt8 := if own < line then 40 :: t ++ [41] else t
def litT (v : Vl) : List UInt8 :=
  if v.kind = 3 then 39 :: replaceAll v.text.data.toList [39] [39, 39] ++ [39] else if v.kind = 2 then formatBool v.tr else itoa v.num
def joinT (op : Int) : List (Nat × List UInt8) → List UInt8
  | [] => []
  | [a] => (shownE op).1 ++ wrapT a.1 (shownE op).2 a.2
  | a :: b :: _ => if (shownE op).2 = 4 then wrapT a.1 5 a.2 ++ (shownE op).1 ++ wrapT b.1 5 b.2 else wrapT a.1 (shownE op).2 a.2 ++ (shownE op).1 ++ wrapT b.1 ((shownE op).2 + 1) b.2
mutual
def showN : Nd → List UInt8
  | .mk op v nm ks => if op = 2 then nm.data.toList else if op = 1 then litT v else joinT op (showL ks)
def showL : List Nd → List (Nat × List UInt8)
  | [] => []
  | a :: r => ((shownE a.op).2, showN a) :: showL r
end
/-- A node's text, in brackets if it binds weaker than a line. -/
def spellE (n : Nd) (line : Nat) : List UInt8 := wrapT (shownE n.op).2 line (showN n)
def printE (n : Nd) : List UInt8 × Int := if checkN n then (if (spellE n 1).length ≤ 256 then (spellE n 1, 0) else ([], 3)) else ([], 1)
theorem spell_one (op : Int) (h : 3 ≤ op) (v : Vl) (nm : ByteArray) (a : Nd) : showN (.mk op v nm [a]) = (shownE op).1 ++ spellE a (shownE op).2 := by
  show (if op = 2 then _ else if op = 1 then _ else _) = _
  rw [if_neg (by omega), if_neg (by omega)]
  rfl
theorem spell_two (op : Int) (h : 3 ≤ op) (v : Vl) (nm : ByteArray) (a b : Nd) : showN (.mk op v nm [a, b]) = if (shownE op).2 = 4 then spellE a 5 ++ (shownE op).1 ++ spellE b 5 else spellE a (shownE op).2 ++ (shownE op).1 ++ spellE b ((shownE op).2 + 1) := by
  show (if op = 2 then _ else if op = 1 then _ else _) = _
  rw [if_neg (by omega), if_neg (by omega)]
  rfl
end Go.Proofs.YtbephgifbghilaaGreatDoor
/- expr.shown (seat expr). -/
set_option maxRecDepth 100000
namespace Go.Proofs.YtbephgifbghilaaGreatDoor
open Go.RowKit Go.Maps
theorem scat (a b : ByteArray) (h : a.size + b.size ≤ 9223372036854775807) : ∃ c, Hid (a ++ b = c) ∧ c.size = a.size + b.size ∧ ∀ W : World, (Op.stringOp .add a b).run Tryz.prog W = .ok (.string c) W :=
  ⟨_, Lib.hid rfl, by simp [ByteArray.size_append], fun W => run_string_add_sum W a b h⟩
theorem IterG.kept {w w' : World} {b r : Nat} {acc : List (List UInt8)} {cnt : Nat} {row : Option Nat} (h : IterG w b r acc cnt) (hg : w.grownBy w' row) (hb : some b ≠ row) (hr : some r ≠ row) : IterG w' b r acc cnt := by
  obtain ⟨n, D, left, h1, h2⟩ := h
  exact ⟨n, D, left, h1.kept hg hb hr, h2⟩
theorem IterG.below {w w' : World} {b r : Nat} {acc : List (List UInt8)} {cnt : Nat} (h : IterG w b r acc cnt) (hb : Below w.heap.size w w') : IterG w' b r acc cnt :=
  h.kept (row := none) ⟨hb.os, hb.tape, hb.output, hb.size, fun k hk _ => hb.block k hk⟩ (by simp) (by simp)
theorem IterG.left {w : World} {b r : Nat} {acc : List (List UInt8)} {cnt : Nat} (h : IterG w b r acc cnt) : w.rangeLeft b r = cnt := by
  obtain ⟨n, D, left, h1, _⟩ := h
  exact h1.left_eq
theorem sign_short {u : List UInt8} (h : (signL u).isSome = true) : u.length ≤ 3 := by
  cases hs : signL u with
  | none => rw [hs] at h; cases h
  | some p =>
    obtain ⟨op, ln⟩ := p
    have := signX_of hs
    unfold signX at this
    repeat (rcases ite_some this with h | this; · (injection h with h1 h2; subst h1; decide))
    cases this
set_option maxHeartbeats 4000000 in
theorem shown_any (w : World) (n : Nd) (a : Option Addr) (c d : Nat) : Calls Tryz.prog 78 #[valN n (.slice a c d)] w fun e w' => e = .returned (.tuple #[.string ⟨(shownE n.op).1.toArray⟩, .int .i64 ((shownE n.op).2 : Int)]) ∧ Below w.heap.size w w' := by
  obtain ⟨w1, p0, hp0, hw1, l0, n0, b0⟩ := box_new w (.cells #[.int .u8 n.op, .int .u8 n.v.kind, .int .i64 n.v.num, .bool n.v.tr, .string n.v.text, .string n.name, .slice a c d] 29)
  have k0 : w1.cell? ⟨p0, 0, none⟩ = some (.int .u8 n.op) := cell_of_block n0 0
  have HB := Lib.hid b0
  have HP := Lib.hid hp0
  obtain ⟨q, hq⟩ : ∃ q, n.op = q := ⟨_, rfl⟩
  have HQ := Lib.hid hq
  rw [hq] at k0 ⊢
  clear hq n0 b0
  by_cases h2 : q ≤ 2
  · have e1 : decide (q ≤ 2) = true := decide_eq_true h2
    have hs : Hid (shownE q = ([], 8)) := Lib.hid (by unfold shownE; rw [if_pos h2])
    clear h2
    go_enter Tryz.func78, Tryz.ntmps78
    go_wp2_with fail
    go_ret2
    rw [hs.out]
    exact ⟨rfl, HB.out⟩
  · have e1 : decide (q ≤ 2) = false := decide_eq_false h2
    by_cases h3 : q = 3
    · have e2 : (q == 3) = true := beq_iff_eq.2 h3
      have hs : Hid (shownE q = ([110, 111, 116, 32], 3)) := Lib.hid (by rw [h3]; rfl)
      clear h2 h3
      go_enter Tryz.func78, Tryz.ntmps78
      go_wp2_with fail
      go_ret2
      rw [hs.out]
      exact ⟨rfl, HB.out⟩
    · have e2 : (q == 3) = false := beq_eq_false_iff_ne.2 h3
      by_cases h4 : q = 4
      · have e3 : (q == 4) = true := beq_iff_eq.2 h4
        have hs : Hid (shownE q = ([45], 7)) := Lib.hid (by rw [h4]; rfl)
        clear h2 h3 h4
        go_enter Tryz.func78, Tryz.ntmps78
        go_wp2_with fail
        go_ret2
        rw [hs.out]
        exact ⟨rfl, HB.out⟩
      · have e3 : (q == 4) = false := beq_eq_false_iff_ne.2 h4
        have hs : Hid (shownE q = match signX q with | some (x, ln) => (32 :: x ++ [32], ln) | none => ([], 0)) := Lib.hid (by unfold shownE; rw [if_neg h2, if_neg h3, if_neg h4]; try rfl)
        clear h2 h3 h4
        have HSG := Lib.hid (signs_any w1)
        go_enter Tryz.func78, Tryz.ntmps78
        go_wp2_with (go_at_call 43; refine HSG.out.mono ?_; rintro e w2 ⟨bm, rfl, hm2, hlo2, hb2⟩; refine Hid.out ?_)
        refine Lib.hid ?_
        have hz2 := hb2.size
        have HM2 := Lib.hid hm2
        have hbw := HB.out.trans (hb2.mono HB.out.size)
        have hbl : bm < w2.heap.size := by
          obtain ⟨_, _, _, hm, _⟩ := hm2
          exact hm.lt
        have k2 : w2.cell? ⟨p0, 0, none⟩ = some (.int .u8 q) := (Below.cellB hb2 l0).trans k0
        clear hm2 hb2
        go_wp2_with (at_range; refine wpList_range_sg _ rfl _ rfl bm rfl HM2.out ?_; intro w6 cnt0 hit6 hg6 hs6)
        go_frame
        have hb6 : Below w2.heap.size w2 w6 := (Below.refl _ _).grown hg6 (Nat.le_refl _) (fun j hj => by cases hj)
        go_loopw [] (fun wx => ∃ (acc : List (List UInt8)) (cnt : Nat), Hid (IterG wx bm w2.heap.size acc cnt) ∧ Hid (∀ x ∈ acc, sgA (signL x) ≠ q) ∧ Hid (Below w2.heap.size w2 wx)) (fun wx => wx.rangeLeft bm w2.heap.size)
        case atStart => exact ⟨[], cnt0, Lib.hid hit6, Lib.hid (by simp), Lib.hid hb6⟩
        case round =>
          clear hb6 hit6 hg6 hs6
          obtain ⟨acc, cnt, hit, hacc, hbel⟩ := hrel
          have kx : wr.cell? ⟨p0, 0, none⟩ = some (.int .u8 q) := (Below.cellB hbel.out (by omega)).trans k2
          go_wp2_with (at_next; refine wpList_next_sg _ rfl _ rfl bm w2.heap.size acc cnt rfl hit.out ?_ ?_)
          · intro hdone
            have hno : Hid (shownE q = ([], 0)) := Lib.hid (by
              rw [hs.out]
              cases hx : signX q with
              | none => rfl
              | some p =>
                obtain ⟨x, ln⟩ := p
                have h1 := signL_of hx
                exact absurd (by rw [h1]; rfl) (hacc.out x (hdone x (by rw [h1]; rfl))))
            clear hdone
            go_wp2_with fail
            go_ret2
            rw [hno.out]
            exact ⟨rfl, hbw.trans (hbel.out.mono (by have := hbw.size; omega))⟩
          · intro x w7 cnt' hxs hxS hxa hit7 hlt hg7 hsz7 hen
            have hb7 : Below w2.heap.size w2 w7 := hbel.out.grown hg7 hbel.out.size (fun j hj => by injection hj with hj; omega)
            have k7 : w7.cell? ⟨p0, 0, none⟩ = some (.int .u8 q) := (Below.cellB hb7 (by omega)).trans k2
            have hx3 : x.size ≤ 3 := by have := sign_short hxS; rw [sl_len] at this; exact this
            have hf : Hid (sgA (signL x.data.toList) = q → shownE q = (32 :: x.data.toList ++ [32], (sgB (signL x.data.toList)).toNat) ∧ 0 ≤ sgB (signL x.data.toList)) := Lib.hid (fun he => by
              rw [hs.out]
              cases hsx : signL x.data.toList with
              | none => rw [hsx] at hxS; cases hxS
              | some p =>
                obtain ⟨op, ln⟩ := p
                rw [hsx] at he
                have h1 := signX_of hsx
                have h2 : op = q := he
                rw [← h2, h1]
                exact ⟨rfl, by show (0 : Int) ≤ (ln : Int); omega⟩)
            obtain ⟨A, hA⟩ : ∃ A, sgA (signL x.data.toList) = A := ⟨_, rfl⟩
            obtain ⟨Bn, hB⟩ : ∃ A, sgB (signL x.data.toList) = A := ⟨_, rfl⟩
            rw [hA, hB] at hen hf ⊢
            have HA := Lib.hid hA
            have HBn := Lib.hid hB
            have HI7 := Lib.hid hit7
            have HB7 := Lib.hid hb7
            have hz7 := hb7.size
            have l07 : p0 < w7.heap.size := by omega
            clear hA hB hit7 hg7 hxa hxS hb7 hsz7
            by_cases he : A = q
            · have ee : (A == q) = true := beq_iff_eq.2 he
              obtain ⟨y1, hy1, hz1, hr1⟩ := scat ⟨#[32]⟩ x (by show 1 + x.size ≤ _; omega)
              obtain ⟨y2, hy2, hz2', hr2⟩ := scat y1 ⟨#[32]⟩ (by rw [hz1]; show 1 + x.size + 1 ≤ _; omega)
              have hfin := Lib.hid (hf.out he)
              have HY := Lib.hid (And.intro hz1 hz2')
              clear he hz1 hz2' hf
              go_upto_region 11 with fail
              go_quiet (fail)
              go_wp2_with fail
              go_ret2
              have hy : Hid (y2 = ⟨(32 :: x.data.toList ++ [32]).toArray⟩) := Lib.hid (by
                rw [← hy2.out, ← hy1.out]
                apply ByteArray.ext
                apply Array.ext'
                simp [ByteArray.data_append])
              have hB3 : Hid (((Bn.toNat : Nat) : Int) = Bn) := Lib.hid (Int.toNat_of_nonneg hfin.out.2)
              rw [hfin.out.1, hy.out]
              refine ⟨?_, hbw.trans ((below_drewN (HB7.out.alloc HB7.out.size _) _).mono (by have := hbw.size; omega))⟩
              show _ = Ending.returned (.tuple #[.string ⟨(32 :: x.data.toList ++ [32]).toArray⟩, .int .i64 ((Bn.toNat : Nat) : Int)])
              rw [hB3.out]
              rfl
            · have ee : (A == q) = false := beq_eq_false_iff_ne.2 he
              have HE := Lib.hid he
              clear he hf
              go_wp2_with fail
              have hbA := (Below.refl w7.heap.size w7).alloc (Nat.le_refl _) (.cells #[.int .u8 A, .int .i64 Bn] 85)
              go_roundw
              case rel =>
                refine ⟨acc ++ [x.data.toList], cnt', Lib.hid (HI7.out.below hbA), Lib.hid (fun z hz => ?_), Lib.hid (HB7.out.alloc HB7.out.size _)⟩
                rcases List.mem_append.1 hz with hz | hz
                · exact hacc.out z hz
                · rw [List.mem_singleton.1 hz, HA.out]; exact HE.out
              case measure =>
                rw [(HI7.out.below hbA).left, hit.out.left]
                exact hlt
end Go.Proofs.YtbephgifbghilaaGreatDoor
/- expr.spell (seat expr). -/
set_option maxRecDepth 100000
namespace Go.Proofs.YtbephgifbghilaaGreatDoor
open Go.RowKit
structure Gp (w : World) : Prop where
  tb : Lib.TabBelow Tryz.prog w.heap.size w "internal/strconv.uint64pow10" .u64 Lib.pow10Tab
  ml : ∃ m, w.cell? ⟨5, 0, none⟩ = some (.int .i64 m)
theorem Gp.up {w w' : World} (h : Gp w) (hb : Below w.heap.size w w') : Gp w' where
  tb := fun w2 h2 => h.tb w2 (hb.trans (h2.mono hb.size))
  ml := by obtain ⟨m, h⟩ := h.ml; exact ⟨m, cell_kept h hb⟩
theorem fmtI_any (w : World) (hg : Gp w) (n : Int) (h0 : -9223372036854775808 ≤ n) (h1 : n ≤ 9223372036854775807) :
    Calls Tryz.prog 81 #[.int .i64 n, .int .i64 10] w fun e w' => e = .returned (.string ⟨(Lib.itoa n).toArray⟩) ∧ Below w.heap.size w w' := by
  refine (Tryz.strconv_FormatInt_10 n h0 h1 w (hg.tb w (Below.refl _ _))).mono ?_
  rintro e w' ⟨rfl, k, os, hw⟩
  exact ⟨rfl, by rw [hw]; exact Lib.below_grow w.heap.size w (Nat.le_refl _) k os⟩
theorem shown_bound (op : Int) : (shownE op).1.length ≤ 5 ∧ (shownE op).2 ≤ 8 := by
  unfold shownE
  split
  · exact ⟨by decide, by decide⟩
  · split
    · exact ⟨by decide, by decide⟩
    · split
      · exact ⟨by decide, by decide⟩
      · split
        · next x ln h =>
          have h1 := sign_short (u := x) (by rw [signL_of h]; rfl)
          have h2 := sign_line (signL_of h)
          simp only [List.length_append, List.length_cons, List.length_nil]
          omega
        · exact ⟨by decide, by decide⟩
/-- What spell is to do at a node. -/
def SpellC (n : Nd) : Prop := ∀ (w : World) (B : Nat) (a : Option Addr) (c d line : Nat), Gp w → B ≤ w.heap.size → KidsR w B (.slice a c d) n.kids → HeadW n → checkN n = true → line ≤ 9 → (spellE n line).length ≤ 1000000000 →
  Calls Tryz.prog 45 #[valN n (.slice a c d), .int .i64 (line : Int)] w fun e w' => e = .returned (.string ⟨(spellE n line).toArray⟩) ∧ Below w.heap.size w w'
theorem mk_toList (s : ByteArray) : (⟨s.data.toList.toArray⟩ : ByteArray) = s := by cases s; simp
/-- In brackets, if without them. -/
theorem spell_wrap {n : Nd} (h : ∀ (w : World) (B : Nat) (a : Option Addr) (c d line : Nat), Gp w → B ≤ w.heap.size → KidsR w B (.slice a c d) n.kids → HeadW n → checkN n = true → line ≤ (shownE n.op).2 → (showN n).length ≤ 1000000000 →
    Calls Tryz.prog 45 #[valN n (.slice a c d), .int .i64 (line : Int)] w fun e w' => e = .returned (.string ⟨(showN n).toArray⟩) ∧ Below w.heap.size w w') : SpellC n := by
  intro w B a c d line hg hB hk hw hc hline hlen
  by_cases hlt : (shownE n.op).2 < line
  · have hsp : spellE n line = 40 :: showN n ++ [41] := by unfold spellE wrapT; rw [if_pos hlt]
    rw [hsp] at hlen ⊢
    simp only [List.length_append, List.length_cons, List.length_nil] at hlen
    obtain ⟨w1, p0, hp0, hw1, l0, n0, b0⟩ := box_new w (.cells #[.int .u8 n.op, .int .u8 n.v.kind, .int .i64 n.v.num, .bool n.v.tr, .string n.v.text, .string n.name, .slice a c d] 29)
    obtain ⟨g0, g1, g2, g3, g4, g5, g6, gf⟩ := n7_cells n0
    have HSH := Lib.hid (shown_any w1 n a c d)
    have hsb := shown_bound n.op
    obtain ⟨own, ho⟩ : ∃ own, (shownE n.op).2 = own := ⟨_, rfl⟩
    rw [ho] at hlt hsb HSH
    have HSP : Hid (∀ W, Below w1.heap.size w1 W → Calls Tryz.prog 45 #[valN n (.slice a c d), .int .i64 (own : Int)] W fun e w' => e = .returned (.string ⟨(showN n).toArray⟩) ∧ Below W.heap.size W w') := Lib.hid (fun W hW => by
      have hb := b0.trans (hW.mono b0.size)
      exact h W B a c d own (hg.up hb) (Nat.le_trans hB hb.size) (hk.mono (hb.mono hB) (Nat.le_refl _)) hw hc (by omega) (by omega))
    obtain ⟨T, hT⟩ : ∃ T : ByteArray, (⟨(showN n).toArray⟩ : ByteArray) = T := ⟨_, rfl⟩
    have hTz : T.size = (showN n).length := by rw [← hT]; exact size_mk _
    rw [hT] at HSP
    obtain ⟨y1, hy1, hz1, hr1⟩ := scat ⟨#[40]⟩ T (by show 1 + T.size ≤ _; omega)
    obtain ⟨y2, hy2, hz2, hr2⟩ := scat y1 ⟨#[41]⟩ (by rw [hz1]; show 1 + T.size + 1 ≤ _; omega)
    have hy : Hid (y2 = ⟨(40 :: showN n ++ [41]).toArray⟩) := Lib.hid (by
      rw [← hy2.out, ← hy1.out, ← hT]
      apply ByteArray.ext
      apply Array.ext'
      simp [ByteArray.data_append])
    have e1 : decide ((own : Int) < (line : Int)) = true := decide_eq_true (by omega)
    have e1' : decide (own < line) = true := decide_eq_true hlt
    have HB := Lib.hid b0
    clear hT hTz hz1 hz2 ho hsb n0 b0 h hk hlt hlen hsp
    go_enter Tryz.func45, Tryz.ntmps45
    go_wp2_with (first
      | (go_at_call 78; refine HSH.out.mono ?_; rintro e w2 ⟨rfl, hb2⟩; obtain ⟨x0, x1, x2, x3, x4, x5, x6⟩ : w2.cell? ⟨p0, 0, none⟩ = some (.int .u8 n.op) ∧ w2.cell? ⟨p0, 1, none⟩ = some (.int .u8 n.v.kind) ∧ w2.cell? ⟨p0, 2, none⟩ = some (.int .i64 n.v.num) ∧ w2.cell? ⟨p0, 3, none⟩ = some (.bool n.v.tr) ∧ w2.cell? ⟨p0, 4, none⟩ = some (.string n.v.text) ∧ w2.cell? ⟨p0, 5, none⟩ = some (.string n.name) ∧ w2.cell? ⟨p0, 6, none⟩ = some (.slice a c d) := (⟨(Below.cellB hb2 l0).trans g0, (Below.cellB hb2 l0).trans g1, (Below.cellB hb2 l0).trans g2, (Below.cellB hb2 l0).trans g3, (Below.cellB hb2 l0).trans g4, (Below.cellB hb2 l0).trans g5, (Below.cellB hb2 l0).trans g6⟩); have HB2 := Lib.hid hb2; clear hb2)
      | (go_at_call 45; refine (HSP.out _ HB2.out).mono ?_; rintro e w3 ⟨rfl, hb3⟩; have HB3 := Lib.hid hb3; clear hb3))
    go_ret
    refine ⟨by rw [hy.out]; rfl, ?_⟩
    have hb12 := HB.out.trans (HB2.out.mono HB.out.size)
    exact hb12.trans (HB3.out.mono hb12.size)
  · have hsp : spellE n line = showN n := by unfold spellE wrapT; rw [if_neg hlt]
    rw [hsp] at hlen ⊢
    exact h w B a c d line hg hB hk hw hc (by omega) hlen
end Go.Proofs.YtbephgifbghilaaGreatDoor
/- expr.spell: leaves (seat expr). -/
set_option maxRecDepth 100000
namespace Go.Proofs.YtbephgifbghilaaGreatDoor
open Go.RowKit
theorem leaf_facts {n : Nd} (hc : checkN n = true) (ho : n.op = 1) : checkB n.v = true ∧ (n.v.kind = 1 ∨ n.v.kind = 2 ∨ n.v.kind = 3) := by
  obtain ⟨op, v, nm, ks⟩ := n
  have h' : (headB op v nm ks.length && checkL ks) = true := hc
  rw [Bool.and_eq_true] at h'
  have h2 := (head_facts h'.1).2 ho
  refine ⟨h2, ?_⟩
  have h3 := h2
  unfold checkB at h3
  show v.kind = 1 ∨ v.kind = 2 ∨ v.kind = 3
  split at h3
  · next e => exact .inl e
  · split at h3
    · next e => exact .inr (.inl e)
    · split at h3
      · next e => exact .inr (.inr e)
      · cases h3
set_option maxHeartbeats 4000000 in
theorem spell_leaf (n : Nd) (ho : n.op = 1 ∨ n.op = 2) : SpellC n := by
  refine spell_wrap fun w B a c d line hg hB hk hw hc hline hlen => ?_
  have hs8 : shownE n.op = ([], 8) := by unfold shownE; rw [if_pos (by omega)]
  rw [hs8] at hline
  obtain ⟨w1, p0, hp0, hw1, l0, n0, b0⟩ := box_new w (.cells #[.int .u8 n.op, .int .u8 n.v.kind, .int .i64 n.v.num, .bool n.v.tr, .string n.v.text, .string n.name, .slice a c d] 29)
  obtain ⟨g0, g1, g2, g3, g4, g5, g6, gf⟩ := n7_cells n0
  have HSH := Lib.hid (shown_any w1 n a c d)
  rw [hs8] at HSH
  have HB := Lib.hid b0
  have e1 : decide ((8 : Int) < (line : Int)) = false := decide_eq_false (by omega)
  have e1' : decide (8 < line) = false := decide_eq_false (by omega)
  rcases ho with hq | hq
  · obtain ⟨hcb, hkk⟩ := leaf_facts hc hq
    have hsz := checkB_size hcb
    have hn := hw.v
    have hlt : Hid (showN n = litT n.v) := Lib.hid (by
      obtain ⟨op, v, nm, ks⟩ := n
      have hq' : op = 1 := hq
      show (if op = 2 then _ else if op = 1 then _ else _) = _
      rw [if_neg (by omega), if_pos hq']
      rfl)
    have HQ := Lib.hid hq
    have e2 : (n.op == 2) = false := beq_eq_false_iff_ne.2 (by omega)
    have e3 : (n.op == 1) = true := beq_iff_eq.2 hq
    clear hs8 hk hc hcb n0 b0 hq hw
    rcases hkk with hkd | hkd | hkd
    · have e4 : (n.v.kind == 3) = false := beq_eq_false_iff_ne.2 (by omega)
      have e5 : (n.v.kind == 2) = false := beq_eq_false_iff_ne.2 (by omega)
      have HKD := Lib.hid hkd
      clear hkd
      have hf : Hid (litT n.v = Lib.itoa n.v.num) := Lib.hid (by unfold litT; rw [if_neg (by rw [HKD.out]; decide), if_neg (by rw [HKD.out]; decide)])
      have HFM : Hid (∀ W, Below w1.heap.size w1 W → Calls Tryz.prog 81 #[.int .i64 n.v.num, .int .i64 10] W fun e w' => e = .returned (.string ⟨(Lib.itoa n.v.num).toArray⟩) ∧ Below W.heap.size W w') := Lib.hid (fun W hW => fmtI_any W ((hg.up HB.out).up hW) _ hn.n0 hn.n1)
      clear hn hlen
      go_enter Tryz.func45, Tryz.ntmps45
      go_wp2_with (first
        | (go_at_call 78; refine HSH.out.mono ?_; rintro e w2 ⟨rfl, hb2⟩; obtain ⟨x0, x1, x2, x3, x4, x5, x6⟩ : w2.cell? ⟨p0, 0, none⟩ = some (.int .u8 n.op) ∧ w2.cell? ⟨p0, 1, none⟩ = some (.int .u8 n.v.kind) ∧ w2.cell? ⟨p0, 2, none⟩ = some (.int .i64 n.v.num) ∧ w2.cell? ⟨p0, 3, none⟩ = some (.bool n.v.tr) ∧ w2.cell? ⟨p0, 4, none⟩ = some (.string n.v.text) ∧ w2.cell? ⟨p0, 5, none⟩ = some (.string n.name) ∧ w2.cell? ⟨p0, 6, none⟩ = some (.slice a c d) := (⟨(Below.cellB hb2 l0).trans g0, (Below.cellB hb2 l0).trans g1, (Below.cellB hb2 l0).trans g2, (Below.cellB hb2 l0).trans g3, (Below.cellB hb2 l0).trans g4, (Below.cellB hb2 l0).trans g5, (Below.cellB hb2 l0).trans g6⟩); have HB2 := Lib.hid hb2; clear hb2)
        | (go_at_call 81; refine (HFM.out _ HB2.out).mono ?_; rintro e w3 ⟨rfl, hb3⟩; have HB3 := Lib.hid hb3; clear hb3))
      go_ret
      rw [hlt.out, hf.out]
      have hb12 := HB.out.trans (HB2.out.mono HB.out.size)
      exact ⟨rfl, hb12.trans (HB3.out.mono hb12.size)⟩
    · have e4 : (n.v.kind == 3) = false := beq_eq_false_iff_ne.2 (by omega)
      have e5 : (n.v.kind == 2) = true := beq_iff_eq.2 hkd
      have HKD := Lib.hid hkd
      clear hkd
      have hf : Hid (litT n.v = Lib.formatBool n.v.tr) := Lib.hid (by unfold litT; rw [if_neg (by rw [HKD.out]; decide), if_pos HKD.out])
      have HFM := Lib.hid (fun W => Tryz.strconv_FormatBool n.v.tr W)
      clear hn hlen
      go_enter Tryz.func45, Tryz.ntmps45
      go_wp2_with (first
        | (go_at_call 78; refine HSH.out.mono ?_; rintro e w2 ⟨rfl, hb2⟩; obtain ⟨x0, x1, x2, x3, x4, x5, x6⟩ : w2.cell? ⟨p0, 0, none⟩ = some (.int .u8 n.op) ∧ w2.cell? ⟨p0, 1, none⟩ = some (.int .u8 n.v.kind) ∧ w2.cell? ⟨p0, 2, none⟩ = some (.int .i64 n.v.num) ∧ w2.cell? ⟨p0, 3, none⟩ = some (.bool n.v.tr) ∧ w2.cell? ⟨p0, 4, none⟩ = some (.string n.v.text) ∧ w2.cell? ⟨p0, 5, none⟩ = some (.string n.name) ∧ w2.cell? ⟨p0, 6, none⟩ = some (.slice a c d) := (⟨(Below.cellB hb2 l0).trans g0, (Below.cellB hb2 l0).trans g1, (Below.cellB hb2 l0).trans g2, (Below.cellB hb2 l0).trans g3, (Below.cellB hb2 l0).trans g4, (Below.cellB hb2 l0).trans g5, (Below.cellB hb2 l0).trans g6⟩); have HB2 := Lib.hid hb2; clear hb2)
        | (go_at_call 80; refine (HFM.out _).mono ?_; rintro e w3 ⟨rfl, hw3⟩; have HW3 := Lib.hid hw3; clear hw3))
      go_ret
      rw [hlt.out, hf.out]
      have hb12 := HB.out.trans (HB2.out.mono HB.out.size)
      exact ⟨rfl, by rw [HW3.out]; exact hb12⟩
    · have e4 : (n.v.kind == 3) = true := beq_iff_eq.2 hkd
      have HKD := Lib.hid hkd
      clear hkd
      have hf : Hid (litT n.v = 39 :: Lib.replaceAll n.v.text.data.toList [39] [39, 39] ++ [39]) := Lib.hid (by unfold litT; rw [if_pos HKD.out])
      have hcn := Lib.countB_le ⟨#[39]⟩ (by decide) n.v.text.size n.v.text (Nat.le_refl _)
      obtain ⟨mx, hmx⟩ := hg.ml
      have HRP : Hid (∀ W, Below w.heap.size w W → Calls Tryz.prog 79 #[.string n.v.text, .string ⟨#[39]⟩, .string ⟨#[39, 39]⟩] W fun e w' => e = .returned (.string ⟨(Lib.replaceAll n.v.text.data.toList [39] [39, 39]).toArray⟩) ∧ Below W.heap.size W w') := Lib.hid (fun W hW => Tryz.strings_ReplaceAll n.v.text ⟨#[39]⟩ ⟨#[39, 39]⟩ mx W (by omega) (cell_kept hmx hW) (by decide) (by show n.v.text.size + Lib.countB n.v.text ⟨#[39]⟩ * 2 ≤ _; omega))
      obtain ⟨T, hT⟩ : ∃ T : ByteArray, (⟨(Lib.replaceAll n.v.text.data.toList [39] [39, 39]).toArray⟩ : ByteArray) = T := ⟨_, rfl⟩
      rw [hT] at HRP
      have hTl : T.data.toList = Lib.replaceAll n.v.text.data.toList [39] [39, 39] := by rw [← hT]
      have hTz : T.size ≤ 9223372036854775000 := by
        rw [← sl_len, hTl]
        have h1 : (litT n.v).length ≤ 1000000000 := by rw [← hlt.out]; exact hlen
        rw [hf.out] at h1
        simp only [List.length_append, List.length_cons, List.length_nil] at h1
        omega
      obtain ⟨y1, hy1, hz1, hr1⟩ := scat ⟨#[39]⟩ T (by show 1 + T.size ≤ _; omega)
      obtain ⟨y2, hy2, hz2, hr2⟩ := scat y1 ⟨#[39]⟩ (by rw [hz1]; show 1 + T.size + 1 ≤ _; omega)
      have hy : Hid (y2 = ⟨(39 :: Lib.replaceAll n.v.text.data.toList [39] [39, 39] ++ [39]).toArray⟩) := Lib.hid (by
        rw [← hy2.out, ← hy1.out, ← hT]
        apply ByteArray.ext
        apply Array.ext'
        simp [ByteArray.data_append])
      clear hn hlen hT hTl hTz hz1 hz2 hcn hmx
      go_enter Tryz.func45, Tryz.ntmps45
      go_wp2_with (first
        | (go_at_call 78; refine HSH.out.mono ?_; rintro e w2 ⟨rfl, hb2⟩; obtain ⟨x0, x1, x2, x3, x4, x5, x6⟩ : w2.cell? ⟨p0, 0, none⟩ = some (.int .u8 n.op) ∧ w2.cell? ⟨p0, 1, none⟩ = some (.int .u8 n.v.kind) ∧ w2.cell? ⟨p0, 2, none⟩ = some (.int .i64 n.v.num) ∧ w2.cell? ⟨p0, 3, none⟩ = some (.bool n.v.tr) ∧ w2.cell? ⟨p0, 4, none⟩ = some (.string n.v.text) ∧ w2.cell? ⟨p0, 5, none⟩ = some (.string n.name) ∧ w2.cell? ⟨p0, 6, none⟩ = some (.slice a c d) := (⟨(Below.cellB hb2 l0).trans g0, (Below.cellB hb2 l0).trans g1, (Below.cellB hb2 l0).trans g2, (Below.cellB hb2 l0).trans g3, (Below.cellB hb2 l0).trans g4, (Below.cellB hb2 l0).trans g5, (Below.cellB hb2 l0).trans g6⟩); have HB2 := Lib.hid (HB.out.trans (hb2.mono HB.out.size)); clear hb2)
        | (go_at_call 79; refine (HRP.out _ HB2.out).mono ?_; rintro e w3 ⟨rfl, hb3⟩; have HB3 := Lib.hid hb3; clear hb3))
      go_ret
      rw [hlt.out, hf.out]
      exact ⟨by rw [hy.out]; rfl, HB2.out.trans (HB3.out.mono HB2.out.size)⟩
  · have hlt : Hid (showN n = n.name.data.toList) := Lib.hid (by
      obtain ⟨op, v, nm, ks⟩ := n
      have hq' : op = 2 := hq
      show (if op = 2 then _ else if op = 1 then _ else _) = _
      rw [if_pos hq']
      rfl)
    have e2 : (n.op == 2) = true := beq_iff_eq.2 hq
    clear hs8 hlen hk hc n0 b0 hq hw
    go_enter Tryz.func45, Tryz.ntmps45
    go_wp2_with (go_at_call 78; refine HSH.out.mono ?_; rintro e w2 ⟨rfl, hb2⟩; obtain ⟨x0, x1, x2, x3, x4, x5, x6⟩ : w2.cell? ⟨p0, 0, none⟩ = some (.int .u8 n.op) ∧ w2.cell? ⟨p0, 1, none⟩ = some (.int .u8 n.v.kind) ∧ w2.cell? ⟨p0, 2, none⟩ = some (.int .i64 n.v.num) ∧ w2.cell? ⟨p0, 3, none⟩ = some (.bool n.v.tr) ∧ w2.cell? ⟨p0, 4, none⟩ = some (.string n.v.text) ∧ w2.cell? ⟨p0, 5, none⟩ = some (.string n.name) ∧ w2.cell? ⟨p0, 6, none⟩ = some (.slice a c d) := (⟨(Below.cellB hb2 l0).trans g0, (Below.cellB hb2 l0).trans g1, (Below.cellB hb2 l0).trans g2, (Below.cellB hb2 l0).trans g3, (Below.cellB hb2 l0).trans g4, (Below.cellB hb2 l0).trans g5, (Below.cellB hb2 l0).trans g6⟩); have HB2 := Lib.hid hb2; clear hb2)
    go_ret
    rw [hlt.out, mk_toList]
    exact ⟨rfl, HB.out.trans (HB2.out.mono HB.out.size)⟩
end Go.Proofs.YtbephgifbghilaaGreatDoor
/- expr.spell: nodes of one and of two kids (seat expr). -/
set_option maxRecDepth 100000
namespace Go.Proofs.YtbephgifbghilaaGreatDoor
open Go.RowKit
/-- A kid at hand: its cells, what spell makes of it. -/
structure KidS (w : World) (B : Nat) (b o : Nat) (k : Nd) (a : Option Addr) (c d : Nat) : Prop where
  lt : b < B
  hw : HeadW k
  hk : KidsR w B (.slice a c d) k.kids
  q0 : w.cell? ⟨b, o, none⟩ = some (.int .u8 k.op)
  q1 : w.cell? ⟨b, o + 1, none⟩ = some (.int .u8 k.v.kind)
  q2 : w.cell? ⟨b, o + 2, none⟩ = some (.int .i64 k.v.num)
  q3 : w.cell? ⟨b, o + 3, none⟩ = some (.bool k.v.tr)
  q4 : w.cell? ⟨b, o + 4, none⟩ = some (.string k.v.text)
  q5 : w.cell? ⟨b, o + 5, none⟩ = some (.string k.name)
  q6 : w.cell? ⟨b, o + 6, none⟩ = some (.slice a c d)
theorem KidS.of {w : World} {B : Nat} {a : Option Addr} {n cap : Nat} {l : List Nd} (h : KidsR w B (.slice a n cap) l) {i : Nat} (hi : i < l.length) : ∃ b o a' c' d', a = some ⟨b, o, none⟩ ∧ KidS w B b (o + i * 7) l[i] a' c' d' := by
  obtain ⟨b, o, vk, h1, h2, h3, h4, h5, h6, h7, h8, h9, h10, h11⟩ := h.at hi
  obtain ⟨a', cap', rfl⟩ := h4.val
  exact ⟨b, o, a', _, cap', h1, h2, h3, h4, h5, h6, h7, h8, h9, h10, h11⟩
theorem KidS.up {w w' : World} {B b o : Nat} {k : Nd} {a : Option Addr} {c d : Nat} (h : KidS w B b o k a c d) (hb : Below B w w') : KidS w' B b o k a c d :=
  ⟨h.lt, h.hw, h.hk.mono hb (Nat.le_refl _), (Below.cellB hb h.lt).trans h.q0, (Below.cellB hb h.lt).trans h.q1, (Below.cellB hb h.lt).trans h.q2, (Below.cellB hb h.lt).trans h.q3, (Below.cellB hb h.lt).trans h.q4, (Below.cellB hb h.lt).trans h.q5, (Below.cellB hb h.lt).trans h.q6⟩
set_option maxHeartbeats 4000000 in
theorem spell_k1 (n k : Nd) (hks : n.kids = [k]) (ho : n.op = 3 ∨ n.op = 4) (hck : checkN n = true → checkN k = true) (hsk : SpellC k) : SpellC n := by
  refine spell_wrap fun w B a c d line hg hB hk hw hc hline hlen => ?_
  have hsn : showN n = (shownE n.op).1 ++ spellE k (shownE n.op).2 := by
    obtain ⟨op, v, nm, ks⟩ := n
    have h1 : ks = [k] := hks
    subst h1
    exact spell_one op (by rcases ho with h | h <;> (have h' : op = _ := h; omega)) v nm k
  have hck' := hck hc
  rw [hks] at hk
  have hcl : c = 1 := by
    obtain ⟨a1, d1, hv⟩ := hk.val
    injection hv
  obtain ⟨b, o, a', c', d', hab, hK⟩ := KidS.of hk (i := 0) (by simp)
  rw [Nat.zero_mul, Nat.add_zero] at hK
  have HAB : Hid (Value.slice a c d = .slice (some ⟨b, o, none⟩) 1 d) := Lib.hid (by rw [hab, hcl])
  have hsb := shown_bound n.op
  rw [hsn] at hlen ⊢
  obtain ⟨w1, p0, hp0, hw1, l0, n0, b0⟩ := box_new w (.cells #[.int .u8 n.op, .int .u8 n.v.kind, .int .i64 n.v.num, .bool n.v.tr, .string n.v.text, .string n.name, .slice a c d] 29)
  obtain ⟨g0, g1, g2, g3, g4, g5, g6, gf⟩ := n7_cells n0
  have HSH := Lib.hid (shown_any w1 n a c d)
  have HB := Lib.hid b0
  have HK := Lib.hid hK
  obtain ⟨sT, hsT⟩ : ∃ t, (shownE n.op).1 = t := ⟨_, rfl⟩
  obtain ⟨own, hown⟩ : ∃ t, (shownE n.op).2 = t := ⟨_, rfl⟩
  rw [hsT, hown] at hlen HSH hsb ⊢
  rw [hown] at hline
  simp only [List.length_append] at hlen
  have e1 : decide ((own : Int) < (line : Int)) = false := decide_eq_false (by omega)
  have e1' : decide (own < line) = false := decide_eq_false (by omega)
  have e2 : (n.op == 2) = false := beq_eq_false_iff_ne.2 (by omega)
  have e3 : (n.op == 1) = false := beq_eq_false_iff_ne.2 (by omega)
  have HSP : Hid (∀ W, Below w.heap.size w W → Calls Tryz.prog 45 #[valN k (.slice a' c' d'), .int .i64 (own : Int)] W fun e w' => e = .returned (.string ⟨(spellE k own).toArray⟩) ∧ Below W.heap.size W w') := Lib.hid (fun W hW => hsk W B a' c' d' own (hg.up hW) (Nat.le_trans hB hW.size) (HK.out.up (hW.mono hB)).hk HK.out.hw hck' (by omega) (by omega))
  obtain ⟨S, hS⟩ : ∃ S : ByteArray, (⟨sT.toArray⟩ : ByteArray) = S := ⟨_, rfl⟩
  obtain ⟨T, hT⟩ : ∃ T : ByteArray, (⟨(spellE k own).toArray⟩ : ByteArray) = T := ⟨_, rfl⟩
  have hSz : S.size = sT.length := by rw [← hS]; exact size_mk _
  have hTz : T.size = (spellE k own).length := by rw [← hT]; exact size_mk _
  rw [hT] at HSP
  rw [hS] at HSH
  obtain ⟨y1, hy1, hz1, hr1⟩ := scat S T (by omega)
  have hy : Hid (y1 = ⟨(sT ++ spellE k own).toArray⟩) := Lib.hid (by
    rw [← hy1.out, ← hS, ← hT]
    apply ByteArray.ext
    apply Array.ext'
    simp [ByteArray.data_append])
  have hbB : b < w.heap.size := Nat.lt_of_lt_of_le hK.lt hB
  clear hab hcl hS hT hSz hTz hz1 hsT hown hsb hlen hsn hck hck' hk hks hsk hc hw n0 b0 hK ho
  go_enter Tryz.func45, Tryz.ntmps45
  go_wp2_with (first
    | (go_at_call 78; refine HSH.out.mono ?_; rintro e w2 ⟨rfl, hb2⟩; obtain ⟨x0, x1, x6⟩ : w2.cell? ⟨p0, 0, none⟩ = some (.int .u8 n.op) ∧ w2.cell? ⟨p0, 1, none⟩ = some (.int .u8 n.v.kind) ∧ w2.cell? ⟨p0, 6, none⟩ = some (.slice (some ⟨b, o, none⟩) 1 d) := (⟨(Below.cellB hb2 l0).trans g0, (Below.cellB hb2 l0).trans g1, (Below.cellB hb2 l0).trans (g6.trans (by rw [HAB.out]))⟩); have hbw := HB.out.trans (hb2.mono HB.out.size); have hKw := HK.out.up (hbw.mono hB); have z0 := hKw.q0; have z1 := hKw.q1; have z2 := hKw.q2; have z3 := hKw.q3; have z4 := hKw.q4; have z5 := hKw.q5; have z6 := hKw.q6; have HB2 := Lib.hid hbw; clear hb2 hbw hKw)
    | (go_at_call 45; refine (HSP.out _ HB2.out).mono ?_; rintro e w3 ⟨rfl, hb3⟩; have HB3 := Lib.hid hb3; clear hb3))
  go_ret
  exact ⟨by rw [hy.out]; rfl, HB2.out.trans (HB3.out.mono HB2.out.size)⟩
end Go.Proofs.YtbephgifbghilaaGreatDoor
/- expr.spell: nodes of two kids (seat expr). -/
set_option maxRecDepth 100000
namespace Go.Proofs.YtbephgifbghilaaGreatDoor
open Go.RowKit
/-- What the region that joins two kids' texts reads. -/
abbrev KidsS (p0 b o : Nat) (d : Nat) (k m : Nd) (a1 : Option Addr) (c1 d1 : Nat) (a2 : Option Addr) (c2 d2 : Nat) (w : World) : Prop :=
  w.cell? ⟨p0, 6, none⟩ = some (.slice (some ⟨b, o, none⟩) 2 d) ∧
  (w.cell? ⟨b, o, none⟩ = some (.int .u8 k.op) ∧ w.cell? ⟨b, o + 1, none⟩ = some (.int .u8 k.v.kind) ∧ w.cell? ⟨b, o + 2, none⟩ = some (.int .i64 k.v.num) ∧ w.cell? ⟨b, o + 3, none⟩ = some (.bool k.v.tr) ∧ w.cell? ⟨b, o + 4, none⟩ = some (.string k.v.text) ∧ w.cell? ⟨b, o + 5, none⟩ = some (.string k.name) ∧ w.cell? ⟨b, o + 6, none⟩ = some (.slice a1 c1 d1)) ∧
  (w.cell? ⟨b, o + 7, none⟩ = some (.int .u8 m.op) ∧ w.cell? ⟨b, o + 8, none⟩ = some (.int .u8 m.v.kind) ∧ w.cell? ⟨b, o + 9, none⟩ = some (.int .i64 m.v.num) ∧ w.cell? ⟨b, o + 10, none⟩ = some (.bool m.v.tr) ∧ w.cell? ⟨b, o + 11, none⟩ = some (.string m.v.text) ∧ w.cell? ⟨b, o + 12, none⟩ = some (.string m.name) ∧ w.cell? ⟨b, o + 13, none⟩ = some (.slice a2 c2 d2))
theorem KidsS.up {p0 b o d : Nat} {k m : Nd} {a1 : Option Addr} {c1 d1 : Nat} {a2 : Option Addr} {c2 d2 : Nat} {w w' : World} (h : KidsS p0 b o d k m a1 c1 d1 a2 c2 d2 w) (hb : Below w.heap.size w w') : KidsS p0 b o d k m a1 c1 d1 a2 c2 d2 w' := by
  obtain ⟨h0, ⟨h1, h2, h3, h4, h5, h6, h7⟩, g1, g2, g3, g4, g5, g6, g7⟩ := h
  exact ⟨cell_kept h0 hb, ⟨cell_kept h1 hb, cell_kept h2 hb, cell_kept h3 hb, cell_kept h4 hb, cell_kept h5 hb, cell_kept h6 hb, cell_kept h7 hb⟩, cell_kept g1 hb, cell_kept g2 hb, cell_kept g3 hb, cell_kept g4 hb, cell_kept g5 hb, cell_kept g6 hb, cell_kept g7 hb⟩
theorem two_of {w : World} {B : Nat} {a : Option Addr} {n cap : Nat} {k m : Nd} (h : KidsR w B (.slice a n cap) [k, m]) : n = 2 ∧ ∃ b o a1 c1 d1 a2 c2 d2, a = some ⟨b, o, none⟩ ∧ KidS w B b o k a1 c1 d1 ∧ KidS w B b (o + 7) m a2 c2 d2 := by
  refine ⟨?_, ?_⟩
  · obtain ⟨a1, d1, hv⟩ := h.val
    injection hv
  · obtain ⟨b, o, a1, c1, d1, e1, h1⟩ := KidS.of h (i := 0) (by simp)
    obtain ⟨b', o', a2, c2, d2, e2, h2⟩ := KidS.of h (i := 1) (by simp)
    rw [e1] at e2
    injection e2 with e2
    injection e2 with e3 e4
    subst e3 e4
    rw [Nat.zero_mul, Nat.add_zero] at h1
    rw [Nat.one_mul] at h2
    exact ⟨b, o, a1, c1, d1, a2, c2, d2, e1, h1, h2⟩
set_option maxHeartbeats 8000000 in
theorem spell_k2a (n k m : Nd) (hks : n.kids = [k, m]) (ho : 5 ≤ n.op) (h4 : (shownE n.op).2 = 4) (hck : checkN n = true → checkN k = true ∧ checkN m = true) (hsk : SpellC k) (hsm : SpellC m) : SpellC n := by
  refine spell_wrap fun w B a c d line hg hB hk hw hc hline hlen => ?_
  have hsn : showN n = spellE k 5 ++ (shownE n.op).1 ++ spellE m 5 := by
    obtain ⟨op, v, nm, ks⟩ := n
    have h1 : ks = [k, m] := hks
    subst h1
    have h2 := spell_two op (by have : 5 ≤ op := ho; omega) v nm k m
    have h4' : (shownE op).2 = 4 := h4
    rw [if_pos h4'] at h2
    exact h2
  obtain ⟨hck1, hck2⟩ := hck hc
  rw [hks] at hk
  obtain ⟨hcl, b, o, a1, c1, d1, a2, c2, d2, hab, hK1, hK2⟩ := two_of hk
  have HAB : Hid (Value.slice a c d = .slice (some ⟨b, o, none⟩) 2 d) := Lib.hid (by rw [hab, hcl])
  have hsb := shown_bound n.op
  rw [hsn] at hlen ⊢
  obtain ⟨w1, p0, hp0, hw1, l0, n0, b0⟩ := box_new w (.cells #[.int .u8 n.op, .int .u8 n.v.kind, .int .i64 n.v.num, .bool n.v.tr, .string n.v.text, .string n.name, .slice a c d] 29)
  obtain ⟨g0, g1, g2, g3, g4, g5, g6, gf⟩ := n7_cells n0
  have HSH := Lib.hid (shown_any w1 n a c d)
  have HB := Lib.hid b0
  have HK1 := Lib.hid hK1
  have HK2 := Lib.hid hK2
  obtain ⟨sT, hsT⟩ : ∃ t, (shownE n.op).1 = t := ⟨_, rfl⟩
  rw [hsT, h4] at HSH
  rw [hsT] at hlen hsb ⊢
  rw [h4] at hline
  simp only [List.length_append] at hlen
  have e1 : decide ((4 : Int) < (line : Int)) = false := decide_eq_false (by omega)
  have e1' : decide (4 < line) = false := decide_eq_false (by omega)
  have hwr : IntKind.i64.wrap 5 = 5 := IntWalk.i64_in _ (by omega)
  have HSH : Hid (Calls Tryz.prog 78 #[valN n (.slice a c d)] w1 fun e w' => e = .returned (.tuple #[.string ⟨sT.toArray⟩, .int .i64 4]) ∧ Below w1.heap.size w1 w') := HSH
  have e2 : (n.op == 2) = false := beq_eq_false_iff_ne.2 (by omega)
  have e3 : (n.op == 1) = false := beq_eq_false_iff_ne.2 (by omega)
  have HS1 : Hid (∀ W, Below w.heap.size w W → Calls Tryz.prog 45 #[valN k (.slice a1 c1 d1), .int .i64 5] W fun e w' => e = .returned (.string ⟨(spellE k 5).toArray⟩) ∧ Below W.heap.size W w') := Lib.hid (fun W hW => hsk W B a1 c1 d1 5 (hg.up hW) (Nat.le_trans hB hW.size) (HK1.out.up (hW.mono hB)).hk HK1.out.hw hck1 (by omega) (by omega))
  have HS2 : Hid (∀ W, Below w.heap.size w W → Calls Tryz.prog 45 #[valN m (.slice a2 c2 d2), .int .i64 5] W fun e w' => e = .returned (.string ⟨(spellE m 5).toArray⟩) ∧ Below W.heap.size W w') := Lib.hid (fun W hW => by
    have := hsm W B a2 c2 d2 5 (hg.up hW) (Nat.le_trans hB hW.size) (HK2.out.up (hW.mono hB)).hk HK2.out.hw hck2 (by omega) (by omega)
    exact this)
  obtain ⟨S, hS⟩ : ∃ S : ByteArray, (⟨sT.toArray⟩ : ByteArray) = S := ⟨_, rfl⟩
  obtain ⟨T1, hT1⟩ : ∃ T : ByteArray, (⟨(spellE k 5).toArray⟩ : ByteArray) = T := ⟨_, rfl⟩
  obtain ⟨T2, hT2⟩ : ∃ T : ByteArray, (⟨(spellE m 5).toArray⟩ : ByteArray) = T := ⟨_, rfl⟩
  have hSz : S.size = sT.length := by rw [← hS]; exact size_mk _
  have hTz1 : T1.size = (spellE k 5).length := by rw [← hT1]; exact size_mk _
  have hTz2 : T2.size = (spellE m 5).length := by rw [← hT2]; exact size_mk _
  rw [hT1] at HS1
  rw [hT2] at HS2
  rw [hS] at HSH
  obtain ⟨y1, hy1, hz1, hr1⟩ := scat T1 S (by omega)
  obtain ⟨y2, hy2, hz2, hr2⟩ := scat y1 T2 (by omega)
  have hy : Hid (y2 = ⟨(spellE k 5 ++ sT ++ spellE m 5).toArray⟩) := Lib.hid (by
    rw [← hy2.out, ← hy1.out, ← hS, ← hT1, ← hT2]
    apply ByteArray.ext
    apply Array.ext'
    simp [ByteArray.data_append])
  have hbB : b < w.heap.size := Nat.lt_of_lt_of_le hK1.lt hB
  clear hab hcl hS hT1 hT2 hSz hTz1 hTz2 hz1 hz2 hsT hsb hlen hsn hck hck1 hck2 hk hks hsk hsm hc hw n0 b0 hK1 hK2 ho h4
  go_enter Tryz.func45, Tryz.ntmps45
  go_upto_region 15 with (go_at_call 78; refine HSH.out.mono ?_; rintro e w2 ⟨rfl, hb2⟩; obtain ⟨x0, x1, x6⟩ : w2.cell? ⟨p0, 0, none⟩ = some (.int .u8 n.op) ∧ w2.cell? ⟨p0, 1, none⟩ = some (.int .u8 n.v.kind) ∧ w2.cell? ⟨p0, 6, none⟩ = some (.slice (some ⟨b, o, none⟩) 2 d) := (⟨(Below.cellB hb2 l0).trans g0, (Below.cellB hb2 l0).trans g1, (Below.cellB hb2 l0).trans (g6.trans (by rw [HAB.out]))⟩); have hbw := HB.out.trans (hb2.mono HB.out.size); have HKS : Hid (KidsS p0 b o d k m a1 c1 d1 a2 c2 d2 w2) := Lib.hid (by have h1 := HK1.out.up (hbw.mono hB); have h2 := HK2.out.up (hbw.mono hB); exact ⟨x6, ⟨h1.q0, h1.q1, h1.q2, h1.q3, h1.q4, h1.q5, h1.q6⟩, h2.q0, h2.q1, h2.q2, h2.q3, h2.q4, h2.q5, h2.q6⟩); have HB2 := Lib.hid hbw; clear hb2 hbw)
  have curB : Hid (Below w.heap.size w w2.drew) := Lib.hid HB2.out.drew
  have curK : Hid (KidsS p0 b o d k m a1 c1 d1 a2 c2 d2 w2.drew) := Lib.hid HKS.out
  go_region_held3 (fun w' => KidsS p0 b o d k m a1 c1 d1 a2 c2 d2 w') (first | exact curK.out | exact curK.out.drew)
    (first
      | (go_at_call 45; (with_reducible refine (HS1.out _ curB.out).mono ?_); rintro e w3 ⟨rfl, hb3⟩; have curK := Lib.hid (curK.out.up hb3); have curB := Lib.hid (curB.out.trans (hb3.mono curB.out.size)); clear hb3)
      | (go_at_call 45; (with_reducible refine (HS2.out _ curB.out).mono ?_); rintro e w3 ⟨rfl, hb3⟩; have curK := Lib.hid (curK.out.up hb3); have curB := Lib.hid (curB.out.trans (hb3.mono curB.out.size)); clear hb3))
  all_goals
    go_wp2_with fail
    go_ret
    exact ⟨by rw [hy.out]; rfl, curB.out⟩
set_option maxHeartbeats 8000000 in
theorem spell_k2b (n k m : Nd) (hks : n.kids = [k, m]) (ho : 5 ≤ n.op) (h4 : (shownE n.op).2 ≠ 4) (hck : checkN n = true → checkN k = true ∧ checkN m = true) (hsk : SpellC k) (hsm : SpellC m) : SpellC n := by
  refine spell_wrap fun w B a c d line hg hB hk hw hc hline hlen => ?_
  have hsn : showN n = spellE k (shownE n.op).2 ++ (shownE n.op).1 ++ spellE m ((shownE n.op).2 + 1) := by
    obtain ⟨op, v, nm, ks⟩ := n
    have h1 : ks = [k, m] := hks
    subst h1
    have h2 := spell_two op (by have : 5 ≤ op := ho; omega) v nm k m
    have h4' : (shownE op).2 ≠ 4 := h4
    rw [if_neg h4'] at h2
    exact h2
  obtain ⟨hck1, hck2⟩ := hck hc
  rw [hks] at hk
  obtain ⟨hcl, b, o, a1, c1, d1, a2, c2, d2, hab, hK1, hK2⟩ := two_of hk
  have HAB : Hid (Value.slice a c d = .slice (some ⟨b, o, none⟩) 2 d) := Lib.hid (by rw [hab, hcl])
  have hsb := shown_bound n.op
  rw [hsn] at hlen ⊢
  obtain ⟨w1, p0, hp0, hw1, l0, n0, b0⟩ := box_new w (.cells #[.int .u8 n.op, .int .u8 n.v.kind, .int .i64 n.v.num, .bool n.v.tr, .string n.v.text, .string n.name, .slice a c d] 29)
  obtain ⟨g0, g1, g2, g3, g4, g5, g6, gf⟩ := n7_cells n0
  have HSH := Lib.hid (shown_any w1 n a c d)
  have HB := Lib.hid b0
  have HK1 := Lib.hid hK1
  have HK2 := Lib.hid hK2
  obtain ⟨sT, hsT⟩ : ∃ t, (shownE n.op).1 = t := ⟨_, rfl⟩
  obtain ⟨own, hown⟩ : ∃ t, (shownE n.op).2 = t := ⟨_, rfl⟩
  rw [hsT, hown] at hlen HSH hsb ⊢
  rw [hown] at hline h4
  simp only [List.length_append] at hlen
  have e1 : decide ((own : Int) < (line : Int)) = false := decide_eq_false (by omega)
  have e1' : decide (own < line) = false := decide_eq_false (by omega)
  have e4 : ((own : Int) == 4) = false := beq_eq_false_iff_ne.2 (by omega)
  have e4' : (own == 4) = false := beq_eq_false_iff_ne.2 h4
  have hwr : IntKind.i64.wrap ((own : Int) + 1) = (own : Int) + 1 := IntWalk.i64_in _ (by omega)
  have e2 : (n.op == 2) = false := beq_eq_false_iff_ne.2 (by omega)
  have e3 : (n.op == 1) = false := beq_eq_false_iff_ne.2 (by omega)
  have HS1 : Hid (∀ W, Below w.heap.size w W → Calls Tryz.prog 45 #[valN k (.slice a1 c1 d1), .int .i64 (own : Int)] W fun e w' => e = .returned (.string ⟨(spellE k own).toArray⟩) ∧ Below W.heap.size W w') := Lib.hid (fun W hW => hsk W B a1 c1 d1 own (hg.up hW) (Nat.le_trans hB hW.size) (HK1.out.up (hW.mono hB)).hk HK1.out.hw hck1 (by omega) (by omega))
  have HS2 : Hid (∀ W, Below w.heap.size w W → Calls Tryz.prog 45 #[valN m (.slice a2 c2 d2), .int .i64 ((own : Int) + 1)] W fun e w' => e = .returned (.string ⟨(spellE m (own + 1)).toArray⟩) ∧ Below W.heap.size W w') := Lib.hid (fun W hW => by
    have := hsm W B a2 c2 d2 (own + 1) (hg.up hW) (Nat.le_trans hB hW.size) (HK2.out.up (hW.mono hB)).hk HK2.out.hw hck2 (by omega) (by omega)
    rw [show ((own + 1 : Nat) : Int) = (own : Int) + 1 from by omega] at this
    exact this)
  obtain ⟨S, hS⟩ : ∃ S : ByteArray, (⟨sT.toArray⟩ : ByteArray) = S := ⟨_, rfl⟩
  obtain ⟨T1, hT1⟩ : ∃ T : ByteArray, (⟨(spellE k own).toArray⟩ : ByteArray) = T := ⟨_, rfl⟩
  obtain ⟨T2, hT2⟩ : ∃ T : ByteArray, (⟨(spellE m (own + 1)).toArray⟩ : ByteArray) = T := ⟨_, rfl⟩
  have hSz : S.size = sT.length := by rw [← hS]; exact size_mk _
  have hTz1 : T1.size = (spellE k own).length := by rw [← hT1]; exact size_mk _
  have hTz2 : T2.size = (spellE m (own + 1)).length := by rw [← hT2]; exact size_mk _
  rw [hT1] at HS1
  rw [hT2] at HS2
  rw [hS] at HSH
  obtain ⟨y1, hy1, hz1, hr1⟩ := scat T1 S (by omega)
  obtain ⟨y2, hy2, hz2, hr2⟩ := scat y1 T2 (by omega)
  have hy : Hid (y2 = ⟨(spellE k own ++ sT ++ spellE m (own + 1)).toArray⟩) := Lib.hid (by
    rw [← hy2.out, ← hy1.out, ← hS, ← hT1, ← hT2]
    apply ByteArray.ext
    apply Array.ext'
    simp [ByteArray.data_append])
  have hbB : b < w.heap.size := Nat.lt_of_lt_of_le hK1.lt hB
  clear hab hcl hS hT1 hT2 hSz hTz1 hTz2 hz1 hz2 hsT hsb hlen hsn hck hck1 hck2 hk hks hsk hsm hc hw n0 b0 hK1 hK2 ho h4 hown
  go_enter Tryz.func45, Tryz.ntmps45
  go_upto_region 16 with (go_at_call 78; refine HSH.out.mono ?_; rintro e w2 ⟨rfl, hb2⟩; obtain ⟨x0, x1, x6⟩ : w2.cell? ⟨p0, 0, none⟩ = some (.int .u8 n.op) ∧ w2.cell? ⟨p0, 1, none⟩ = some (.int .u8 n.v.kind) ∧ w2.cell? ⟨p0, 6, none⟩ = some (.slice (some ⟨b, o, none⟩) 2 d) := (⟨(Below.cellB hb2 l0).trans g0, (Below.cellB hb2 l0).trans g1, (Below.cellB hb2 l0).trans (g6.trans (by rw [HAB.out]))⟩); have hbw := HB.out.trans (hb2.mono HB.out.size); have HKS : Hid (KidsS p0 b o d k m a1 c1 d1 a2 c2 d2 w2) := Lib.hid (by have h1 := HK1.out.up (hbw.mono hB); have h2 := HK2.out.up (hbw.mono hB); exact ⟨x6, ⟨h1.q0, h1.q1, h1.q2, h1.q3, h1.q4, h1.q5, h1.q6⟩, h2.q0, h2.q1, h2.q2, h2.q3, h2.q4, h2.q5, h2.q6⟩); have HB2 := Lib.hid hbw; clear hb2 hbw)
  have curB : Hid (Below w.heap.size w w2.drew) := Lib.hid HB2.out.drew
  have curK : Hid (KidsS p0 b o d k m a1 c1 d1 a2 c2 d2 w2.drew) := Lib.hid HKS.out
  go_region_held3 (fun w' => KidsS p0 b o d k m a1 c1 d1 a2 c2 d2 w') (first | exact curK.out | exact curK.out.drew)
    (first
      | (go_at_call 45; (with_reducible refine (HS1.out _ curB.out).mono ?_); rintro e w3 ⟨rfl, hb3⟩; have curK := Lib.hid (curK.out.up hb3); have curB := Lib.hid (curB.out.trans (hb3.mono curB.out.size)); clear hb3)
      | (go_at_call 45; (with_reducible refine (HS2.out _ curB.out).mono ?_); rintro e w3 ⟨rfl, hb3⟩; have curK := Lib.hid (curK.out.up hb3); have curB := Lib.hid (curB.out.trans (hb3.mono curB.out.size)); clear hb3))
  all_goals
    go_wp2_with fail
    go_ret
    exact ⟨by rw [hy.out]; rfl, curB.out⟩
end Go.Proofs.YtbephgifbghilaaGreatDoor
/- expr.spell at every node; expr.Print (seat expr). -/
set_option maxRecDepth 100000
namespace Go.Proofs.YtbephgifbghilaaGreatDoor
open Go.RowKit
theorem check_parts {op : Int} {v : Vl} {nm : ByteArray} {ks : List Nd} (h : checkN (.mk op v nm ks) = true) : (ks.length : Int) = kidsN op ∧ checkL ks = true ∧ 1 ≤ op ∧ op ≤ 17 := by
  have h' : (headB op v nm ks.length && checkL ks) = true := h
  rw [Bool.and_eq_true] at h'
  obtain ⟨k1, k2⟩ := head_facts h'.1
  refine ⟨k1, h'.2, ?_⟩
  unfold kidsN at k1
  split at k1
  · omega
  · omega
mutual
theorem spell_N : ∀ n : Nd, SpellC n
  | .mk op v nm ks => by
    have hL := spell_L ks
    by_cases hc : checkN (.mk op v nm ks) = true
    · obtain ⟨h1, h2, h3, h4⟩ := check_parts hc
      by_cases h12 : op ≤ 2
      · exact spell_leaf _ (by show op = 1 ∨ op = 2; omega)
      · by_cases h34 : op ≤ 4
        · have hl : ks.length = 1 := by
            unfold kidsN at h1
            rw [if_neg (by omega), if_neg h12, if_pos h34] at h1
            omega
          match ks, hl, hL, h2 with
          | [k], _, hL, h2 =>
            have h5 : checkN k = true := by
              have h6 : (checkN k && true) = true := h2
              simpa using h6
            exact spell_k1 _ k rfl (by show op = 3 ∨ op = 4; omega) (fun _ => h5) (hL k (by simp))
        · have hl : ks.length = 2 := by
            unfold kidsN at h1
            rw [if_neg (by omega), if_neg h12, if_neg h34] at h1
            omega
          match ks, hl, hL, h2 with
          | [k, m], _, hL, h2 =>
            have h5 : checkN k = true ∧ checkN m = true := by
              have h6 : (checkN k && (checkN m && true)) = true := h2
              rw [Bool.and_eq_true, Bool.and_eq_true] at h6
              exact ⟨h6.1, h6.2.1⟩
            by_cases h4' : (shownE op).2 = 4
            · exact spell_k2a _ k m rfl (by show 5 ≤ op; omega) h4' (fun _ => h5) (hL k (by simp)) (hL m (by simp))
            · exact spell_k2b _ k m rfl (by show 5 ≤ op; omega) h4' (fun _ => h5) (hL k (by simp)) (hL m (by simp))
    · intro w B a c d line _ _ _ _ hc'
      exact absurd hc' hc
theorem spell_L : ∀ ks : List Nd, ∀ k ∈ ks, SpellC k
  | [], k, h => by cases h
  | a :: r, k, h => by
    have ha := spell_N a
    rcases List.mem_cons.1 h with h | h
    · rw [h]; exact ha
    · exact spell_L r k h
end
set_option maxHeartbeats 4000000 in
theorem print_any (w : World) (hg : Gp w) (hT : Tabs8 w) (n : Nd) (a : Option Addr) (c d : Nat) (hk : KidsR w w.heap.size (.slice a c d) n.kids) (hw : HeadW n) (hlen : checkN n = true → (spellE n 1).length ≤ 1000000000) :
    Calls Tryz.prog 13 #[valN n (.slice a c d)] w fun e w' => e = .returned (.tuple #[.string ⟨(printE n).1.toArray⟩, .int .i64 (printE n).2]) ∧ Below w.heap.size w w' := by
  obtain ⟨w1, p0, hp0, hw1, l0, n0, b0⟩ := box_new w (.cells #[.int .u8 n.op, .int .u8 n.v.kind, .int .i64 n.v.num, .bool n.v.tr, .string n.v.text, .string n.name, .slice a c d] 29)
  obtain ⟨g0, g1, g2, g3, g4, g5, g6, gf⟩ := n7_cells n0
  have HCK := Lib.hid (check_N n hw w1 (.slice a c d) (Utf8Tabs_below hT b0) (hk.mono b0 b0.size))
  have HB := Lib.hid b0
  have HHW := Lib.hid hw
  clear n0 b0 hT hw
  cases hcn : checkN n with
  | false =>
    have hp : Hid (printE n = ([], 1)) := Lib.hid (by unfold printE; rw [if_neg (by rw [hcn]; decide)])
    rw [hcn] at HCK
    clear hcn hlen hk
    go_enter Tryz.func13, Tryz.ntmps13
    go_wp2_with (go_at_call 14; refine HCK.out.mono ?_; rintro e w2 ⟨rfl, hb2⟩; have HB2 := Lib.hid hb2; clear hb2)
    go_ret2
    rw [hp.out]
    exact ⟨rfl, HB.out.trans (HB2.out.mono HB.out.size)⟩
  | true =>
    have hl := hlen hcn
    have HSP : Hid (∀ W, Below w.heap.size w W → Calls Tryz.prog 45 #[valN n (.slice a c d), .int .i64 1] W fun e w' => e = .returned (.string ⟨(spellE n 1).toArray⟩) ∧ Below W.heap.size W w') := Lib.hid (fun W hW => spell_N n W w.heap.size a c d 1 (hg.up hW) hW.size (hk.mono hW (Nat.le_refl _)) HHW.out hcn (by omega) hl)
    have hpp : Hid (printE n = if (spellE n 1).length ≤ 256 then (spellE n 1, 0) else ([], 3)) := Lib.hid (by unfold printE; rw [if_pos hcn])
    rw [hcn] at HCK
    obtain ⟨T, hT⟩ : ∃ T : ByteArray, (⟨(spellE n 1).toArray⟩ : ByteArray) = T := ⟨_, rfl⟩
    have hTz : T.size = (spellE n 1).length := by rw [← hT]; exact size_mk _
    rw [hT] at HSP
    have HT := Lib.hid hT
    by_cases h256 : (spellE n 1).length ≤ 256
    · have e1 : decide ((256 : Int) < (T.size : Int)) = false := decide_eq_false (by omega)
      have e1' : decide (256 < T.size) = false := decide_eq_false (by omega)
      have hp : Hid (printE n = (spellE n 1, 0)) := Lib.hid (by rw [hpp.out, if_pos h256])
      clear hcn hlen hl hk hT hTz h256
      go_enter Tryz.func13, Tryz.ntmps13
      go_wp2_with (first
        | (go_at_call 14; refine HCK.out.mono ?_; rintro e w2 ⟨rfl, hb2⟩; obtain ⟨x0, x1, x2, x3, x4, x5, x6⟩ : w2.cell? ⟨p0, 0, none⟩ = some (.int .u8 n.op) ∧ w2.cell? ⟨p0, 1, none⟩ = some (.int .u8 n.v.kind) ∧ w2.cell? ⟨p0, 2, none⟩ = some (.int .i64 n.v.num) ∧ w2.cell? ⟨p0, 3, none⟩ = some (.bool n.v.tr) ∧ w2.cell? ⟨p0, 4, none⟩ = some (.string n.v.text) ∧ w2.cell? ⟨p0, 5, none⟩ = some (.string n.name) ∧ w2.cell? ⟨p0, 6, none⟩ = some (.slice a c d) := (⟨(Below.cellB hb2 l0).trans g0, (Below.cellB hb2 l0).trans g1, (Below.cellB hb2 l0).trans g2, (Below.cellB hb2 l0).trans g3, (Below.cellB hb2 l0).trans g4, (Below.cellB hb2 l0).trans g5, (Below.cellB hb2 l0).trans g6⟩); have HB2 := Lib.hid (HB.out.trans (hb2.mono HB.out.size)); clear hb2)
        | (go_at_call 45; refine (HSP.out _ HB2.out).mono ?_; rintro e w3 ⟨rfl, hb3⟩; have HB3 := Lib.hid hb3; clear hb3))
      go_ret2
      rw [hp.out, HT.out]
      exact ⟨rfl, HB2.out.trans (HB3.out.mono HB2.out.size)⟩
    · have e1 : decide ((256 : Int) < (T.size : Int)) = true := decide_eq_true (by omega)
      have e1' : decide (256 < T.size) = true := decide_eq_true (by omega)
      have hp : Hid (printE n = ([], 3)) := Lib.hid (by rw [hpp.out, if_neg h256])
      clear hcn hlen hl hk hT hTz h256
      go_enter Tryz.func13, Tryz.ntmps13
      go_wp2_with (first
        | (go_at_call 14; refine HCK.out.mono ?_; rintro e w2 ⟨rfl, hb2⟩; obtain ⟨x0, x1, x2, x3, x4, x5, x6⟩ : w2.cell? ⟨p0, 0, none⟩ = some (.int .u8 n.op) ∧ w2.cell? ⟨p0, 1, none⟩ = some (.int .u8 n.v.kind) ∧ w2.cell? ⟨p0, 2, none⟩ = some (.int .i64 n.v.num) ∧ w2.cell? ⟨p0, 3, none⟩ = some (.bool n.v.tr) ∧ w2.cell? ⟨p0, 4, none⟩ = some (.string n.v.text) ∧ w2.cell? ⟨p0, 5, none⟩ = some (.string n.name) ∧ w2.cell? ⟨p0, 6, none⟩ = some (.slice a c d) := (⟨(Below.cellB hb2 l0).trans g0, (Below.cellB hb2 l0).trans g1, (Below.cellB hb2 l0).trans g2, (Below.cellB hb2 l0).trans g3, (Below.cellB hb2 l0).trans g4, (Below.cellB hb2 l0).trans g5, (Below.cellB hb2 l0).trans g6⟩); have HB2 := Lib.hid (HB.out.trans (hb2.mono HB.out.size)); clear hb2)
        | (go_at_call 45; refine (HSP.out _ HB2.out).mono ?_; rintro e w3 ⟨rfl, hb3⟩; have HB3 := Lib.hid hb3; clear hb3))
      go_ret2
      rw [hp.out]
      exact ⟨rfl, HB2.out.trans (HB3.out.mono HB2.out.size)⟩
end Go.Proofs.YtbephgifbghilaaGreatDoor
