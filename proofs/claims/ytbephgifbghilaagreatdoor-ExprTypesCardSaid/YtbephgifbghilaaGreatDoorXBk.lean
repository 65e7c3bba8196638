/- Texts fused by fuse.py: WireNumP, ExprSatP, ExprLexP, ExprBackP, ExprFew, ExprFewP, ExprKidsO, ExprGiven, ExprSame, LExprBack. -/
import Derived.Lib.AtoiAllCases
import Derived.Lib.ItoaNum
import Derived.Test.YtbephgifbghilaaGreatDoorXPar
import Derived.Test.YtbephgifbghilaaGreatDoorXPrint
import Derived.Lib.CountLaws
import Derived.Test.YtbephgifbghilaaGreatDoorXTyp
import Derived.Test.YtbephgifbghilaaGreatDoorEvalReck2
import Derived.Test.YtbephgifbghilaaGreatDoorStepOwn
import Derived.Test.YtbephgifbghilaaGreatDoorXPars
import Derived.Test.YtbephgifbghilaaGreatDoorEvalVal
import Derived.Laws.NewBlocks
import Derived.Test.YtbephgifbghilaaGreatDoorXOpn
import Derived.Deep.CutBlock
/- Numbers and their texts (word.Number, Parse; tollgateref01's): plain, no program in sight. -/
set_option maxRecDepth 100000
namespace Go.Proofs.YtbephgifbghilaaGreatDoor
open Go.Lib

def isDig (c : UInt8) : Prop := 48 ≤ c.toNat ∧ c.toNat ≤ 57
def stepD (a : Nat) (c : UInt8) : Nat := a * 10 + (c.toNat - 48)
def valD (l : List UInt8) : Nat := l.foldl stepD 0
theorem ofNat_dig {k : Nat} (h : k < 10) : (UInt8.ofNat (48 + k)).toNat = 48 + k := by
  rw [UInt8.toNat_ofNat']
  omega
theorem decDigits_dig (u : Nat) : ∀ c ∈ decDigits u, isDig c := by
  induction u using Nat.strongRecOn with
  | _ u ih =>
    intro c hc
    rw [decDigits] at hc
    split at hc
    · next h =>
      rw [List.mem_singleton] at hc
      subst hc
      unfold isDig
      rw [ofNat_dig h]
      omega
    · next h =>
      rw [List.mem_append, List.mem_singleton] at hc
      rcases hc with hc | hc
      · exact ih (u / 10) (by omega) c hc
      · subst hc
        unfold isDig
        rw [ofNat_dig (by omega)]
        omega
theorem valD_app (l : List UInt8) (c : UInt8) : valD (l ++ [c]) = valD l * 10 + (c.toNat - 48) := by
  unfold valD
  rw [List.foldl_append]
  rfl
theorem valD_dec (u : Nat) : valD (decDigits u) = u := by
  induction u using Nat.strongRecOn with
  | _ u ih =>
    rw [decDigits]
    split
    · next h =>
      have := valD_app [] (UInt8.ofNat (48 + u))
      rw [List.nil_append, ofNat_dig h] at this
      rw [this]
      show 0 * 10 + _ = _
      omega
    · next h =>
      rw [valD_app, ih (u / 10) (by omega), ofNat_dig (by omega)]
      omega
theorem decDigits_ne (u : Nat) : decDigits u ≠ [] := by
  intro h
  have := decDigits_length u
  rw [h] at this
  have := nDigits_pos u
  simp at *
  omega
theorem nDigits_le : ∀ (k u : Nat), u < 10 ^ (k + 1) → nDigits u ≤ k + 1
  | 0, u, h => by rw [nDigits_small (by simpa using h)]; exact Nat.le_refl _
  | k + 1, u, h => by
    by_cases h1 : u < 10
    · rw [nDigits_small h1]; omega
    · rw [nDigits_big h1]
      have := nDigits_le k (u / 10) (by rw [Nat.pow_succ] at h; omega)
      omega
theorem foldl_ge : ∀ (l : List UInt8) (a : Nat), a ≤ l.foldl stepD a
  | [], _ => Nat.le_refl _
  | c :: r, a => Nat.le_trans (by unfold stepD; omega) (foldl_ge r (stepD a c))
theorem parseUint10_val : ∀ (l : List UInt8) (a : Nat), (∀ c ∈ l, isDig c) → l.foldl stepD a < 18446744073709551616 → parseUint10 a l = .ok (l.foldl stepD a)
  | [], a, _, _ => rfl
  | c :: r, a, hd, hv => by
    have hc := hd c List.mem_cons_self
    have hge := foldl_ge r (stepD a c)
    have e : (c :: r).foldl stepD a = r.foldl stepD (stepD a c) := rfl
    rw [e] at hv ⊢
    have h2 : stepD a c = a * 10 + (c.toNat - 48) := rfl
    unfold isDig at hc
    simp only [parseUint10]
    rw [if_pos hc, if_neg (by omega), if_neg (by omega), ← h2]
    exact parseUint10_val r _ (fun x hx => hd x (List.mem_cons_of_mem _ hx)) hv
theorem parseMag_dec {u : Nat} (h : u < 18446744073709551616) : parseMag (decDigits u) = .ok u := by
  have hv := valD_dec u
  unfold valD at hv
  unfold parseMag
  rw [if_neg (decDigits_ne u), parseUint10_val _ 0 (decDigits_dig u) (by rw [hv]; exact h), hv]

/-- A number that an int64 holds. -/
def I64n (v : Int) : Prop := -9223372036854775808 ≤ v ∧ v ≤ 9223372036854775807
theorem atoiAll_itoa {v : Int} (h : I64n v) : atoiAll (itoa v) = .ok v := by
  unfold I64n at h
  unfold itoa
  split
  · next hn =>
    rw [atoiAll_minus, parseMag_dec (by omega)]
    unfold signed
    simp only
    rw [if_neg (by omega)]
    congr 1
    omega
  · next hn =>
    cases hd : decDigits v.toNat with
    | nil => exact absurd hd (decDigits_ne _)
    | cons c r =>
      have hc := decDigits_dig v.toNat c (by rw [hd]; exact List.mem_cons_self)
      unfold isDig at hc
      rw [atoiAll_plain c r (by omega) (by omega), ← hd, parseMag_dec (by omega)]
      unfold signless
      simp only
      rw [if_neg (by omega)]
      congr 1
      omega

/-- The number whose text stands there. -/
def parseW (s : List UInt8) : Option Int :=
  match atoiAll s with
  | .ok v => if itoa v = s then some v else none
  | _ => none
theorem parseW_iff {s : List UInt8} {v : Int} : parseW s = some v ↔ I64n v ∧ itoa v = s := by
  unfold parseW
  constructor
  · intro h
    split at h
    · next x hx =>
      split at h
      · next he =>
        injection h with h
        subst h
        exact ⟨atoiAll_bounds hx, he⟩
      · cases h
    · cases h
  · rintro ⟨hv, rfl⟩
    rw [atoiAll_itoa hv]
    simp
theorem parseW_none {s : List UInt8} (h : ∀ v, I64n v → itoa v ≠ s) : parseW s = none := by
  cases hp : parseW s with
  | none => rfl
  | some v => exact absurd (parseW_iff.1 hp).2 (h v (parseW_iff.1 hp).1)

/-- What the digits come to, with the sign. -/
def sval (s : List UInt8) : Int :=
  match s with
  | [] => 0
  | c :: r => if c.toNat = 45 then -(valD r : Int) else (valD (c :: r) : Int)
theorem sval_minus {c : UInt8} {r : List UInt8} (h : c.toNat = 45) : sval (c :: r) = -(valD r : Int) := by unfold sval; simp only; rw [if_pos h]
theorem sval_plain {c : UInt8} {r : List UInt8} (h : c.toNat ≠ 45) : sval (c :: r) = (valD (c :: r) : Int) := by unfold sval; simp only; rw [if_neg h]
theorem sval_itoa (v : Int) : sval (itoa v) = v := by
  unfold itoa
  split
  · next hn =>
    rw [sval_minus rfl, valD_dec]
    omega
  · next hn =>
    cases hd : decDigits v.toNat with
    | nil => exact absurd hd (decDigits_ne _)
    | cons c r =>
      have hc := decDigits_dig v.toNat c (by rw [hd]; exact List.mem_cons_self)
      unfold isDig at hc
      rw [sval_plain (by omega), ← hd, valD_dec]
      omega
theorem rparse_yes {s : List UInt8} {n : Int} (hb : I64n n) (h : itoa n = s) : parseW s = some n := parseW_iff.2 ⟨hb, h⟩
theorem rparse_no {s : List UInt8} {n : Int} (hb : I64n n) (hm : (n - sval s) % 18446744073709551616 = 0) (h : itoa n ≠ s) : parseW s = none :=
  parseW_none fun v hv e => h (by
    have e2 := sval_itoa v
    rw [e] at e2
    rw [e2] at hm
    unfold I64n at hb hv
    obtain rfl : n = v := by omega
    exact e)
theorem itoa_len {v : Int} (h : I64n v) : (itoa v).length ≤ 20 := by
  unfold I64n at h
  unfold itoa
  split
  · rw [List.length_cons, decDigits_length]
    have := nDigits_le 18 v.natAbs (by simp; omega)
    omega
  · rw [decDigits_length]
    have := nDigits_le 18 v.toNat (by simp; omega)
    omega
theorem parseW_long {s : List UInt8} (h : 20 < s.length) : parseW s = none := parseW_none fun v hv e => by
  have := itoa_len hv
  rw [e] at this
  omega
theorem itoa_at {v : Int} {s : List UInt8} {k : Nat} (e : itoa v = s) (hk : k < s.length) : isDig s[k] ∨ (k = 0 ∧ s[k].toNat = 45) := by
  unfold itoa at e
  by_cases hn : v < 0
  · rw [if_pos hn] at e
    subst e
    cases k with
    | zero => exact .inr ⟨rfl, rfl⟩
    | succ k => exact .inl (decDigits_dig _ _ (List.getElem_mem (by simpa using hk)))
  · rw [if_neg hn] at e
    subst e
    exact .inl (decDigits_dig _ _ (List.getElem_mem hk))
theorem parseW_bad {s : List UInt8} {k : Nat} (hk : k < s.length) (h : ¬ isDig s[k]) (h0 : k = 0 → s[k].toNat ≠ 45) : parseW s = none := parseW_none fun v _ e => by
  rcases itoa_at e hk with h1 | ⟨h1, h2⟩
  · exact h h1
  · exact h0 h1 h2

/-- The document's reckoning, digit by digit. -/
theorem sval_take {s : List UInt8} {k : Nat} (hk : k < s.length) (hd : isDig s[k]) :
    sval (s.take (k + 1)) = if 0 < k ∧ (s.getD 0 0).toNat = 45 then 10 * sval (s.take k) - ((s[k].toNat : Int) - 48) else 10 * sval (s.take k) + ((s[k].toNat : Int) - 48) := by
  unfold isDig at hd
  rw [List.take_succ_eq_append_getElem hk]
  cases s with
  | nil => simp at hk
  | cons c r =>
    cases k with
    | zero =>
      have hd1 : 48 ≤ c.toNat ∧ c.toNat ≤ 57 := hd
      have e := valD_app [] c
      rw [List.nil_append] at e
      have e0 : valD [] = 0 := rfl
      have e1 : sval (List.take 0 (c :: r)) = 0 := rfl
      rw [if_neg (by omega), e1]
      show sval [c] = 10 * 0 + ((c.toNat : Int) - 48)
      rw [sval_plain (by omega), e, e0]
      omega
    | succ k =>
      have hk' : k < r.length := by simpa using hk
      have hd1 : 48 ≤ r[k].toNat ∧ r[k].toNat ≤ 57 := hd
      have e1 : ((c :: r).getD 0 0).toNat = c.toNat := rfl
      have e2 := valD_app (r.take k) r[k]
      have e3 := valD_app (c :: r.take k) r[k]
      have e4 : (c :: r)[k + 1] = r[k] := rfl
      rw [e1, e4, List.take_succ_cons, List.cons_append]
      rw [List.cons_append] at e3
      by_cases hc : c.toNat = 45
      · rw [if_pos ⟨by omega, hc⟩, sval_minus hc, sval_minus hc, e2]
        omega
      · rw [if_neg (by omega), sval_plain hc, sval_plain hc, e3]
        omega
end Go.Proofs.YtbephgifbghilaaGreatDoor

/- Reading with fuel enough: the fuel is gone (plain; seat expr). -/
set_option maxRecDepth 100000
namespace Go.Proofs.YtbephgifbghilaaGreatDoor

theorem bind_same {α β : Type} {x : Rs α} {k k' : α → Rs β} (h : ∀ a, x = .ok a → k a = k' a) : (x >>= k) = (x >>= k') := by
  cases x with
  | error e => rfl
  | ok a => exact h a rfl
theorem step_is (s : List UInt8) (g : Nat) (n : Nd) (op : Int) (ln : Nat) (st : Tk × Nat) : stepE s g n op ln st = (nextE s st.2 >>= fun st1 => prsE s g none (ln + 1) st1 >>= fun r => .ok (twoN op n r.1, r.2)) := rfl
theorem ahead_is (s : List UInt8) (f : Nat) (op : Int) (line : Nat) (st : Tk × Nat) : aheadE s f op line st = (nextE s st.2 >>= fun st1 => prsE s f none line st1 >>= fun r => .ok (oneN op r.1, r.2)) := rfl
theorem step_mu {s : List UInt8} (hs : s.length ≤ 1000) {g : Nat} {n : Nd} {op : Int} {ln : Nat} {st : Tk × Nat} {r : Nd × (Tk × Nat)} (hi : StW s.length st) (hf : isFin st.1 = false) (h : stepE s g n op ln st = .ok r) : StW s.length r.2 ∧ mu s.length r.2 < mu s.length st := by
  rw [step_is] at h
  obtain ⟨st1, h1, h⟩ := bind_ok h
  obtain ⟨⟨m, st2⟩, h2, h⟩ := bind_ok h
  injection h with h
  subst h
  obtain ⟨a1, a2, a3, a4, a5⟩ := next_mu hs hi.1 hf h1
  obtain ⟨b1, b2, b3⟩ := prs_mu hs g none _ st1 m st2 ⟨a2, a4, a5⟩ h2
  exact ⟨b1, by show mu _ st2 < _; omega⟩
theorem prs_fuel {s : List UInt8} (hs : s.length ≤ 1000) : ∀ (f : Nat) (m : Option Nd) (line : Nat) (st : Tk × Nat), StW s.length st → mu s.length st < f → prsE s (f + 1) m line st = prsE s f m line st := by
  intro f
  induction f with
  | zero => intro m line st hi hf; omega
  | succ f IH =>
    intro m line st hi hf
    cases m with
    | none =>
      rw [prs_first s (f + 1), prs_first s f]
      have hahead : ∀ op ln, isFin st.1 = false → aheadE s (f + 1) op ln st = aheadE s f op ln st := by
        intro op ln hfin
        rw [ahead_is, ahead_is]
        refine bind_same fun st1 h1 => ?_
        obtain ⟨a1, a2, a3, a4, a5⟩ := next_mu hs hi.1 hfin h1
        rw [IH none ln st1 ⟨a2, a4, a5⟩ (by omega)]
      have hfirst : firstE s (f + 1) line st = firstE s f line st := by
        unfold firstE
        by_cases h1 : (sayOf st.1).data.toList = [110, 111, 116] ∧ line ≤ 3
        · rw [if_pos h1, if_pos h1]; exact hahead _ _ (fin_say (by rw [h1.1]; decide))
        rw [if_neg h1, if_neg h1]
        by_cases h2 : (sayOf st.1).data.toList = [45]
        · rw [if_pos h2, if_pos h2]; exact hahead _ _ (fin_say (by rw [h2]; decide))
        rw [if_neg h2, if_neg h2]
        by_cases h3 : (sayOf st.1).data.toList = [40]
        · rw [if_pos h3, if_pos h3, brackE_is, brackE_is]
          refine bind_same fun st1 g1 => ?_
          obtain ⟨a1, a2, a3, a4, a5⟩ := next_mu hs hi.1 (fin_say (by rw [h3]; decide)) g1
          rw [IH none 1 st1 ⟨a2, a4, a5⟩ (by omega)]
        · rw [if_neg h3, if_neg h3]
      rw [hfirst]
      refine bind_same fun r hr => ?_
      obtain ⟨n, st'⟩ := r
      obtain ⟨b1, b2⟩ := first_mu hs hi hr
      exact IH (some n) line st' b1 (by omega)
    | some n =>
      rw [prs_some, prs_some]
      cases hsg : signT st.1 with
      | none => rfl
      | some p =>
        obtain ⟨op, ln⟩ := p
        simp only
        split
        · rfl
        · have e : stepE s (f + 1) n op ln st = stepE s f n op ln st := by
            rw [step_is, step_is]
            refine bind_same fun st1 g1 => ?_
            obtain ⟨a1, a2, a3, a4, a5⟩ := next_mu hs hi.1 (signT_fin hsg) g1
            rw [IH none _ st1 ⟨a2, a4, a5⟩ (by omega)]
          rw [e]
          refine bind_same fun r hr => ?_
          obtain ⟨b1, b2⟩ := step_mu hs hi (signT_fin hsg) hr
          rw [IH (some r.1) line r.2 b1 (by omega)]
/-- A part of a condition, with all the fuel that it may want. -/
def PS (s : List UInt8) (m : Option Nd) (line : Nat) (st : Tk × Nat) : Rs (Nd × (Tk × Nat)) := prsE s (2 * s.length + 10) m line st
theorem PS_more {s : List UInt8} (hs : s.length ≤ 1000) (m : Option Nd) (line : Nat) {st : Tk × Nat} (hi : StW s.length st) : prsE s (2 * s.length + 10 + 1) m line st = PS s m line st := by
  have := mu_le s st
  exact prs_fuel hs _ m line st hi (by omega)
def firstP (s : List UInt8) (line : Nat) (st : Tk × Nat) : Rs (Nd × (Tk × Nat)) := firstE s (2 * s.length + 10) line st
theorem PS_none {s : List UInt8} (hs : s.length ≤ 1000) (line : Nat) {st : Tk × Nat} (hi : StW s.length st) : PS s none line st = (firstP s line st >>= fun r => PS s (some r.1) line r.2) := by
  rw [← PS_more hs none line hi, prs_first]
  rfl
theorem PS_some {s : List UInt8} (hs : s.length ≤ 1000) (n : Nd) (line : Nat) {st : Tk × Nat} (hi : StW s.length st) : PS s (some n) line st = match signT st.1 with
    | none => .ok (n, st)
    | some (op, ln) => if ln < line then .ok (n, st) else (nextE s st.2 >>= fun st1 => PS s none (ln + 1) st1 >>= fun r => if chainB ln r.2.1 then .error (4, r.2.1.at_) else PS s (some (twoN op n r.1)) line r.2) := by
  rw [← PS_more hs (some n) line hi, prs_some]
  cases hsg : signT st.1 with
  | none => rfl
  | some p =>
    obtain ⟨op, ln⟩ := p
    simp only
    split
    · rfl
    · rw [step_is]
      simp only [bind_assoc']
      rfl
theorem PS_stop {s : List UInt8} (hs : s.length ≤ 1000) (n : Nd) (line : Nat) {st : Tk × Nat} (hi : StW s.length st) (h : ∀ op q, signT st.1 = some (op, q) → q < line) : PS s (some n) line st = .ok (n, st) := by
  rw [PS_some hs n line hi]
  cases hsg : signT st.1 with
  | none => rfl
  | some p =>
    obtain ⟨op, ln⟩ := p
    simp only
    rw [if_pos (h op ln hsg)]
theorem firstP_not {s : List UInt8} {line : Nat} {a i : Nat} (h : line ≤ 3) : firstP s line (.say [110, 111, 116] a, i) = (nextE s i >>= fun st1 => PS s none 3 st1 >>= fun r => .ok (oneN 3 r.1, r.2)) := by
  unfold firstP firstE
  rw [if_pos ⟨rfl, h⟩]
  rfl
theorem firstP_neg {s : List UInt8} {line : Nat} {a i : Nat} : firstP s line (.say [45] a, i) = (nextE s i >>= fun st1 => PS s none 7 st1 >>= fun r => .ok (oneN 4 r.1, r.2)) := by
  have e : (sayOf (.say [45] a)).data.toList = [45] := rfl
  unfold firstP firstE
  simp only [e]
  rw [if_neg (by rintro ⟨h, _⟩; revert h; decide), if_pos (by trivial)]
  rfl
theorem firstP_brack {s : List UInt8} {line : Nat} {a i : Nat} : firstP s line (.say [40] a, i) = (nextE s i >>= fun st1 => PS s none 1 st1 >>= fun r => tailE s r.1 r.2) := by
  have e : (sayOf (.say [40] a)).data.toList = [40] := rfl
  unfold firstP firstE
  simp only [e]
  rw [if_neg (by rintro ⟨h, _⟩; revert h; decide), if_neg (by decide), if_pos (by trivial)]
  rfl
theorem firstP_nd {s : List UInt8} {line : Nat} {n : Nd} {a i : Nat} : firstP s line (.nd n a, i) = (nextE s i >>= fun st1 => .ok (n, st1)) := by
  have e : (sayOf (.nd n a)).data.toList = [] := rfl
  unfold firstP firstE
  simp only [e]
  rw [if_neg (by rintro ⟨h, _⟩; revert h; decide), if_neg (by decide), if_neg (by decide)]
  rfl
theorem parse_ps {s : List UInt8} (h : s.length ≤ 256) : parseE s = ((nextE s 0 >>= fun st => PS s none 1 st) >>= fun r => match r.2.1 with
    | .fin _ => .ok r.1
    | t => .error (4, t.at_)) := by
  unfold parseE
  rw [if_neg (by omega), bind_assoc']
  rfl
end Go.Proofs.YtbephgifbghilaaGreatDoor

/- Tokens of a text that is written (plain; seat expr). -/
set_option maxRecDepth 100000
namespace Go.Proofs.YtbephgifbghilaaGreatDoor
open Go.Lib

theorem drop_at {s u v : List UInt8} {i : Nat} (h : s.drop i = u ++ v) : s.drop (i + u.length) = v := by
  rw [← List.drop_drop, h, List.drop_left]
theorem drop_le {s u : List UInt8} {i : Nat} (h : s.drop i = u) (hu : u ≠ []) : i < s.length ∧ u.length = s.length - i := by
  have hl := congrArg List.length h
  rw [List.length_drop] at hl
  have : 0 < u.length := List.length_pos_iff.2 hu
  exact ⟨by omega, hl.symm⟩
theorem nx_at {s : List UInt8} {i : Nat} {c : UInt8} {u : List UInt8} (h : s.drop i = c :: u) (hc : c ≠ 32) : nextE s i = tokE (c :: u) i := by
  unfold nextE
  have e : (c :: u).dropWhile (· == 32) = c :: u := by rw [List.dropWhile_cons, if_neg (by simpa using hc)]
  obtain ⟨h1, h2⟩ := drop_le h (by simp)
  rw [h, e, h2]
  congr 1
  omega
theorem nx_sp {s : List UInt8} {i : Nat} {u : List UInt8} (h : s.drop i = 32 :: u) : nextE s i = nextE s (i + 1) := by
  have h2 : s.drop (i + 1) = u := drop_at (u := [32]) h
  unfold nextE
  rw [h, h2, List.dropWhile_cons, if_pos (by decide)]
theorem nx_end {s : List UInt8} {i : Nat} (h : s.drop i = []) : nextE s i = .ok (.fin s.length, s.length) := by
  unfold nextE
  rw [h]
  rfl
theorem span_app (p : Nat → Bool) : ∀ (w v : List UInt8), (∀ c ∈ w, p c.toNat = true) → (∀ c, v.head? = some c → p c.toNat = false) → spanE p (w ++ v) = w.length
  | [], v, _, h => by
    cases v with
    | nil => rfl
    | cons c r => show spanE p (c :: r) = 0; unfold spanE; rw [h c rfl]; rfl
  | c :: w, v, hw, h => by
    show spanE p (c :: (w ++ v)) = _
    unfold spanE
    rw [if_pos (hw c List.mem_cons_self), span_app p w v (fun x hx => hw x (List.mem_cons_of_mem _ hx)) h]
    rfl
/-- What may stand behind a written part: nothing, a space or a bracket. -/
def FV (v : List UInt8) : Prop := ∀ c, v.head? = some c → c = 32 ∨ c = 41
theorem FV.nm {v : List UInt8} (h : FV v) : ∀ c, v.head? = some c → inNm c.toNat = false := fun c hc => by rcases h c hc with rfl | rfl <;> rfl
theorem FV.dig {v : List UInt8} (h : FV v) : ∀ c, v.head? = some c → digE c.toNat = false := fun c hc => by rcases h c hc with rfl | rfl <;> rfl
theorem FV.quote {v : List UInt8} (h : FV v) : v.head? ≠ some 39 := fun hc => by rcases h 39 hc with e | e <;> exact absurd e (by decide)
theorem FV.nil : FV [] := fun c h => by cases h
theorem FV.sp (u : List UInt8) : FV (32 :: u) := fun c h => .inl (by injection h with h; exact h.symm)
theorem FV.br (u : List UInt8) : FV (41 :: u) := fun c h => .inr (by injection h with h; exact h.symm)

theorem dec_head : ∀ (u : Nat), 1 ≤ u → (decDigits u).head? ≠ some 48 := by
  intro u
  induction u using Nat.strongRecOn with
  | _ u ih =>
    intro h1
    rw [decDigits]
    split
    · next h =>
      intro e
      injection e with e
      have := congrArg UInt8.toNat e
      rw [ofNat_dig h] at this
      simp at this
      omega
    · next h =>
      have hi := ih (u / 10) (by omega) (by omega)
      cases hd : decDigits (u / 10) with
      | nil => exact absurd hd (decDigits_ne _)
      | cons c r => rw [hd] at hi; exact hi
theorem take_app {w v : List UInt8} {n : Nat} (h : n = w.length) : (w ++ v).take n = w := by rw [h, List.take_left]
theorem tok_num {n : Int} (h0 : 0 ≤ n) (h1 : n ≤ 9223372036854775807) {v : List UInt8} (hv : FV v) (i : Nat) : tokE (itoa n ++ v) i = .ok (.nd (litN (numV n)) i, i + (itoa n).length) := by
  have hat : intE (itoa n) = some n := by
    unfold intE
    rw [atoiAll_itoa ⟨by omega, h1⟩]
  have hd : itoa n = decDigits n.toNat := by unfold itoa; rw [if_neg (by omega)]
  have hds := decDigits_dig n.toNat
  have h48 : (itoa n).head? = some 48 → (itoa n).length ≤ 1 := by
    intro e
    by_cases hz : 1 ≤ n.toNat
    · exact absurd (hd ▸ e) (dec_head _ hz)
    · rw [hd, show n.toNat = 0 by omega]
      rw [decDigits_one (by omega)]
      simp
  rw [← hd] at hds
  cases hw : itoa n with
  | nil => rw [hw] at hd; exact absurd hd.symm (decDigits_ne _)
  | cons c r =>
    rw [hw] at hat hds h48
    have hdig : ∀ x ∈ (c :: r), digE x.toNat = true := fun x hx => by
      have := hds x hx
      unfold isDig at this
      unfold digE
      rw [decide_eq_true this.1, decide_eq_true this.2]; rfl
    have hsp : spanE digE ((c :: r) ++ v) = (c :: r).length := span_app digE _ v hdig hv.dig
    have ht : ((c :: r) ++ v).take (spanE digE ((c :: r) ++ v)) = c :: r := take_app hsp
    show tokE (c :: (r ++ v)) i = _
    have ht' : (c :: (r ++ v)).take (spanE digE (c :: (r ++ v))) = c :: r := ht
    unfold tokE
    simp only
    rw [if_pos (hdig c List.mem_cons_self), ht']
    rw [if_neg (by rintro ⟨e, hl⟩; have := h48 (by rw [e]; rfl); omega), hat]
theorem clsW_in {c : Nat} (h : clsW c ≠ 0) : inNm c = true := by
  unfold clsW at h
  unfold inNm letE digE
  simp only [Bool.or_eq_true, Bool.and_eq_true, decide_eq_true_eq, beq_iff_eq]
  split at h
  · omega
  · split at h
    · omega
    · exact absurd rfl h
theorem clsW_let {c : Nat} (h : clsW c = 2) : letE c = true ∧ digE c = false := by
  unfold clsW at h
  unfold letE digE
  simp only [Bool.or_eq_true, Bool.and_eq_true, decide_eq_true_eq, Bool.and_eq_false_iff, decide_eq_false_iff_not]
  split at h
  · omega
  · split at h
    · cases h
    · cases h
theorem mk_toList10 (s : ByteArray) : (⟨s.data.toList.toArray⟩ : ByteArray) = s := by
  cases s; simp
/-- A word of letters: what it is. -/
theorem tok_word {w : List UInt8} {v : List UInt8} (hv : ∀ c, v.head? = some c → inNm c.toNat = false) (hn : ∀ c ∈ w, inNm c.toNat = true) {c : UInt8} {r : List UInt8} (hw : w = c :: r) (h1 : letE c.toNat = true) (h2 : digE c.toNat = false) (i : Nat) :
    tokE (w ++ v) i = if w = [116, 114, 117, 101] then .ok (.nd (litN (trV true)) i, i + w.length) else if w = [102, 97, 108, 115, 101] then .ok (.nd (litN (trV false)) i, i + w.length) else if keyL.contains w then .ok (.say w i, i + w.length) else if nameB ⟨w.toArray⟩ then .ok (.nd (varN ⟨w.toArray⟩) i, i + w.length) else .error (4, i) := by
  have hsp : spanE inNm (w ++ v) = w.length := span_app inNm _ v hn hv
  have ht : (w ++ v).take (spanE inNm (w ++ v)) = w := take_app hsp
  subst hw
  have ht' : (c :: (r ++ v)).take (spanE inNm (c :: (r ++ v))) = c :: r := ht
  show tokE (c :: (r ++ v)) i = _
  unfold tokE
  simp only
  rw [h2, if_neg (by decide), if_pos h1, ht']
theorem tok_true {v : List UInt8} (hv : FV v) (b : Bool) (i : Nat) : tokE (formatBool b ++ v) i = .ok (.nd (litN (trV b)) i, i + (formatBool b).length) := by
  cases b with
  | true =>
    have e : formatBool true = [116, 114, 117, 101] := by kernel_rfl
    rw [e, tok_word hv.nm (c := 116) (r := [114, 117, 101]) (by decide) rfl (by decide) (by decide), if_pos rfl]
  | false =>
    have e : formatBool false = [102, 97, 108, 115, 101] := by kernel_rfl
    rw [e, tok_word hv.nm (c := 102) (r := [97, 108, 115, 101]) (by decide) rfl (by decide) (by decide), if_neg (by decide), if_pos rfl]
theorem tok_name {s : ByteArray} (h : nameB s = true) (hk : keyWord s = false) {v : List UInt8} (hv : FV v) (i : Nat) : tokE (s.data.toList ++ v) i = .ok (.nd (varN s) i, i + s.data.toList.length) := by
  have h' := h
  unfold nameB nameL at h'
  simp only [Bool.and_eq_true, decide_eq_true_eq, beq_iff_eq] at h'
  obtain ⟨⟨⟨l1, l2⟩, ha⟩, hc⟩ := h'
  rw [List.all_eq_true] at ha
  unfold keyWord at hk
  cases hw : s.data.toList with
  | nil => rw [hw] at l1; simp at l1
  | cons c r =>
    have hc2 : clsW c.toNat = 2 := by rw [hw] at hc; simpa using hc
    obtain ⟨k1, k2⟩ := clsW_let hc2
    have ha' : ∀ x ∈ s.data.toList, inNm x.toNat = true := fun x hx => clsW_in (by simpa using ha x hx)
    have e := tok_word hv.nm ha' hw k1 k2 i
    rw [hk, if_neg (by decide : ¬ (false = true)), mk_toList10, if_pos h] at e
    rw [← hw]
    rw [e, if_neg (by rintro e; rw [e] at hk; revert hk; decide), if_neg (by rintro e; rw [e] at hk; revert hk; decide)]
theorem tok_not {v : List UInt8} (hv : FV v) (i : Nat) : tokE ([110, 111, 116] ++ v) i = .ok (.say [110, 111, 116] i, i + 3) := by
  rw [tok_word hv.nm (c := 110) (r := [111, 116]) (by decide) rfl (by decide) (by decide), if_neg (by decide), if_neg (by decide), if_pos (by decide)]
  rfl
theorem tok_minus (v : List UInt8) (i : Nat) : tokE (45 :: v) i = .ok (.say [45] i, i + 1) := by
  have e : ∀ c : UInt8, (signL [45, c]).isSome = false := fun c => by unfold signL; simp
  unfold tokE
  simp only
  rw [if_neg (by decide), if_neg (by decide), if_neg (by decide)]
  have hw : (if 1 < (45 :: v).length ∧ (signL ((45 :: v).take 2)).isSome then (45 :: v).take 2 else (45 :: v).take 1) = [45] := by
    rw [if_neg]
    · rfl
    · cases v with
      | nil => simp
      | cons c r => rintro ⟨_, h⟩; have h' : (signL [45, c]).isSome = true := h; rw [e] at h'; cases h'
  rw [hw, if_pos (.inl (by decide))]
  rfl
theorem tok_open (v : List UInt8) (i : Nat) : tokE (40 :: v) i = .ok (.say [40] i, i + 1) := by
  have e : ∀ c : UInt8, (signL [40, c]).isSome = false := fun c => by unfold signL; simp
  unfold tokE
  simp only
  rw [if_neg (by decide), if_neg (by decide), if_neg (by decide)]
  have hw : (if 1 < (40 :: v).length ∧ (signL ((40 :: v).take 2)).isSome then (40 :: v).take 2 else (40 :: v).take 1) = [40] := by
    rw [if_neg]
    · rfl
    · cases v with
      | nil => simp
      | cons c r => rintro ⟨_, h⟩; have h' : (signL [40, c]).isSome = true := h; rw [e] at h'; cases h'
  rw [hw, if_pos (.inr (.inl rfl))]
  rfl
theorem tok_close (v : List UInt8) (i : Nat) : tokE (41 :: v) i = .ok (.say [41] i, i + 1) := by
  have e : ∀ c : UInt8, (signL [41, c]).isSome = false := fun c => by unfold signL; simp
  unfold tokE
  simp only
  rw [if_neg (by decide), if_neg (by decide), if_neg (by decide)]
  have hw : (if 1 < (41 :: v).length ∧ (signL ((41 :: v).take 2)).isSome then (41 :: v).take 2 else (41 :: v).take 1) = [41] := by
    rw [if_neg]
    · rfl
    · cases v with
      | nil => simp
      | cons c r => rintro ⟨_, h⟩; have h' : (signL [41, c]).isSome = true := h; rw [e] at h'; cases h'
  rw [hw, if_pos (.inr (.inr rfl))]
  rfl
theorem tok_two {c d : UInt8} (h1 : digE c.toNat = false) (h2 : letE c.toNat = false) (h3 : c ≠ 39) (h4 : (signL [c, d]).isSome = true) (v : List UInt8) (i : Nat) : tokE (c :: d :: v) i = .ok (.say [c, d] i, i + 2) := by
  unfold tokE
  simp only
  rw [h1, h2, if_neg (by decide), if_neg (by decide), if_neg h3]
  have hw : (if 1 < (c :: d :: v).length ∧ (signL ((c :: d :: v).take 2)).isSome then (c :: d :: v).take 2 else (c :: d :: v).take 1) = [c, d] := by
    rw [if_pos ⟨by simp, h4⟩]
    rfl
  rw [hw, if_pos (.inl h4)]
  rfl
theorem tok_onesp {c d : UInt8} (h1 : digE c.toNat = false) (h2 : letE c.toNat = false) (h3 : c ≠ 39) (h4 : (signL [c, d]).isSome = false) (h5 : (signL [c]).isSome = true) (v : List UInt8) (i : Nat) : tokE (c :: d :: v) i = .ok (.say [c] i, i + 1) := by
  unfold tokE
  simp only
  rw [h1, h2, if_neg (by decide), if_neg (by decide), if_neg h3]
  have hw : (if 1 < (c :: d :: v).length ∧ (signL ((c :: d :: v).take 2)).isSome then (c :: d :: v).take 2 else (c :: d :: v).take 1) = [c] := by
    rw [if_neg]
    · rfl
    · rintro ⟨_, h⟩; have h' : (signL [c, d]).isSome = true := h; rw [h4] at h'; cases h'
  rw [hw, if_pos (.inl h5)]
  rfl
theorem tok_key {w : List UInt8} {c : UInt8} {r : List UInt8} (hw : w = c :: r) (hn : ∀ c ∈ w, inNm c.toNat = true) (h1 : letE c.toNat = true) (h2 : digE c.toNat = false) (h3 : w ≠ [116, 114, 117, 101]) (h4 : w ≠ [102, 97, 108, 115, 101]) (h5 : keyL.contains w = true) {d : UInt8} (hd : d = 32 ∨ d = 40) (v : List UInt8) (i : Nat) : tokE (w ++ d :: v) i = .ok (.say w i, i + w.length) := by
  rw [tok_word (fun x hx => by injection hx with hx; subst hx; rcases hd with rfl | rfl <;> rfl) hn hw h1 h2, if_neg h3, if_neg h4, if_pos h5]
theorem tok_sign {op : Int} {x : List UInt8} {ln : Nat} (h : signX op = some (x, ln)) {d : UInt8} (hd : d = 32 ∨ d = 40) (v : List UInt8) (i : Nat) : tokE (x ++ d :: v) i = .ok (.say x i, i + x.length) := by
  have h := signL_of h
  unfold signL at h
  by_cases e0 : x = [111, 114]
  · subst e0; exact tok_key (c := 111) (r := [114]) rfl (by decide) (by decide) (by decide) (by decide) (by decide) (by decide) hd v i
  rw [if_neg e0] at h
  by_cases e1 : x = [97, 110, 100]
  · subst e1; exact tok_key (c := 97) (r := [110, 100]) rfl (by decide) (by decide) (by decide) (by decide) (by decide) (by decide) hd v i
  rw [if_neg e1] at h
  by_cases e2 : x = [61]
  · subst e2; exact tok_onesp (by decide) (by decide) (by decide) (by rcases hd with rfl | rfl <;> decide) (by decide) v i
  rw [if_neg e2] at h
  by_cases e3 : x = [33, 61]
  · subst e3; exact tok_two (by decide) (by decide) (by decide) (by decide) (d :: v) i
  rw [if_neg e3] at h
  by_cases e4 : x = [60]
  · subst e4; exact tok_onesp (by decide) (by decide) (by decide) (by rcases hd with rfl | rfl <;> decide) (by decide) v i
  rw [if_neg e4] at h
  by_cases e5 : x = [60, 61]
  · subst e5; exact tok_two (by decide) (by decide) (by decide) (by decide) (d :: v) i
  rw [if_neg e5] at h
  by_cases e6 : x = [62]
  · subst e6; exact tok_onesp (by decide) (by decide) (by decide) (by rcases hd with rfl | rfl <;> decide) (by decide) v i
  rw [if_neg e6] at h
  by_cases e7 : x = [62, 61]
  · subst e7; exact tok_two (by decide) (by decide) (by decide) (by decide) (d :: v) i
  rw [if_neg e7] at h
  by_cases e8 : x = [43]
  · subst e8; exact tok_onesp (by decide) (by decide) (by decide) (by rcases hd with rfl | rfl <;> decide) (by decide) v i
  rw [if_neg e8] at h
  by_cases e9 : x = [45]
  · subst e9; exact tok_onesp (by decide) (by decide) (by decide) (by rcases hd with rfl | rfl <;> decide) (by decide) v i
  rw [if_neg e9] at h
  by_cases e10 : x = [42]
  · subst e10; exact tok_onesp (by decide) (by decide) (by decide) (by rcases hd with rfl | rfl <;> decide) (by decide) v i
  rw [if_neg e10] at h
  by_cases e11 : x = [47]
  · subst e11; exact tok_onesp (by decide) (by decide) (by decide) (by rcases hd with rfl | rfl <;> decide) (by decide) v i
  rw [if_neg e11] at h
  by_cases e12 : x = [37]
  · subst e12; exact tok_onesp (by decide) (by decide) (by decide) (by rcases hd with rfl | rfl <;> decide) (by decide) v i
  rw [if_neg e12] at h
  cases h

/-! ### A text in quotes -/
def quoL : List UInt8 → List UInt8
  | [] => []
  | c :: r => if c = 39 then 39 :: 39 :: quoL r else c :: quoL r
theorem index_q (r : List UInt8) : index (39 :: r) [39] = 0 := by unfold index; rw [if_pos (by simp)]
theorem index_o {c : UInt8} (h : c ≠ 39) (r : List UInt8) : index (c :: r) [39] = if index r [39] == -1 then -1 else index r [39] + 1 := by
  conv => lhs; unfold index
  rw [if_neg (by simpa using Ne.symm h)]
theorem repl_miss {s : List UInt8} (h : index s [39] = -1) : ∀ k, replaceK [39] [39, 39] k s = s
  | 0 => rfl
  | k + 1 => by
    unfold replaceK
    rw [if_pos (by rw [h]; rfl)]
theorem repl_o {c : UInt8} (h : c ≠ 39) (r : List UInt8) : ∀ k, replaceK [39] [39, 39] k (c :: r) = c :: replaceK [39] [39, 39] k r
  | 0 => rfl
  | k + 1 => by
    have hi := index_o h r
    by_cases hx : index r [39] = -1
    · rw [hx] at hi
      rw [repl_miss hx, repl_miss (s := c :: r) (by rw [hi]; rfl)]
    · have hge := index_ge r [39]
      obtain ⟨n, hn⟩ : ∃ n : Nat, index r [39] = n := ⟨(index r [39]).toNat, by omega⟩
      rw [if_neg (by simpa using hx), hn] at hi
      rw [replaceK_hit _ _ _ _ n hn, replaceK_hit _ _ _ (c :: r) (n + 1) (by rw [hi]; omega)]
      rfl
theorem count_o {c : UInt8} (h : c ≠ 39) (r : List UInt8) : count (c :: r) [39] = count r [39] := by
  have hi := index_o h r
  have hge := index_ge r [39]
  by_cases hx : index r [39] = -1
  · rw [count_miss hx, count_miss]; rw [hi, hx]; rfl
  · obtain ⟨n, hn⟩ : ∃ n : Nat, index r [39] = n := ⟨(index r [39]).toNat, by omega⟩
    rw [if_neg (by simpa using hx), hn] at hi
    rw [count_hit (by simp) hn, count_hit (i := n + 1) (by simp) (by rw [hi]; omega)]
    rfl
theorem quo_is : ∀ t : List UInt8, replaceK [39] [39, 39] (count t [39]) t = quoL t
  | [] => rfl
  | c :: r => by
    by_cases h : c = 39
    · subst h
      rw [count_hit (i := 0) (by simp) (index_q r)]
      rw [Nat.add_comm, replaceK_hit _ _ _ _ 0 (index_q r)]
      show [] ++ [39, 39] ++ replaceK [39] [39, 39] (count r [39]) r = _
      rw [quo_is r]
      rfl
    · rw [count_o h, repl_o h, quo_is r]
      show _ = (if c = 39 then _ else _)
      rw [if_neg h]
theorem quo_all (t : List UInt8) : replaceAll t [39] [39, 39] = quoL t := by
  rw [← quo_is]
  unfold replaceAll replace replaceNum
  rw [if_neg (by decide), if_pos (.inl (by decide))]
theorem textE_q (i : Nat) (acc r : List UInt8) : textE i acc (39 :: 39 :: r) = textE (i + 2) (acc ++ [39]) r := by
  conv => lhs; unfold textE
  first | rfl | simp
theorem textE_o (i : Nat) (acc : List UInt8) {c : UInt8} (h : c ≠ 39) (r : List UInt8) : textE i acc (c :: r) = textE (i + 1) (acc ++ [c]) r := by
  conv => lhs; unfold textE
  split
  · contradiction
  · next h1 => injection h1 with h1; exact absurd h1 h
  · next h1 => injection h1 with h1; exact absurd h1 h
  · next h1 => injection h1 with h1; exact absurd h1 h
  · next h1 => injection h1 with h1 h2; subst h1 h2; rfl
theorem textE_e (i : Nat) (acc : List UInt8) {v : List UInt8} (h : v.head? ≠ some 39) : textE i acc (39 :: v) = some (acc, i + 1) := by
  cases v with
  | nil => rfl
  | cons c r =>
    have hc : c ≠ 39 := fun e => h (by rw [e]; rfl)
    conv => lhs; unfold textE
    split
    · contradiction
    · rfl
    · next h1 => injection h1 with _ h1; injection h1 with h1; exact absurd h1 hc
    · rfl
    · next h2 h3 h1 => injection h1 with h1 h4; subst h1 h4; exact (h3 c r rfl rfl).elim
theorem text_quo {v : List UInt8} (h : v.head? ≠ some 39) : ∀ (t : List UInt8) (i : Nat) (acc : List UInt8), textE i acc (quoL t ++ 39 :: v) = some (acc ++ t, i + (quoL t).length + 1)
  | [], i, acc => by
    show textE i acc (39 :: v) = _
    rw [textE_e i acc h, List.append_nil]
    rfl
  | c :: r, i, acc => by
    by_cases hc : c = 39
    · subst hc
      show textE i acc (39 :: 39 :: (quoL r ++ 39 :: v)) = _
      rw [textE_q, text_quo h r, List.append_assoc]
      show _ = some (acc ++ 39 :: r, i + (quoL r).length.succ.succ + 1)
      congr 2
      omega
    · have e : quoL (c :: r) = c :: quoL r := by show (if c = 39 then _ else _) = _; rw [if_neg hc]
      rw [e]
      show textE i acc (c :: (quoL r ++ 39 :: v)) = _
      rw [textE_o _ _ hc, text_quo h r, List.append_assoc]
      show _ = some (acc ++ c :: r, i + (quoL r).length.succ + 1)
      congr 2
      omega
theorem tok_text {t : ByteArray} (hvl : validD t.data.toList = true) {v : List UInt8} (hv : FV v) (i : Nat) : tokE ((39 :: replaceAll t.data.toList [39] [39, 39] ++ [39]) ++ v) i = .ok (.nd (litN (txV t)) i, i + (39 :: replaceAll t.data.toList [39] [39, 39] ++ [39]).length) := by
  rw [quo_all]
  have e : (39 :: quoL t.data.toList ++ [39]) ++ v = 39 :: (quoL t.data.toList ++ 39 :: v) := by simp
  rw [e]
  unfold tokE
  simp only
  rw [if_neg (by decide), if_neg (by decide), if_pos (by trivial)]
  show (match textE 1 [] (quoL t.data.toList ++ 39 :: v) with | none => _ | some (t, n) => _) = _
  rw [text_quo hv.quote, List.nil_append]
  simp only
  rw [if_pos hvl, mk_toList10]
  simp
  omega
end Go.Proofs.YtbephgifbghilaaGreatDoor

/- What is written is read as the node; what is read may be (plain; seat expr). -/
set_option maxRecDepth 100000
namespace Go.Proofs.YtbephgifbghilaaGreatDoor
open Go.Lib

/-! ### What may be -/
theorem empty_of {s : ByteArray} (h : s.toList.isEmpty = true) : s = ⟨#[]⟩ := by
  refine bytes_eq ?_
  rw [List.isEmpty_iff.1 h]
  kernel_rfl
theorem may_head10 {op : Int} {v : Vl} {nm : ByteArray} {ks : List Nd} (h : checkN (.mk op v nm ks) = true) :
    (ks.length : Int) = kidsN op ∧ checkL ks = true ∧ (op ≠ 1 → v = Vl.zero) ∧ (op ≠ 2 → nm = ⟨#[]⟩) ∧ (op = 1 → checkB v = true ∧ 0 ≤ v.num) ∧ (op = 2 → nameB nm = true ∧ keyWord nm = false) := by
  have h' : (headB op v nm ks.length && checkL ks) = true := h
  unfold headB at h'
  simp only [Bool.and_eq_true, Bool.or_eq_true, beq_iff_eq, Bool.not_eq_true', beq_eq_false_iff_ne, decide_eq_true_eq] at h'
  obtain ⟨⟨h1, h2, h3, h4, h5⟩, h6⟩ := h'
  refine ⟨h1, h6, fun e => ?_, fun e => ?_, fun e => ?_, fun e => ?_⟩
  · rcases h2 with h2 | h2
    · exact absurd h2 e
    · exact vlEq_iff.1 h2
  · rcases h3 with h3 | h3
    · exact absurd h3 e
    · exact empty_of h3
  · rcases h4 with h4 | h4
    · exact absurd e h4
    · exact h4
  · rcases h5 with h5 | h5
    · exact absurd e h5
    · exact h5
theorem may_cases10 {n : Nd} (h : checkN n = true) : (∃ v, n = litN v ∧ checkB v = true ∧ 0 ≤ v.num) ∨ (∃ s, n = varN s ∧ nameB s = true ∧ keyWord s = false) ∨ (∃ op a, (op = 3 ∨ op = 4) ∧ n = oneN op a ∧ checkN a = true) ∨ (∃ op a b, 5 ≤ op ∧ op ≤ 17 ∧ n = twoN op a b ∧ checkN a = true ∧ checkN b = true) := by
  obtain ⟨op, v, nm, ks⟩ := n
  obtain ⟨h1, h2, h3, h4, h5, h6⟩ := may_head10 h
  have hr : 1 ≤ op ∧ op ≤ 17 := by
    unfold kidsN at h1
    split at h1 <;> omega
  by_cases e1 : op = 1
  · subst e1
    obtain rfl := h4 (by decide)
    have hk : kidsN 1 = 0 := rfl
    rw [hk] at h1
    obtain rfl := List.length_eq_zero_iff.1 (by omega : ks.length = 0)
    exact .inl ⟨v, rfl, h5 rfl⟩
  obtain rfl := h3 e1
  by_cases e2 : op = 2
  · subst e2
    have hk : kidsN 2 = 0 := rfl
    rw [hk] at h1
    obtain rfl := List.length_eq_zero_iff.1 (by omega : ks.length = 0)
    exact .inr (.inl ⟨nm, rfl, h6 rfl⟩)
  obtain rfl := h4 e2
  by_cases e3 : op ≤ 4
  · have hk : kidsN op = 1 := by unfold kidsN; rw [if_neg (by omega), if_neg (by omega), if_pos e3]
    rw [hk] at h1
    obtain ⟨a, rfl⟩ := List.length_eq_one_iff.1 (by omega : ks.length = 1)
    have h2' : (checkN a && true) = true := h2
    rw [Bool.and_true] at h2'
    exact .inr (.inr (.inl ⟨op, a, by omega, rfl, h2'⟩))
  · have hk : kidsN op = 2 := by unfold kidsN; rw [if_neg (by omega), if_neg (by omega), if_neg e3]
    rw [hk] at h1
    match ks, h1, h2 with
    | [a, b], _, h2 =>
      have h2' : (checkN a && (checkN b && true)) = true := h2
      rw [Bool.and_true, Bool.and_eq_true] at h2'
      exact .inr (.inr (.inr ⟨op, a, b, by omega, by omega, rfl, h2'⟩))
    | [], h1, _ => simp at h1
    | [a], h1, _ => simp at h1
    | a :: b :: c :: r, h1, _ => simp only [List.length_cons] at h1; omega
theorem may_lit10 {v : Vl} (h : checkB v = true) (h0 : 0 ≤ v.num) : checkN (litN v) = true := by
  show (headB 1 v ⟨#[]⟩ 0 && true) = true
  unfold headB
  rw [h, decide_eq_true h0, ez]
  rfl
theorem may_var10 {s : ByteArray} (h : nameB s = true) (hk : keyWord s = false) : checkN (varN s) = true := by
  show (headB 2 Vl.zero s 0 && true) = true
  unfold headB
  rw [h, hk, vz]
  rfl
theorem sign_op {u : List UInt8} {op : Int} {ln : Nat} (h : signL u = some (op, ln)) : 5 ≤ op ∧ op ≤ 17 ∧ 1 ≤ ln ∧ ln ≤ 6 ∧ ln ≠ 3 := by
  unfold signL at h
  repeat (rcases ite_some h with h | h; · (injection h with h1 h2; subst h1 h2; omega))
  cases h
theorem sign_all {op : Int} (h1 : 5 ≤ op) (h2 : op ≤ 17) : ∃ x ln, signX op = some (x, ln) := by
  obtain rfl | rfl | rfl | rfl | rfl | rfl | rfl | rfl | rfl | rfl | rfl | rfl | rfl : op = 5 ∨ op = 6 ∨ op = 7 ∨ op = 8 ∨ op = 9 ∨ op = 10 ∨ op = 11 ∨ op = 12 ∨ op = 13 ∨ op = 14 ∨ op = 15 ∨ op = 16 ∨ op = 17 := by omega
  all_goals exact ⟨_, _, rfl⟩
theorem sign_head {x : List UInt8} {op : Int} {ln : Nat} (h : signL x = some (op, ln)) : ∃ c r, x = c :: r ∧ c ≠ 32 := by
  cases x with
  | nil => simp [signL] at h
  | cons c r =>
    refine ⟨c, r, rfl, ?_⟩
    rintro rfl
    simp [signL] at h
theorem shown_two {op : Int} (h : 5 ≤ op) {x : List UInt8} {ln : Nat} (hx : signX op = some (x, ln)) : shownE op = (32 :: x ++ [32], ln) := by
  unfold shownE
  rw [if_neg (by omega), if_neg (by omega), if_neg (by omega), hx]

/-! ### What is written is read -/
def QT (p : Nat) (tk : Tk) : Prop := ∀ op q, signT tk = some (op, q) → q ≤ p ∧ (q = 4 → 5 ≤ p)
theorem QT.mono {p p' : Nat} {tk : Tk} (h : QT p tk) (hp : p ≤ p') : QT p' tk := fun op q e => by
  obtain ⟨h1, h2⟩ := h op q e
  exact ⟨by omega, fun e => by have := h2 e; omega⟩
theorem sign_of_tk {tk : Tk} {op : Int} {q : Nat} (h : signT tk = some (op, q)) : 5 ≤ op ∧ op ≤ 17 ∧ 1 ≤ q ∧ q ≤ 6 ∧ q ≠ 3 := by
  cases tk with
  | say u a => exact sign_op (u := u) h
  | fin a => cases h
  | nd n a => cases h
theorem chain_no {ln : Nat} {tk : Tk} (h : QT ln tk) : chainB ln tk = false := by
  unfold chainB
  cases hsg : signT tk with
  | none => simp [sgB]
  | some p =>
    obtain ⟨op, q⟩ := p
    obtain ⟨h1, h2⟩ := h op q hsg
    by_cases e : ln = 4
    · have hq : q ≠ 4 := fun e2 => by have := h2 e2; omega
      have e3 : sgB (some (op, q)) = (q : Int) := rfl
      rw [e3, decide_eq_false (p := (q : Int) = 4) (by omega), Bool.and_false]
    · simp [e]
def UR (s : List UInt8) (n : Nd) : Prop := ∀ (l i : Nat) (v : List UInt8) (stv : Tk × Nat), l ≤ (shownE n.op).2 → s.drop i = showN n ++ v → FV v → nextE s (i + (showN n).length) = .ok stv → QT (shownE n.op).2 stv.1 →
  (nextE s i >>= fun st => PS s none l st) = PS s (some n) l stv
def SR (s : List UInt8) (n : Nd) : Prop := ∀ (p l i : Nat) (v : List UInt8) (stv : Tk × Nat), l ≤ p → s.drop i = spellE n p ++ v → FV v → nextE s (i + (spellE n p).length) = .ok stv → QT p stv.1 →
  (nextE s i >>= fun st => PS s none l st) = PS s (some n) l stv
theorem sr_of {s : List UInt8} (hs : s.length ≤ 1000) {n : Nd} (hc : 1 ≤ (shownE n.op).2) (hu : UR s n) : SR s n := by
  intro p l i v stv hl hd hv hn hq
  unfold spellE wrapT at hd hn
  by_cases ho : (shownE n.op).2 < p
  · rw [if_pos ho] at hd hn
    have hd' : s.drop i = 40 :: (showN n ++ 41 :: v) := by rw [hd]; simp
    have h0 := nx_at hd' (by decide)
    rw [tok_open] at h0
    obtain ⟨hi, _⟩ := drop_le hd' (by simp)
    have w0 := next_stw hs (by omega) h0
    have d1 : s.drop (i + 1) = showN n ++ 41 :: v := drop_at (u := [40]) hd'
    have d2 : s.drop (i + 1 + (showN n).length) = 41 :: v := drop_at d1
    have h2 := nx_at d2 (by decide)
    rw [tok_close] at h2
    obtain ⟨hi2, _⟩ := drop_le d2 (by simp)
    have w2 := next_stw hs (by omega) h2
    have hno : ∀ op q, signT (Tk.say [41] (i + 1 + (showN n).length)) ≠ some (op, q) := fun op q h => by
      have h' : signL [41] = some (op, q) := h
      simp [signL] at h'
    have e := hu 1 (i + 1) (41 :: v) _ hc d1 (FV.br v) h2 (fun op q h => absurd h (hno op q))
    rw [PS_stop hs n 1 w2 (fun op q h => absurd h (hno op q))] at e
    obtain ⟨st1, g1, g2⟩ := bind_ok e
    have hn' : nextE s (i + 1 + (showN n).length + 1) = .ok stv := by
      rw [← hn]
      congr 1
      simp only [List.length_append, List.length_cons, List.length_nil]
      omega
    rw [bind_is h0, PS_none hs l w0, firstP_brack, g1]
    show ((PS s none 1 st1 >>= fun r => tailE s r.1 r.2) >>= _) = _
    rw [g2]
    show ((tailE s n (.say [41] (i + 1 + (showN n).length), i + 1 + (showN n).length + 1)) >>= fun r => PS s (some r.1) l r.2) = _
    rw [tailE_yes rfl]
    show ((nextE s (i + 1 + (showN n).length + 1) >>= fun st3 => _) >>= _) = _
    rw [hn']
    rfl
  · rw [if_neg ho] at hd hn
    exact hu l i v stv (by omega) hd hv hn (hq.mono (by omega))
theorem ur_leaf {s : List UInt8} (hs : s.length ≤ 1000) {n : Nd} {c : UInt8} {r : List UInt8} (hw : showN n = c :: r) (hc : c ≠ 32) (ht : ∀ v i, FV v → tokE (showN n ++ v) i = .ok (.nd n i, i + (showN n).length)) : UR s n := by
  intro l i v stv hl hd hv hn hq
  have h1 := ht v i hv
  rw [hw] at h1 hd hn
  have hd' : s.drop i = c :: (r ++ v) := hd
  have h0 := nx_at hd' hc
  have h1' : tokE (c :: (r ++ v)) i = .ok (.nd n i, i + (c :: r).length) := h1
  rw [h1'] at h0
  obtain ⟨hi, _⟩ := drop_le hd' (by simp)
  have w0 := next_stw hs (by omega) h0
  rw [bind_is h0, PS_none hs l w0, firstP_nd, hn]
  rfl
theorem len_of {s u v : List UInt8} {i : Nat} (h : s.drop i = u ++ v) (hi : i ≤ s.length) : i + u.length ≤ s.length := by
  have hl := congrArg List.length h
  rw [List.length_drop, List.length_append] at hl
  omega
theorem ur_not {s : List UInt8} (hs : s.length ≤ 1000) {a : Nd} (ha : SR s a) : UR s (oneN 3 a) := by
  intro l i v stv hl hd hv hn hq
  have hl : l ≤ 3 := hl
  have hq : QT 3 stv.1 := hq
  have e : showN (oneN 3 a) = [110, 111, 116, 32] ++ spellE a 3 := spell_one 3 (by decide) _ _ a
  rw [e] at hd hn
  have d0 : s.drop i = [110, 111, 116] ++ 32 :: (spellE a 3 ++ v) := by rw [hd]; simp
  have d0' : s.drop i = 110 :: ([111, 116] ++ 32 :: (spellE a 3 ++ v)) := d0
  have h0 : nextE s i = .ok (.say [110, 111, 116] i, i + 3) := (nx_at d0' (by decide)).trans (tok_not (FV.sp _) i)
  obtain ⟨hi, _⟩ := drop_le d0' (by simp)
  have w0 := next_stw hs (by omega) h0
  have d1 : s.drop (i + 3) = 32 :: (spellE a 3 ++ v) := drop_at (u := [110, 111, 116]) d0
  have d2 : s.drop (i + 3 + 1) = spellE a 3 ++ v := drop_at (u := [32]) d1
  have l1 := len_of (u := [110, 111, 116]) d0 (by omega)
  obtain ⟨hi1, _⟩ := drop_le d1 (by simp)
  have l2 := len_of d2 (by omega)
  have hn' : nextE s (i + 3 + 1 + (spellE a 3).length) = .ok stv := by
    rw [← hn]
    congr 1
    simp only [List.length_append, List.length_cons, List.length_nil]
    omega
  have wv := next_stw hs l2 hn'
  have eb := ha 3 3 (i + 3 + 1) v stv (Nat.le_refl _) d2 hv hn' hq
  rw [PS_stop hs a 3 wv (fun op q h => by have h1 := (hq op q h).1; have h2 := (sign_of_tk h).2.2.2.2; omega)] at eb
  obtain ⟨st1, g1, g2⟩ := bind_ok eb
  rw [bind_is h0, PS_none hs l w0, firstP_not hl, nx_sp d1, g1]
  show ((PS s none 3 st1 >>= fun r => Except.ok (oneN 3 r.1, r.2)) >>= _) = _
  rw [g2]
  rfl
theorem ur_neg {s : List UInt8} (hs : s.length ≤ 1000) {a : Nd} (ha : SR s a) : UR s (oneN 4 a) := by
  intro l i v stv hl hd hv hn hq
  have hq : QT 7 stv.1 := hq
  have e : showN (oneN 4 a) = [45] ++ spellE a 7 := spell_one 4 (by decide) _ _ a
  rw [e] at hd hn
  have d0 : s.drop i = 45 :: (spellE a 7 ++ v) := hd
  have h0 : nextE s i = .ok (.say [45] i, i + 1) := (nx_at d0 (by decide)).trans (tok_minus _ i)
  obtain ⟨hi, _⟩ := drop_le d0 (by simp)
  have w0 := next_stw hs (by omega) h0
  have d2 : s.drop (i + 1) = spellE a 7 ++ v := drop_at (u := [45]) d0
  have l2 := len_of d2 (by omega)
  have hn' : nextE s (i + 1 + (spellE a 7).length) = .ok stv := by
    rw [← hn]
    congr 1
    simp only [List.length_append, List.length_cons, List.length_nil]
    omega
  have wv := next_stw hs l2 hn'
  have eb := ha 7 7 (i + 1) v stv (Nat.le_refl _) d2 hv hn' hq
  rw [PS_stop hs a 7 wv (fun op q h => by have h2 := (sign_of_tk h).2.2.2.1; omega)] at eb
  obtain ⟨st1, g1, g2⟩ := bind_ok eb
  rw [bind_is h0, PS_none hs l w0, firstP_neg, g1]
  show ((PS s none 7 st1 >>= fun r => Except.ok (oneN 4 r.1, r.2)) >>= _) = _
  rw [g2]
  rfl
theorem ur_two {s : List UInt8} (hs : s.length ≤ 1000) {op : Int} {a b : Nd} (h5 : 5 ≤ op) (h17 : op ≤ 17) (ha : SR s a) (hb : SR s b) : UR s (twoN op a b) := by
  obtain ⟨x, ln, hx⟩ := sign_all h5 h17
  have hsh := shown_two h5 hx
  have hxl := signL_of hx
  obtain ⟨_, _, hln1, hln6, hln3⟩ := sign_op hxl
  intro l i v stv hl hd hv hn hq
  have hl : l ≤ (shownE op).2 := hl
  have hq : QT (shownE op).2 stv.1 := hq
  rw [hsh] at hl hq
  have hl : l ≤ ln := hl
  have hq : QT ln stv.1 := hq
  obtain ⟨pa, hpa⟩ : ∃ pa, (if ln = 4 then 5 else ln) = pa := ⟨_, rfl⟩
  have hpa1 : ln ≤ pa ∧ (ln = 4 → 5 ≤ pa) := by rw [← hpa]; split <;> omega
  have e : showN (twoN op a b) = spellE a pa ++ (32 :: x ++ [32]) ++ spellE b (ln + 1) := by
    have := spell_two op (by omega) Vl.zero ⟨#[]⟩ a b
    rw [hsh] at this
    show showN (.mk op Vl.zero ⟨#[]⟩ [a, b]) = _
    rw [this, ← hpa]
    simp only
    by_cases h4 : ln = 4
    · rw [if_pos h4, if_pos h4, h4]
    · rw [if_neg h4, if_neg h4]
  rw [e] at hd hn
  have d0 : s.drop i = spellE a pa ++ 32 :: (x ++ 32 :: (spellE b (ln + 1) ++ v)) := by rw [hd]; simp
  obtain ⟨hi0, _⟩ := drop_le d0 (by simp)
  have l0 := len_of d0 (by omega)
  obtain ⟨j, hj⟩ : ∃ j, i + (spellE a pa).length = j := ⟨_, rfl⟩
  have d1 : s.drop j = 32 :: (x ++ 32 :: (spellE b (ln + 1) ++ v)) := hj ▸ drop_at d0
  have d2 : s.drop (j + 1) = x ++ 32 :: (spellE b (ln + 1) ++ v) := drop_at (u := [32]) d1
  have d3 : s.drop (j + 1 + x.length) = 32 :: (spellE b (ln + 1) ++ v) := drop_at d2
  have d4 : s.drop (j + 1 + x.length + 1) = spellE b (ln + 1) ++ v := drop_at (u := [32]) d3
  obtain ⟨hi1, _⟩ := drop_le d1 (by simp)
  obtain ⟨hi3, _⟩ := drop_le d3 (by simp)
  have l4 := len_of d4 (by omega)
  have hn' : nextE s (j + 1 + x.length + 1 + (spellE b (ln + 1)).length) = .ok stv := by
    rw [← hn]
    congr 1
    simp only [List.length_append, List.length_cons, List.length_nil]
    omega
  have wv := next_stw hs l4 hn'
  obtain ⟨c, r, hcr, hc32⟩ := sign_head hxl
  have h1 : nextE s j = .ok (.say x (j + 1), j + 1 + x.length) := by
    rw [nx_sp d1]
    have d2' : s.drop (j + 1) = c :: (r ++ 32 :: (spellE b (ln + 1) ++ v)) := by rw [d2, hcr]; rfl
    rw [nx_at d2' hc32]
    have := tok_sign hx (.inl rfl) (spellE b (ln + 1) ++ v) (j + 1)
    rw [← this, hcr]
    rfl
  have w1 := next_stw hs (by omega) h1
  have hsg : signT (Tk.say x (j + 1)) = some (op, ln) := hxl
  have ea := ha pa l i _ _ (by omega) d0 (FV.sp _) (by rw [hj]; exact h1) (fun op' q' h => by
    rw [hsg] at h
    injection h with h
    injection h with _ h
    subst h
    exact hpa1)
  rw [ea, PS_some hs a l w1]
  have eb := hb (ln + 1) (ln + 1) (j + 1 + x.length + 1) v stv (Nat.le_refl _) d4 hv hn' (hq.mono (by omega))
  rw [PS_stop hs b (ln + 1) wv (fun op q h => by have := (hq op q h).1; omega)] at eb
  obtain ⟨st2, g1, g2⟩ := bind_ok eb
  simp only [hsg]
  rw [if_neg (by omega), nx_sp d3, g1]
  show (PS s none (ln + 1) st2 >>= _) = _
  rw [g2]
  show (if chainB ln stv.1 then _ else _) = _
  rw [chain_no hq]
  rfl
theorem ur_lit {s : List UInt8} (hs : s.length ≤ 1000) {v : Vl} (h : checkB v = true) (h0 : 0 ≤ v.num) (hm : v.num ≤ 9223372036854775807) : UR s (litN v) := by
  have e : showN (litN v) = litT v := rfl
  rcases checkB_kind h with hv | hv | hv
  · rw [hv] at e ⊢
    have e2 : litT (numV v.num) = itoa v.num := rfl
    rw [e2] at e
    have hd : itoa v.num = decDigits v.num.toNat := by unfold itoa; rw [if_neg (by omega)]
    cases hw : itoa v.num with
    | nil => rw [hw] at hd; exact absurd hd.symm (decDigits_ne _)
    | cons c r =>
      have hc := decDigits_dig v.num.toNat c (by rw [← hd, hw]; exact List.mem_cons_self)
      refine ur_leaf hs (c := c) (r := r) (by rw [e, hw]) ?_ (fun u i hu => by rw [e]; exact tok_num h0 hm hu i)
      rintro rfl
      unfold isDig at hc
      revert hc
      decide
  · rw [hv] at e ⊢
    have e2 : litT (trV v.tr) = formatBool v.tr := rfl
    rw [e2] at e
    cases htr : v.tr with
    | true => rw [htr] at e; exact ur_leaf hs (c := 116) (r := [114, 117, 101]) (by rw [e]; kernel_rfl) (by decide) (fun u i hu => by rw [e]; exact tok_true hu true i)
    | false => rw [htr] at e; exact ur_leaf hs (c := 102) (r := [97, 108, 115, 101]) (by rw [e]; kernel_rfl) (by decide) (fun u i hu => by rw [e]; exact tok_true hu false i)
  · have hv2 : checkB (txV v.text) = true := hv ▸ h
    rw [hv] at e ⊢
    have e2 : litT (txV v.text) = 39 :: replaceAll v.text.data.toList [39] [39, 39] ++ [39] := rfl
    rw [e2] at e
    have hvl : validD v.text.data.toList = true := by
      unfold checkB at hv2
      rw [if_neg (by show ¬ (3 : Int) = 1; decide), if_neg (by show ¬ (3 : Int) = 2; decide), if_pos (by show (3 : Int) = 3; rfl)] at hv2
      simp only [Bool.and_eq_true] at hv2
      exact hv2.2.2
    exact ur_leaf hs (c := 39) (r := replaceAll v.text.data.toList [39] [39, 39] ++ [39]) (by rw [e]; rfl) (by decide) (fun u i hu => by rw [e]; exact tok_text hvl hu i)
theorem ur_var {s : List UInt8} (hs : s.length ≤ 1000) {nm : ByteArray} (h : nameB nm = true) (hk : keyWord nm = false) : UR s (varN nm) := by
  have e : showN (varN nm) = nm.data.toList := rfl
  have h' := h
  unfold nameB nameL at h'
  simp only [Bool.and_eq_true, decide_eq_true_eq, beq_iff_eq] at h'
  obtain ⟨⟨⟨l1, l2⟩, ha⟩, hc⟩ := h'
  cases hw : nm.data.toList with
  | nil => rw [hw] at l1; simp at l1
  | cons c r =>
    rw [hw] at hc
    have hc2 : clsW c.toNat = 2 := by simpa using hc
    refine ur_leaf hs (c := c) (r := r) (by rw [e, hw]) ?_ (fun u i hu => by rw [e]; exact tok_name h hk hu i)
    rintro rfl
    revert hc2
    decide
/-- All numbers of a node are of 64 bits. -/
def numsN : Nat → Nd → Prop
  | 0, _ => True
  | m + 1, n => n.v.num ≤ 9223372036854775807 ∧ ∀ k ∈ n.kids, numsN m k
theorem sr_all {s : List UInt8} (hs : s.length ≤ 1000) : ∀ (m : Nat) (n : Nd), SizeOf.sizeOf n ≤ m → checkN n = true → numsN m n → SR s n := by
  intro m
  induction m with
  | zero => intro n h; cases n; simp at h
  | succ m IH =>
    intro n hz hc hn
    rcases may_cases10 hc with ⟨v, rfl, hv, h0⟩ | ⟨nm, rfl, h1, h2⟩ | ⟨op, a, ho, rfl, ha⟩ | ⟨op, a, b, h5, h17, rfl, ha, hb⟩
    · exact sr_of hs (by show 1 ≤ 8; omega) (ur_lit hs hv h0 hn.1)
    · exact sr_of hs (by show 1 ≤ 8; omega) (ur_var hs h1 h2)
    · have hza : SizeOf.sizeOf a ≤ m := by simp [oneN] at hz; omega
      have sa := IH a hza ha (hn.2 a (by simp [oneN, Nd.kids]))
      rcases ho with rfl | rfl
      · exact sr_of hs (by show 1 ≤ 3; omega) (ur_not hs sa)
      · exact sr_of hs (by show 1 ≤ 7; omega) (ur_neg hs sa)
    · have hza : SizeOf.sizeOf a ≤ m ∧ SizeOf.sizeOf b ≤ m := by simp [twoN] at hz; omega
      have sa := IH a hza.1 ha (hn.2 a (by simp [twoN, Nd.kids]))
      have sb := IH b hza.2 hb (hn.2 b (by simp [twoN, Nd.kids]))
      obtain ⟨x, ln, hx⟩ := sign_all h5 h17
      have hsh := shown_two h5 hx
      have := (sign_op (signL_of hx)).2.2.1
      exact sr_of hs (by show 1 ≤ (shownE op).2; rw [hsh]; exact this) (ur_two hs h5 h17 sa sb)
theorem parse_spell {n : Nd} (hc : checkN n = true) (hnum : ∀ m, numsN m n) (hl : (spellE n 1).length ≤ 256) : parseE (spellE n 1) = .ok n := by
  obtain ⟨s, hs⟩ : ∃ s, spellE n 1 = s := ⟨_, rfl⟩
  have hL : s.length ≤ 256 := hs ▸ hl
  have he : nextE s (0 + (spellE n 1).length) = .ok (.fin s.length, s.length) := nx_end (by rw [hs]; simp)
  have e := sr_all (s := s) (by omega) (SizeOf.sizeOf n) n (Nat.le_refl _) hc (hnum _) 1 1 0 [] _ (Nat.le_refl _) (by rw [hs]; simp) FV.nil he (fun op q h => by cases h)
  have hw : StW s.length (.fin s.length, s.length) := ⟨Nat.le_refl _, Nat.le_refl _, trivial⟩
  rw [PS_stop (by omega) n 1 hw (fun op q h => by cases h)] at e
  rw [hs, parse_ps hL, e]
  rfl

/-! ### What is read may be -/
def TkC (tk : Tk) : Prop := ∀ n a, tk = .nd n a → checkN n = true ∧ ∀ m, numsN m n
theorem TkC.fin (a : Nat) : TkC (.fin a) := fun n b h => by cases h
theorem TkC.say (u : List UInt8) (a : Nat) : TkC (.say u a) := fun n b h => by cases h
theorem TkC.nd {n : Nd} (h : checkN n = true) (h2 : ∀ m, numsN m n) (a : Nat) : TkC (.nd n a) := fun m b e => by injection e with e; subst e; exact ⟨h, h2⟩
theorem nums_lit {v : Vl} (h : v.num ≤ 9223372036854775807) : ∀ m, numsN m (litN v)
  | 0 => trivial
  | m + 1 => ⟨h, fun k hk => by simp [litN, Nd.kids] at hk⟩
theorem nums_var (s : ByteArray) : ∀ m, numsN m (varN s)
  | 0 => trivial
  | m + 1 => ⟨by show (0 : Int) ≤ _; omega, fun k hk => by simp [varN, Nd.kids] at hk⟩
theorem nums_one {op : Int} {a : Nd} (h : ∀ m, numsN m a) : ∀ m, numsN m (oneN op a)
  | 0 => trivial
  | m + 1 => ⟨by show (0 : Int) ≤ _; omega, fun k hk => by
    have : k = a := by simpa [oneN, Nd.kids] using hk
    subst this; exact h m⟩
theorem nums_two {op : Int} {a b : Nd} (h : ∀ m, numsN m a) (h2 : ∀ m, numsN m b) : ∀ m, numsN m (twoN op a b)
  | 0 => trivial
  | m + 1 => ⟨by show (0 : Int) ≤ _; omega, fun k hk => by
    have : k = a ∨ k = b := by simpa [twoN, Nd.kids] using hk
    rcases this with rfl | rfl
    · exact h m
    · exact h2 m⟩
theorem intE_nn {l : List UInt8} {v : Int} (hd : ∀ c ∈ l, digE c.toNat = true) (h : intE l = some v) : 0 ≤ v := by
  unfold intE at h
  split at h
  · next v' e =>
    injection h with h
    subst h
    cases l with
    | nil => simp [atoiAll] at e
    | cons c r =>
      have hc := hd c List.mem_cons_self
      unfold digE at hc
      simp only [Bool.and_eq_true, decide_eq_true_eq] at hc
      rw [atoiAll_plain c r (by omega) (by omega)] at e
      unfold signless at e
      cases hp : parseMag (c :: r) with
      | ok u =>
        rw [hp] at e
        simp only at e
        split at e
        · cases e
        · injection e with e; omega
      | range => rw [hp] at e; cases e
      | _ => rw [hp] at e; cases e
  · cases h
theorem span_mem (p : Nat → Bool) : ∀ (l : List UInt8), ∀ c ∈ l.take (spanE p l), p c.toNat = true
  | [], c, h => by simp at h
  | a :: r, c, h => by
    unfold spanE at h
    split at h
    · next hp =>
      rw [List.take_succ_cons, List.mem_cons] at h
      rcases h with rfl | h
      · exact hp
      · exact span_mem p r c h
    · simp at h
theorem tok_chk {rest : List UInt8} {a : Nat} {tk : Tk} {j : Nat} (hr : rest.length ≤ 1000) (h : tokE rest a = .ok (tk, j)) : TkC tk := by
  unfold tokE at h
  split at h
  · injection h with h; injection h with h1 h2; subst h1; exact TkC.fin _
  · next b r =>
    split at h
    · next hd =>
      have hm := span_mem digE (b :: r)
      simp only at h
      split at h
      · cases h
      · split at h
        · cases h
        · next v hv =>
          injection h with h; injection h with h1 h2; subst h1
          exact TkC.nd (may_lit10 (check_numV _) (intE_nn hm hv)) (nums_lit (intE_bounds hv).2) _
    · split at h
      · simp only at h
        split at h
        · injection h with h; injection h with h1 h2; subst h1; exact TkC.nd (may_lit10 (check_trV _) (by show (0 : Int) ≤ 0; omega)) (nums_lit (by show (0 : Int) ≤ _; omega)) _
        · split at h
          · injection h with h; injection h with h1 h2; subst h1; exact TkC.nd (may_lit10 (check_trV _) (by show (0 : Int) ≤ 0; omega)) (nums_lit (by show (0 : Int) ≤ _; omega)) _
          · split at h
            · injection h with h; injection h with h1 h2; subst h1; exact TkC.say _ _
            · next hk =>
              split at h
              · next hn =>
                injection h with h; injection h with h1 h2; subst h1
                refine TkC.nd (may_var10 hn ?_) (nums_var _) _
                unfold keyWord
                simpa using hk
              · cases h
      · split at h
        · split at h
          · cases h
          · next t n ht =>
            split at h
            · next hvl =>
              injection h with h; injection h with h1 h2; subst h1
              have := textE_le _ _ _ _ _ ht
              simp only [List.tail_cons, List.length_cons, List.length_nil] at this hr
              refine TkC.nd (may_lit10 ?_ (by show (0 : Int) ≤ 0; omega)) (nums_lit (by show (0 : Int) ≤ _; omega)) _
              have e : checkB (txV ⟨t.toArray⟩) = (vlEq (txV ⟨t.toArray⟩) (txV ⟨t.toArray⟩) && (decide ((ByteArray.mk t.toArray).size ≤ 1024) && validD (ByteArray.mk t.toArray).data.toList)) := rfl
              rw [e, vlEq_refl, size_mk, decide_eq_true (by omega), List.toList_toArray, hvl]
              rfl
            · cases h
        · simp only at h
          generalize (if 1 < (b :: r).length ∧ (signL ((b :: r).take 2)).isSome then (b :: r).take 2 else (b :: r).take 1) = w at h
          split at h
          · injection h with h; injection h with h1 h2; subst h1; exact TkC.say _ _
          · cases h
theorem next_chk {s : List UInt8} (hs : s.length ≤ 1000) {i : Nat} {st : Tk × Nat} (h : nextE s i = .ok st) : TkC st.1 := by
  unfold nextE at h
  have h1 := dropWhile_le (· == 32) (s.drop i)
  rw [List.length_drop] at h1
  obtain ⟨tk, j⟩ := st
  exact tok_chk (by omega) h
def NdC (n : Nd) : Prop := checkN n = true ∧ ∀ m, numsN m n
theorem prs_chk {s : List UInt8} (hs : s.length ≤ 1000) : ∀ (f : Nat) (m : Option Nd) (line : Nat) (st : Tk × Nat) (n : Nd) (st' : Tk × Nat), TkC st.1 → (∀ q, m = some q → NdC q) → prsE s f m line st = .ok (n, st') → NdC n ∧ TkC st'.1 := by
  intro f
  induction f with
  | zero => intro m line st n st' _ _ h; unfold prsE at h; cases h
  | succ f IH =>
    intro m line st n st' ht hm h
    cases m with
    | none =>
      rw [prs_first] at h
      obtain ⟨⟨q, st1⟩, h1, h⟩ := bind_ok h
      have key : NdC q ∧ TkC st1.1 := by
        have hah : ∀ op ln, (op = 3 ∨ op = 4) → aheadE s f op ln st = .ok (q, st1) → NdC q ∧ TkC st1.1 := by
          intro op ln ho h1
          rw [ahead_is] at h1
          obtain ⟨st2, g1, h1⟩ := bind_ok h1
          obtain ⟨⟨a, st3⟩, g2, h1⟩ := bind_ok h1
          injection h1 with h1
          injection h1 with e1 e2
          subst e1 e2
          obtain ⟨c1, c2⟩ := IH none ln st2 a st3 (next_chk hs g1) (fun q h => by cases h) g2
          exact ⟨⟨by rw [check_one ho]; exact c1.1, nums_one c1.2⟩, c2⟩
        unfold firstE at h1
        split at h1
        · exact hah 3 3 (.inl rfl) h1
        · split at h1
          · exact hah 4 7 (.inr rfl) h1
          · split at h1
            · rw [brackE_is] at h1
              obtain ⟨st2, g1, h1⟩ := bind_ok h1
              obtain ⟨⟨a, st3⟩, g2, h1⟩ := bind_ok h1
              obtain ⟨c1, c2⟩ := IH none 1 st2 a st3 (next_chk hs g1) (fun q h => by cases h) g2
              simp only at h1
              by_cases h41 : (sayOf st3.1).data.toList = [41]
              · rw [tailE_yes h41] at h1
                obtain ⟨st4, g3, h1⟩ := bind_ok h1
                injection h1 with h1
                injection h1 with e1 e2
                subst e1 e2
                exact ⟨c1, next_chk hs g3⟩
              · rw [tailE_no h41] at h1
                cases h1
            · unfold atomE at h1
              split at h1
              · next m a he =>
                obtain ⟨st2, g1, h1⟩ := bind_ok h1
                injection h1 with h1
                injection h1 with e1 e2
                subst e1 e2
                exact ⟨ht _ _ he, next_chk hs g1⟩
              · cases h1
      exact IH (some q) line st1 n st' key.2 (fun q' e => by injection e with e; subst e; exact key.1) h
    | some q =>
      rw [prs_some] at h
      cases hsg : signT st.1 with
      | none =>
        rw [hsg] at h
        injection h with h
        injection h with e1 e2
        subst e1 e2
        exact ⟨hm _ rfl, ht⟩
      | some p =>
        obtain ⟨op, ln⟩ := p
        rw [hsg] at h
        simp only at h
        split at h
        · injection h with h
          injection h with e1 e2
          subst e1 e2
          exact ⟨hm _ rfl, ht⟩
        · obtain ⟨⟨r, st2⟩, g, h⟩ := bind_ok h
          rw [step_is] at g
          obtain ⟨st3, g1, g⟩ := bind_ok g
          obtain ⟨⟨b, st4⟩, g2, g⟩ := bind_ok g
          injection g with g
          injection g with e1 e2
          subst e1 e2
          obtain ⟨c1, c2⟩ := IH none _ st3 b st4 (next_chk hs g1) (fun q h => by cases h) g2
          obtain ⟨o5, o17, _⟩ := sign_of_tk hsg
          simp only at h
          split at h
          · cases h
          · refine IH (some _) line st4 n st' c2 (fun q' e => ?_) h
            injection e with e
            subst e
            exact ⟨by rw [check_two o5 o17, (hm _ rfl).1, c1.1]; rfl, nums_two (hm _ rfl).2 c1.2⟩
theorem parse_chk {s : List UInt8} {n : Nd} (h : parseE s = .ok n) : checkN n = true ∧ ∀ m, numsN m n := by
  by_cases hl : 256 < s.length
  · unfold parseE at h
    rw [if_pos hl] at h
    cases h
  · rw [parse_ps (by omega)] at h
    obtain ⟨⟨q, st1⟩, h1, h⟩ := bind_ok h
    obtain ⟨st, g1, g2⟩ := bind_ok h1
    obtain ⟨c1, c2⟩ := prs_chk (by omega) _ none 1 st q st1 (next_chk (by omega) g1) (fun q h => by cases h) g2
    simp only at h
    split at h
    · injection h with h; subst h; exact c1
    · cases h
theorem parse_err {s : List UInt8} {x : Int} {p : Nat} (h : parseE s = .error (x, p)) : p ≤ s.length := by
  by_cases hl : 256 < s.length
  · unfold parseE at h
    rw [if_pos hl] at h
    injection h with h
    injection h with h1 h2
    omega
  · have hs : s.length ≤ 1000 := by omega
    rw [parse_ps (by omega)] at h
    rcases bind_err h with h | ⟨⟨q, st1⟩, h1, h⟩
    · rcases bind_err h with h | ⟨st, g1, h⟩
      · exact (nextE_err h).2
      · have hw := next_stw hs (Nat.zero_le _) g1
        exact (prs_err hs _ none 1 st x p hw (by have := mu_le s st; omega) h).2
    · obtain ⟨st, g1, g2⟩ := bind_ok h1
      have hw := next_stw hs (Nat.zero_le _) g1
      have := (prs_mu hs _ none 1 st q st1 hw g2).1
      simp only at h
      split at h
      · cases h
      · injection h with h
        injection h with e1 e2
        subst e2
        exact this.2.1
/-- What is read is written, and read as the same again. -/
theorem back_again {s : List UInt8} {n : Nd} (h : parseE s = .ok n) (hl : (spellE n 1).length ≤ 256) : parseE (spellE n 1) = .ok n := parse_spell (parse_chk h).1 (parse_chk h).2 hl
end Go.Proofs.YtbephgifbghilaaGreatDoor

/- The law's few and small: has a node at most 500 nodes, 200 deep? (seat expr) -/
set_option maxRecDepth 100000
namespace Go.Proofs.YtbephgifbghilaaGreatDoor
open Go.RowKit

def smallF : Nat → List Nd → Int → Int
  | 0, _, _ => -1
  | k + 1, l, left => l.foldl (fun x a => if 0 ≤ x then smallF k a.kids (x - 1) else x) left
def fewB (n : Nd) : Bool := decide (0 ≤ smallF 201 [n] 500)
theorem small_le : ∀ (k : Nat) (l : List Nd) (x : Int), -1 ≤ x → -1 ≤ smallF k l x ∧ smallF k l x ≤ x
  | 0, l, x, h => ⟨by show (-1 : Int) ≤ -1; omega, h⟩
  | k + 1, [], x, h => ⟨h, Int.le_refl _⟩
  | k + 1, a :: r, x, h => by
    show -1 ≤ smallF (k + 1) r (if 0 ≤ x then smallF k a.kids (x - 1) else x) ∧ smallF (k + 1) r (if 0 ≤ x then smallF k a.kids (x - 1) else x) ≤ x
    by_cases h0 : 0 ≤ x
    · rw [if_pos h0]
      obtain ⟨h1, h2⟩ := small_le k a.kids (x - 1) (by omega)
      obtain ⟨h3, h4⟩ := small_le (k + 1) r _ h1
      exact ⟨h3, by omega⟩
    · rw [if_neg h0]
      exact small_le (k + 1) r x h
theorem small_neg (k : Nat) : ∀ (l : List Nd) (x : Int), x < 0 → smallF (k + 1) l x = x
  | [], x, h => rfl
  | a :: r, x, h => by
    show smallF (k + 1) r (if 0 ≤ x then smallF k a.kids (x - 1) else x) = x
    rw [if_neg (by omega)]
    exact small_neg k r x h
theorem small_step (k : Nat) {l : List Nd} {i : Nat} (h : i < l.length) {x : Int} (h0 : 0 ≤ x) : smallF (k + 1) (l.drop i) x = smallF (k + 1) (l.drop (i + 1)) (smallF k l[i].kids (x - 1)) := by
  rw [List.drop_eq_getElem_cons h]
  show smallF (k + 1) _ (if 0 ≤ x then _ else _) = _
  rw [if_pos h0]
theorem small_end (k : Nat) {l : List Nd} {i : Nat} (h : l.length ≤ i) (x : Int) : smallF (k + 1) (l.drop i) x = x := by
  rw [List.drop_eq_nil_of_le h]
  rfl
set_option maxHeartbeats 2000000 in
theorem small_any : ∀ (k : Nat) (w : World) (l : List Nd) (v : Value) (left deep : Int), (k : Int) + deep = 201 → k ≤ 201 → -1 ≤ left → left ≤ 500 → KidsR w w.heap.size v l →
    Calls Tryz.prog 44 #[v, .int .i64 left, .int .i64 deep] w fun e w' => e = .returned (.int .i64 (smallF k l left)) ∧ Below w.heap.size w w' := by
  intro k
  induction k with
  | zero =>
    intro w l v left deep hd hk h0 h1 hl
    obtain ⟨a, cap, rfl⟩ := hl.val
    obtain rfl : deep = 201 := by omega
    go_enter Tryz.func44, Tryz.ntmps44
    go_wp2_with fail
    go_ret
    exact ⟨rfl, Below.refl _ _⟩
  | succ k ih =>
    intro w l v left deep hd hk h0 h1 hl
    obtain ⟨a, cap, rfl⟩ := hl.val
    have hll := hl.len
    have d0 : decide ((200 : Int) < deep) = false := decide_eq_false (by omega)
    have hd1 : deep ≤ 200 := by omega
    have hd2 : 0 ≤ deep := by omega
    have IH := Lib.hid (fun (w : World) (l : List Nd) (v : Value) (left : Int) (h0 : -1 ≤ left) (h1 : left ≤ 500) (hl : KidsR w w.heap.size v l) => ih w l v left (deep + 1) (by omega) (by omega) h0 h1 hl)
    have HL := Lib.hid hl
    obtain ⟨t, ht⟩ : ∃ t, smallF (k + 1) l left = t := ⟨_, rfl⟩
    have HT : Hid (smallF (k + 1) (l.drop 0) left = t) := Lib.hid ht
    rw [ht]
    clear ih hd hk hl ht
    go_enter Tryz.func44, Tryz.ntmps44
    go_wp2_with fail
    go_loopg [1, 7] l.length (fun g s1 s7 wr => ∃ (i : Nat) (x : Int), i + g = l.length ∧ s1 = .int .i64 x ∧ s7 = .int .i64 (i : Int) ∧ -1 ≤ x ∧ x ≤ 500 ∧ Hid (smallF (k + 1) (l.drop i) x = t) ∧ Below w.heap.size w wr)
    case atStart => exact ⟨0, left, by omega, rfl, rfl, h0, h1, HT, Below.refl _ _⟩
    case round =>
      obtain ⟨i, x, hig, rfl, rfl, hx0, hx1, hT, hB⟩ := hrel
      by_cases hi : i < l.length
      · have u1 : decide ((i : Int) < (l.length : Int)) = true := decide_eq_true (by omega)
        have u1' : decide (i < l.length) = true := decide_eq_true hi
        by_cases hx : 0 ≤ x
        · have u2 : decide ((0 : Int) ≤ x) = true := decide_eq_true hx
          obtain ⟨b, o, vk, rfl, hb, hw, hkk, c0, c1, c2, c3, c4, c5, c6⟩ := HL.out.at hi
          have c6' : wr.cell? ⟨b, o + i * 7 + 6, none⟩ = some vk := (Below.cellB hB hb).trans c6
          have hs := small_step k hi hx
          obtain ⟨q1, q2⟩ := small_le k l[i].kids (x - 1) (by omega)
          have HS := Lib.hid (hs.symm.trans hT.out)
          have HC := Lib.hid (IH.out wr l[i].kids vk (x - 1) (by omega) (by omega) (hkk.mono hB hB.size))
          obtain ⟨y, hy⟩ : ∃ y, smallF k l[i].kids (x - 1) = y := ⟨_, rfl⟩
          rw [hy] at HS HC q1 q2
          have HBr := Lib.hid hB
          clear hy hs hT c0 c1 c2 c3 c4 c5 c6 hw hkk hB
          go_wp2_with (go_at_call 44; refine HC.out.mono ?_; rintro e w2 ⟨rfl, hb2⟩; have HB2 := Lib.hid (HBr.out.trans (hb2.mono HBr.out.size)); clear hb2)
          go_roundg (gk - 1)
          case measure => omega
          case rel => exact ⟨i + 1, y, by omega, rfl, by go_num, q1, by omega, HS, HB2.out⟩
        · have u2 : decide ((0 : Int) ≤ x) = false := decide_eq_false hx
          have HS : Hid (x = t) := Lib.hid ((small_neg k _ x (by omega)).symm.trans hT.out)
          go_wp2_with fail
          go_ret
          exact ⟨ret_int HS.out, hB⟩
      · have u1 : decide ((i : Int) < (l.length : Int)) = false := decide_eq_false (by omega)
        have u1' : decide (i < l.length) = false := decide_eq_false hi
        have HS : Hid (x = t) := Lib.hid ((small_end k (by omega) x).symm.trans hT.out)
        go_wp2_with fail
        go_ret
        exact ⟨ret_int HS.out, hB⟩
set_option maxHeartbeats 1000000 in
theorem few_any (w : World) (n : Nd) (vk : Value) (hn : NdR w w.heap.size vk n) : Calls Tryz.prog 11 #[valN n vk] w fun e w' => e = .returned (.bool (fewB n)) ∧ Below w.heap.size w w' := by
  obtain ⟨w1, p1, hp1, hw1, l1, n1, b1⟩ := box_new w (.cells #[.int .u8 n.op, .int .u8 n.v.kind, .int .i64 n.v.num, .bool n.v.tr, .string n.v.text, .string n.name, vk] 36)
  obtain ⟨c0, c1, c2, c3, c4, c5, c6⟩ := n_cells n1
  obtain ⟨w2, p2, hp2, hw2, l2, n2, b2⟩ := box_new w1 (.cells #[.int .u8 n.op, .int .u8 n.v.kind, .int .i64 n.v.num, .bool n.v.tr, .string n.v.text, .string n.name, vk] 36)
  have HB := Lib.hid (b1.trans (b2.mono b1.size))
  have hk : KidsR w2 w2.heap.size (.slice (some ⟨p2, 0, none⟩) 1 1) [n] := kids_one n2 (hn.to HB.out) 1 (Nat.le_refl _)
  have HC := Lib.hid (small_any 201 w2 [n] _ 500 0 (by omega) (by omega) (by omega) (by omega) hk)
  have Hf : Hid (fewB n = decide (0 ≤ smallF 201 [n] 500)) := Lib.hid rfl
  obtain ⟨y, hy⟩ : ∃ y, smallF 201 [n] 500 = y := ⟨_, rfl⟩
  rw [hy] at Hf HC
  clear hy hk hn n1 n2 b1 b2
  go_enter Tryz.func11, Tryz.ntmps11
  go_wp2_with (go_at_call 44; refine HC.out.mono ?_; rintro e w3 ⟨rfl, hb3⟩; have HB3 := Lib.hid (HB.out.trans (hb3.mono HB.out.size)); clear hb3)
  go_ret
  exact ⟨ret_bool Hf.out.symm, HB3.out⟩
/-! ### What few says: how many nodes there are -/
mutual
def cntN : Nd → Nat
  | .mk _ _ _ ks => 1 + cntL ks
def cntL : List Nd → Nat
  | [] => 0
  | a :: r => cntN a + cntL r
end
theorem cntN_is (n : Nd) : cntN n = 1 + cntL n.kids := by cases n; rfl
theorem cnt_pos (n : Nd) : 1 ≤ cntN n := by rw [cntN_is]; omega
theorem cnt_len : ∀ l : List Nd, l.length ≤ cntL l
  | [] => Nat.le_refl _
  | a :: r => by
    have := cnt_len r
    have := cnt_pos a
    show r.length + 1 ≤ cntN a + cntL r
    omega
theorem cnt_mem : ∀ {l : List Nd} {a : Nd}, a ∈ l → cntN a ≤ cntL l
  | b :: r, a, h => by
    show _ ≤ cntN b + cntL r
    rcases List.mem_cons.1 h with rfl | h
    · omega
    · have := cnt_mem h; omega
theorem small_cnt : ∀ (k : Nat) (l : List Nd) (x : Int), 0 ≤ smallF k l x → (cntL l : Int) + smallF k l x = x
  | 0, l, x, h => by exact absurd h (by show ¬ (0 : Int) ≤ -1; omega)
  | k + 1, [], x, h => by show ((0 : Nat) : Int) + x = x; omega
  | k + 1, a :: r, x, h => by
    have e : smallF (k + 1) (a :: r) x = smallF (k + 1) r (if 0 ≤ x then smallF k a.kids (x - 1) else x) := rfl
    rw [e] at h ⊢
    by_cases h0 : 0 ≤ x
    · rw [if_pos h0] at h ⊢
      by_cases hy : 0 ≤ smallF k a.kids (x - 1)
      · have h1 := small_cnt k a.kids (x - 1) hy
        have h2 := small_cnt (k + 1) r _ h
        have h3 := cntN_is a
        show ((cntN a + cntL r : Nat) : Int) + _ = x
        omega
      · rw [small_neg k r _ (by omega)] at h
        omega
    · rw [if_neg h0, small_neg k r x (by omega)] at h
      omega
theorem few_cnt {n : Nd} (h : fewB n = true) : cntN n ≤ 500 := by
  have h0 : 0 ≤ smallF 201 [n] 500 := by simpa [fewB] using h
  have := small_cnt 201 [n] 500 h0
  have e : cntL [n] = cntN n := by show cntN n + 0 = _; omega
  omega
end Go.Proofs.YtbephgifbghilaaGreatDoor

/- What few says: how many nodes there are, how long the text may be (plain; seat expr). -/
set_option maxRecDepth 100000
namespace Go.Proofs.YtbephgifbghilaaGreatDoor
open Go.Lib

theorem quo_len : ∀ t : List UInt8, (quoL t).length ≤ 2 * t.length
  | [] => Nat.le_refl _
  | c :: r => by
    have := quo_len r
    unfold quoL
    split <;> simp only [List.length_cons] <;> omega
theorem itoa_len10 {n : Int} (h0 : 0 ≤ n) (h1 : n ≤ 9223372036854775807) : (itoa n).length ≤ 20 := by
  unfold itoa
  rw [if_neg (by omega), decDigits_length]
  exact nDigits_le 19 _ (by omega)
theorem wrap_len (own line : Nat) (t : List UInt8) : (wrapT own line t).length ≤ t.length + 2 := by
  unfold wrapT
  split <;> simp
theorem sign_len10 {op : Int} {x : List UInt8} {ln : Nat} (h : signX op = some (x, ln)) : x.length ≤ 3 := by
  unfold signX at h
  repeat (rcases ite_some h with h | h; · (injection h with h1 h2; subst h1 h2; simp))
  cases h
theorem show_len10 : ∀ (m : Nat) (n : Nd), SizeOf.sizeOf n ≤ m → checkN n = true → numsN m n → (showN n).length + 2 ≤ 3000 * cntN n := by
  intro m
  induction m with
  | zero => intro n h; cases n; simp at h
  | succ m IH =>
    intro n hz hc hn
    rcases may_cases10 hc with ⟨v, rfl, hv, h0⟩ | ⟨nm, rfl, h1, h2⟩ | ⟨op, a, ho, rfl, ha⟩ | ⟨op, a, b, h5, h17, rfl, ha, hb⟩
    · have e : showN (litN v) = litT v := rfl
      have hcn : cntN (litN v) = 1 := rfl
      have hnum : v.num ≤ 9223372036854775807 := hn.1
      rw [e, hcn]
      rcases checkB_kind hv with hk | hk | hk
      · have := itoa_len10 h0 hnum
        rw [hk]
        show (itoa v.num).length + 2 ≤ _
        omega
      · rw [hk]
        show (formatBool v.tr).length + 2 ≤ _
        have : (formatBool v.tr).length ≤ 5 := by cases v.tr <;> decide +kernel
        omega
      · have hv2 : checkB (txV v.text) = true := hk ▸ hv
        rw [hk]
        show (39 :: replaceAll v.text.data.toList [39] [39, 39] ++ [39]).length + 2 ≤ _
        rw [quo_all]
        unfold checkB at hv2
        rw [if_neg (by show ¬ (3 : Int) = 1; decide), if_neg (by show ¬ (3 : Int) = 2; decide), if_pos (by show (3 : Int) = 3; rfl)] at hv2
        simp only [Bool.and_eq_true, decide_eq_true_eq] at hv2
        have h1024 : v.text.size ≤ 1024 := hv2.2.1
        have hl : v.text.data.toList.length = v.text.size := rfl
        have := quo_len v.text.data.toList
        simp only [List.length_append, List.length_cons, List.length_nil]
        omega
    · have e : showN (varN nm) = nm.data.toList := rfl
      have hcn : cntN (varN nm) = 1 := rfl
      rw [e, hcn]
      unfold nameB nameL at h1
      simp only [Bool.and_eq_true, decide_eq_true_eq] at h1
      have := h1.1.1.2
      omega
    · have hza : SizeOf.sizeOf a ≤ m := by simp [oneN] at hz; omega
      have sa := IH a hza ha (hn.2 a (by simp [oneN, Nd.kids]))
      have hcn : cntN (oneN op a) = 1 + (cntN a + 0) := rfl
      have e : showN (oneN op a) = (shownE op).1 ++ spellE a (shownE op).2 := spell_one op (by omega) _ _ a
      have hw := wrap_len (shownE a.op).2 (shownE op).2 (showN a)
      have hs : (shownE op).1.length ≤ 4 := by rcases ho with rfl | rfl <;> decide
      rw [e, hcn, List.length_append]
      unfold spellE
      omega
    · have hza : SizeOf.sizeOf a ≤ m ∧ SizeOf.sizeOf b ≤ m := by simp [twoN] at hz; omega
      have sa := IH a hza.1 ha (hn.2 a (by simp [twoN, Nd.kids]))
      have sb := IH b hza.2 hb (hn.2 b (by simp [twoN, Nd.kids]))
      obtain ⟨x, ln, hx⟩ := sign_all h5 h17
      have hsh := shown_two h5 hx
      have hsl := sign_len10 hx
      have hcn : cntN (twoN op a b) = 1 + (cntN a + (cntN b + 0)) := rfl
      have e : showN (twoN op a b) = _ := spell_two op (by omega) Vl.zero ⟨#[]⟩ a b
      have hwa := fun p => wrap_len (shownE a.op).2 p (showN a)
      have hwb := fun p => wrap_len (shownE b.op).2 p (showN b)
      rw [e, hcn, hsh]
      unfold spellE
      split
      · have := hwa 5
        have := hwb 5
        simp only [List.length_append, List.length_cons, List.length_nil]
        omega
      · have := hwa ln
        have := hwb (ln + 1)
        simp only [List.length_append, List.length_cons, List.length_nil]
        omega
theorem spell_len10 {n : Nd} (hc : checkN n = true) (hn : ∀ m, numsN m n) (p : Nat) : (spellE n p).length ≤ 3000 * cntN n := by
  have h1 := show_len10 (SizeOf.sizeOf n) n (Nat.le_refl _) hc (hn _)
  have h2 := wrap_len (shownE n.op).2 p (showN n)
  unfold spellE
  omega
theorem nums_of {w : World} {B : Nat} : ∀ (m : Nat) (n : Nd) (vk : Value), HeadW n → KidsR w B vk n.kids → numsN m n
  | 0, n, vk, _, _ => trivial
  | m + 1, n, vk, hw, hk => ⟨hw.v.n1, fun k hkm => by
    obtain ⟨i, hi, rfl⟩ := List.getElem_of_mem hkm
    obtain ⟨a, cap, e⟩ := hk.val
    rw [e] at hk
    obtain ⟨b, o, vk', _, _, hw', hk', _⟩ := hk.at hi
    exact nums_of m _ vk' hw' hk'⟩
theorem cnt_one (op : Int) (a : Nd) : cntN (oneN op a) = 1 + cntN a := by show 1 + (cntN a + 0) = _; omega
theorem cnt_two (op : Int) (a b : Nd) : cntN (twoN op a b) = 1 + cntN a + cntN b := by show 1 + (cntN a + (cntN b + 0)) = _; omega
/-- A node that is read has no more parts than there are tokens. -/
theorem prs_cnt {s : List UInt8} (hs : s.length ≤ 1000) : ∀ (f : Nat) (m : Option Nd) (line : Nat) (st : Tk × Nat) (n : Nd) (st' : Tk × Nat), StW s.length st → (∀ q a, st.1 = .nd q a → cntN q = 1) → prsE s f m line st = .ok (n, st') →
    (∀ q a, st'.1 = .nd q a → cntN q = 1) ∧ (m = none → cntN n + mu s.length st' ≤ mu s.length st) ∧ (∀ q, m = some q → cntN n + mu s.length st' ≤ cntN q + mu s.length st) := by
  have hnx : ∀ i st, nextE s i = .ok st → ∀ q a, st.1 = .nd q a → cntN q = 1 := by
    intro i st h q a e
    have h1 := dropWhile_le (· == 32) (s.drop i)
    rw [List.length_drop] at h1
    obtain ⟨tk, j⟩ := st
    unfold nextE at h
    obtain ⟨_, rfl, _⟩ | ⟨_, _, _, _, hw⟩ := tokE_ok (by omega) h
    · cases e
    · simp only at e
      subst e
      have hk : q.kids = [] := hw.2.1
      rw [cntN_is, hk]
      rfl
  intro f
  induction f with
  | zero => intro m line st n st' _ _ h; unfold prsE at h; cases h
  | succ f IH =>
    intro m line st n st' hi ht h
    cases m with
    | none =>
      rw [prs_first] at h
      obtain ⟨⟨q, st1⟩, h1, h⟩ := bind_ok h
      obtain ⟨hw1, _⟩ := first_mu hs hi h1
      have key : (∀ q a, st1.1 = .nd q a → cntN q = 1) ∧ cntN q + mu s.length st1 ≤ mu s.length st := by
        have hah : ∀ op ln, isFin st.1 = false → aheadE s f op ln st = .ok (q, st1) → (∀ q a, st1.1 = .nd q a → cntN q = 1) ∧ cntN q + mu s.length st1 ≤ mu s.length st := by
          intro op ln hfin h1
          rw [ahead_is] at h1
          obtain ⟨st2, g1, h1⟩ := bind_ok h1
          obtain ⟨⟨a, st3⟩, g2, h1⟩ := bind_ok h1
          injection h1 with h1
          injection h1 with e1 e2
          subst e1 e2
          obtain ⟨a1, a2, a3, a4, a5⟩ := next_mu hs hi.1 hfin g1
          obtain ⟨c1, c2, _⟩ := IH none ln st2 a st3 ⟨a2, a4, a5⟩ (hnx _ _ g1) g2
          have := c2 rfl
          exact ⟨c1, by rw [cnt_one]; simp only; omega⟩
        unfold firstE at h1
        split at h1
        · next hx => exact hah 3 3 (fin_say (by rw [hx.1]; decide)) h1
        · split at h1
          · next hx => exact hah 4 7 (fin_say (by rw [hx]; decide)) h1
          · split at h1
            · next hx =>
              have hfin := fin_say (st := st) (by rw [hx]; decide)
              rw [brackE_is] at h1
              obtain ⟨st2, g1, h1⟩ := bind_ok h1
              obtain ⟨⟨a, st3⟩, g2, h1⟩ := bind_ok h1
              obtain ⟨a1, a2, a3, a4, a5⟩ := next_mu hs hi.1 hfin g1
              obtain ⟨c1, c2, _⟩ := IH none 1 st2 a st3 ⟨a2, a4, a5⟩ (hnx _ _ g1) g2
              obtain ⟨b1, _, _⟩ := prs_mu hs f none 1 st2 a st3 ⟨a2, a4, a5⟩ g2
              have c2 := c2 rfl
              simp only at h1
              by_cases h41 : (sayOf st3.1).data.toList = [41]
              · rw [tailE_yes h41] at h1
                obtain ⟨st4, g3, h1⟩ := bind_ok h1
                injection h1 with h1
                injection h1 with e1 e2
                subst e1 e2
                obtain ⟨d1, _⟩ := next_mu hs b1.1 (fin_say (by rw [h41]; decide)) g3
                exact ⟨hnx _ _ g3, by omega⟩
              · rw [tailE_no h41] at h1
                cases h1
            · unfold atomE at h1
              split at h1
              · next m a he =>
                obtain ⟨st2, g1, h1⟩ := bind_ok h1
                injection h1 with h1
                injection h1 with e1 e2
                subst e1 e2
                obtain ⟨a1, _⟩ := next_mu hs hi.1 (by rw [he]; rfl) g1
                have := ht _ _ he
                exact ⟨hnx _ _ g1, by omega⟩
              · cases h1
      obtain ⟨c1, _, c3⟩ := IH (some q) line st1 n st' hw1 key.1 h
      have := c3 q rfl
      exact ⟨c1, fun _ => by have := key.2; omega, fun q e => by cases e⟩
    | some q =>
      rw [prs_some] at h
      cases hsg : signT st.1 with
      | none =>
        rw [hsg] at h
        injection h with h
        injection h with e1 e2
        subst e1 e2
        exact ⟨ht, (fun e => by cases e), fun q' e => by injection e with e; subst e; exact Nat.le_refl _⟩
      | some p =>
        obtain ⟨op, ln⟩ := p
        rw [hsg] at h
        simp only at h
        split at h
        · injection h with h
          injection h with e1 e2
          subst e1 e2
          exact ⟨ht, (fun e => by cases e), fun q' e => by injection e with e; subst e; exact Nat.le_refl _⟩
        · obtain ⟨⟨r, st2⟩, g, h⟩ := bind_ok h
          obtain ⟨hw2, _⟩ := step_mu hs hi (signT_fin hsg) g
          rw [step_is] at g
          obtain ⟨st3, g1, g⟩ := bind_ok g
          obtain ⟨⟨b, st4⟩, g2, g⟩ := bind_ok g
          injection g with g
          injection g with e1 e2
          subst e1 e2
          obtain ⟨a1, a2, a3, a4, a5⟩ := next_mu hs hi.1 (signT_fin hsg) g1
          obtain ⟨c1, c2, _⟩ := IH none _ st3 b st4 ⟨a2, a4, a5⟩ (hnx _ _ g1) g2
          have c2 := c2 rfl
          simp only at h
          split at h
          · cases h
          · obtain ⟨d1, _, d3⟩ := IH (some _) line st4 n st' hw2 c1 h
            have d3 := d3 _ rfl
            rw [cnt_two] at d3
            exact ⟨d1, (fun e => by cases e), fun q' e => by injection e with e; subst e; omega⟩
theorem parse_cnt {s : List UInt8} {n : Nd} (h : parseE s = .ok n) : cntN n ≤ 600 := by
  by_cases hl : 256 < s.length
  · unfold parseE at h
    rw [if_pos hl] at h
    cases h
  · have hs : s.length ≤ 1000 := by omega
    rw [parse_ps (by omega)] at h
    obtain ⟨⟨q, st1⟩, h1, h⟩ := bind_ok h
    obtain ⟨st, g1, g2⟩ := bind_ok h1
    have hw := next_stw hs (Nat.zero_le _) g1
    have hq : ∀ q a, st.1 = .nd q a → cntN q = 1 := by
      intro q a e
      have h1 := dropWhile_le (· == 32) (s.drop 0)
      rw [List.length_drop] at h1
      obtain ⟨tk, j⟩ := st
      unfold nextE at g1
      obtain ⟨_, rfl, _⟩ | ⟨_, _, _, _, hw⟩ := tokE_ok (by omega) g1
      · cases e
      · simp only at e
        subst e
        have hk : q.kids = [] := hw.2.1
        rw [cntN_is, hk]
        rfl
    obtain ⟨_, c2, _⟩ := prs_cnt hs _ none 1 st q st1 hw hq g2
    have c2 := c2 rfl
    have := mu_le s st
    simp only at h
    split at h
    · injection h with h; subst h; omega
    · cases h
theorem parse_len {s : List UInt8} {n : Nd} (h : parseE s = .ok n) : (spellE n 1).length ≤ 1000000000 := by
  have h1 := spell_len10 (parse_chk h).1 (parse_chk h).2 1
  have h2 := parse_cnt h
  omega
end Go.Proofs.YtbephgifbghilaaGreatDoor

/- Nodes in blocks that meet a condition: what a call has made (seat expr). -/
set_option maxRecDepth 100000
namespace Go.Proofs.YtbephgifbghilaaGreatDoor
open Go.RowKit

theorem cell_of_heap {w w' : World} {b o : Nat} (h : w'.heap[b]? = w.heap[b]?) : w'.cell? ⟨b, o, none⟩ = w.cell? ⟨b, o, none⟩ := by
  simp [World.cell?, h]
/-- Kids that may be read, all in blocks that meet 'ok'. -/
inductive KidsO (w : World) (ok : Nat → Prop) : Value → List Nd → Prop
  | mk (a : Option Addr) (cap : Nat) (l : List Nd) (vk : Nat → Value) (hl : l.length ≤ 1599289640355) (hcap : l.length ≤ cap) (hw : ∀ i (h : i < l.length), HeadW l[i])
      (hc : ∀ i (h : i < l.length), ∃ b o, a = some ⟨b, o, none⟩ ∧ b < w.heap.size ∧ ok b ∧ ∀ j, j < 7 → w.cell? ⟨b, o + i * 7 + j, none⟩ = (cellN l[i] (vk i))[j]?)
      (hk : ∀ i (h : i < l.length), KidsO w ok (vk i) l[i].kids) : KidsO w ok (.slice a l.length cap) l
theorem KidsO.kept {w w' : World} {ok ok' : Nat → Prop} {v : Value} {l : List Nd} (h : KidsO w ok v l) (hz : w.heap.size ≤ w'.heap.size) (hh : ∀ b, b < w.heap.size → ok b → w'.heap[b]? = w.heap[b]? ∧ ok' b) : KidsO w' ok' v l := by
  induction h with
  | mk a cap l vk hl hcap hw hc hk ih =>
    refine .mk a cap l vk hl hcap hw (fun i hi => ?_) ih
    obtain ⟨b, o, e, hlt, hok, h⟩ := hc i hi
    exact ⟨b, o, e, by omega, (hh b hlt hok).2, fun j hj => by rw [cell_of_heap (hh b hlt hok).1]; exact h j hj⟩
theorem KidsO.keptB {w w' : World} {ok : Nat → Prop} {v : Value} {l : List Nd} (h : KidsO w ok v l) (hb : Below w.heap.size w w') : KidsO w' ok v l := h.kept hb.size (fun b hlt hok => ⟨hb.block b hlt, hok⟩)
theorem KidsO.kids {w : World} {ok : Nat → Prop} {v : Value} {l : List Nd} (h : KidsO w ok v l) : KidsR w w.heap.size v l := by
  induction h with
  | mk a cap l vk hl hcap hw hc hk ih =>
    refine .mk a cap l vk hl hcap hw (fun i hi => ?_) ih
    obtain ⟨b, o, e, hlt, hok, h⟩ := hc i hi
    exact ⟨b, o, e, hlt, h⟩
theorem KidsO.nil (w : World) (ok : Nat → Prop) : KidsO w ok (.slice none 0 0) [] := .mk none 0 [] (fun _ => .slice none 0 0) (by simp) (by simp) (fun i h => by simp at h) (fun i h => by simp at h) (fun i h => by simp at h)
theorem KidsO.val {w : World} {ok : Nat → Prop} {v : Value} {l : List Nd} (h : KidsO w ok v l) : ∃ a cap, v = .slice a l.length cap := by
  cases h with
  | mk a cap l vk hl hcap hw hc hk => exact ⟨a, cap, rfl⟩
/-- Kids in a row of the call's own. -/
abbrev cP (p : Nd × Value) : List Value := cellN p.1 p.2
theorem cP_len : ∀ p : Nd × Value, (cP p).length = 7 := fun _ => rfl
abbrev OwnK (w : World) (base : Nat) (v : Value) (L : List (Nd × Value)) : Prop := OwnF cP 29 7 w base v L
theorem own_kids {w : World} {base : Nat} {v : Value} {L : List (Nd × Value)} {ok : Nat → Prop} (h : OwnK w base v L) (hl : L.length ≤ 1000000) (hok : ∀ g, v.ownBlock = some g → ok g) (hH : ∀ p ∈ L, HeadW p.1 ∧ KidsO w ok p.2 p.1.kids) : KidsO w ok v (L.map Prod.fst) := by
  have hlen : (L.map Prod.fst).length = L.length := by simp
  rcases h.2 with ⟨rfl, h0⟩ | ⟨g, cap, cur, rfl, hb, hg, hn, hm, hs, hx⟩
  · obtain rfl : L = [] := List.eq_nil_of_length_eq_zero h0
    exact KidsO.nil w ok
  · have e : Value.slice (some ⟨g, 0, none⟩) L.length cap = .slice (some ⟨g, 0, none⟩) (L.map Prod.fst).length cap := by rw [hlen]
    rw [e]
    have hget : ∀ i (hi : i < (L.map Prod.fst).length), (L.map Prod.fst)[i] = (L[i]'(by rw [hlen] at hi; exact hi)).1 := fun i hi => by simp
    have hd : ∀ i (hi : i < L.length), L.getD i default = L[i] := fun i hi => by simp [List.getD_eq_getElem?_getD, hi]
    refine .mk _ cap _ (fun i => (L.getD i default).2) (by rw [hlen]; omega) (by rw [hlen]; exact hn) (fun i hi => ?_) (fun i hi => ⟨g, 0, rfl, lt_of_block hg, hok g rfl, fun j hj => ?_⟩) (fun i hi => ?_)
    · rw [hget i hi]
      exact (hH _ (List.getElem_mem _)).1
    · have hi' : i < L.length := by rw [hlen] at hi; exact hi
      rw [hget i hi, hd i hi', Nat.zero_add, cell_of_block hg]
      have h1 := cellsF_at cP_len L i j hi' hj
      rw [← h1]
      have h2 := congrArg (fun l => l[i * 7 + j]?) hx
      simp only [List.getElem?_take] at h2
      rw [if_pos (by omega), Array.getElem?_toList] at h2
      exact h2
    · have hi' : i < L.length := by rw [hlen] at hi; exact hi
      rw [hget i hi, hd i hi']
      exact (hH _ (List.getElem_mem _)).2
theorem OwnK.lo {w : World} {base : Nat} {v : Value} {L : List (Nd × Value)} (h : OwnK w base v L) {g : Nat} (hg : v.ownBlock = some g) : base ≤ g ∧ g < w.heap.size := World.ownsRow.lt h g hg
theorem objN_one (n : Nd) (vk : Value) (h : vk.oneCell' = true) : ∀ u ∈ cellN n vk, u.oneCell' = true := by
  intro u hu
  simp only [cellN, List.mem_cons, List.not_mem_nil, or_false] at hu
  rcases hu with rfl | rfl | rfl | rfl | rfl | rfl | rfl <;> first | rfl | exact h
end Go.Proofs.YtbephgifbghilaaGreatDoor

/- The law's given: a node as the program has it (seat expr). -/
set_option maxRecDepth 100000
namespace Go.Proofs.YtbephgifbghilaaGreatDoor
open Go.RowKit

theorem info_node : (Tryz.prog.info? 29).map (fun i => (i.zero, i.size, i.bytes)) = some (some (.agg #[.int .u8 0, .int .u8 0, .int .i64 0, .bool false, .string ⟨#[]⟩, .string ⟨#[]⟩, .slice none 0 0]), 7, 88) := by kernel_rfl
abbrev arrN (n : Nd) (vk : Value) : Array Value := #[.int .u8 n.op, .int .u8 n.v.kind, .int .i64 n.v.num, .bool n.v.tr, .string n.v.text, .string n.name, vk]
/-- Where the loop of given stands. -/
structure GivS (wr : World) (lo p1 p2 p3 base : Nat) (n : Nd) (vk v : Value) (L : List (Nd × Value)) : Prop where
  h1 : wr.heap[p1]? = some (.cells (arrN n vk) 36 (0, 0))
  h2 : wr.heap[p2]? = some (.cells #[.int .u8 0, .int .u8 0, .int .i64 0, .bool false, .string ⟨#[]⟩, .string ⟨#[]⟩, .slice none 0 0] 29 (0, 0))
  h3 : wr.heap[p3]? = some (.cells (arrN n v) 29 (0, 0))
  own : OwnK wr base v L
  kid : ∀ p ∈ L, HeadW p.1 ∧ KidsO wr (fun b => lo ≤ b ∧ b ≠ p3 ∧ b ≠ p2 ∧ some b ≠ v.ownBlock) p.2 p.1.kids
  b1 : p1 < base
  b2 : p2 < base
  b3 : p3 < base
  p13 : p1 ≠ p3
  p23 : p2 ≠ p3
  hb : base ≤ wr.heap.size
  hlo : lo ≤ p1 ∧ lo ≤ p2 ∧ lo ≤ p3
theorem GivS.below {wr w' : World} {lo p1 p2 p3 base : Nat} {n : Nd} {vk v : Value} {L : List (Nd × Value)} (h : GivS wr lo p1 p2 p3 base n vk v L) (hb : Below wr.heap.size wr w') : GivS w' lo p1 p2 p3 base n vk v L :=
  ⟨(hb.block _ (lt_of_block h.h1)).trans h.h1, (hb.block _ (lt_of_block h.h2)).trans h.h2, (hb.block _ (lt_of_block h.h3)).trans h.h3, OwnF.kept h.own hb, fun p hp => ⟨(h.kid p hp).1, (h.kid p hp).2.keptB hb⟩, h.b1, h.b2, h.b3, h.p13, h.p23, Nat.le_trans h.hb hb.size, h.hlo⟩
theorem GivS.step {wr w7 w9 : World} {lo p1 p2 p3 base : Nat} {n x : Nd} {vk v v' vx : Value} {L : List (Nd × Value)} (h : GivS wr lo p1 p2 p3 base n vk v L) (hb7 : Below wr.heap.size wr w7) (hH : HeadW x) (hx : KidsO w7 (fun b => wr.heap.size ≤ b) vx x.kids)
    (hown : w9.ownsRow base 29 7 v' (L.length + 1) (cellsF cP L ++ cellN x vx)) (hg : (w7.alloc (.cells (cellN x vx).toArray 29)).grownBy w9 v.ownBlock) (hob : v'.ownBlock = v.ownBlock ∨ v'.ownBlock = some (w7.alloc (.cells (cellN x vx).toArray 29)).heap.size) :
    GivS (w9.setCell ⟨p3, 6, none⟩ v') lo p1 p2 p3 base n vk v' (L ++ [(x, vx)]) ∧ Frm [some p3, v.ownBlock] wr (w9.setCell ⟨p3, 6, none⟩ v') := by
  have b8 : Below wr.heap.size wr (w7.alloc (.cells (cellN x vx).toArray 29)) := hb7.alloc hb7.size _
  have b78 : Below w7.heap.size w7 (w7.alloc (.cells (cellN x vx).toArray 29)) := (Below.refl _ _).alloc (Nat.le_refl _) _
  have hz8 : (w7.alloc (.cells (cellN x vx).toArray 29)).heap.size = w7.heap.size + 1 := by simp
  obtain ⟨w8, hw8⟩ : ∃ w8, w7.alloc (.cells (cellN x vx).toArray 29) = w8 := ⟨_, rfl⟩
  rw [hw8] at b8 b78 hz8 hg hob
  have hz7 := hb7.size
  have hz9 := hg.size
  have hzb := h.hb
  have hgl : ∀ g, v.ownBlock = some g → base ≤ g ∧ g < wr.heap.size := fun g e => h.own.lo e
  have hbl : ∀ k, k < w8.heap.size → k ≠ p3 → v.ownBlock ≠ some k → (w9.setCell ⟨p3, 6, none⟩ v').heap[k]? = w8.heap[k]? := fun k hk h3 ho =>
    (heap_setCell_other w9 ⟨p3, 6, none⟩ k v' h3).trans (hg.block k hk (Ne.symm ho))
  have hg5 : w9.grownBy (w9.setCell ⟨p3, 6, none⟩ v') (some p3) := grownBy_setCell _ _ _ _
  have hz10 := hg5.size
  have hob' : ∀ k, k < wr.heap.size → some k ≠ v.ownBlock → some k ≠ v'.ownBlock := fun k hk hne e => by
    rcases hob with e2 | e2
    · exact hne (e.trans e2)
    · rw [e2] at e; injection e with e; omega
  have lb3 := h.b3
  have lb1 := h.b1
  have lb2 := h.b2
  have n1 : v.ownBlock ≠ some p1 := fun e => by have := (hgl _ e).1; omega
  have n2 : v.ownBlock ≠ some p2 := fun e => by have := (hgl _ e).1; omega
  have n3 : v.ownBlock ≠ some p3 := fun e => by have := (hgl _ e).1; omega
  refine ⟨⟨?_, ?_, ?_, ?_, ?_, h.b1, h.b2, h.b3, h.p13, h.p23, by omega, h.hlo⟩, ?_⟩
  · exact (hbl p1 (by omega) h.p13 n1).trans ((b8.block p1 (by omega)).trans h.h1)
  · exact (hbl p2 (by omega) h.p23 n2).trans ((b8.block p2 (by omega)).trans h.h2)
  · have e9 : w9.heap[p3]? = some (.cells (arrN n v) 29 (0, 0)) := (hg.block p3 (by omega) (Ne.symm n3)).trans ((b8.block p3 (by omega)).trans h.h3)
    have := heap_setCell_self (i := 6) v' e9
    simpa using this
  · have e : (L ++ [(x, vx)]).length = L.length + 1 := by simp
    unfold OwnK OwnF
    rw [e, cellsF_app]
    refine World.ownsRow.kept hown hg5 (Or.inr ?_)
    intro e
    exact hob' p3 (by omega) (Ne.symm n3) e.symm
  · intro p hp
    rw [List.mem_append, List.mem_singleton] at hp
    rcases hp with hp | rfl
    · refine ⟨(h.kid p hp).1, (h.kid p hp).2.kept (by omega) (fun b hlt hok => ⟨?_, hok.1, hok.2.1, hok.2.2.1, hob' b hlt hok.2.2.2⟩)⟩
      exact (hbl b (by omega) hok.2.1 (Ne.symm hok.2.2.2)).trans (b8.block b hlt)
    · refine ⟨hH, hx.kept (by omega) (fun b hlt hok => ⟨?_, by have := h.hlo.1; omega, by omega, by omega, ?_⟩)⟩
      · refine (hbl b (by omega) (by omega) (fun e => by have := (hgl _ e).2; omega)).trans (b78.block b hlt)
      · intro e
        rcases hob with e2 | e2
        · rw [e2] at e; have := (hgl _ e.symm).2; omega
        · rw [e2] at e; injection e with e; omega
  · exact Frm.grown (Frm.grown (Frm.ofBelow b8) hg (by simp)) hg5 (by simp)
abbrev CellsG (p1 p3 b o k : Nat) (ks : List Nd) (cap : Nat) (x : Nd) (vx v : Value) (W : World) : Prop :=
  W.cell? ⟨p3, 6, none⟩ = some v ∧ W.cell? ⟨p1, 6, none⟩ = some (.slice (some ⟨b, o, none⟩) ks.length cap) ∧ W.cell? ⟨b, o + k * 7, none⟩ = some (.int .u8 x.op) ∧ W.cell? ⟨b, o + k * 7 + 1, none⟩ = some (.int .u8 x.v.kind) ∧ W.cell? ⟨b, o + k * 7 + 2, none⟩ = some (.int .i64 x.v.num) ∧
  W.cell? ⟨b, o + k * 7 + 3, none⟩ = some (.bool x.v.tr) ∧ W.cell? ⟨b, o + k * 7 + 4, none⟩ = some (.string x.v.text) ∧ W.cell? ⟨b, o + k * 7 + 5, none⟩ = some (.string x.name) ∧ W.cell? ⟨b, o + k * 7 + 6, none⟩ = some vx
/-- What a call of given leaves. -/
def GivC (w : World) (n : Nd) (e : Ending) (w' : World) : Prop := ∃ v, e = .returned (valN n v) ∧ KidsO w' (fun b => w.heap.size ≤ b) v n.kids ∧ Below w.heap.size w w'
set_option maxHeartbeats 8000000 in
theorem given_any : ∀ (m : Nat) (n : Nd), SizeOf.sizeOf n ≤ m → cntN n ≤ 1000 → ∀ (w : World) (vk : Value), NdR w w.heap.size vk n → Calls Tryz.prog 12 #[valN n vk] w (GivC w n) := by
  intro m
  induction m with
  | zero => intro n h; cases n; simp at h
  | succ m ih =>
    intro n hz hcnt w vk hn
    obtain ⟨w1, p1, hp1, hw1, l1, n1, b1⟩ := box_new w (.cells (arrN n vk) 36)
    obtain ⟨w2, p2, hp2, hw2, l2, n2, b2⟩ := box_new w1 (.cells #[.int .u8 0, .int .u8 0, .int .i64 0, .bool false, .string ⟨#[]⟩, .string ⟨#[]⟩, .slice none 0 0] 29)
    obtain ⟨a, cap, rfl⟩ := hn.2.val
    obtain ⟨c0, c1, c2, c3, c4, c5, c6⟩ := n_cells ((b2.block p1 (by omega)).trans n1)
    obtain ⟨w3, p3, hp3, hw3, l3, n3, b3⟩ := box_new w2 (.cells (arrN n (.slice none 0 0)) 29)
    have b12 := b2.trans (b3.mono b2.size)
    have hsz1 := b1.size
    have hsz2 := b2.size
    have hsz3 := b3.size
    have hB3 := b1.trans (b12.mono b1.size)
    have HS : Hid (GivS w3 w.heap.size p1 p2 p3 (p3 + 1) n (.slice a n.kids.length cap) (.slice none 0 0) []) := Lib.hid ⟨(b12.block p1 (by omega)).trans n1, (b3.block p2 (by omega)).trans n2, n3, OwnF.nil _ _, fun p hp => by simp at hp, by omega, by omega, by omega, by omega, by omega, by omega, by omega, by omega, by omega⟩
    have HB := Lib.hid hB3
    rw [← hw3] at HS HB
    have HK := Lib.hid hn.2
    have hkl : n.kids.length ≤ 1000 := by have := cnt_len n.kids; have := cntN_is n; omega
    have IH : Hid (∀ x ∈ n.kids, ∀ (w : World) (vk : Value), NdR w w.heap.size vk x → Calls Tryz.prog 12 #[valN x vk] w (GivC w x)) := Lib.hid (fun x hx => ih x (by have := List.sizeOf_lt_of_mem hx; cases n; simp [Nd.kids] at hz this; omega) (by have := cnt_mem hx; have := cntN_is n; omega))
    obtain ⟨ks, hks⟩ : ∃ ks, n.kids = ks := ⟨_, rfl⟩
    have HKS := Lib.hid hks
    rw [hks] at HK hkl IH HS c6 hw1
    rw [hks]
    obtain ⟨i0, hti, hz0, hz1, hz2⟩ := info_parts info_node
    have hp12 : w.heap.size ≤ p1 ∧ w.heap.size ≤ p2 ∧ w.heap.size ≤ p3 := by omega
    clear hks ih hz hn n1 n2 n3 b1 b2 b3 b12 hB3 hcnt hsz1 hsz2 hsz3 l3 hw3
    go_enter Tryz.func12, Tryz.ntmps12
    go_wp2_with fail
    go_loopg [4] ks.length (fun g s4 wr => ∃ (k : Nat) (v : Value) (L : List (Nd × Value)), k + g = ks.length ∧ s4 = .int .i64 (k : Int) ∧ L.map Prod.fst = ks.take k ∧ Hid (GivS wr w.heap.size p1 p2 p3 (p3 + 1) n (.slice a ks.length cap) v L) ∧ Hid (Below w.heap.size w wr))
    case atStart => exact ⟨0, _, [], by omega, rfl, rfl, HS, HB⟩
    case round =>
      obtain ⟨k, v, L, hkg, rfl, hLk, hG, hBw⟩ := hrel
      by_cases hi : k < ks.length
      · have u1 : decide ((k : Int) < (ks.length : Int)) = true := decide_eq_true (by omega)
        have u1' : decide (k < ks.length) = true := decide_eq_true hi
        obtain ⟨b, o, vx, rfl, hb, hw, hkk, e0, e1, e2, e3, e4, e5, e6⟩ := HK.out.at hi
        have IHx := Lib.hid (IH.out ks[k] (List.getElem_mem hi))
        have hLx := Lib.hid (show ks.take (k + 1) = ks.take k ++ [ks[k]] from by rw [List.take_add_one, List.getElem?_eq_getElem hi]; rfl)
        obtain ⟨x, hx⟩ : ∃ x, ks[k] = x := ⟨_, rfl⟩
        rw [hx] at hw hkk e0 e1 e2 e3 e4 e5 IHx hLx
        have hLl : L.length = k := by have := congrArg List.length hLk; simpa [Nat.min_eq_left (Nat.le_of_lt hi)] using this
        have HF : Hid (∀ W : World, Frm [v.ownBlock] wr W → CellsG p1 p3 b o k ks cap x vx v W) := Lib.hid (fun W hF => by
          have hlo := fun g e => hG.out.own.lo (g := g) e
          have hb3 := hG.out.b3
          have hb1 := hG.out.b1
          have hbb := hG.out.hb
          have k3 : W.heap[p3]? = _ := (hF.keep p3 (by omega) (fun r hr e => by simp only [List.mem_singleton] at hr; rw [hr] at e; have := (hlo _ e).1; omega)).trans hG.out.h3
          have k1 : W.heap[p1]? = _ := (hF.keep p1 (by omega) (fun r hr e => by simp only [List.mem_singleton] at hr; rw [hr] at e; have := (hlo _ e).1; omega)).trans hG.out.h1
          have kb : W.heap[b]? = w.heap[b]? := (hF.keep b (by omega) (fun r hr e => by simp only [List.mem_singleton] at hr; rw [hr] at e; have := (hlo _ e).1; omega)).trans (hBw.out.block b hb)
          exact ⟨cell_of_block k3 6, cell_of_block k1 6, (cell_of_heap kb).trans e0, (cell_of_heap kb).trans e1, (cell_of_heap kb).trans e2, (cell_of_heap kb).trans e3, (cell_of_heap kb).trans e4, (cell_of_heap kb).trans e5, (cell_of_heap kb).trans e6⟩)
        obtain ⟨av, cv, rfl⟩ : ∃ a c, v = .slice a L.length c := OwnF.shape hG.out.own
        have k1 : (0 : Int) ≤ (k : Int) := by omega
        have k2 : (k : Int) < (ks.length : Int) := by omega
        have HH := Lib.hid hw
        have HKK : Hid (∀ W, Below wr.heap.size wr W → NdR W W.heap.size vx x) := Lib.hid (fun W hW => by
          have hB := hBw.out.trans (hW.mono hBw.out.size)
          exact ⟨hw, hkk.mono hB hB.size⟩)
        have hLL := Lib.hid hLk
        have hLen := Lib.hid hLl
        have hLb : L.length ≤ 1000 := by omega
        obtain ⟨m1, m2, m3, m4, m5, m6, m7, m8, m9⟩ := HF.out wr (Frm.refl _ _)
        clear hx hw hkk e0 e1 e2 e3 e4 e5 e6 hLk hLl
        go_wp2_with fail
        refine wp_region_bar 11 (CellsG p1 p3 b o k ks cap x vx (.slice av L.length cv)) (by kernel_rfl) ?_
        have hHeld := HF.out wr.drew (Frm.ofBelow (Below.drew (Below.refl _ _)))
        refine wpAnyB_take [1, 9, 11] (i := 0) (v := ?vG0) rfl (by kernel_rfl) (by kernel_rfl) (by kernel_rfl) (by kernel_rfl) (by kernel_rfl) (by kernel_rfl) (fun _ _ _ h => h) (Or.inl ⟨by rfl, ?hyG0⟩) hHeld ?restG0
        case hyG0 => (intro w hSw; obtain ⟨s0, s1, s2, s3, s4, s5, s6, s7, s8⟩ := hSw; go_simp; try with_reducible rfl)
        try simp only [Act.put, List.setIfInBounds_toArray, List.set_cons_zero, List.set_cons_succ, List.getElem_toArray, List.getElem_cons_zero]
        refine wpAnyB_take [3, 5, 6, 7, 8, 9, 11] (i := 2) (v := ?vG2) rfl (by kernel_rfl) (by kernel_rfl) (by kernel_rfl) (by kernel_rfl) (by kernel_rfl) (by kernel_rfl) (fun _ _ _ h => h) (Or.inl ⟨by rfl, ?hyG2⟩) hHeld ?restG2
        case hyG2 => (intro w hSw; obtain ⟨s0, s1, s2, s3, s4, s5, s6, s7, s8⟩ := hSw; go_simp; try with_reducible rfl)
        try simp only [Act.put, List.setIfInBounds_toArray, List.set_cons_zero, List.set_cons_succ, List.getElem_toArray, List.getElem_cons_succ, List.getElem_cons_zero]
        refine wpAnyB_take [5, 6, 7, 8, 9, 11] (i := 4) (v := ?vG4) rfl (by kernel_rfl) (by kernel_rfl) (by kernel_rfl) (by kernel_rfl) (by kernel_rfl) (by kernel_rfl) (fun _ _ _ h => h) (Or.inl ⟨by rfl, ?hyG4⟩) hHeld ?restG4
        case hyG4 => (intro w hSw; obtain ⟨s0, s1, s2, s3, s4, s5, s6, s7, s8⟩ := hSw; go_simp; try with_reducible rfl)
        try simp only [Act.put, List.setIfInBounds_toArray, List.set_cons_zero, List.set_cons_succ, List.getElem_toArray, List.getElem_cons_succ, List.getElem_cons_zero]
        refine wpAnyB_take [5, 6, 7, 8, 9, 11] (i := 3) (v := ?vG3) rfl (by kernel_rfl) (by kernel_rfl) (by kernel_rfl) (by kernel_rfl) (by kernel_rfl) (by kernel_rfl) (fun _ _ _ h => h) (Or.inl ⟨by rfl, ?hyG3⟩) hHeld ?restG3
        case hyG3 => (intro w hSw; obtain ⟨s0, s1, s2, s3, s4, s5, s6, s7, s8⟩ := hSw; go_simp; try with_reducible rfl)
        try simp only [Act.put, List.setIfInBounds_toArray, List.set_cons_zero, List.set_cons_succ, List.getElem_toArray, List.getElem_cons_succ, List.getElem_cons_zero]
        refine wpAnyB_take [6, 7, 8, 9, 11] (i := 5) (v := ?vG5) rfl (by kernel_rfl) (by kernel_rfl) (by kernel_rfl) (by kernel_rfl) (by kernel_rfl) (by kernel_rfl) (fun _ _ _ h => h) (Or.inl ⟨by rfl, ?hyG5⟩) hHeld ?restG5
        case hyG5 => (intro w hSw; obtain ⟨s0, s1, s2, s3, s4, s5, s6, s7, s8⟩ := hSw; go_simp; try with_reducible rfl)
        try simp only [Act.put, List.setIfInBounds_toArray, List.set_cons_zero, List.set_cons_succ, List.getElem_toArray, List.getElem_cons_succ, List.getElem_cons_zero]
        refine wpAnyB_take [7, 8, 9, 11] (i := 6) (v := ?vG6) rfl (by kernel_rfl) (by kernel_rfl) (by kernel_rfl) (by kernel_rfl) (by kernel_rfl) (by kernel_rfl) (fun _ _ _ h => h) (Or.inl ⟨by rfl, ?hyG6⟩) hHeld ?restG6
        case hyG6 => (intro w hSw; obtain ⟨s0, s1, s2, s3, s4, s5, s6, s7, s8⟩ := hSw; go_simp; try with_reducible rfl)
        try simp only [Act.put, List.setIfInBounds_toArray, List.set_cons_zero, List.set_cons_succ, List.getElem_toArray, List.getElem_cons_succ, List.getElem_cons_zero]
        refine wpAnyB_take [9, 11] (i := 1) (v := ?vG1) rfl (by kernel_rfl) (by kernel_rfl) (by kernel_rfl) (by kernel_rfl) (by kernel_rfl) (by kernel_rfl) (fun _ _ _ h => h) (Or.inl ⟨by rfl, ?hyG1⟩) hHeld ?restG1
        case hyG1 => (intro w hSw; obtain ⟨s0, s1, s2, s3, s4, s5, s6, s7, s8⟩ := hSw; go_simp; try with_reducible rfl)
        try simp only [Act.put, List.setIfInBounds_toArray, List.set_cons_zero, List.set_cons_succ, List.getElem_toArray, List.getElem_cons_succ, List.getElem_cons_zero]
        refine wpAnyB_ready (i := 7) (by kernel_rfl) rfl (fun K hK => ?_)
        try simp only [List.getElem_toArray, List.getElem_cons_succ, List.getElem_cons_zero]
        go_simp
        go_at_call 12; refine (IHx.out _ _ (HKK.out _ (Below.drew (Below.refl _ _)))).mono ?_; rintro e w7 ⟨vy, rfl, hk7, hb7⟩
        have hb7' : Below wr.heap.size wr w7 := (Below.drew (Below.refl _ _)).trans hb7
        have hHeld := HF.out w7 (Frm.ofBelow hb7')
        obtain ⟨ay, cy, rfl⟩ := hk7.val
        refine hK.out _ _ (fun _ => hHeld) ?hRG7
        case' hRG7 => clear hK K
        try simp only [Act.put, List.setIfInBounds_toArray, List.set_cons_zero, List.set_cons_succ, List.getElem_toArray, List.getElem_cons_succ, List.getElem_cons_zero]
        refine wpAnyB_ready (i := 8) (by kernel_rfl) rfl (fun K hK => ?_)
        try simp only [List.getElem_toArray, List.getElem_cons_succ, List.getElem_cons_zero]
        go_simp
        have hb8 : Below wr.heap.size wr (w7.alloc (.cells (cellN x (.slice ay x.kids.length cy)).toArray 29)) := hb7'.alloc hb7'.size _
        have hHeld := HF.out _ (Frm.ofBelow hb8)
        refine hK.out _ _ (fun _ => hHeld) ?hRG8
        case' hRG8 => clear hK K
        try simp only [Act.put, List.setIfInBounds_toArray, List.set_cons_zero, List.set_cons_succ, List.getElem_toArray, List.getElem_cons_succ, List.getElem_cons_zero]
        refine wpAnyB_ready (i := 9) (by kernel_rfl) rfl (fun K hK => ?_)
        have hown8 := OwnF.kept hG.out.own hb8
        have hbase8 : p3 + 1 ≤ (w7.alloc (.cells (cellN x (.slice ay x.kids.length cy)).toArray 29)).heap.size := by have := hG.out.hb; have := hb8.size; omega
        refine step_append_own _ (by rfl) (.tmp 20) (.tmp 27) 27 (by rfl) (p3 + 1) 29 i0 _ 7 88 Tryz.underlying27 hti hz0 hz1 hz2 rfl (by decide) (.slice av L.length cv) L.length (cellsF cP L) (by rfl) hown8 _ 1 1 (cellN x (.slice ay x.kids.length cy)) (by rfl) rfl (cells_new _ _ _) (objN_one x (.slice ay x.kids.length cy) rfl) (by unfold maxLen; omega) (by omega) hbase8 ?_
        intro v9 w9 hown9 hg9 hob9
        have hHeld := HF.out w9 (Frm.grown (Frm.ofBelow hb8) hg9 (by simp))
        obtain ⟨a9, c9, rfl⟩ : ∃ a c, v9 = .slice a (L.length + 1) c := by
          rcases hown9.2 with ⟨rfl, h0⟩ | ⟨g, cap, cur, rfl, _⟩
          · omega
          · exact ⟨_, _, rfl⟩
        have hst := hG.out.step hb7' HH.out hk7 hown9 hg9 hob9
        have fr9 : w9.frozen? ⟨p3, 6, none⟩ = false := free_of_block ((hg9.block p3 (Nat.lt_of_lt_of_le (by have := hG.out.b3; have := hG.out.hb; omega : p3 < wr.heap.size) hb8.size) (fun e => by have := (hG.out.own.lo e.symm).1; omega)).trans ((hb8.block p3 (by have := hG.out.b3; have := hG.out.hb; omega)).trans hG.out.h3)) 6
        have HST := Lib.hid hst
        clear hst hown9 hg9 hob9
        refine hK.out _ _ (fun _ => hHeld) ?hRG9
        case' hRG9 => clear hK K
        try simp only [Act.put, List.setIfInBounds_toArray, List.set_cons_zero, List.set_cons_succ, List.getElem_toArray, List.getElem_cons_succ, List.getElem_cons_zero]
        refine wpAnyB_take [11] (i := 10) (v := ?vG10) rfl (by kernel_rfl) (by kernel_rfl) (by kernel_rfl) (by kernel_rfl) (by kernel_rfl) (by kernel_rfl) (fun _ _ _ h => h) (Or.inl ⟨by rfl, ?hyG10⟩) hHeld ?restG10
        case hyG10 => (intro w hSw; obtain ⟨s0, s1, s2, s3, s4, s5, s6, s7, s8⟩ := hSw; go_simp; try with_reducible rfl)
        try simp only [Act.put, List.setIfInBounds_toArray, List.set_cons_zero, List.set_cons_succ, List.getElem_toArray, List.getElem_cons_succ, List.getElem_cons_zero]
        refine wpAnyB_ready (i := 11) (by kernel_rfl) rfl (fun K hK => ?_)
        try simp only [List.getElem_toArray, List.getElem_cons_succ, List.getElem_cons_zero]
        go_simp
        obtain ⟨s0, s1, s2, s3, s4, s5, s6, s7, s8⟩ := hHeld
        try go_simp
        refine hK.out _ _ (fun hbar => by cases hbar) ?hRG11
        case' hRG11 => clear hK K
        try simp only [Act.put, List.setIfInBounds_toArray, List.set_cons_zero, List.set_cons_succ, List.getElem_toArray, List.getElem_cons_succ, List.getElem_cons_zero]
        refine wpAnyB_done (by kernel_rfl) ?_ _
        go_wp2_with fail
        go_roundg (gk - 1)
        case measure => omega
        case rel =>
          refine ⟨k + 1, _, L ++ [(x, .slice ay x.kids.length cy)], by omega, by go_num, by rw [List.map_append, hLL.out, hLx.out]; rfl, Lib.hid HST.out.1, Lib.hid ?_⟩
          exact hBw.out.trans (HST.out.2.toBelow hBw.out.size (fun r hr j e => by
            simp only [List.mem_cons, List.not_mem_nil, or_false] at hr
            rcases hr with rfl | rfl
            · injection e with e; omega
            · have := (hG.out.own.lo e).1; omega))
      · have u1 : decide ((k : Int) < (ks.length : Int)) = false := decide_eq_false (by omega)
        have u1' : decide (k < ks.length) = false := decide_eq_false hi
        have hLL : L.map Prod.fst = ks := by rw [hLk, List.take_of_length_le (by omega)]
        have hLl : L.length ≤ 1000 := by have := congrArg List.length hLL; simp at this; omega
        obtain ⟨av, cv, rfl⟩ : ∃ a c, v = .slice a L.length c := OwnF.shape hG.out.own
        obtain ⟨d0, d1, d2, d3, d4, d5, d6⟩ := n_cells hG.out.h3
        have f2 : ∀ j, wr.frozen? ⟨p2, j, none⟩ = false := free_of_block hG.out.h2
        obtain ⟨z0, z1, z2, z3, z4, z5, z6⟩ : wr.cell? ⟨p2, 0, none⟩ = some (.int .u8 0) ∧ wr.cell? ⟨p2, 1, none⟩ = some (.int .u8 0) ∧ wr.cell? ⟨p2, 2, none⟩ = some (.int .i64 0) ∧ wr.cell? ⟨p2, 3, none⟩ = some (.bool false) ∧ wr.cell? ⟨p2, 4, none⟩ = some (.string ⟨#[]⟩) ∧ wr.cell? ⟨p2, 5, none⟩ = some (.string ⟨#[]⟩) ∧ wr.cell? ⟨p2, 6, none⟩ = some (.slice none 0 0) :=
          ⟨cell_of_block hG.out.h2 0, cell_of_block hG.out.h2 1, cell_of_block hG.out.h2 2, cell_of_block hG.out.h2 3, cell_of_block hG.out.h2 4, cell_of_block hG.out.h2 5, cell_of_block hG.out.h2 6⟩
        have e16 : wr.cell? ⟨p1, 6, none⟩ = some (.slice a ks.length cap) := cell_of_block hG.out.h1 6
        have HLL := Lib.hid hLL
        clear hLL hLk
        go_wp2_with fail
        have hb9 := set7_is hG.out.h2 (.int .u8 n.op) (.int .u8 n.v.kind) (.int .i64 n.v.num) (.bool n.v.tr) (.string n.v.text) (.string n.name) (.slice av L.length cv)
        have hF9 := set7_frm wr p2 (.int .u8 n.op) (.int .u8 n.v.kind) (.int .i64 n.v.num) (.bool n.v.tr) (.string n.v.text) (.string n.name) (.slice av L.length cv)
        obtain ⟨W9, hW9⟩ : ∃ W9, ((((((wr.setCell ⟨p2, 0, none⟩ (.int .u8 n.op)).setCell ⟨p2, 1, none⟩ (.int .u8 n.v.kind)).setCell ⟨p2, 2, none⟩ (.int .i64 n.v.num)).setCell ⟨p2, 3, none⟩ (.bool n.v.tr)).setCell ⟨p2, 4, none⟩ (.string n.v.text)).setCell ⟨p2, 5, none⟩ (.string n.name)).setCell ⟨p2, 6, none⟩ (.slice av L.length cv) = W9 := ⟨_, rfl⟩
        have hb9' : W9.heap[p2]? = some (.cells (arrN n (.slice av L.length cv)) 29 (0, 0)) := by rw [← hW9]; exact hb9
        have hF9' : Frm [some p2] wr W9 := by rw [← hW9]; exact hF9
        rw [hW9]
        obtain ⟨y0, y1, y2, y3, y4, y5, y6⟩ := n_cells hb9'
        refine bodyPost_ret (v := valN n (.slice av L.length cv)) (by simp [results, Tryz.results12, go_sem, y0, y1, y2, y3, y4, y5, y6]) rfl ?_
        have hKo := own_kids hG.out.own (by omega) (ok := fun b => w.heap.size ≤ b ∧ b ≠ p3 ∧ b ≠ p2) (fun g e => by have := (hG.out.own.lo e).1; have := hG.out.b2; have := hG.out.b3; exact ⟨by omega, by omega, by omega⟩) (fun p hp => ⟨(hG.out.kid p hp).1, (hG.out.kid p hp).2.kept (Nat.le_refl _) (fun b hlt hok => ⟨rfl, hok.1, hok.2.1, hok.2.2.1⟩)⟩)
        rw [HLL.out] at hKo
        refine ⟨_, rfl, ?_, ?_⟩
        · rw [HKS.out]
          exact hKo.kept hF9'.size (fun b hlt hok => ⟨hF9'.keep b hlt (fun r hr e => by simp only [List.mem_singleton] at hr; rw [hr] at e; injection e with e; exact hok.2.2 e.symm), hok.1⟩)
        · exact hBw.out.trans (hF9'.toBelow hBw.out.size (fun r hr j e => by simp only [List.mem_singleton] at hr; rw [hr] at e; injection e with e; omega))
end Go.Proofs.YtbephgifbghilaaGreatDoor

/- expr.Same: two nodes are the same (seat expr). -/
set_option maxRecDepth 100000
namespace Go.Proofs.YtbephgifbghilaaGreatDoor
open Go.RowKit

mutual
def sameN : Nd → Nd → Bool
  | .mk o v n ks, .mk o' v' n' ks' => (o == o') && (vlEq v v' && ((n.toList == n'.toList) && sameL ks ks'))
def sameL : List Nd → List Nd → Bool
  | [], [] => true
  | a :: r, b :: s => sameN a b && sameL r s
  | _, _ => false
end
theorem sameN_is (a b : Nd) : sameN a b = ((a.op == b.op) && (vlEq a.v b.v && ((a.name.toList == b.name.toList) && sameL a.kids b.kids))) := by
  cases a; cases b; rfl
mutual
theorem sameN_refl : ∀ a : Nd, sameN a a = true
  | .mk o v n ks => by
    show ((o == o) && (vlEq v v && ((n.toList == n.toList) && sameL ks ks))) = true
    rw [vlEq_refl, sameL_refl ks]
    simp
theorem sameL_refl : ∀ l : List Nd, sameL l l = true
  | [] => rfl
  | a :: r => by
    show (sameN a a && sameL r r) = true
    rw [sameN_refl a, sameL_refl r]
    rfl
end
theorem sameL_len : ∀ (a b : List Nd), a.length ≠ b.length → sameL a b = false
  | [], [], h => absurd rfl h
  | [], _ :: _, _ => rfl
  | _ :: _, [], _ => rfl
  | x :: a, y :: b, h => by show (sameN x y && sameL a b) = false; rw [sameL_len a b (by simpa using h), Bool.and_false]
theorem sameL_drop {a b : List Nd} {k : Nat} (ha : k < a.length) (hb : k < b.length) : sameL (a.drop k) (b.drop k) = (sameN a[k] b[k] && sameL (a.drop (k + 1)) (b.drop (k + 1))) := by
  rw [List.drop_eq_getElem_cons ha, List.drop_eq_getElem_cons hb]; rfl
theorem sameL_end {a b : List Nd} {k : Nat} (ha : a.length ≤ k) (hb : b.length ≤ k) : sameL (a.drop k) (b.drop k) = true := by
  rw [List.drop_eq_nil_of_le ha, List.drop_eq_nil_of_le hb]; rfl
def SameC (m : Nat) : Prop := ∀ (a : Nd), SizeOf.sizeOf a ≤ m → ∀ (b : Nd) (w : World) (va vb : Value), NdR w w.heap.size va a → NdR w w.heap.size vb b →
  Calls Tryz.prog 15 #[valN a va, valN b vb] w fun e w' => e = .returned (.bool (sameN a b)) ∧ Below w.heap.size w w'
set_option maxHeartbeats 2000000 in
theorem equalN_any {m : Nat} (IH : SameC m) (w : World) (va vb : Value) (a b : List Nd) (hm : ∀ x ∈ a, SizeOf.sizeOf x ≤ m) (ha : KidsR w w.heap.size va a) (hb : KidsR w w.heap.size vb b) :
    Calls Tryz.prog 52 #[va, vb, .func (.func 15) #[] #[]] w fun e w' => e = .returned (.bool (sameL a b)) ∧ Below w.heap.size w w' := by
  have hla := ha.len
  have hlb := hb.len
  obtain ⟨aa, ca, rfl⟩ := ha.val
  obtain ⟨ab, cb, rfl⟩ := hb.val
  have HA := Lib.hid ha
  have HB := Lib.hid hb
  have HM := Lib.hid hm
  have HI := Lib.hid IH
  clear ha hb hm IH
  by_cases hne : a.length = b.length
  · have H := Lib.hid hne
    have hz : ((a.length : Int) != (b.length : Int)) = false := by simp [hne]
    clear hne
    go_enter Tryz.func52, Tryz.ntmps52
    go_wp2_with fail
    go_loopg [17] a.length (fun g s17 wr => ∃ (k : Nat), k + g = a.length ∧ s17 = .int .i64 k ∧ Hid (sameL (a.drop k) (b.drop k) = sameL a b) ∧ Below w.heap.size w wr)
    case atStart => exact ⟨0, by omega, rfl, rfl, Below.refl _ _⟩
    case round =>
      obtain ⟨k, hkg, rfl, hcov, hbr⟩ := hrel
      have hbrs := hbr.size
      by_cases hk : k < a.length
      · have hkb : k < b.length := by have := H.out; omega
        obtain ⟨ba, oa, vx, rfl, hba, hwx, hkx, x0, x1, x2, x3, x4, x5, x6⟩ := HA.out.at hk
        obtain ⟨bb, ob, vy, rfl, hbb, hwy, hky, y0, y1, y2, y3, y4, y5, y6⟩ := HB.out.at hkb
        have hdr := Lib.hid (sameL_drop (a := a) (b := b) (k := k) hk hkb)
        have hsz := HM.out _ (List.getElem_mem hk)
        obtain ⟨x, hx⟩ : ∃ x, a[k] = x := ⟨_, rfl⟩
        obtain ⟨y, hy⟩ : ∃ y, b[k] = y := ⟨_, rfl⟩
        rw [hx] at x0 x1 x2 x3 x4 x5 hwx hkx hdr hsz
        rw [hy] at y0 y1 y2 y3 y4 y5 hwy hky hdr
        clear hx hy
        rw [← Below.cellB hbr hba] at x0 x1 x2 x3 x4 x5 x6
        have hba' : ba < wr.heap.size := by omega
        have hbb' : bb < wr.heap.size := by omega
        rw [← Below.cellB hbr hbb] at y0 y1 y2 y3 y4 y5 y6
        obtain ⟨w1, p1, hp1, hw1, l1, n1, b1⟩ := box_new wr (.cells #[.int .u8 x.op, .int .u8 x.v.kind, .int .i64 x.v.num, .bool x.v.tr, .string x.v.text, .string x.name, vx] 29)
        obtain ⟨w2, p2, hp2, hw2, l2, n2, b2⟩ := box_new w1 (.cells #[.int .u8 y.op, .int .u8 y.v.kind, .int .i64 y.v.num, .bool y.v.tr, .string y.v.text, .string y.name, vy] 29)
        have hb1 : Below wr.heap.size wr w2 := b1.trans (b2.mono b1.size)
        have hB1 := hbr.trans (hb1.mono hbrs)
        obtain ⟨g0, g1, g2, g3, g4, g5, g6⟩ := n_cells ((b2.block p1 (by omega)).trans n1)
        obtain ⟨h0, h1, h2, h3, h4, h5, h6⟩ := n_cells n2
        have z0 : w1.cell? ⟨bb, ob + k * 7, none⟩ = _ := (Below.cellB b1 hbb').trans y0
        have z1 : w1.cell? ⟨bb, ob + k * 7 + 1, none⟩ = _ := (Below.cellB b1 hbb').trans y1
        have z2 : w1.cell? ⟨bb, ob + k * 7 + 2, none⟩ = _ := (Below.cellB b1 hbb').trans y2
        have z3 : w1.cell? ⟨bb, ob + k * 7 + 3, none⟩ = _ := (Below.cellB b1 hbb').trans y3
        have z4 : w1.cell? ⟨bb, ob + k * 7 + 4, none⟩ = _ := (Below.cellB b1 hbb').trans y4
        have z5 : w1.cell? ⟨bb, ob + k * 7 + 5, none⟩ = _ := (Below.cellB b1 hbb').trans y5
        have z6 : w1.cell? ⟨bb, ob + k * 7 + 6, none⟩ = _ := (Below.cellB b1 hbb').trans y6
        have HC := Lib.hid (HI.out x hsz y w2 vx vy ⟨hwx, hkx.mono hB1 hB1.size⟩ ⟨hwy, hky.mono hB1 hB1.size⟩)
        have HBr := Lib.hid hB1
        have k1 : (0 : Int) ≤ (k : Int) := by omega
        have k2 : (k : Int) < (a.length : Int) := by omega
        have k3 : (k : Int) < (b.length : Int) := by omega
        have k4 : decide (k < a.length) = true := decide_eq_true hk
        obtain ⟨ax, cx, rfl⟩ := hkx.val
        obtain ⟨ay, cy, rfl⟩ := hky.val
        clear hwx hkx hwy hky n1 n2 b1 b2 hb1 hB1 hbr hsz
        cases hs : sameN x y with
        | true =>
          have Hf : Hid (sameL (a.drop (k + 1)) (b.drop (k + 1)) = sameL a b) := by rw [← hcov.out, hdr.out, hs, Bool.true_and]; exact rfl
          rw [hs] at HC
          clear hs hdr hcov
          go_wp2_with (go_at_call 15; refine HC.out.mono ?_; rintro e w3 ⟨rfl, hb3⟩; have HB3 := Lib.hid (HBr.out.trans (hb3.mono HBr.out.size)); clear hb3)
          go_roundg (gk - 1)
          case measure => omega
          case rel => exact ⟨k + 1, by omega, by go_num, Hf, HB3.out⟩
        | false =>
          have Hf : Hid (false = sameL a b) := by rw [← hcov.out, hdr.out, hs, Bool.false_and]; exact rfl
          rw [hs] at HC
          clear hs hdr hcov
          go_wp2_with (go_at_call 15; refine HC.out.mono ?_; rintro e w3 ⟨rfl, hb3⟩; have HB3 := Lib.hid (HBr.out.trans (hb3.mono HBr.out.size)); clear hb3)
          go_ret
          exact ⟨ret_bool Hf.out, HB3.out⟩
      · have k4 : decide (k < a.length) = false := decide_eq_false hk
        have Hf : Hid (true = sameL a b) := by rw [← hcov.out, sameL_end (by omega) (by have := H.out; omega)]; exact rfl
        go_wp2_with fail
        go_ret
        exact ⟨ret_bool Hf.out, hbr⟩
  · have hz : ((a.length : Int) != (b.length : Int)) = true := by simp; omega
    have Hf : Hid (false = sameL a b) := (sameL_len a b hne).symm
    clear hne
    go_enter Tryz.func52, Tryz.ntmps52
    go_wp2_with fail
    go_ret
    exact ⟨ret_bool Hf.out, Below.refl _ _⟩
set_option maxHeartbeats 4000000 in
theorem same_step {m : Nat} (IH : SameC m) : SameC (m + 1) := by
  intro a hz b w va vb ha hb
  obtain ⟨w0, p0, hp0, hw0, l0, n0, b0⟩ := box_new w (.cells #[.int .u8 a.op, .int .u8 a.v.kind, .int .i64 a.v.num, .bool a.v.tr, .string a.v.text, .string a.name, va] 29)
  obtain ⟨w1, p1, hp1, hw1, l1, n1, b1⟩ := box_new w0 (.cells #[.int .u8 b.op, .int .u8 b.v.kind, .int .i64 b.v.num, .bool b.v.tr, .string b.v.text, .string b.name, vb] 29)
  obtain ⟨c0, c1, c2, c3, c4, c5, c6⟩ := n_cells ((b1.block p0 (by omega)).trans n0)
  obtain ⟨e0, e1, e2, e3, e4, e5, e6⟩ := n_cells n1
  have hB := b0.trans (b1.mono b0.size)
  have HB := Lib.hid hB
  have HE := Lib.hid (equalN_any IH w1 va vb a.kids b.kids (fun x hx => by have := List.sizeOf_lt_of_mem hx; cases a; simp [Nd.kids] at hz this ⊢; omega) (ha.2.mono hB hB.size) (hb.2.mono hB hB.size))
  have HS := Lib.hid (sameN_is a b)
  have hq := fun w => run_eql_val w a.v b.v
  obtain ⟨aa, ca, rfl⟩ := ha.2.val
  obtain ⟨ab, cb, rfl⟩ := hb.2.val
  obtain ⟨s, hs⟩ : ∃ s, sameN a b = s := ⟨_, rfl⟩
  obtain ⟨t, ht⟩ : ∃ t, sameL a.kids b.kids = t := ⟨_, rfl⟩
  rw [hs]
  rw [hs, ht] at HS
  rw [ht] at HE
  clear n0 b0 n1 b1 ha hb hs ht hz IH hB
  cases h1 : (a.op == b.op) with
  | false =>
    have Hf : Hid (false = s) := by rw [HS.out, h1, Bool.false_and]; exact rfl
    go_enter Tryz.func15, Tryz.ntmps15
    go_wp2_with fail
    go_ret
    exact ⟨ret_bool Hf.out, HB.out⟩
  | true =>
    cases h2 : vlEq a.v b.v with
    | false =>
      have Hf : Hid (false = s) := by rw [HS.out, h1, h2, Bool.true_and, Bool.false_and]; exact rfl
      simp only [h2] at hq
      clear h2
      go_enter Tryz.func15, Tryz.ntmps15
      go_wp2_with fail
      go_ret
      exact ⟨ret_bool Hf.out, HB.out⟩
    | true =>
      cases h3 : (a.name.toList == b.name.toList) with
      | false =>
        have Hf : Hid (false = s) := by rw [HS.out, h1, h2, h3, Bool.true_and, Bool.true_and, Bool.false_and]; exact rfl
        simp only [h2] at hq
        clear h2
        go_enter Tryz.func15, Tryz.ntmps15
        go_wp2_with fail
        go_ret
        exact ⟨ret_bool Hf.out, HB.out⟩
      | true =>
        have Hf : Hid (t = s) := by rw [HS.out, h1, h2, h3, Bool.true_and, Bool.true_and, Bool.true_and]; exact rfl
        simp only [h2] at hq
        clear h2
        go_enter Tryz.func15, Tryz.ntmps15
        go_wp2_with (go_at_call 52; refine HE.out.mono ?_; rintro e w3 ⟨rfl, hb3⟩; have HB3 := Lib.hid (HB.out.trans (hb3.mono HB.out.size)); clear hb3)
        go_ret
        exact ⟨ret_bool Hf.out, HB3.out⟩
theorem same10_any (w : World) (a b : Nd) (va vb : Value) (ha : NdR w w.heap.size va a) (hb : NdR w w.heap.size vb b) :
    Calls Tryz.prog 15 #[valN a va, valN b vb] w fun e w' => e = .returned (.bool (sameN a b)) ∧ Below w.heap.size w w' := by
  have : ∀ m, SameC m := by
    intro m
    induction m with
    | zero => intro a h; cases a; simp at h
    | succ m ih => exact same_step ih
  exact this (SizeOf.sizeOf a) a (Nat.le_refl _) b w va vb ha hb
end Go.Proofs.YtbephgifbghilaaGreatDoor

/- The law ExprBack: a node's text is read as the node; a text's node, written, is read as it again (the walk). -/
set_option maxRecDepth 100000
namespace Go.Proofs.YtbephgifbghilaaGreatDoor
open Go.RowKit

theorem print_is (w : World) (hg : Gx w) (n : Nd) (a : Option Addr) (c d : Nat) (hn : NdR w w.heap.size (.slice a c d) n) (hlen : checkN n = true → (spellE n 1).length ≤ 1000000000) {t : List UInt8} {x : Int} (h : printE n = (t, x)) :
    Calls Tryz.prog 13 #[valN n (.slice a c d)] w fun e w' => e = .returned (.tuple #[.string ⟨t.toArray⟩, .int .i64 x]) ∧ Below w.heap.size w w' := by
  have := print_any w hg.gp hg.t8 n a c d hn.2 hn.1 hlen
  rw [h] at this
  exact this
theorem parse_is (w : World) (hg : Gx w) (s : ByteArray) (hs : s.size ≤ 140737488355328) {n : Nd} (h : parseE s.data.toList = .ok n) :
    Calls Tryz.prog 9 #[.string s] w fun e w' => ∃ a c d, e = .returned (.tuple #[valN n (.slice a c d), .int .i64 0, .int .i64 0]) ∧ NdR w' w'.heap.size (.slice a c d) n ∧ Below w.heap.size w w' := by
  have := parse_any w hg.ga s hs
  rw [h] at this
  refine this.mono ?_
  rintro e w' ⟨m, a, c, d, pos, err, rfl, hb, rfl, rfl, rfl, hH, hK⟩
  exact ⟨a, c, d, rfl, ⟨hH, hK⟩, hb⟩
theorem parse_not (w : World) (hg : Gx w) (s : ByteArray) (hs : s.size ≤ 140737488355328) {x : Int} {p : Nat} (h : parseE s.data.toList = .error (x, p)) :
    Calls Tryz.prog 9 #[.string s] w fun e w' => x ≠ 0 ∧ ∃ a c d, e = .returned (.tuple #[valN nilN (.slice a c d), .int .i64 (p : Int), .int .i64 x]) ∧ Below w.heap.size w w' := by
  have := parse_any w hg.ga s hs
  rw [h] at this
  refine this.mono ?_
  rintro e w' ⟨m, a, c, d, pos, err, rfl, hb, rfl, _, rfl, rfl, hE⟩
  exact ⟨hE, a, c, d, rfl, hb⟩
theorem check_is (w : World) (hg : Gx w) (n : Nd) (vk : Value) (hn : NdR w w.heap.size vk n) {t : Bool} (h : checkN n = t) :
    Calls Tryz.prog 14 #[valN n vk] w fun e w' => e = .returned (.bool t) ∧ Below w.heap.size w w' := by
  have := check_N n hn.1 w vk hg.t8 hn.2
  rw [h] at this
  exact this
theorem same_is (w : World) (a b : Nd) (va vb : Value) (ha : NdR w w.heap.size va a) (hb : NdR w w.heap.size vb b) {t : Bool} (h : sameN a b = t) :
    Calls Tryz.prog 15 #[valN a va, valN b vb] w fun e w' => e = .returned (.bool t) ∧ Below w.heap.size w w' := by
  have := same10_any w a b va vb ha hb
  rw [h] at this
  exact this
theorem few_is (w : World) (n : Nd) (vk : Value) (hn : NdR w w.heap.size vk n) {t : Bool} (h : fewB n = t) : Calls Tryz.prog 11 #[valN n vk] w fun e w' => e = .returned (.bool t) ∧ Below w.heap.size w w' := by
  have := few_any w n vk hn
  rw [h] at this
  exact this
theorem given_is (w : World) (n : Nd) (vk : Value) (hn : NdR w w.heap.size vk n) (h : fewB n = true) : Calls Tryz.prog 12 #[valN n vk] w fun e w' => ∃ a c d, e = .returned (valN n (.slice a c d)) ∧ NdR w' w'.heap.size (.slice a c d) n ∧ Below w.heap.size w w' := by
  refine (given_any (SizeOf.sizeOf n) n (Nat.le_refl _) (by have := few_cnt h; omega) w vk hn).mono ?_
  rintro e w' ⟨v, rfl, hK, hb⟩
  obtain ⟨a, cap, rfl⟩ := hK.val
  exact ⟨a, _, cap, rfl, ⟨hn.1, hK.kids⟩, hb⟩
/-- What a text made of bytes is. -/
theorem toList_mk (l : List UInt8) : (ByteArray.mk l.toArray).data.toList = l := by simp
theorem print_cases (n : Nd) : (checkN n = false ∧ printE n = ([], 1)) ∨ (checkN n = true ∧ (spellE n 1).length ≤ 256 ∧ printE n = (spellE n 1, 0)) ∨ (checkN n = true ∧ printE n = ([], 3)) := by
  cases h : checkN n with
  | false => exact .inl ⟨rfl, by unfold printE; rw [h]; rfl⟩
  | true =>
    by_cases hl : (spellE n 1).length ≤ 256
    · exact .inr (.inl ⟨rfl, hl, by unfold printE; rw [h, if_pos rfl, if_pos hl]⟩)
    · exact .inr (.inr ⟨rfl, by unfold printE; rw [h, if_pos rfl, if_neg hl]⟩)
abbrev CellsN (V : World) (p : Nat) (n : Nd) (vk : Value) : Prop :=
  V.cell? ⟨p, 0, none⟩ = some (.int .u8 n.op) ∧ V.cell? ⟨p, 1, none⟩ = some (.int .u8 n.v.kind) ∧ V.cell? ⟨p, 2, none⟩ = some (.int .i64 n.v.num) ∧ V.cell? ⟨p, 3, none⟩ = some (.bool n.v.tr) ∧ V.cell? ⟨p, 4, none⟩ = some (.string n.v.text) ∧ V.cell? ⟨p, 5, none⟩ = some (.string n.name) ∧ V.cell? ⟨p, 6, none⟩ = some vk
/-- A node in a box of the call's own. -/
theorem nd_boxed (W : World) (n : Nd) (vk : Value) (t : TypeId) : ∃ (W' : World) (p : Nat), W.heap.size = p ∧ W.alloc (.cells #[.int .u8 n.op, .int .u8 n.v.kind, .int .i64 n.v.num, .bool n.v.tr, .string n.v.text, .string n.name, vk] t) = W' ∧ p < W'.heap.size ∧ Below W.heap.size W W' ∧ ∀ V, Below W'.heap.size W' V → CellsN V p n vk := by
  obtain ⟨w1, p1, hp1, hw1, l1, n1, b1⟩ := box_new W (.cells #[.int .u8 n.op, .int .u8 n.v.kind, .int .i64 n.v.num, .bool n.v.tr, .string n.v.text, .string n.name, vk] t)
  exact ⟨w1, p1, hp1, hw1, l1, b1, fun V hV => n_cells ((hV.block p1 l1).trans n1)⟩
set_option maxHeartbeats 8000000 in
theorem exprBack_walk (w : World) (hg : Gx w) (n : Nd) (vk : Value) (hn : NdR w w.heap.size vk n) (s : ByteArray) (hsz : s.size ≤ 140737488355328) : Calls Tryz.prog 4 #[valN n vk, .string s] w fun e w' => e = .returned (.bool true) ∧ Below w.heap.size w w' := by
  obtain ⟨w0, p0, hp0, hw0, l0, b0, hC0⟩ := nd_boxed w n vk 36
  have HG := Lib.hid hg
  have HN := Lib.hid hn
  have HC0 := Lib.hid hC0
  have HB0 := Lib.hid b0
  have cur : Below w.heap.size w w0 := b0
  obtain ⟨c0, c1, c2, c3, c4, c5, c6⟩ := hC0 w0 (Below.refl _ _)
  have HAW := Lib.hid (fun (W : World) (h : Below w.heap.size w W) => awake10_any W (hg.up h))
  clear hg hn hC0 b0
  cases hf : fewB n with
  | false =>
    have HF := Lib.hid (few_is w0 n vk (HN.out.to HB0.out) hf)
    clear hf
    go_enter Tryz.func4, Tryz.ntmps4
    go_wp2_with (first
      | (go_at_call 11; refine HF.out.mono ?_; rintro e w2 ⟨rfl, hb⟩; have cur := cur.trans (hb.mono cur.size); clear hb)
      | (go_at_call 10; refine (HAW.out _ cur).mono ?_; rintro e w2 ⟨rfl, hb⟩; have cur := cur.trans (hb.mono cur.size); clear hb))
    go_ret
    exact ⟨rfl, cur⟩
  | true =>
    have HF := Lib.hid (few_is w0 n vk (HN.out.to HB0.out) hf)
    have HFT := Lib.hid hf
    clear hf
    by_cases hs : s.size ≤ 2000
    · have d1 : decide ((2000 : Int) < (s.size : Int)) = false := decide_eq_false (by omega)
      have d1' : decide (2000 < s.size) = false := decide_eq_false (by omega)
      go_enter Tryz.func4, Tryz.ntmps4
      go_wp2_with (first
        | (go_at_call 11; refine HF.out.mono ?_; rintro e w1 ⟨rfl, hb⟩; have HB1 := Lib.hid hb; have cur := cur.trans (hb.mono cur.size); clear hb)
        | (go_at_call 10; refine (HAW.out _ cur).mono ?_; rintro e w2 ⟨rfl, hb⟩; have HB2 := Lib.hid (HB1.out.trans (hb.mono HB1.out.size)); have cur := cur.trans (hb.mono cur.size); clear hb; obtain ⟨c0, c1, c2, c3, c4, c5, c6⟩ := HC0.out _ HB2.out)
        | (go_at_call 12; refine Hid.out ?_))
      refine Lib.hid ?_
      refine (given_is w2 n vk (HN.out.to cur) HFT.out).mono ?_
      rintro e w3 ⟨a, c, d, rfl, hK3, hb3⟩
      obtain ⟨w4, p4, hp4, hw4, l4, b4, hC4⟩ := nd_boxed w3 n (.slice a c d) 29
      have HC4 := Lib.hid hC4
      have HK4 := Lib.hid (hK3.to b4)
      have HB4 := Lib.hid (cur.trans ((hb3.trans (b4.mono hb3.size)).mono cur.size))
      have hnum := fun m => nums_of m n _ hK3.1 hK3.2
      have HSP : Hid (checkN n = true → (spellE n 1).length ≤ 1000000000) := Lib.hid (fun h => by
        have h1 := spell_len10 h hnum 1
        have h2 := few_cnt HFT.out
        omega)
      have HNM := Lib.hid hnum
      obtain ⟨g0, g1, g2, g3, g4, g5, g6⟩ := hC4 w4 (Below.refl _ _)
      clear hC4 hb3 b4 hK3 hnum
      obtain ⟨T, x, hpr⟩ : ∃ T x, printE n = (T, x) := ⟨_, _, rfl⟩
      obtain ⟨t0, ht0⟩ : ∃ t0, checkN n = t0 := ⟨_, rfl⟩
      obtain ⟨b1, hb1⟩ : ∃ b1, (x == 1) = b1 := ⟨_, rfl⟩
      have hq : (b1 == t0) = false := by
        rcases print_cases n with ⟨h1, h2⟩ | ⟨h1, h2, h3⟩ | ⟨h1, h2⟩
        · rw [h2] at hpr; injection hpr with e1 e2; rw [← ht0, ← hb1, h1, ← e2]; rfl
        · rw [h3] at hpr; injection hpr with e1 e2; rw [← ht0, ← hb1, h1, ← e2]; rfl
        · rw [h2] at hpr; injection hpr with e1 e2; rw [← ht0, ← hb1, h1, ← e2]; rfl
      have HPR := Lib.hid hpr
      have HCK := Lib.hid ht0
      obtain ⟨TS, hTS⟩ : ∃ TS : ByteArray, ByteArray.mk T.toArray = TS := ⟨_, rfl⟩
      have HTS := Lib.hid hTS
      clear hpr ht0 cur c0 c1 c2 c3 c4 c5 c6
      have cur : Below w4.heap.size w4 w4 := Below.refl _ _
      go_upto_if 47 with (first
        | (go_at_call 13; refine (print_is w4 (HG.out.up HB4.out) n a c d HK4.out HSP.out HPR.out).mono ?_; rintro e w5 ⟨rfl, hb⟩; have cur := cur.trans (hb.mono cur.size); clear hb; obtain ⟨g0, g1, g2, g3, g4, g5, g6⟩ := HC4.out _ cur)
        | (go_at_call 14; refine (check_is w5 (HG.out.up (HB4.out.trans (cur.mono HB4.out.size))) n _ (HK4.out.to cur) HCK.out).mono ?_; rintro e w6 ⟨rfl, hb⟩; have cur := cur.trans (hb.mono cur.size); clear hb; obtain ⟨g0, g1, g2, g3, g4, g5, g6⟩ := HC4.out _ cur))
      go_cut [] (fun wx => ∃ w7, w7 = wx ∧ Hid (Below w.heap.size w w7))
      case first =>
        by_cases hx : x = 0
        · have u0 : (x == 0) = true := beq_iff_eq.2 hx
          have hall : checkN n = true ∧ (spellE n 1).length ≤ 256 ∧ TS.data.toList = spellE n 1 := by
            rcases print_cases n with ⟨h1, h2⟩ | ⟨h1, h2, h3⟩ | ⟨h1, h2⟩
            · rw [HPR.out] at h2; injection h2 with e1 e2; rw [e2] at hx; cases hx
            · rw [HPR.out] at h3; injection h3 with e1 e2; exact ⟨h1, h2, by rw [← HTS.out, e1, toList_mk]⟩
            · rw [HPR.out] at h2; injection h2 with e1 e2; rw [e2] at hx; cases hx
          have hTz : TS.size ≤ 256 := by have : TS.data.toList.length = TS.size := rfl; rw [← this, hall.2.2]; exact hall.2.1
          have hPT : parseE TS.data.toList = .ok n := by rw [hall.2.2]; exact parse_spell hall.1 HNM.out hall.2.1
          have HPT := Lib.hid hPT
          have v1 : decide ((256 : Int) < (TS.size : Int)) = false := decide_eq_false (by omega)
          have v1' : decide (256 < TS.size) = false := decide_eq_false (by omega)
          have HBW := Lib.hid (HB4.out.trans (cur.mono HB4.out.size))
          have HCW := Lib.hid (fun V (h : Below w6.heap.size w6 V) => HC4.out V (cur.trans (h.mono cur.size)))
          have HNW := Lib.hid (HK4.out.to cur)
          clear hx hall hPT cur
          have cur : Below w6.heap.size w6 w6 := Below.refl _ _
          go_wp2_with (first
            | (go_at_call 9; refine (parse_is w6 (HG.out.up HBW.out) TS (by omega) HPT.out).mono ?_; rintro e w8 ⟨a8, c8, d8, rfl, hK8, hb⟩; obtain ⟨w9, p9, hp9, hw9, l9, b9, hC9⟩ := nd_boxed w8 n (.slice a8 c8 d8) 29; have HC9 := Lib.hid hC9; have HK9 := Lib.hid (hK8.to b9); have cur := cur.trans ((hb.trans (b9.mono hb.size)).mono cur.size); obtain ⟨g0, g1, g2, g3, g4, g5, g6⟩ := HCW.out _ cur; obtain ⟨q0, q1, q2, q3, q4, q5, q6⟩ := hC9 _ (Below.refl _ _); have HN9 := Lib.hid (HNW.out.to cur); clear hb b9 hK8 hC9)
            | (go_at_call 15; refine (same_is w9 n n _ _ HN9.out HK9.out (sameN_refl n)).mono ?_; rintro e w10 ⟨rfl, hb⟩; have cur := cur.trans (hb.mono cur.size); clear hb))
          go_meet
          case rel => exact ⟨_, rfl, Lib.hid (HBW.out.trans (cur.mono HBW.out.size))⟩
        · have u0 : (x == 0) = false := beq_eq_false_iff_ne.2 hx
          clear hx
          go_wp2_with fail
          go_meet
          case rel => exact ⟨_, rfl, Lib.hid (HB4.out.trans (cur.mono HB4.out.size))⟩
      case rest =>
        obtain ⟨w7, rfl, hB7⟩ := hcut
        clear cur
        cases hps : parseE s.data.toList with
        | error xp =>
          obtain ⟨y, p⟩ := xp
          have hpl := parse_err hps
          have hlen : s.data.toList.length = s.size := rfl
          have hpl2 : p ≤ s.size := by omega
          have u2 : (nilN.op == 0) = true := rfl
          have u3 : decide ((0 : Int) ≤ (p : Int)) = true := decide_eq_true (by omega)
          have u4 : decide ((p : Int) ≤ (s.size : Int)) = true := decide_eq_true (by omega)
          have u4' : decide (p ≤ s.size) = true := decide_eq_true hpl2
          have HPN := Lib.hid hps
          clear hpl hlen hps
          go_wp2_with (go_at_call 9; refine (parse_not w7 (HG.out.up hB7.out) s hsz HPN.out).mono ?_; rintro e w8 ⟨hE, a8, c8, d8, rfl, hb⟩; have u1 := bne_iff_ne.2 hE; obtain ⟨w9, p9, hp9, hw9, l9, b9, hC9⟩ := nd_boxed w8 nilN (.slice a8 c8 d8) 29; have cur := hB7.out.trans ((hb.trans (b9.mono hb.size)).mono hB7.out.size); obtain ⟨q0, q1, q2, q3, q4, q5, q6⟩ := hC9 _ (Below.refl _ _); clear hb b9 hC9)
          go_ret
          exact ⟨rfl, cur⟩
        | ok y =>
          have hyl := parse_len hps
          obtain ⟨hyc, _⟩ := parse_chk hps
          have HPY := Lib.hid hps
          have HYL := Lib.hid (fun (_ : checkN y = true) => hyl)
          have HYC := Lib.hid hyc
          by_cases hl : (spellE y 1).length ≤ 256
          · have HPR2 : Hid (printE y = (spellE y 1, 0)) := Lib.hid (by unfold printE; rw [hyc, if_pos rfl, if_pos hl])
            have hpb := back_again hps hl
            obtain ⟨U, hU⟩ : ∃ U : ByteArray, ByteArray.mk (spellE y 1).toArray = U := ⟨_, rfl⟩
            have hUl : U.data.toList = spellE y 1 := by rw [← hU, toList_mk]
            have hUz : U.size ≤ 256 := by have : U.data.toList.length = U.size := rfl; rw [← this, hUl]; exact hl
            have HPU : Hid (parseE U.data.toList = .ok y) := Lib.hid (by rw [hUl]; exact hpb)
            have HU := Lib.hid hU
            have uu : (U.toList == U.toList) = true := by simp
            clear hUl hU hpb hl hyc hyl hps
            go_wp2_with (first
              | (have _ := mk12; go_at_call 13; refine (print_is w12 (HG.out.up HB12.out) y _ _ _ HK12.out HYL.out HPR2.out).mono ?_; rintro e w13 ⟨rfl, hb⟩; rw [HU.out]; have HB13 := Lib.hid (HB12.out.trans (hb.mono HB12.out.size)); have cur9 := cur9.trans (hb.mono cur9.size); have cur12 : Below w12.heap.size w12 w13 := hb; obtain ⟨q0, q1, q2, q3, q4, q5, q6⟩ := HC9.out _ cur9; obtain ⟨r0, r1, r2, r3, r4, r5, r6⟩ := HC12.out _ cur12; have mk13 := HB13; clear hb)
              | (have _ := mk10; go_at_call 9; refine (parse_is w10 (HG.out.up HB10.out) U (by omega) HPU.out).mono ?_; rintro e w11 ⟨a11, c11, d11, rfl, hK11, hb⟩; obtain ⟨w12, p12, hp12, hw12, l12, b12, hC12⟩ := nd_boxed w11 y (.slice a11 c11 d11) 29; have HC12 := Lib.hid hC12; have HK12 := Lib.hid (hK11.to b12); have HB12 := Lib.hid (HB10.out.trans ((hb.trans (b12.mono hb.size)).mono HB10.out.size)); have cur9 := cur9.trans ((hb.trans (b12.mono hb.size)).mono cur9.size); obtain ⟨r0, r1, r2, r3, r4, r5, r6⟩ := hC12 _ (Below.refl _ _); have mk12 := HK12; clear hb b12 hK11 hC12)
              | (have _ := mk9; go_at_call 13; refine (print_is w9 (HG.out.up HB9.out) y _ _ _ HK9.out HYL.out HPR2.out).mono ?_; rintro e w10 ⟨rfl, hb⟩; rw [HU.out]; have HB10 := Lib.hid (HB9.out.trans (hb.mono HB9.out.size)); have cur9 : Below w9.heap.size w9 w10 := hb; have mk10 := HB10; clear hb)
              | (have _ := mk13; go_at_call 14; refine (check_is w13 (HG.out.up HB13.out) y _ (HK9.out.to cur9) HYC.out).mono ?_; rintro e w14 ⟨rfl, hb⟩; have HB14 := Lib.hid (HB13.out.trans (hb.mono HB13.out.size)); have cur9 := cur9.trans (hb.mono cur9.size); have cur12 := cur12.trans (hb.mono cur12.size); obtain ⟨q0, q1, q2, q3, q4, q5, q6⟩ := HC9.out _ cur9; obtain ⟨r0, r1, r2, r3, r4, r5, r6⟩ := HC12.out _ cur12; clear hb)
              | (go_at_call 15; refine (same_is w14 y y _ _ (HK9.out.to cur9) (HK12.out.to cur12) (sameN_refl y)).mono ?_; rintro e w15 ⟨rfl, hb⟩; have HB15 := Lib.hid (HB14.out.trans (hb.mono HB14.out.size)); clear hb)
              | (go_at_call 9; refine (parse_is w7 (HG.out.up hB7.out) s hsz HPY.out).mono ?_; rintro e w8 ⟨a8, c8, d8, rfl, hK8, hb⟩; obtain ⟨w9, p9, hp9, hw9, l9, b9, hC9⟩ := nd_boxed w8 y (.slice a8 c8 d8) 29; have HC9 := Lib.hid hC9; have HK9 := Lib.hid (hK8.to b9); have HB9 := Lib.hid (hB7.out.trans ((hb.trans (b9.mono hb.size)).mono hB7.out.size)); obtain ⟨q0, q1, q2, q3, q4, q5, q6⟩ := hC9 _ (Below.refl _ _); have mk9 := HK9; clear hb b9 hK8 hC9))
            go_ret
            exact ⟨rfl, HB15.out⟩
          · have HPR2 : Hid (printE y = ([], 3)) := Lib.hid (by unfold printE; rw [hyc, if_pos rfl, if_neg hl])
            clear hl hyc hyl hps
            go_wp2_with (first
              | (go_at_call 9; refine (parse_is w7 (HG.out.up hB7.out) s hsz HPY.out).mono ?_; rintro e w8 ⟨a8, c8, d8, rfl, hK8, hb⟩; obtain ⟨w9, p9, hp9, hw9, l9, b9, hC9⟩ := nd_boxed w8 y (.slice a8 c8 d8) 29; have HK9 := Lib.hid (hK8.to b9); have HB9 := Lib.hid (hB7.out.trans ((hb.trans (b9.mono hb.size)).mono hB7.out.size)); obtain ⟨q0, q1, q2, q3, q4, q5, q6⟩ := hC9 _ (Below.refl _ _); clear hb b9 hK8 hC9)
              | (go_at_call 13; refine (print_is w9 (HG.out.up HB9.out) y _ _ _ HK9.out HYL.out HPR2.out).mono ?_; rintro e w10 ⟨rfl, hb⟩; have HB10 := Lib.hid (HB9.out.trans (hb.mono HB9.out.size)); clear hb))
            go_ret
            exact ⟨rfl, HB10.out⟩
    · have d1 : decide ((2000 : Int) < (s.size : Int)) = true := decide_eq_true (by omega)
      have d1' : decide (2000 < s.size) = true := decide_eq_true (by omega)
      go_enter Tryz.func4, Tryz.ntmps4
      go_wp2_with (first
        | (go_at_call 11; refine HF.out.mono ?_; rintro e w2 ⟨rfl, hb⟩; have cur := cur.trans (hb.mono cur.size); clear hb)
        | (go_at_call 10; refine (HAW.out _ cur).mono ?_; rintro e w2 ⟨rfl, hb⟩; have cur := cur.trans (hb.mono cur.size); clear hb))
      go_ret
      exact ⟨rfl, cur⟩
end Go.Proofs.YtbephgifbghilaaGreatDoor
