/- Of ExprParseP: what XFAs uses (shake.py). -/
import Derived.Test.YtbephgifbghilaaGreatDoorKEvalLawP
import Derived.Lib.AtoiAllCases
/- Reading a condition, on lists of bytes: tokens, and the table of lines (expr.Parse; plain, no program here). The first error ends it. -/
set_option maxRecDepth 100000
namespace Go.Proofs.YtbephgifbghilaaGreatDoor
open Go.Lib
def digE (x : Nat) : Bool := decide (48 ≤ x) && decide (x ≤ 57)
def letE (x : Nat) : Bool := (decide (97 ≤ x) && decide (x ≤ 122)) || (decide (65 ≤ x) && decide (x ≤ 90))
def inNm (x : Nat) : Bool := letE x || digE x || x == 45 || x == 95 || x == 46
/-- A token: the end, a node, a word or sign; and where it begins. -/
inductive Tk where
  | fin (a : Nat)
  | nd (n : Nd) (a : Nat)
  | say (w : List UInt8) (a : Nat)
def Tk.at_ : Tk → Nat | .fin a => a | .nd _ a => a | .say _ a => a
/-- Where two nodes stand around a sign: which node they make, and its line. -/
def signL (w : List UInt8) : Option (Int × Nat) :=
  if w = [111, 114] then some (6, 1) else if w = [97, 110, 100] then some (5, 2) else
  if w = [61] then some (7, 4) else if w = [33, 61] then some (8, 4) else if w = [60] then some (9, 4) else if w = [60, 61] then some (10, 4) else if w = [62] then some (11, 4) else if w = [62, 61] then some (12, 4) else
  if w = [43] then some (13, 5) else if w = [45] then some (14, 5) else if w = [42] then some (15, 6) else if w = [47] then some (16, 6) else if w = [37] then some (17, 6) else none
def signT : Tk → Option (Int × Nat)
  | .say w _ => signL w
  | _ => none
/-- How many bytes from the beginning are so. -/
def spanE (p : Nat → Bool) : List UInt8 → Nat
  | [] => 0
  | c :: r => if p c.toNat then spanE p r + 1 else 0
/-- A text's token, behind its first quote: the text, and how many bytes were read (the last quote too). -/
def textE : Nat → List UInt8 → List UInt8 → Option (List UInt8 × Nat)
  | _, _, [] => none
  | i, acc, [39] => some (acc, i + 1)
  | i, acc, 39 :: 39 :: r => textE (i + 2) (acc ++ [39]) r
  | i, acc, 39 :: _ :: _ => some (acc, i + 1)
  | i, acc, c :: r => textE (i + 1) (acc ++ [c]) r
abbrev Rs (α : Type) := Except (Int × Nat) α
def intE (l : List UInt8) : Option Int := match atoiAll l with | .ok v => some v | _ => none
/-- The token that begins with these bytes (at place a), and where the next one is looked for. -/
def tokE (rest : List UInt8) (a : Nat) : Rs (Tk × Nat) :=
  match rest with
  | [] => .ok (.fin a, a)
  | b :: _ =>
    if digE b.toNat then
      let w := rest.take (spanE digE rest)
      if b = 48 ∧ 1 < w.length then .error (4, a) else
      match intE w with
      | none => .error (91, a)
      | some n => .ok (.nd (litN (numV n)) a, a + w.length)
    else if letE b.toNat then
      let w := rest.take (spanE inNm rest)
      if w = [116, 114, 117, 101] then .ok (.nd (litN (trV true)) a, a + w.length)
      else if w = [102, 97, 108, 115, 101] then .ok (.nd (litN (trV false)) a, a + w.length)
      else if keyL.contains w then .ok (.say w a, a + w.length)
      else if nameB ⟨w.toArray⟩ then .ok (.nd (varN ⟨w.toArray⟩) a, a + w.length) else .error (4, a)
    else if b = 39 then
      match textE 1 [] rest.tail with
      | none => .error (4, a)
      | some (t, n) => if validD t then .ok (.nd (litN (txV ⟨t.toArray⟩)) a, a + n) else .error (4, a)
    else
      let w := if 1 < rest.length ∧ (signL (rest.take 2)).isSome then rest.take 2 else rest.take 1
      if (signL w).isSome ∨ w = [40] ∨ w = [41] then .ok (.say w a, a + w.length) else .error (4, a)
/-- The next token. -/
def nextE (s : List UInt8) (i : Nat) : Rs (Tk × Nat) := tokE ((s.drop i).dropWhile (· == 32)) (s.length - ((s.drop i).dropWhile (· == 32)).length)
/-- A part of a condition that binds not weaker than a line: from a token on; or what goes on behind a part. -/
def prsE (s : List UInt8) : Nat → Option Nd → Nat → Tk × Nat → Rs (Nd × (Tk × Nat))
  | 0, _, _, _ => .error (0, 0)
  | f + 1, none, line, st =>
    match st.1 with
    | .say w a =>
      if w = [110, 111, 116] ∧ line ≤ 3 then do
        let st1 ← nextE s st.2
        let (n, st2) ← prsE s f none 3 st1
        prsE s f (some (oneN 3 n)) line st2
      else if w = [45] then do
        let st1 ← nextE s st.2
        let (n, st2) ← prsE s f none 7 st1
        prsE s f (some (oneN 4 n)) line st2
      else if w = [40] then do
        let st1 ← nextE s st.2
        let (n, st2) ← prsE s f none 1 st1
        match st2.1 with
        | .say [41] _ => do
          let st3 ← nextE s st2.2
          prsE s f (some n) line st3
        | t => .error (4, t.at_)
      else .error (4, a)
    | .fin a => .error (4, a)
    | .nd n _ => do
      let st1 ← nextE s st.2
      prsE s f (some n) line st1
  | f + 1, some n, line, st =>
    match signT st.1 with
    | none => .ok (n, st)
    | some (op, ln) =>
      if ln < line then .ok (n, st) else do
        let st1 ← nextE s st.2
        let (m, st2) ← prsE s f none (ln + 1) st1
        if ln = 4 ∧ (signT st2.1).any (fun p => p.2 == 4) then .error (4, st2.1.at_) else
        prsE s f (some (twoN op n m)) line st2
/-- A text's node, or the place and the error. -/
def parseE (s : List UInt8) : Rs Nd :=
  if 256 < s.length then .error (3, 0) else do
    let st ← nextE s 0
    let (n, st1) ← prsE s (2 * s.length + 10) none 1 st
    match st1.1 with
    | .fin _ => .ok n
    | t => .error (4, t.at_)
end Go.Proofs.YtbephgifbghilaaGreatDoor
