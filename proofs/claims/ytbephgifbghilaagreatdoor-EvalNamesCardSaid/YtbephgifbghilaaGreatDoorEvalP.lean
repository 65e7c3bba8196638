/- Conditions on plain data: values, nodes, what a node comes to. No program here. -/
import Derived.Test.YtbephgifbghilaaGreatDoorRows
import Derived.Lib.ValidU
import Derived.Laws.StructEq
import Derived.Lib.Bytealg
set_option maxRecDepth 100000
namespace Go.Proofs.YtbephgifbghilaaGreatDoor

structure Vl where
  kind : Int
  num : Int
  tr : Bool
  text : ByteArray
def Vl.zero : Vl := ⟨0, 0, false, ⟨#[]⟩⟩
instance : Inhabited Vl := ⟨Vl.zero⟩
def vlEq (a b : Vl) : Bool := (a.kind == b.kind) && ((a.num == b.num) && ((a.tr == b.tr) && (a.text.toList == b.text.toList)))
def numV (n : Int) : Vl := ⟨1, n, false, ⟨#[]⟩⟩
def trV (b : Bool) : Vl := ⟨2, 0, b, ⟨#[]⟩⟩
def txV (s : ByteArray) : Vl := ⟨3, 0, false, s⟩
theorem vlEq_refl (a : Vl) : vlEq a a = true := by simp [vlEq]
theorem vlEq_symm (a b : Vl) : vlEq a b = vlEq b a := by
  unfold vlEq
  rw [Bool.eq_iff_iff]
  simp only [Bool.and_eq_true, beq_iff_eq]
  exact ⟨fun ⟨h1, h2, h3, h4⟩ => ⟨h1.symm, h2.symm, h3.symm, h4.symm⟩, fun ⟨h1, h2, h3, h4⟩ => ⟨h1.symm, h2.symm, h3.symm, h4.symm⟩⟩
theorem bytes_eq {a b : ByteArray} (h : a.toList = b.toList) : a = b := by
  rw [Lib.toList_data, Lib.toList_data] at h
  cases a; cases b
  exact congrArg ByteArray.mk (Array.ext' h)
theorem vlEq_iff {a b : Vl} : vlEq a b = true ↔ a = b := by
  refine ⟨fun h => ?_, fun h => h ▸ vlEq_refl a⟩
  unfold vlEq at h
  simp only [Bool.and_eq_true, beq_iff_eq] at h
  obtain ⟨h1, h2, h3, h4⟩ := h
  have h5 := bytes_eq h4
  cases a; cases b
  simp only at h1 h2 h3 h5
  subst h1 h2 h3 h5
  rfl

def checkB (v : Vl) : Bool :=
  if v.kind = 1 then vlEq v (numV v.num)
  else if v.kind = 2 then vlEq v (trV v.tr)
  else if v.kind = 3 then vlEq v (txV v.text) && (decide (v.text.size ≤ 1024) && Lib.validD v.text.data.toList)
  else false
def checkE (v : Vl) : Int := if checkB v then 0 else 1
def numB (a : Vl) : Bool := (a.kind == 1) && checkB a
def numsB (a b : Vl) : Bool := numB a && numB b
def inR (n : Int) : Bool := decide (-9223372036854775808 ≤ n) && decide (n ≤ 9223372036854775807)
def ansE (n : Int) (ok : Bool) : Vl × Int := if ok then (numV n, 0) else (Vl.zero, 91)
def addE (a b : Vl) : Vl × Int := if numsB a b then ansE (a.num + b.num) (inR (a.num + b.num)) else (Vl.zero, 90)
def subE (a b : Vl) : Vl × Int := if numsB a b then ansE (a.num - b.num) (inR (a.num - b.num)) else (Vl.zero, 90)
def mulE (a b : Vl) : Vl × Int := if numsB a b then ansE (a.num * b.num) (inR (a.num * b.num)) else (Vl.zero, 90)
def divE (a b : Vl) : Vl × Int := if numsB a b then ansE (a.num.tdiv b.num) (!((b.num == 0) || ((a.num == -9223372036854775808) && (b.num == -1)))) else (Vl.zero, 90)
def modE (a b : Vl) : Vl × Int := if numsB a b then ansE (a.num.tmod b.num) (!(b.num == 0)) else (Vl.zero, 90)
def negE (a : Vl) : Vl × Int := subE (numV 0) a
def cmpI (a b : Int) : Int := if a < b then -1 else if b < a then 1 else 0
def boolI (b : Bool) : Int := if b then 1 else 0
def orI (a b : Int) : Int := if a = 0 then b else a
def cmpV (a b : Vl) : Int := orI (cmpI a.kind b.kind) (orI (cmpI a.num b.num) (orI (boolI a.tr - boolI b.tr) (Lib.compareBytes a.text.data.toList b.text.data.toList)))
def lessE (a b : Vl) : Bool × Int := if (a.kind == b.kind) && (!(a.kind == 2) && (checkB a && checkB b)) then (decide (cmpV a b < 0), 0) else (false, 90)
def truthE (b : Bool) (e : Int) : Vl × Int := if e = 0 then (trV b, 0) else (Vl.zero, e)
def equalT (a b : Vl) (want : Bool) : Vl × Int := if a.kind = b.kind then truthE (vlEq a b == want) 0 else (Vl.zero, 90)
def lessT (a b : Vl) (want : Bool) : Vl × Int := truthE ((lessE a b).1 == want) (lessE a b).2
def addT (a b : Vl) : Vl × Int := if (a.kind == 3) && (b.kind == 3) then (if checkB (txV (a.text ++ b.text)) then (txV (a.text ++ b.text), 0) else (Vl.zero, 91)) else addE a b
def bothE (op : Int) (a b : Vl) : Vl × Int :=
  if op = 7 then equalT a b true
  else if op = 8 then equalT a b false
  else if op = 9 then lessT a b true
  else if op = 10 then lessT b a false
  else if op = 11 then lessT b a true
  else if op = 12 then lessT a b false
  else if op = 13 then addT a b
  else if op = 14 then subE a b
  else if op = 15 then mulE a b
  else if op = 16 then divE a b
  else modE a b

structure Bd where
  name : ByteArray
  val : Vl
instance : Inhabited Bd := ⟨⟨⟨#[]⟩, Vl.zero⟩⟩
def findB (l : List Bd) (s : ByteArray) : Option Vl := match l with
  | [] => none
  | b :: r => if b.name.toList == s.toList then some b.val else findB r s
def varE (l : List Bd) (s : ByteArray) : Vl × Int := match findB l s with
  | none => (Vl.zero, 100)
  | some v => if checkB v then (v, 0) else (Vl.zero, 1)

inductive Nd where
  | mk (op : Int) (v : Vl) (name : ByteArray) (kids : List Nd)
def Nd.op : Nd → Int | .mk o _ _ _ => o
def Nd.v : Nd → Vl | .mk _ v _ _ => v
def Nd.name : Nd → ByteArray | .mk _ _ n _ => n
def Nd.kids : Nd → List Nd | .mk _ _ _ k => k
instance : Inhabited Nd := ⟨.mk 0 Vl.zero ⟨#[]⟩ []⟩

/-- What an operation makes of what its kids come to. -/
def combE (op : Int) (x y : Vl × Int) : Vl × Int :=
  if x.2 = 0 then
    if op = 4 then negE x.1
    else if (op = 3 ∨ op = 5 ∨ op = 6) ∧ ¬ x.1.kind = 2 then (Vl.zero, 90)
    else if op = 3 then (trV (!x.1.tr), 0)
    else if (op = 5 ∨ op = 6) ∧ x.1.tr = decide (op = 6) then (x.1, 0)
    else if y.2 = 0 then
      if 7 ≤ op ∧ op ≤ 17 then bothE op x.1 y.1
      else if y.1.kind = 2 then (y.1, 0) else (Vl.zero, 90)
    else (Vl.zero, y.2)
  else (Vl.zero, x.2)
mutual
def evalN (l : List Bd) : Nd → Vl × Int
  | .mk op v nm ks => if op = 1 then (v, 0) else if op = 2 then varE l nm else combE op (evalH l ks) (evalT l ks)
def evalH (l : List Bd) : List Nd → Vl × Int
  | [] => (Vl.zero, 0)
  | a :: _ => evalN l a
def evalT (l : List Bd) : List Nd → Vl × Int
  | [] => (Vl.zero, 0)
  | _ :: r => evalH l r
end

def kidsN (op : Int) : Int := if op < 1 ∨ 17 < op then -1 else if op ≤ 2 then 0 else if op ≤ 4 then 1 else 2
end Go.Proofs.YtbephgifbghilaaGreatDoor
