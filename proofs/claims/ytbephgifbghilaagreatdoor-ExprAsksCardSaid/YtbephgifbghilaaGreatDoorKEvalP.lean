/- Of EvalP: what XFAs uses (shake.py). -/
import Derived.Test.YtbephgifbghilaaGreatDoorRows
import Derived.Lib.ValidU
import Derived.Laws.StructEq
import Derived.Lib.Bytealg
/- Conditions on plain data: values, nodes, what a node comes to. No program here. -/
set_option maxRecDepth 100000
namespace Go.Proofs.YtbephgifbghilaaGreatDoor
structure Vl where
  kind : Int
  num : Int
  tr : Bool
  text : ByteArray
def Vl.zero : Vl := ⟨0, 0, false, ⟨#[]⟩⟩
instance : Inhabited Vl := ⟨Vl.zero⟩
def vlEq (a b : Vl) : Bool := (a.kind == b.kind) && ((a.num == b.num) && ((a.tr == b.tr) && (a.text.toList == b.text.toList)))
def numV (n : Int) : Vl := ⟨1, n, false, ⟨#[]⟩⟩
def trV (b : Bool) : Vl := ⟨2, 0, b, ⟨#[]⟩⟩
def txV (s : ByteArray) : Vl := ⟨3, 0, false, s⟩
theorem vlEq_refl (a : Vl) : vlEq a a = true := by simp [vlEq]
theorem bytes_eq {a b : ByteArray} (h : a.toList = b.toList) : a = b := by
  rw [Lib.toList_data, Lib.toList_data] at h
  cases a; cases b
  exact congrArg ByteArray.mk (Array.ext' h)
theorem vlEq_iff {a b : Vl} : vlEq a b = true ↔ a = b := by
  refine ⟨fun h => ?_, fun h => h ▸ vlEq_refl a⟩
  unfold vlEq at h
  simp only [Bool.and_eq_true, beq_iff_eq] at h
  obtain ⟨h1, h2, h3, h4⟩ := h
  have h5 := bytes_eq h4
  cases a; cases b
  simp only at h1 h2 h3 h5
  subst h1 h2 h3 h5
  rfl
def checkB (v : Vl) : Bool :=
  if v.kind = 1 then vlEq v (numV v.num)
  else if v.kind = 2 then vlEq v (trV v.tr)
  else if v.kind = 3 then vlEq v (txV v.text) && (decide (v.text.size ≤ 1024) && Lib.validD v.text.data.toList)
  else false
def checkE (v : Vl) : Int := if checkB v then 0 else 1
structure Bd where
  name : ByteArray
  val : Vl
instance : Inhabited Bd := ⟨⟨⟨#[]⟩, Vl.zero⟩⟩
def findB (l : List Bd) (s : ByteArray) : Option Vl := match l with
  | [] => none
  | b :: r => if b.name.toList == s.toList then some b.val else findB r s
inductive Nd where
  | mk (op : Int) (v : Vl) (name : ByteArray) (kids : List Nd)
def Nd.op : Nd → Int | .mk o _ _ _ => o
def Nd.v : Nd → Vl | .mk _ v _ _ => v
def Nd.name : Nd → ByteArray | .mk _ _ n _ => n
def Nd.kids : Nd → List Nd | .mk _ _ _ k => k
instance : Inhabited Nd := ⟨.mk 0 Vl.zero ⟨#[]⟩ []⟩
def kidsN (op : Int) : Int := if op < 1 ∨ 17 < op then -1 else if op ≤ 2 then 0 else if op ≤ 4 then 1 else 2
end Go.Proofs.YtbephgifbghilaaGreatDoor
