/- A head, line by line, on lists of bytes (wire; plain, no program in sight). -/
import Derived.Test.YtlgfhbfdjckdnaaGreatDoorWireNumP
import Derived.Lib.SplitLaws
import Derived.Lib.SlTrimSet
import Derived.Lib.Case
import Derived.Lib.IndexMore
set_option maxRecDepth 100000
namespace Go.Proofs.YtlgfhbfdjckdnaaGreatDoor
open Go.Lib

def okC (x : Nat) : Bool := (decide (32 ≤ x) && decide (x ≤ 126)) || decide (x = 9)
def nmC (x : Nat) : Bool := (decide (97 ≤ x) && decide (x ≤ 122)) || (decide (65 ≤ x) && decide (x ≤ 90)) || (decide (48 ≤ x) && decide (x ≤ 57)) || decide (x = 45)
def upL (x : Nat) : Bool := decide (65 ≤ x) && decide (x ≤ 90)
def visL (x : Nat) : Bool := decide (33 ≤ x) && decide (x ≤ 126)
def digC (x : Nat) : Bool := decide (48 ≤ x) && decide (x ≤ 57)
def allL (p : Nat → Bool) (l : List UInt8) : Bool := l.all fun c => p c.toNat
def methodL (l : List UInt8) : Bool := decide (1 ≤ l.length) && decide (l.length ≤ 16) && allL upL l
def pathL (l : List UInt8) : Bool := hasPrefix l [47] && decide (l.length ≤ 1024) && allL visL l
def http11 : List UInt8 := [72, 84, 84, 80, 47, 49, 46, 49]
def httpS : List UInt8 := [72, 84, 84, 80, 47]
/-- Another version of the protocol. -/
def otherL (v : List UInt8) : Bool := decide (v.length = 8) && hasPrefix v httpS && decide ((v.getD 6 0).toNat = 46) && digC (v.getD 5 0).toNat && digC (v.getD 7 0).toNat
/-- The first line: a refusal's status, or 0; and what it says. -/
def firstS (l : List UInt8) : Int × List UInt8 × List UInt8 :=
  match split l [32] with
  | [m, p, v] => if methodL m && pathL p then (if v = http11 then (0, m, p) else if otherL v then (505, [], []) else (400, [], [])) else (400, [], [])
  | _ => (400, [], [])

def clenK : List UInt8 := [99, 111, 110, 116, 101, 110, 116, 45, 108, 101, 110, 103, 116, 104]
def ikeyK : List UInt8 := [105, 100, 101, 109, 112, 111, 116, 101, 110, 99, 121, 45, 107, 101, 121]
def hostK : List UInt8 := [104, 111, 115, 116]
def tencK : List UInt8 := [116, 114, 97, 110, 115, 102, 101, 114, 45, 101, 110, 99, 111, 100, 105, 110, 103]
/-- What further lines have said: the names that were there, the key, the length. -/
structure HS where
  seen : List (List UInt8)
  key : List UInt8
  size : Nat
/-- A length: a refusal's status, or 0, and the number. -/
def lengthS (v : List UInt8) : Int × Nat :=
  if v = [] ∨ allL digC v = false ∨ ((v.getD 0 0).toNat = 48 ∧ v ≠ [48]) then (400, 0) else if 65536 < valD v then (413, 0) else (0, valD v)
/-- A further line's name and value. -/
def lineK (h : HS) (key v : List UInt8) : Int × HS :=
  if h.seen.contains key = true ∧ (key = clenK ∨ key = ikeyK ∨ key = hostK ∨ key = tencK) then (400, h) else
  if key = clenK then ((lengthS v).1, ⟨key :: h.seen, h.key, (lengthS v).2⟩) else
  if key = ikeyK then (if v = [] ∨ 32 < v.length ∨ allL visL v = false then (400, h) else (0, ⟨key :: h.seen, v, h.size⟩)) else
  if key = tencK then (501, h) else (0, ⟨key :: h.seen, h.key, h.size⟩)
/-- A further line. -/
def lineS (h : HS) (l : List UInt8) : Int × HS :=
  if (cut l [58]).2.2 = false ∨ (cut l [58]).1 = [] ∨ allL nmC (cut l [58]).1 = false then (400, h) else
  lineK h (toLowerA (cut l [58]).1) (trimS (cut l [58]).2.1 [32, 9])
def linesS : HS → List (List UInt8) → Int × HS
  | h, [] => (0, h)
  | h, l :: r => if (lineS h l).1 ≠ 0 then ((lineS h l).1, h) else linesS (lineS h l).2 r
/-- A head's lines: a refusal's status, or 0; method, path, key and length. -/
def headP (P : List (List UInt8)) : Int × List UInt8 × List UInt8 × List UInt8 × Nat :=
  if P.all (allL okC) = false then (400, [], [], [], 0) else
  if (firstS (P.headD [])).1 ≠ 0 then ((firstS (P.headD [])).1, [], [], [], 0) else
  if (linesS ⟨[], [], 0⟩ P.tail).1 ≠ 0 then ((linesS ⟨[], [], 0⟩ P.tail).1, [], [], [], 0) else
  if (linesS ⟨[], [], 0⟩ P.tail).2.seen.contains hostK = false then (400, [], [], [], 0) else
  (0, (firstS (P.headD [])).2.1, (firstS (P.headD [])).2.2, (linesS ⟨[], [], 0⟩ P.tail).2.key, (linesS ⟨[], [], 0⟩ P.tail).2.size)
/-- A head without its two last ends. -/
def headS (l : List UInt8) : Int × List UInt8 × List UInt8 × List UInt8 × Nat := headP (split l [13, 10])

/-- What is told: a request, or a refusal. -/
structure Gp where
  m : ByteArray
  p : ByteArray
  k : ByteArray
  b : ByteArray
  st : Int
def bytesL (l : List UInt8) : ByteArray := ⟨l.toArray⟩
def ends4 : List UInt8 := [13, 10, 13, 10]
/-- What is told next: nothing yet; a refusal; a request, and what is left. -/
inductive Nx where
  | wait
  | refuse (st : Int)
  | got (g : Gp) (rest : List UInt8)
def nextS (l : List UInt8) : Nx :=
  if index (l.take 4096) ends4 < 0 then (if 4096 ≤ l.length then .refuse 431 else .wait) else
  let e := (index (l.take 4096) ends4).toNat
  let h := headS (l.take e)
  if h.1 ≠ 0 then .refuse h.1 else
  if l.length < e + 4 + h.2.2.2.2 then .wait else
  .got ⟨bytesL h.2.1, bytesL h.2.2.1, bytesL h.2.2.2.1, bytesL ((l.drop (e + 4)).take h.2.2.2.2), 0⟩ (l.drop (e + 4 + h.2.2.2.2))
def refG (st : Int) : Gp := ⟨bytesL [], bytesL [], bytesL [], bytesL [], st⟩
def readS : Nat → List UInt8 → List Gp × List UInt8 × Bool
  | 0, l => ([], l, false)
  | n + 1, l =>
    match nextS l with
    | .wait => ([], l, false)
    | .refuse st => ([refG st], [], true)
    | .got g rest => (g :: (readS n rest).1, (readS n rest).2)
/-- All that is told of bytes; what is left; whether it is closed. -/
def feedS (l : List UInt8) : List Gp × List UInt8 × Bool := readS (l.length + 1) l
end Go.Proofs.YtlgfhbfdjckdnaaGreatDoor
