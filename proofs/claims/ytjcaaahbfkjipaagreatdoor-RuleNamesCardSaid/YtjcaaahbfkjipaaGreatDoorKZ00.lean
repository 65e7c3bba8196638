/- Texts fused by fuse.py: KBase, KOwn, KAppCol, KRowsF, KEvalP, KEvalMem. -/
import Derived.Test.YtjcaaahbfkjipaaGreatDoorRows
import Derived.WalkKit
import Derived.ProofKit
import Derived.WalkLawsBesides
import Derived.WalkSpells
import Derived.Lib.Hide
import Derived.BigQuiet
import Derived.Deep.QuietTactic
import Derived.Deep.DeepCutAuto
import Derived.Deep.RegionHeld3
import Derived.Deep.DeepMust
import Derived.Outline
import Derived.Deep.AppendLies
import Derived.Laws.OwnMore
import Derived.Lib.ValidU
import Derived.Laws.StructEq
import Derived.Lib.Bytealg
/- Of Base: what FRuleNames uses (shake.py). -/
set_option maxRecDepth 100000
/- Readings of slices and of nets in a world, kept while old memory stands. -/
namespace Go.Proofs.YtjcaaahbfkjipaaGreatDoor
open Go.RowKit
/-- A column of one-cell elements, each made by 'mk', behind an address; all blocks are below 'B'. -/
def Col {α : Type} (mk : α → Value) (w : World) (B : Nat) (a : Option Addr) (l : List α) : Prop :=
  ∀ i (h : i < l.length), ∃ b o, a = some ⟨b, o, none⟩ ∧ b < B ∧ w.cell? ⟨b, o + i, none⟩ = some (mk l[i])
/-- A slice of such elements. -/
def ColV {α : Type} (mk : α → Value) (L : Nat) (w : World) (B : Nat) (v : Value) (l : List α) : Prop :=
  ∃ a cap, v = .slice a l.length cap ∧ l.length ≤ L ∧ l.length ≤ cap ∧ Col mk w B a l
abbrev Ints (w : World) (B : Nat) (v : Value) (l : List Int) : Prop := ColV (Value.int .i64) 17592186044416 w B v l
abbrev Strs (w : World) (B : Nat) (v : Value) (l : List ByteArray) : Prop := ColV Value.string 8796093022208 w B v l
theorem Below.cellB {B : Nat} {w w' : World} (hb : Below B w w') {b o : Nat} (h : b < B) : w'.cell? ⟨b, o, none⟩ = w.cell? ⟨b, o, none⟩ := hb.cell (p := ⟨b, o, none⟩) h
theorem Col.mono {α : Type} {mk : α → Value} {w w' : World} {B B' : Nat} {a : Option Addr} {l : List α} (h : Col mk w B a l) (hb : Below B w w') (hB : B ≤ B') : Col mk w' B' a l := by
  intro i hi
  obtain ⟨b, o, ha, hlt, hc⟩ := h i hi
  exact ⟨b, o, ha, by omega, by rw [Below.cellB hb hlt]; exact hc⟩
theorem ColV.mono {α : Type} {mk : α → Value} {L : Nat} {w w' : World} {B B' : Nat} {v : Value} {l : List α} (h : ColV mk L w B v l) (hb : Below B w w') (hB : B ≤ B') : ColV mk L w' B' v l := by
  obtain ⟨a, cap, rfl, hl, hcap, hc⟩ := h
  exact ⟨a, cap, rfl, hl, hcap, hc.mono hb hB⟩
theorem ColV.len {α : Type} {mk : α → Value} {L : Nat} {w : World} {B : Nat} {v : Value} {l : List α} (h : ColV mk L w B v l) : l.length ≤ L := by
  obtain ⟨a, cap, rfl, hl, hc⟩ := h
  exact hl
theorem ColV.val {α : Type} {mk : α → Value} {L : Nat} {w : World} {B : Nat} {v : Value} {l : List α} (h : ColV mk L w B v l) : ∃ a cap, v = .slice a l.length cap := by
  obtain ⟨a, cap, rfl, hl, hc⟩ := h
  exact ⟨a, cap, rfl⟩
theorem ColV.col {α : Type} {mk : α → Value} {L : Nat} {w : World} {B : Nat} {a : Option Addr} {n cap : Nat} {l : List α} (h : ColV mk L w B (.slice a n cap) l) : Col mk w B a l := by
  obtain ⟨a', cap', hv, hl, _, hc⟩ := h
  cases hv
  exact hc
theorem ColV.cap {α : Type} {mk : α → Value} {L : Nat} {w : World} {B : Nat} {a : Option Addr} {n cap : Nat} {l : List α} (h : ColV mk L w B (.slice a n cap) l) : l.length ≤ cap := by
  obtain ⟨a', cap', hv, hl, hcp, hc⟩ := h
  cases hv
  exact hcp
theorem ColV.nil {α : Type} (mk : α → Value) (L : Nat) (w : World) (B : Nat) : ColV mk L w B (.slice none 0 0) [] := ⟨none, 0, rfl, by simp, by simp, fun i h => by simp at h⟩
structure Tr where
  label : ByteArray
  inn : List Int
  out : List Int
def TrsC (w : World) (B : Nat) (a : Option Addr) (l : List Tr) : Prop :=
  ∀ i (h : i < l.length), ∃ b o vi vo, a = some ⟨b, o, none⟩ ∧ b < B ∧ w.cell? ⟨b, o + i * 3, none⟩ = some (.string l[i].label) ∧ w.cell? ⟨b, o + i * 3 + 1, none⟩ = some vi ∧ w.cell? ⟨b, o + i * 3 + 2, none⟩ = some vo ∧
    Ints w B vi l[i].inn ∧ Ints w B vo l[i].out
def Trs (w : World) (B : Nat) (v : Value) (l : List Tr) : Prop :=
  ∃ a cap, v = .slice a l.length cap ∧ l.length ≤ 2199023255552 ∧ TrsC w B a l
theorem TrsC.mono {w w' : World} {B B' : Nat} {a : Option Addr} {l : List Tr} (h : TrsC w B a l) (hb : Below B w w') (hB : B ≤ B') : TrsC w' B' a l := by
  intro i hi
  obtain ⟨b, o, vi, vo, ha, hlt, h0, h1, h2, h3, h4⟩ := h i hi
  exact ⟨b, o, vi, vo, ha, by omega, by rw [Below.cellB hb hlt]; exact h0, by rw [Below.cellB hb hlt]; exact h1, by rw [Below.cellB hb hlt]; exact h2, h3.mono hb hB, h4.mono hb hB⟩
theorem Trs.mono {w w' : World} {B B' : Nat} {v : Value} {l : List Tr} (h : Trs w B v l) (hb : Below B w w') (hB : B ≤ B') : Trs w' B' v l := by
  obtain ⟨a, cap, rfl, hl, hc⟩ := h
  exact ⟨a, cap, rfl, hl, hc.mono hb hB⟩
theorem Trs.val {w : World} {B : Nat} {v : Value} {l : List Tr} (h : Trs w B v l) : ∃ a cap, v = .slice a l.length cap := by
  obtain ⟨a, cap, rfl, hl, hc⟩ := h
  exact ⟨a, cap, rfl⟩
theorem Trs.len {w : World} {B : Nat} {v : Value} {l : List Tr} (h : Trs w B v l) : l.length ≤ 2199023255552 := by
  obtain ⟨a, cap, rfl, hl, hc⟩ := h
  exact hl
theorem Trs.col {w : World} {B : Nat} {a : Option Addr} {n cap : Nat} {l : List Tr} (h : Trs w B (.slice a n cap) l) : TrsC w B a l := by
  obtain ⟨a', cap', hv, hl, hc⟩ := h
  cases hv
  exact hc
structure Nt where
  places : List ByteArray
  trans : List Tr
  init : Int
  final : Int
/-- A net's four cells. -/
def NtR (w : World) (B : Nat) (vp vt : Value) (n : Nt) : Prop := Strs w B vp n.places ∧ Trs w B vt n.trans
theorem NtR.mono {w w' : World} {B B' : Nat} {vp vt : Value} {n : Nt} (h : NtR w B vp vt n) (hb : Below B w w') (hB : B ≤ B') : NtR w' B' vp vt n :=
  ⟨h.1.mono hb hB, h.2.mono hb hB⟩
/-- A block of the call's own. -/
theorem cell_of_block {w : World} {b : Nat} {c : Array Value} {t : TypeId} {fr : Nat × Nat} (h : w.heap[b]? = some (.cells c t fr)) (j : Nat) : w.cell? ⟨b, j, none⟩ = c[j]? := by
  simp [World.cell?, h]
theorem free_of_block {w : World} {b : Nat} {c : Array Value} {t : TypeId} (h : w.heap[b]? = some (.cells c t (0, 0))) (j : Nat) : w.frozen? ⟨b, j, none⟩ = false := by
  simp [World.frozen?, h]
theorem ret_int {k : IntKind} {a b : Int} (h : a = b) : Ending.returned (.int k a) = .returned (.int k b) := by rw [h]
theorem ret_bool {a b : Bool} (h : a = b) : Ending.returned (.bool a) = .returned (.bool b) := by rw [h]
theorem quiet_add_left {P : Program} {f : FuncId} {args : Array Value} {w : World} {a n : Nat} {v : Value}
    (h : Calls P f args (w.drewN (a + n)) fun e w' => e = .returned v ∧ w.drewN (a + n) = w') :
    Calls P f args (w.drewN (a + n)) fun e w'' => e = .returned v ∧ ∃ m, w'' = w.drewN (a + m) :=
  h.mono fun _ _ ⟨he, hm⟩ => ⟨he, n, hm.symm⟩
theorem quiet_left {P : Program} {f : FuncId} {args : Array Value} {w : World} {n : Nat} {v : Value}
    (h : Calls P f args (w.drewN n) fun e w' => e = .returned v ∧ w.drewN n = w') : Calls P f args (w.drewN n) fun e w'' => e = .returned v ∧ ∃ m, w'' = w.drewN m :=
  h.mono fun _ _ ⟨he, hm⟩ => ⟨he, n, hm.symm⟩
theorem below_drewN' {w : World} (n : Nat) : Below w.heap.size w (w.drewN n) := below_drewN (Below.refl _ _) n
theorem ColV.drewN {α : Type} {mk : α → Value} {L : Nat} {w : World} {B : Nat} {v : Value} {l : List α} (h : ColV mk L w B v l) (n : Nat) : ColV mk L (w.drewN n) B v l := h.mono (below_drewN (Below.refl _ _) n) (Nat.le_refl _)
end Go.Proofs.YtjcaaahbfkjipaaGreatDoor

/- Of Own: what FRuleNames uses (shake.py). -/
set_option maxRecDepth 100000
/- Slices of the call's own: one-cell elements; slices.Clone on numbers. -/
namespace Go.Proofs.YtjcaaahbfkjipaaGreatDoor
open Go.RowKit
theorem add_addr (b o i : Nat) : (⟨b, o, none⟩ : Addr).add i = ⟨b, o + i, none⟩ := by
  unfold Addr.add
  split <;> simp_all
end Go.Proofs.YtjcaaahbfkjipaaGreatDoor

/- Of AppCol: what FRuleNames uses (shake.py). -/
set_option maxRecDepth 100000
/- append(dst, src...) where dst is the call's own and src is any slice of one-cell elements that may be read: nil, empty or not. -/
namespace Go.Proofs.YtjcaaahbfkjipaaGreatDoor
open Go.RowKit
theorem below_grownBy {w w' : World} (h : Below w.heap.size w w') (row : Option Nat) : w.grownBy w' row := ⟨h.os, h.tape, h.output, h.size, fun k hk _ => h.block k hk⟩
section
variable {P : Program} (w : World)
end
end Go.Proofs.YtjcaaahbfkjipaaGreatDoor

/- Of RowsF: what FRuleNames uses (shake.py). -/
set_option maxRecDepth 100000
/- Rows of elements of more than one cell, in memory of the call's own; each element's cells are told by a function. -/
namespace Go.Proofs.YtjcaaahbfkjipaaGreatDoor
open Go.RowKit
section
variable {α : Type} {f : α → List Value} {k : Nat}
def cellsF (f : α → List Value) (L : List α) : List Value := L.flatMap f
theorem cellsF_app (L : List α) (x : α) : cellsF f (L ++ [x]) = cellsF f L ++ f x := by simp [cellsF]
theorem cellsF_at (hf : ∀ x, (f x).length = k) : ∀ (L : List α) (i j : Nat) (h : i < L.length), j < k → (cellsF f L)[i * k + j]? = (f L[i])[j]?
  | x :: L, 0, j, _, hj => by
    simp only [cellsF, List.flatMap_cons, Nat.zero_mul, Nat.zero_add, List.getElem_cons_zero]
    rw [List.getElem?_append_left (by rw [hf]; exact hj)]
  | x :: L, i + 1, j, h, hj => by
    have h' : i < L.length := by simpa using h
    have := cellsF_at hf L i j h' hj
    simp only [cellsF, List.flatMap_cons, List.getElem_cons_succ] at *
    have e : (i + 1) * k + j = k + (i * k + j) := by rw [Nat.add_mul]; omega
    rw [List.getElem?_append_right (by rw [hf, e]; omega), ← this, hf, e]
    congr 1
    omega
theorem cellsF_set (hf : ∀ x, (f x).length = k) : ∀ (L : List α) (i j : Nat) (h : i < L.length) (_ : j < k) (u : Value) (y : α), f y = (f L[i]).set j u → (cellsF f L).set (i * k + j) u = cellsF f (L.set i y)
  | x :: L, 0, j, _, hj, u, y, hy => by
    simp only [cellsF, List.flatMap_cons, Nat.zero_mul, Nat.zero_add, List.set_cons_zero, List.getElem_cons_zero] at *
    rw [List.set_append, if_pos (by rw [hf]; exact hj), hy]
  | x :: L, i + 1, j, h, hj, u, y, hy => by
    have h' : i < L.length := by simpa using h
    have := cellsF_set hf L i j h' hj u y (by simpa using hy)
    simp only [cellsF, List.flatMap_cons, List.set_cons_succ] at *
    have e : (i + 1) * k + j = k + (i * k + j) := by rw [Nat.add_mul]; omega
    rw [List.set_append, if_neg (by rw [hf, e]; omega), ← this, hf, e]
    congr 2
    omega
/-- A row of such elements in memory of the call's own. -/
def OwnF (f : α → List Value) (e : TypeId) (k : Nat) (w : World) (base : Nat) (v : Value) (A : List α) : Prop := w.ownsRow base e k v A.length (cellsF f A)
variable {e : TypeId} {w : World} {base : Nat}
theorem OwnF.nil (w : World) (base : Nat) : OwnF f e k w base (.slice none 0 0) [] := World.ownsRow_nil _ _ _ _
theorem OwnF.kept {w' : World} {v : Value} {A : List α} (h : OwnF f e k w base v A) (hb : Below w.heap.size w w') : OwnF f e k w' base v A := by
  refine World.ownsRow.kept h (below_grownBy hb none) ?_
  rcases h.2 with ⟨rfl, _⟩ | ⟨g, cap, cur, rfl, _⟩
  · exact Or.inl rfl
  · exact Or.inr (by simp [Value.ownBlock])
theorem OwnF.val {v : Value} {A : List α} (h : OwnF f e k w base v A) : (v = .slice none 0 0 ∧ A = []) ∨ ∃ g cap, v = .slice (some ⟨g, 0, none⟩) A.length cap ∧ base ≤ g ∧ g < w.heap.size := by
  rcases h.2 with ⟨rfl, h0⟩ | ⟨g, cap, cur, rfl, hb, hg, _⟩
  · exact Or.inl ⟨rfl, List.eq_nil_of_length_eq_zero h0⟩
  · exact Or.inr ⟨g, cap, rfl, hb, lt_of_block hg⟩
theorem OwnF.shape {v : Value} {A : List α} (h : OwnF f e k w base v A) : ∃ a cap, v = .slice a A.length cap := by
  rcases h.val with ⟨rfl, rfl⟩ | ⟨g, cap, rfl, _⟩
  · exact ⟨none, 0, rfl⟩
  · exact ⟨_, cap, rfl⟩
theorem OwnF.cap {a : Option Addr} {n cap : Nat} {A : List α} (h : OwnF f e k w base (.slice a n cap) A) : A.length ≤ cap := by
  rcases h.2 with ⟨h0, h1⟩ | ⟨g', cap', cur, hv, _, _, hc, _⟩
  · rw [h1]; exact Nat.zero_le _
  · cases hv; exact hc
theorem OwnF.some {a : Option Addr} {n cap : Nat} {A : List α} (h : OwnF f e k w base (.slice a n cap) A) (hA : 0 < A.length) : ∃ g, a = some ⟨g, 0, none⟩ ∧ n = A.length ∧ base ≤ g ∧ g < w.heap.size := by
  rcases h.val with ⟨_, rfl⟩ | ⟨g, cap, hv, hb, hg⟩
  · simp at hA
  · cases hv; exact ⟨g, rfl, rfl, hb, hg⟩
theorem OwnF.block {g n cap : Nat} {A : List α} (h : OwnF f e k w base (.slice (.some ⟨g, 0, none⟩) n cap) A) : ∃ cur, w.heap[g]? = .some (.cells cur e (0, 0)) ∧ base ≤ g ∧ n = A.length := by
  rcases h.2 with ⟨h0, _⟩ | ⟨g', cap', cur, hv, hb, hg, _⟩
  · cases h0
  · cases hv; exact ⟨cur, hg, hb, rfl⟩
theorem OwnF.at (hf : ∀ x, (f x).length = k) {g n cap : Nat} {A : List α} (h : OwnF f e k w base (.slice (.some ⟨g, 0, none⟩) n cap) A) {i j : Nat} (hi : i < A.length) (hj : j < k) : w.cell? ⟨g, i * k + j, none⟩ = (f A[i])[j]? := by
  obtain ⟨_, _, _, rfl⟩ := h.block
  have : i * k + j < A.length * k := by
    have : (i + 1) * k ≤ A.length * k := Nat.mul_le_mul_right _ hi
    rw [Nat.add_mul] at this; omega
  rw [World.ownsRow.cellAt h _ this, cellsF_at hf A i j hi hj]
theorem OwnF.free {g n cap : Nat} {A : List α} (h : OwnF f e k w base (.slice (.some ⟨g, 0, none⟩) n cap) A) (q : Nat) : w.frozen? ⟨g, q, none⟩ = false := by
  obtain ⟨cur, hg, _⟩ := h.block
  exact free_of_block hg q
theorem OwnF.set (hf : ∀ x, (f x).length = k) {g n cap : Nat} {A : List α} (h : OwnF f e k w base (.slice (.some ⟨g, 0, none⟩) n cap) A) {i j : Nat} (hi : i < A.length) (hj : j < k) (u : Value) (y : α) (hy : f y = (f A[i]).set j u) :
    OwnF f e k (w.setCell ⟨g, i * k + j, none⟩ u) base (.slice (.some ⟨g, 0, none⟩) n cap) (A.set i y) := by
  obtain ⟨_, _, _, rfl⟩ := h.block
  have := (World.ownsRow.stored h (i * k + j) u).1
  unfold OwnF
  rw [List.length_set, ← cellsF_set hf A i j hi hj u y hy]
  exact this
/-- It stands where another block is turned. -/
theorem OwnF.turned {w' : World} {v : Value} {A : List α} (h : OwnF f e k w base v A) {b : Option Nat} (hg : w.grownBy w' b) (hne : ∀ g n cap, v = .slice (.some ⟨g, 0, none⟩) n cap → .some g ≠ b) : OwnF f e k w' base v A := by
  refine World.ownsRow.kept h hg ?_
  rcases h.val with ⟨rfl, _⟩ | ⟨g, cap, rfl, _⟩
  · exact Or.inl rfl
  · exact Or.inr (hne g _ cap rfl)
theorem OwnF.lower {base' : Nat} {v : Value} {A : List α} (h : OwnF f e k w base v A) (hb : base' ≤ base) : OwnF f e k w base' v A := by
  refine ⟨h.1, ?_⟩
  rcases h.2 with h0 | ⟨g, cap, cur, hv, hbg, r⟩
  · exact Or.inl h0
  · exact Or.inr ⟨g, cap, cur, hv, Nat.le_trans hb hbg, r⟩
theorem OwnF.news {g n cap : Nat} {A : List α} (h : OwnF f e k w base (.slice (.some ⟨g, 0, none⟩) n cap) A) : ∀ j u, (cellsF f A)[j]? = .some u → w.cell? ((⟨g, 0, none⟩ : Addr).add j) = .some u := World.ownsRow.cells h rfl
end
/-- Columns of elements of more than one cell that may be read. -/
def ColF {α : Type} (f : α → List Value) (k : Nat) (w : World) (B : Nat) (a : Option Addr) (l : List α) : Prop :=
  ∀ i (h : i < l.length), ∃ b o, a = some ⟨b, o, none⟩ ∧ b < B ∧ ∀ j, j < k → w.cell? ⟨b, o + i * k + j, none⟩ = (f l[i])[j]?
theorem ColF.mono {α : Type} {f : α → List Value} {k : Nat} {w w' : World} {B B' : Nat} {a : Option Addr} {l : List α} (h : ColF f k w B a l) (hb : Below B w w') (hB : B ≤ B') : ColF f k w' B' a l := by
  intro i hi
  obtain ⟨b, o, ha, hlt, hc⟩ := h i hi
  exact ⟨b, o, ha, by omega, fun j hj => by rw [Below.cellB hb hlt]; exact hc j hj⟩
theorem OwnF.col {α : Type} {f : α → List Value} {k : Nat} {e : TypeId} {w : World} {base B : Nat} (hf : ∀ x, (f x).length = k) {a : Option Addr} {n cap : Nat} {A : List α} (h : OwnF f e k w base (.slice a n cap) A) (hB : w.heap.size ≤ B) : ColF f k w B a A := by
  intro i hi
  obtain ⟨g, rfl, rfl, _, hg⟩ := h.some (by omega)
  exact ⟨g, 0, rfl, by omega, fun j hj => by rw [Nat.zero_add]; exact h.at hf hi hj⟩
end Go.Proofs.YtjcaaahbfkjipaaGreatDoor

/- Of EvalP: what FRuleNames uses (shake.py). -/
set_option maxRecDepth 100000
/- Conditions on plain data: values, nodes, what a node comes to. No program here. -/
namespace Go.Proofs.YtjcaaahbfkjipaaGreatDoor
structure Vl where
  kind : Int
  num : Int
  tr : Bool
  text : ByteArray
def Vl.zero : Vl := ⟨0, 0, false, ⟨#[]⟩⟩
instance : Inhabited Vl := ⟨Vl.zero⟩
def vlEq (a b : Vl) : Bool := (a.kind == b.kind) && ((a.num == b.num) && ((a.tr == b.tr) && (a.text.toList == b.text.toList)))
def numV (n : Int) : Vl := ⟨1, n, false, ⟨#[]⟩⟩
def trV (b : Bool) : Vl := ⟨2, 0, b, ⟨#[]⟩⟩
def txV (s : ByteArray) : Vl := ⟨3, 0, false, s⟩
theorem bytes_eq {a b : ByteArray} (h : a.toList = b.toList) : a = b := by
  rw [Lib.toList_data, Lib.toList_data] at h
  cases a; cases b
  exact congrArg ByteArray.mk (Array.ext' h)
def checkB (v : Vl) : Bool :=
  if v.kind = 1 then vlEq v (numV v.num)
  else if v.kind = 2 then vlEq v (trV v.tr)
  else if v.kind = 3 then vlEq v (txV v.text) && (decide (v.text.size ≤ 1024) && Lib.validD v.text.data.toList)
  else false
def checkE (v : Vl) : Int := if checkB v then 0 else 1
structure Bd where
  name : ByteArray
  val : Vl
instance : Inhabited Bd := ⟨⟨⟨#[]⟩, Vl.zero⟩⟩
def findB (l : List Bd) (s : ByteArray) : Option Vl := match l with
  | [] => none
  | b :: r => if b.name.toList == s.toList then some b.val else findB r s
inductive Nd where
  | mk (op : Int) (v : Vl) (name : ByteArray) (kids : List Nd)
def Nd.op : Nd → Int | .mk o _ _ _ => o
def Nd.v : Nd → Vl | .mk _ v _ _ => v
def Nd.name : Nd → ByteArray | .mk _ _ n _ => n
def Nd.kids : Nd → List Nd | .mk _ _ _ k => k
instance : Inhabited Nd := ⟨.mk 0 Vl.zero ⟨#[]⟩ []⟩
def kidsN (op : Int) : Int := if op < 1 ∨ 17 < op then -1 else if op ≤ 2 then 0 else if op ≤ 4 then 1 else 2
end Go.Proofs.YtjcaaahbfkjipaaGreatDoor

/- Of EvalMem: what FRuleNames uses (shake.py). -/
set_option maxRecDepth 100000
/- Values, binds and nodes in memory: their cells, their readings. -/
namespace Go.Proofs.YtjcaaahbfkjipaaGreatDoor
open Go.RowKit
abbrev valV (v : Vl) : Value := .agg #[.int .u8 v.kind, .int .i64 v.num, .bool v.tr, .string v.text]
def cellBd (b : Bd) : List Value := [.string b.name, .int .u8 b.val.kind, .int .i64 b.val.num, .bool b.val.tr, .string b.val.text]
abbrev valBd (b : Bd) : Value := .agg #[.string b.name, .int .u8 b.val.kind, .int .i64 b.val.num, .bool b.val.tr, .string b.val.text]
def cellN (n : Nd) (vk : Value) : List Value := [.int .u8 n.op, .int .u8 n.v.kind, .int .i64 n.v.num, .bool n.v.tr, .string n.v.text, .string n.name, vk]
abbrev valN (n : Nd) (vk : Value) : Value := .agg #[.int .u8 n.op, .int .u8 n.v.kind, .int .i64 n.v.num, .bool n.v.tr, .string n.v.text, .string n.name, vk]
/-- What may be of a value, of a node's own fields. -/
structure VlW (v : Vl) : Prop where
  k0 : 0 ≤ v.kind
  k1 : v.kind ≤ 255
  n0 : -9223372036854775808 ≤ v.num
  n1 : v.num ≤ 9223372036854775807
  t : v.text.size ≤ 140737488355328
structure HeadW (n : Nd) : Prop where
  o0 : 0 ≤ n.op
  o1 : n.op ≤ 255
  v : VlW n.v
  nm : n.name.size ≤ 140737488355328
theorem VlW.zero : VlW Vl.zero := ⟨by decide, by decide, by decide, by decide, by show 0 ≤ _; omega⟩
theorem VlW.num {n : Int} (h0 : -9223372036854775808 ≤ n) (h1 : n ≤ 9223372036854775807) : VlW (numV n) := ⟨by show (0 : Int) ≤ 1; omega, by show (1 : Int) ≤ 255; omega, h0, h1, by show 0 ≤ _; omega⟩
theorem VlW.tr (b : Bool) : VlW (trV b) := ⟨by show (0 : Int) ≤ 2; omega, by show (2 : Int) ≤ 255; omega, by show _ ≤ (0 : Int); omega, by show (0 : Int) ≤ _; omega, by show 0 ≤ _; omega⟩
/-- Kids that may be read. -/
inductive KidsR (w : World) (B : Nat) : Value → List Nd → Prop
  | mk (a : Option Addr) (cap : Nat) (l : List Nd) (vk : Nat → Value) (hl : l.length ≤ 1599289640355) (hcap : l.length ≤ cap) (hw : ∀ i (h : i < l.length), HeadW l[i])
      (hc : ∀ i (h : i < l.length), ∃ b o, a = some ⟨b, o, none⟩ ∧ b < B ∧ ∀ j, j < 7 → w.cell? ⟨b, o + i * 7 + j, none⟩ = (cellN l[i] (vk i))[j]?)
      (hk : ∀ i (h : i < l.length), KidsR w B (vk i) l[i].kids) : KidsR w B (.slice a l.length cap) l
theorem KidsR.mono {w w' : World} {B B' : Nat} {v : Value} {l : List Nd} (h : KidsR w B v l) (hb : Below B w w') (hB : B ≤ B') : KidsR w' B' v l := by
  induction h with
  | mk a cap l vk hl hcap hw hc hk ih =>
    refine .mk a cap l vk hl hcap hw (fun i hi => ?_) ih
    obtain ⟨b, o, e, hlt, h⟩ := hc i hi
    exact ⟨b, o, e, by omega, fun j hj => by rw [Below.cellB hb hlt]; exact h j hj⟩
theorem KidsR.nil (w : World) (B : Nat) : KidsR w B (.slice none 0 0) [] := .mk none 0 [] (fun _ => .slice none 0 0) (by simp) (by simp) (fun i h => by simp at h) (fun i h => by simp at h) (fun i h => by simp at h)
theorem KidsR.val {w : World} {B : Nat} {v : Value} {l : List Nd} (h : KidsR w B v l) : ∃ a cap, v = .slice a l.length cap := by
  cases h with
  | mk a cap l vk hl hcap hw hc hk => exact ⟨a, cap, rfl⟩
theorem KidsR.len {w : World} {B : Nat} {v : Value} {l : List Nd} (h : KidsR w B v l) : l.length ≤ 1599289640355 := by
  cases h with
  | mk a cap l vk hl hcap hw hc hk => exact hl
/-- One kid. -/
theorem KidsR.at {w : World} {B : Nat} {a : Option Addr} {n cap : Nat} {l : List Nd} (h : KidsR w B (.slice a n cap) l) {i : Nat} (hi : i < l.length) : ∃ b o vk, a = some ⟨b, o, none⟩ ∧ b < B ∧ HeadW l[i] ∧ KidsR w B vk l[i].kids ∧
    w.cell? ⟨b, o + i * 7, none⟩ = some (.int .u8 l[i].op) ∧ w.cell? ⟨b, o + i * 7 + 1, none⟩ = some (.int .u8 l[i].v.kind) ∧ w.cell? ⟨b, o + i * 7 + 2, none⟩ = some (.int .i64 l[i].v.num) ∧ w.cell? ⟨b, o + i * 7 + 3, none⟩ = some (.bool l[i].v.tr) ∧
    w.cell? ⟨b, o + i * 7 + 4, none⟩ = some (.string l[i].v.text) ∧ w.cell? ⟨b, o + i * 7 + 5, none⟩ = some (.string l[i].name) ∧ w.cell? ⟨b, o + i * 7 + 6, none⟩ = some vk := by
  generalize hv : Value.slice a n cap = v at h
  cases h with
  | mk a' cap' l vk hl hcap hw hc hk =>
    injection hv with h1 _ _
    subst h1
    obtain ⟨b, o, e, hlt, h⟩ := hc i hi
    exact ⟨b, o, vk i, e, hlt, hw i hi, hk i hi, h 0 (by omega), h 1 (by omega), h 2 (by omega), h 3 (by omega), h 4 (by omega), h 5 (by omega), h 6 (by omega)⟩
/-- Binds that may be read. -/
def BdsR (w : World) (B : Nat) (v : Value) (l : List Bd) : Prop := ∃ a cap, v = .slice a l.length cap ∧ l.length ≤ 2513169435000 ∧ l.length ≤ cap ∧ ColF cellBd 5 w B a l ∧ ∀ b ∈ l, VlW b.val ∧ b.name.size ≤ 140737488355328
theorem BdsR.mono {w w' : World} {B B' : Nat} {v : Value} {l : List Bd} (h : BdsR w B v l) (hb : Below B w w') (hB : B ≤ B') : BdsR w' B' v l := by
  obtain ⟨a, cap, rfl, hl, hc, hf, hw⟩ := h
  exact ⟨a, cap, rfl, hl, hc, hf.mono hb hB, hw⟩
theorem BdsR.val {w : World} {B : Nat} {v : Value} {l : List Bd} (h : BdsR w B v l) : ∃ a cap, v = .slice a l.length cap := by
  obtain ⟨a, cap, rfl, _⟩ := h
  exact ⟨a, cap, rfl⟩
theorem BdsR.at {w : World} {B : Nat} {a : Option Addr} {n cap : Nat} {l : List Bd} (h : BdsR w B (.slice a n cap) l) {i : Nat} (hi : i < l.length) : ∃ b o, a = some ⟨b, o, none⟩ ∧ b < B ∧ VlW l[i].val ∧ l[i].name.size ≤ 140737488355328 ∧
    w.cell? ⟨b, o + i * 5, none⟩ = some (.string l[i].name) ∧ w.cell? ⟨b, o + i * 5 + 1, none⟩ = some (.int .u8 l[i].val.kind) ∧ w.cell? ⟨b, o + i * 5 + 2, none⟩ = some (.int .i64 l[i].val.num) ∧ w.cell? ⟨b, o + i * 5 + 3, none⟩ = some (.bool l[i].val.tr) ∧ w.cell? ⟨b, o + i * 5 + 4, none⟩ = some (.string l[i].val.text) := by
  obtain ⟨a', cap', hv, hl, hc, hf, hw⟩ := h
  injection hv with h1 _ _
  subst h1
  obtain ⟨b, o, e, hlt, h⟩ := hf i hi
  obtain ⟨w1, w2⟩ := hw _ (List.getElem_mem hi)
  exact ⟨b, o, e, hlt, w1, w2, h 0 (by omega), h 1 (by omega), h 2 (by omega), h 3 (by omega), h 4 (by omega)⟩
end Go.Proofs.YtjcaaahbfkjipaaGreatDoor
