/- Of Base: what XFAs uses (shake.py). -/
import Derived.Test.YtbephgifbghilaaGreatDoorRows
import Derived.WalkKit
import Derived.ProofKit
import Derived.WalkLawsBesides
import Derived.WalkSpells
import Derived.Lib.Hide
import Derived.BigQuiet
import Derived.Deep.QuietTactic
import Derived.Deep.DeepCutAuto
import Derived.Deep.RegionHeld3
import Derived.Deep.DeepMust
import Derived.Outline
/- Readings of slices and of nets in a world, kept while old memory stands. -/
set_option maxRecDepth 100000
namespace Go.Proofs.YtbephgifbghilaaGreatDoor
open Go.RowKit
/-- A column of one-cell elements, each made by 'mk', behind an address; all blocks are below 'B'. -/
def Col {α : Type} (mk : α → Value) (w : World) (B : Nat) (a : Option Addr) (l : List α) : Prop :=
  ∀ i (h : i < l.length), ∃ b o, a = some ⟨b, o, none⟩ ∧ b < B ∧ w.cell? ⟨b, o + i, none⟩ = some (mk l[i])
/-- A slice of such elements. -/
def ColV {α : Type} (mk : α → Value) (L : Nat) (w : World) (B : Nat) (v : Value) (l : List α) : Prop :=
  ∃ a cap, v = .slice a l.length cap ∧ l.length ≤ L ∧ l.length ≤ cap ∧ Col mk w B a l
abbrev Ints (w : World) (B : Nat) (v : Value) (l : List Int) : Prop := ColV (Value.int .i64) 17592186044416 w B v l
abbrev Strs (w : World) (B : Nat) (v : Value) (l : List ByteArray) : Prop := ColV Value.string 8796093022208 w B v l
theorem Below.cellB {B : Nat} {w w' : World} (hb : Below B w w') {b o : Nat} (h : b < B) : w'.cell? ⟨b, o, none⟩ = w.cell? ⟨b, o, none⟩ := hb.cell (p := ⟨b, o, none⟩) h
theorem Col.mono {α : Type} {mk : α → Value} {w w' : World} {B B' : Nat} {a : Option Addr} {l : List α} (h : Col mk w B a l) (hb : Below B w w') (hB : B ≤ B') : Col mk w' B' a l := by
  intro i hi
  obtain ⟨b, o, ha, hlt, hc⟩ := h i hi
  exact ⟨b, o, ha, by omega, by rw [Below.cellB hb hlt]; exact hc⟩
theorem ColV.mono {α : Type} {mk : α → Value} {L : Nat} {w w' : World} {B B' : Nat} {v : Value} {l : List α} (h : ColV mk L w B v l) (hb : Below B w w') (hB : B ≤ B') : ColV mk L w' B' v l := by
  obtain ⟨a, cap, rfl, hl, hcap, hc⟩ := h
  exact ⟨a, cap, rfl, hl, hcap, hc.mono hb hB⟩
theorem ColV.len {α : Type} {mk : α → Value} {L : Nat} {w : World} {B : Nat} {v : Value} {l : List α} (h : ColV mk L w B v l) : l.length ≤ L := by
  obtain ⟨a, cap, rfl, hl, hc⟩ := h
  exact hl
theorem ColV.val {α : Type} {mk : α → Value} {L : Nat} {w : World} {B : Nat} {v : Value} {l : List α} (h : ColV mk L w B v l) : ∃ a cap, v = .slice a l.length cap := by
  obtain ⟨a, cap, rfl, hl, hc⟩ := h
  exact ⟨a, cap, rfl⟩
theorem ColV.col {α : Type} {mk : α → Value} {L : Nat} {w : World} {B : Nat} {a : Option Addr} {n cap : Nat} {l : List α} (h : ColV mk L w B (.slice a n cap) l) : Col mk w B a l := by
  obtain ⟨a', cap', hv, hl, _, hc⟩ := h
  cases hv
  exact hc
theorem ColV.cap {α : Type} {mk : α → Value} {L : Nat} {w : World} {B : Nat} {a : Option Addr} {n cap : Nat} {l : List α} (h : ColV mk L w B (.slice a n cap) l) : l.length ≤ cap := by
  obtain ⟨a', cap', hv, hl, hcp, hc⟩ := h
  cases hv
  exact hcp
theorem ColV.nil {α : Type} (mk : α → Value) (L : Nat) (w : World) (B : Nat) : ColV mk L w B (.slice none 0 0) [] := ⟨none, 0, rfl, by simp, by simp, fun i h => by simp at h⟩
structure Tr where
  label : ByteArray
  inn : List Int
  out : List Int
def TrsC (w : World) (B : Nat) (a : Option Addr) (l : List Tr) : Prop :=
  ∀ i (h : i < l.length), ∃ b o vi vo, a = some ⟨b, o, none⟩ ∧ b < B ∧ w.cell? ⟨b, o + i * 3, none⟩ = some (.string l[i].label) ∧ w.cell? ⟨b, o + i * 3 + 1, none⟩ = some vi ∧ w.cell? ⟨b, o + i * 3 + 2, none⟩ = some vo ∧
    Ints w B vi l[i].inn ∧ Ints w B vo l[i].out
def Trs (w : World) (B : Nat) (v : Value) (l : List Tr) : Prop :=
  ∃ a cap, v = .slice a l.length cap ∧ l.length ≤ 2199023255552 ∧ TrsC w B a l
theorem TrsC.mono {w w' : World} {B B' : Nat} {a : Option Addr} {l : List Tr} (h : TrsC w B a l) (hb : Below B w w') (hB : B ≤ B') : TrsC w' B' a l := by
  intro i hi
  obtain ⟨b, o, vi, vo, ha, hlt, h0, h1, h2, h3, h4⟩ := h i hi
  exact ⟨b, o, vi, vo, ha, by omega, by rw [Below.cellB hb hlt]; exact h0, by rw [Below.cellB hb hlt]; exact h1, by rw [Below.cellB hb hlt]; exact h2, h3.mono hb hB, h4.mono hb hB⟩
theorem Trs.mono {w w' : World} {B B' : Nat} {v : Value} {l : List Tr} (h : Trs w B v l) (hb : Below B w w') (hB : B ≤ B') : Trs w' B' v l := by
  obtain ⟨a, cap, rfl, hl, hc⟩ := h
  exact ⟨a, cap, rfl, hl, hc.mono hb hB⟩
theorem Trs.val {w : World} {B : Nat} {v : Value} {l : List Tr} (h : Trs w B v l) : ∃ a cap, v = .slice a l.length cap := by
  obtain ⟨a, cap, rfl, hl, hc⟩ := h
  exact ⟨a, cap, rfl⟩
theorem Trs.len {w : World} {B : Nat} {v : Value} {l : List Tr} (h : Trs w B v l) : l.length ≤ 2199023255552 := by
  obtain ⟨a, cap, rfl, hl, hc⟩ := h
  exact hl
theorem Trs.col {w : World} {B : Nat} {a : Option Addr} {n cap : Nat} {l : List Tr} (h : Trs w B (.slice a n cap) l) : TrsC w B a l := by
  obtain ⟨a', cap', hv, hl, hc⟩ := h
  cases hv
  exact hc
structure Nt where
  places : List ByteArray
  trans : List Tr
  init : Int
  final : Int
/-- A net's four cells. -/
def NtR (w : World) (B : Nat) (vp vt : Value) (n : Nt) : Prop := Strs w B vp n.places ∧ Trs w B vt n.trans
theorem NtR.mono {w w' : World} {B B' : Nat} {vp vt : Value} {n : Nt} (h : NtR w B vp vt n) (hb : Below B w w') (hB : B ≤ B') : NtR w' B' vp vt n :=
  ⟨h.1.mono hb hB, h.2.mono hb hB⟩
/-- A block of the call's own. -/
theorem cell_of_block {w : World} {b : Nat} {c : Array Value} {t : TypeId} {fr : Nat × Nat} (h : w.heap[b]? = some (.cells c t fr)) (j : Nat) : w.cell? ⟨b, j, none⟩ = c[j]? := by
  simp [World.cell?, h]
theorem free_of_block {w : World} {b : Nat} {c : Array Value} {t : TypeId} (h : w.heap[b]? = some (.cells c t (0, 0))) (j : Nat) : w.frozen? ⟨b, j, none⟩ = false := by
  simp [World.frozen?, h]
theorem ret_int {k : IntKind} {a b : Int} (h : a = b) : Ending.returned (.int k a) = .returned (.int k b) := by rw [h]
theorem ret_bool {a b : Bool} (h : a = b) : Ending.returned (.bool a) = .returned (.bool b) := by rw [h]
theorem quiet_add_left {P : Program} {f : FuncId} {args : Array Value} {w : World} {a n : Nat} {v : Value}
    (h : Calls P f args (w.drewN (a + n)) fun e w' => e = .returned v ∧ w.drewN (a + n) = w') :
    Calls P f args (w.drewN (a + n)) fun e w'' => e = .returned v ∧ ∃ m, w'' = w.drewN (a + m) :=
  h.mono fun _ _ ⟨he, hm⟩ => ⟨he, n, hm.symm⟩
theorem quiet_left {P : Program} {f : FuncId} {args : Array Value} {w : World} {n : Nat} {v : Value}
    (h : Calls P f args (w.drewN n) fun e w' => e = .returned v ∧ w.drewN n = w') : Calls P f args (w.drewN n) fun e w'' => e = .returned v ∧ ∃ m, w'' = w.drewN m :=
  h.mono fun _ _ ⟨he, hm⟩ => ⟨he, n, hm.symm⟩
theorem below_drewN' {w : World} (n : Nat) : Below w.heap.size w (w.drewN n) := below_drewN (Below.refl _ _) n
theorem ColV.drewN {α : Type} {mk : α → Value} {L : Nat} {w : World} {B : Nat} {v : Value} {l : List α} (h : ColV mk L w B v l) (n : Nat) : ColV mk L (w.drewN n) B v l := h.mono (below_drewN (Below.refl _ _) n) (Nat.le_refl _)
end Go.Proofs.YtbephgifbghilaaGreatDoor
